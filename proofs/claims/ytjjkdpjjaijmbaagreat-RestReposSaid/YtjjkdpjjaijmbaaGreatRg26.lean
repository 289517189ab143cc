/- The walks of the document's IsName, RepoError, HeadOf, LogOf. The walks of the document's headAt, HeadOf and LogOf. The walk of SameRows (as in the text of chapter 2's walks). -/
import Derived.Test.YtjjkdpjjaijmbaaGreatRg7
import Derived.Test.YtjjkdpjjaijmbaaGreatRg21
import Derived.Test.YtjjkdpjjaijmbaaGreatRg2
import Derived.Test.YtjjkdpjjaijmbaaGreatRg15
section
namespace Go.Pch
open Go.RowKit Go.Proofs
set_option maxRecDepth 100000

theorem run_byte (t : TypeId) (s : ByteArray) (k : Nat) (hk : k < s.size) (ht : Tryz.prog.underlying t = some .string) (W : World) : Sem.run Tryz.prog (Instr.index t (.string s) (.int .i64 k)) W = .ok (.int .u8 (s[k]'hk).toNat) W := by
  have := run_index_string (P := Tryz.prog) W t s .i64 k ht
  rw [this, dif_pos ⟨by omega, by omega⟩]
  rfl

set_option maxHeartbeats 1000000 in
theorem refIsName (s : ByteArray) (w : World) (hz : s.size ≤ maxLen) : Calls Tryz.prog 16 #[.string s] w (Quiet w (.bool (nameB s))) := by
  unfold maxLen at hz
  go_enter Tryz.func16, Tryz.ntmps16
  go_wp2
  go_loopw [3] (fun i wr => ∃ (k : Nat), k ≤ s.size ∧ i = .int .i64 k ∧ Drawn w wr ∧ Hid ((s.toList.take k).all letB = true)) (fun i _ => s.size - (intOf i).toNat)
  case atStart => exact ⟨0, Nat.zero_le _, rfl, .refl _, keepBack (by simp)⟩
  case round =>
    obtain ⟨k, hk, rfl, hd, HL⟩ := hrel
    by_cases hlt : k < s.size
    · have hix := run_byte 9 s k hlt Tryz.underlying9
      have hk0 : (0 : Int) ≤ k := by omega
      have hk1 : (k : Int) < s.size := by omega
      cases hb : letB (s[k]'hlt) with
      | true =>
        have HN := keepBack (letters_next hlt HL.out hb)
        have hb' := hb
        simp [letB] at hb'
        generalize (s[k]'hlt).toNat = R at *
        clear hb
        have d1 : decide ((R : Int) < 97) = false := by simp; omega
        have d2 : decide ((122 : Int) < R) = false := by simp; omega
        go_wp2_with fail
        go_roundw
        case rel => exact ⟨k + 1, by omega, by go_num, hd, HN⟩
        case measure => simp [intOf]; omega
      | false =>
        have HN := keepBack (show nameB s = false by rw [nameB, letters_not hlt hb, Bool.and_false])
        have hb' := hb
        simp [letB] at hb'
        generalize (s[k]'hlt).toNat = R at *
        clear hb
        by_cases q : R < 97
        · have d1 : decide ((R : Int) < 97) = true := by simp; omega
          go_wp2_with fail
          go_ret
          exact ⟨by rw [HN.out]; rfl, hd⟩
        · have d1 : decide ((R : Int) < 97) = false := by simp; omega
          have d2 : decide ((122 : Int) < R) = true := by simp; omega
          go_wp2_with fail
          go_ret
          exact ⟨by rw [HN.out]; rfl, hd⟩
    · have HN := keepBack (show (decide ((1 : Int) ≤ s.size) && decide ((s.size : Int) ≤ 8)) = nameB s by
        rw [nameB, letters_all hlt HL.out, Bool.and_true]
        congr 1
        · exact decide_eq_decide.2 (by omega)
        · exact decide_eq_decide.2 (by omega))
      go_wp2_with fail
      refine (refWithin_of _ _ _ _ HN.out).mono ?_; rintro e w1 ⟨rfl, rfl⟩
      go_wp2
      go_ret
      exact ⟨rfl, hd⟩
theorem refIsName_of {c : Bool} (s : ByteArray) (w : World) (hz : s.size ≤ maxLen) (h : nameB s = c) : Calls Tryz.prog 16 #[.string s] w (Quiet w (.bool c)) := h ▸ refIsName s w hz

theorem refCommitsError_of {c : Int} (v : Value) (l : List Commit) (S : Blk) (w : World) (h : Sl tCommit w S v l) (hc : commitsErr l = c) :
    Calls Tryz.prog 15 #[v] w (Quiet w (.int .i64 c)) := hc ▸ refCommitsError v l S w h

theorem name_ne {s : ByteArray} (h : nameB s = true) : s.toList ≠ [] := by
  intro e
  rw [ByteArray.toList_eq] at e
  have h0 : s.data.size = 0 := by rw [← Array.length_toList, e]; rfl
  have h1 : s.size = s.data.size := rfl
  simp only [nameB, Bool.and_eq_true, decide_eq_true_eq] at h
  omega
theorem next_of {hs : List Head} {j : Nat} {x : Head} (hx : hs[j]? = some x) : ∀ i, i + 1 = j + 1 → (hs[i]?.map fun h => h.1.toList) = some x.1.toList := fun i hi => by
  have e : i = j := by omega
  rw [e, hx]; rfl
set_option maxHeartbeats 4000000 in
theorem refRepoError (v : Value) (r : Repo) (S : Blk) (w : World) (h : Rp w S v r) : Calls Tryz.prog 4 #[v] w (Ret w fun x _ => x = .int .i64 (repoErr r)) := by
  obtain ⟨cs, hs⟩ := r
  obtain ⟨vc, vh, rfl, hc, hh⟩ := h
  obtain ⟨ac, cc, rfl, _, _, _⟩ := hc.shape
  obtain ⟨ah, ch, rfl, _, _, _⟩ := hh.shape
  simp only at hc hh
  obtain ⟨wA, hwA⟩ : ∃ wA, wA = w.alloc (.cells #[.slice ac cs.length cc, .slice ah hs.length ch] 25) := ⟨_, rfl⟩
  have bA : Below w.heap.size w wA := by rw [hwA]; exact (Below.refl _ _).alloc (Nat.le_refl _) _
  have sA : wA.heap.size = w.heap.size + 1 := by rw [hwA]; simp
  have k0 : wA.cell? ⟨w.heap.size, 0, none⟩ = some (.slice ac cs.length cc) := by rw [hwA]; simp
  have k1 : wA.cell? ⟨w.heap.size, 1, none⟩ = some (.slice ah hs.length ch) := by rw [hwA]; simp
  have HWA := keepBack hwA
  clear hwA
  by_cases hd : commitsErr cs = 0
  · by_cases hm : 4 < hs.length
    · have HP := keepBack (repoErr_many (r := (cs, hs)) hd hm)
      have hq : (4 : Int) < hs.length := by omega
      go_enter Tryz.func4, Tryz.ntmps4
      go_wp2_with fail
      rw [← HWA.out]
      refine (refCommitsError_of _ cs _ wA (hc.call bA) hd).mono ?_; rintro e w1 ⟨rfl, d1⟩
      have b1 := d1.below
      have r0 := (b1.cell (p := ⟨w.heap.size, 0, none⟩) (by simp; omega)).trans k0
      have r1 := (b1.cell (p := ⟨w.heap.size, 1, none⟩) (by simp; omega)).trans k1
      go_wp2_with fail
      go_ret
      exact ⟨_, rfl, by rw [HP.out]; rfl, bA.trans (b1.mono (by omega))⟩
    · have hq : ¬ (4 : Int) < hs.length := by omega
      have hl14 := (dag_ok hd).1
      have HPN := keepBack (fun h => repoErr_name (r := (cs, hs)) hd hm h)
      have HPK := keepBack (fun c h1 h2 => @repoErr_form (cs, hs) hd hm h1 c h2)
      go_enter Tryz.func4, Tryz.ntmps4
      go_wp2_with fail
      rw [← HWA.out]
      refine (refCommitsError_of _ cs _ wA (hc.call bA) hd).mono ?_; rintro e w1 ⟨rfl, d1⟩
      have b1 := d1.below
      have s1 := b1.size
      have r0 := (b1.cell (p := ⟨w.heap.size, 0, none⟩) (by simp; omega)).trans k0
      have r1 := (b1.cell (p := ⟨w.heap.size, 1, none⟩) (by simp; omega)).trans k1
      have b01 := bA.trans (b1.mono (by omega))
      have hh1 := ((hh.call bA).call b1).old
      clear k0 k1
      go_wp2_with fail
      go_loopw [4] (fun i wr => ∃ (k : Nat), k ≤ hs.length ∧ i = .int .i64 k ∧ Drawn w1 wr ∧ Hid (((hs.take k).any fun h => !nameB h.1) = false)) (fun i _ => hs.length - (intOf i).toNat)
      case atStart => exact ⟨0, Nat.zero_le _, rfl, .refl _, keepBack rfl⟩
      case round =>
        obtain ⟨k, hk, rfl, hdr, HA⟩ := hrel
        have hb := hdr.below
        have hs' := hb.size
        have z0 := (hb.cell (p := ⟨w.heap.size, 0, none⟩) (by simp; omega)).trans r0
        have z1 := (hb.cell (p := ⟨w.heap.size, 1, none⟩) (by simp; omega)).trans r1
        by_cases hlt : k < hs.length
        · obtain ⟨x, hx⟩ : ∃ x, hs[k]? = some x := ⟨hs[k], List.getElem?_eq_getElem hlt⟩
          obtain ⟨b, o, hix, _, hbs, ok1, ok2, hc00, hc10⟩ := hh1.idxHeadAt aHead k k x rfl hx
          have hc0 := (hb.cell (p := ⟨b, o, none⟩) hbs).trans hc00
          have hc1 := (hb.cell (p := ⟨b, o + 1, none⟩) hbs).trans hc10
          clear hc00 hc10
          have HX := keepBack hx
          clear hx
          cases hn : nameB x.1 with
          | true =>
            have HA2 : Hid (((hs.take (k + 1)).any fun h => !nameB h.1) = false) := keepBack (by rw [List.take_add_one, HX.out, List.any_append, HA.out]; simp [hn])
            go_wp2_with fail
            refine (refIsName_of x.1 wr ok2 hn).mono ?_; rintro e w2 ⟨rfl, d2⟩
            go_wp2_with fail
            go_roundw
            case rel => exact ⟨k + 1, by omega, by go_num, hdr.trans d2, HA2⟩
            case measure => simp [intOf]; omega
          | false =>
            have HR : Hid ((hs.any fun h => !nameB h.1) = true) := keepBack (by rw [List.any_eq_true]; exact ⟨x, List.mem_of_getElem? HX.out, by simp [hn]⟩)
            go_wp2_with fail
            refine (refIsName_of x.1 wr ok2 hn).mono ?_; rintro e w2 ⟨rfl, d2⟩
            go_wp2_with fail
            go_ret
            exact ⟨_, rfl, by rw [HPN.out HR.out]; rfl, b01.trans ((hdr.trans d2).below.mono (by omega))⟩
        · have HR : Hid ((hs.any fun h => !nameB h.1) = false) := keepBack (by have := HA.out; rwa [List.take_of_length_le (by omega)] at this)
          obtain ⟨wo, rfl⟩ : ∃ wo : World, wo = wr := ⟨_, rfl⟩
          go_wp2_with fail
          go_loopw [5] (fun i wr => ∃ (j : Nat) (last : List UInt8), j ≤ hs.length ∧ i = .int .i64 j ∧ Drawn w1 wr ∧ Hid (headsRise cs.length [] hs = headsRise cs.length last (hs.drop j)) ∧ Hid (∀ i, i + 1 = j → (hs[i]?.map fun h => h.1.toList) = some last) ∧ Hid (j = 0 → last = [])) (fun i _ => hs.length - (intOf i).toNat)
          case atStart => exact ⟨0, [], Nat.zero_le _, rfl, hdr, keepBack (by rw [List.drop_zero]), keepBack (by intro i hi; omega), keepBack (fun _ => rfl)⟩
          case round =>
            obtain ⟨j, last, hj, rfl, hdr2, HRI, HLA, HL0⟩ := hrel
            have hb2 := hdr2.below
            have hs2 := hb2.size
            have y0 := (hb2.cell (p := ⟨w.heap.size, 0, none⟩) (by simp; omega)).trans r0
            have y1 := (hb2.cell (p := ⟨w.heap.size, 1, none⟩) (by simp; omega)).trans r1
            by_cases hlt2 : j < hs.length
            · obtain ⟨x, hx⟩ : ∃ x, hs[j]? = some x := ⟨hs[j], List.getElem?_eq_getElem hlt2⟩
              obtain ⟨b, o, hix, _, hbs, ok1, ok2, hc00, hc10⟩ := hh1.idxHeadAt aHead j j x rfl hx
              have hc0 := (hb2.cell (p := ⟨b, o, none⟩) hbs).trans hc00
              have hc1 := (hb2.cell (p := ⟨b, o + 1, none⟩) hbs).trans hc10
              clear hc00 hc10
              have HX := keepBack hx
              clear hx
              have hnx : x.1.toList ≠ [] := name_ne (by
                have := HR.out
                rw [List.any_eq_false] at this
                have hx' := this x (List.mem_of_getElem? HX.out)
                cases hn : nameB x.1 with
                | true => rfl
                | false => rw [hn] at hx'; simp at hx')
              have NXT : Hid (∀ i, i + 1 = j + 1 → (hs[i]?.map fun h => h.1.toList) = some x.1.toList) := keepBack (next_of HX.out)
              rcases Nat.eq_zero_or_pos j with hj0 | hj0
              · have hl0 : Op.bytesLess last x.1.toList = true := by rw [HL0.out hj0]; exact less_nil hnx
                have HL0' := keepBack hl0
                have d0 : decide (0 < j) = false := by simp; omega
                clear hj0 hl0
                cases hw : (decide (0 ≤ x.2) && decide (x.2 ≤ (cs.length : Int) - 1)) with
                | true =>
                  have HG := keepBack (HRI.out.trans (headsRise_go HX.out (by rw [HL0'.out]; simp at hw ⊢; omega)))
                  go_wp2_with fail
                  go_quiet ((go_at_call 17; exact quietEq (refWithin_of _ _ _ _ hw)))
                  go_wp2_with fail
                  go_roundw
                  case rel => exact ⟨j + 1, x.1.toList, by omega, by go_num, hdr2.next _, HG, NXT, keepBack (by intro h; cases h)⟩
                  case measure => simp [intOf]; omega
                | false =>
                  have HE := keepBack (HPK.out false HR.out (HRI.out.trans (headsRise_stop HX.out (by rw [HL0'.out]; simp at hw ⊢; omega))))
                  go_wp2_with fail
                  go_quiet ((go_at_call 17; exact quietEq (refWithin_of _ _ _ _ hw)))
                  go_wp2_with fail
                  go_ret
                  exact ⟨_, rfl, by rw [HE.out]; rfl, b01.trans ((hdr2.next _).below.mono (by omega))⟩

              · have d0 : decide (0 < j) = true := by simp; omega
                obtain ⟨jp, hjp, hjl⟩ : ∃ jp : Nat, (j : Int) - 1 = jp ∧ jp + 1 = j := ⟨j - 1, by omega, by omega⟩
                obtain ⟨p, hp⟩ : ∃ p, hs[jp]? = some p := ⟨hs[jp]'(by omega), List.getElem?_eq_getElem _⟩
                have hpl : p.1.toList = last := by have := HLA.out jp hjl; rw [hp] at this; exact Option.some.inj this
                have HPL := keepBack hpl
                have HJL := keepBack hjl
                obtain ⟨b', o', hix', _, hbs', _, _, hc00', _⟩ := hh1.idxHeadAt aHead jp jp p rfl hp
                have hc0' := (hb2.cell (p := ⟨b', o', none⟩) hbs').trans hc00'
                have hjb : ((jp : Int)) < hs.length := by omega
                clear hc00' hp hpl hjl hj0
                cases hlx : Op.bytesLess p.1.toList x.1.toList with
                | false =>
                  have HE := keepBack (HPK.out false HR.out (HRI.out.trans (headsRise_stop HX.out (by rw [← HPL.out, hlx]; rfl))))
                  go_wp2_with fail
                  go_quiet (fail)
                  go_wp2_with fail
                  go_ret
                  exact ⟨_, rfl, by rw [HE.out]; rfl, b01.trans ((hdr2.next _).below.mono (by omega))⟩
                | true =>
                  cases hw : (decide (0 ≤ x.2) && decide (x.2 ≤ (cs.length : Int) - 1)) with
                  | true =>
                    have HG := keepBack (HRI.out.trans (headsRise_go HX.out (by rw [← HPL.out, hlx]; simp at hw ⊢; omega)))
                    go_wp2_with fail
                    go_quiet ((go_at_call 17; exact quietEq (refWithin_of _ _ _ _ hw)))
                    go_wp2_with fail
                    go_roundw
                    case rel => exact ⟨j + 1, x.1.toList, by omega, by go_num, hdr2.next _, HG, NXT, keepBack (by intro h; cases h)⟩
                    case measure => simp [intOf]; omega
                  | false =>
                    have HE := keepBack (HPK.out false HR.out (HRI.out.trans (headsRise_stop HX.out (by rw [← HPL.out, hlx]; simp at hw ⊢; omega))))
                    go_wp2_with fail
                    go_quiet ((go_at_call 17; exact quietEq (refWithin_of _ _ _ _ hw)))
                    go_wp2_with fail
                    go_ret
                    exact ⟨_, rfl, by rw [HE.out]; rfl, b01.trans ((hdr2.next _).below.mono (by omega))⟩
            · have HE := keepBack (HPK.out true HR.out (HRI.out.trans (headsRise_end hlt2)))
              go_wp2
              go_ret
              exact ⟨_, rfl, by rw [HE.out]; rfl, b01.trans (hb2.mono (by omega))⟩
  · have HP := keepBack (repoErr_dag (r := (cs, hs)) hd)
    have hq : (commitsErr cs != 0) = true := by simp [hd]
    go_enter Tryz.func4, Tryz.ntmps4
    go_wp2_with fail
    rw [← HWA.out]
    refine (refCommitsError _ cs _ wA (hc.call bA)).mono ?_; rintro e w1 ⟨rfl, d1⟩
    go_wp2_with fail
    go_ret
    exact ⟨_, rfl, by rw [HP.out]; rfl, bA.trans (d1.below.mono (by omega))⟩

end Go.Pch
end

section
namespace Go.Pch
open Go.RowKit Go.Proofs
set_option maxRecDepth 100000

/-- Where it stands; -1: nowhere. -/
def atI : Option Nat → Int
  | some k => k
  | none => -1
theorem headK_skip {hs : List Head} {s : ByteArray} {k : Nat} {x : Head} (hx : hs[k]? = some x) (h : x.1.toList ≠ s.toList) {o : Option Nat} (g : o = (headK (hs.drop k) s).map (· + k)) : o = (headK (hs.drop (k + 1)) s).map (· + (k + 1)) := by
  obtain ⟨hk, rfl⟩ := List.getElem?_eq_some_iff.1 hx
  rw [g, List.drop_eq_getElem_cons hk, headK, if_neg h, Option.map_map]
  congr 1
  funext a
  simp only [Function.comp_apply]
  omega
theorem headK_stop {hs : List Head} {s : ByteArray} {k : Nat} {x : Head} (hx : hs[k]? = some x) (h : x.1.toList = s.toList) {o : Option Nat} (g : o = (headK (hs.drop k) s).map (· + k)) : atI o = k := by
  obtain ⟨hk, rfl⟩ := List.getElem?_eq_some_iff.1 hx
  rw [g, List.drop_eq_getElem_cons hk, headK, if_pos h]
  simp [atI]
theorem headK_end {hs : List Head} {s : ByteArray} {k : Nat} (hk : ¬ k < hs.length) {o : Option Nat} (g : o = (headK (hs.drop k) s).map (· + k)) : atI o = -1 := by
  rw [g, List.drop_of_length_le (by omega), headK]; rfl

set_option maxHeartbeats 1000000 in
theorem refHeadAt (v : Value) (r : Repo) (key : ByteArray) (S : Blk) (w : World) (h : Rp w S v r) :
    Calls Tryz.prog 59 #[v, .string key] w (Ret w fun x _ => x = .int .i64 (atI (headK r.2 key))) := by
  obtain ⟨cs, hs⟩ := r
  obtain ⟨vc, vh, rfl, hc, hh⟩ := h
  obtain ⟨ac, cc, rfl, _, _, _⟩ := hc.shape
  obtain ⟨ah, ch, rfl, _, hmh, _⟩ := hh.shape
  unfold maxLen at hmh
  simp only at hc hh
  obtain ⟨wA, hwA⟩ : ∃ wA, wA = w.alloc (.cells #[.slice ac cs.length cc, .slice ah hs.length ch] 25) := ⟨_, rfl⟩
  have bA : Below w.heap.size w wA := by rw [hwA]; exact (Below.refl _ _).alloc (Nat.le_refl _) _
  have sA : wA.heap.size = w.heap.size + 1 := by rw [hwA]; simp
  have k0 : wA.cell? ⟨w.heap.size, 0, none⟩ = some (.slice ac cs.length cc) := by rw [hwA]; simp
  have k1 : wA.cell? ⟨w.heap.size, 1, none⟩ = some (.slice ah hs.length ch) := by rw [hwA]; simp
  have HWA := keepBack hwA
  clear hwA
  have hh1 := (hh.call bA).old
  go_enter Tryz.func59, Tryz.ntmps59
  go_wp2_with fail
  rw [← HWA.out]
  go_loopw [5] (fun i wr => ∃ (k : Nat), k ≤ hs.length ∧ i = .int .i64 k ∧ Drawn wA wr ∧ Hid (headK hs key = (headK (hs.drop k) key).map (· + k))) (fun i _ => hs.length - (intOf i).toNat)
  case atStart => exact ⟨0, Nat.zero_le _, rfl, .refl _, keepBack (by rw [List.drop_zero]; simp)⟩
  case round =>
    obtain ⟨k, hk, rfl, hdr, HK⟩ := hrel
    have hb := hdr.below
    have hs' := hb.size
    have z0 := (hb.cell (p := ⟨w.heap.size, 0, none⟩) (by simp; omega)).trans k0
    have z1 := (hb.cell (p := ⟨w.heap.size, 1, none⟩) (by simp; omega)).trans k1
    by_cases hlt : k < hs.length
    · obtain ⟨x, hx⟩ : ∃ x, hs[k]? = some x := ⟨hs[k], List.getElem?_eq_getElem hlt⟩
      obtain ⟨b, o, hix, _, hbs, ok1, ok2, hc00, hc10⟩ := hh1.idxHeadAt aHead k k x rfl hx
      have hc0 := (hb.cell (p := ⟨b, o, none⟩) hbs).trans hc00
      clear hc00 hc10
      have HX := keepBack hx
      clear hx
      cases he : (x.1.toList == key.toList) with
      | true =>
        have HE := keepBack (headK_stop HX.out (eq_of_beq he) HK.out)
        go_wp2_with fail
        go_ret
        exact ⟨_, rfl, by rw [HE.out]; rfl, bA.trans (hb.mono (by omega))⟩
      | false =>
        have HE := keepBack (headK_skip HX.out (by simpa using he) HK.out)
        go_wp2_with fail
        go_roundw
        case rel => exact ⟨k + 1, by omega, by go_num, hdr, HE⟩
        case measure => simp [intOf]; omega
    · have HE := keepBack (headK_end hlt HK.out)
      go_wp2_with fail
      go_ret
      exact ⟨_, rfl, by rw [HE.out]; rfl, bA.trans (hb.mono (by omega))⟩
theorem refHeadAt_of {c : Option Nat} (v : Value) (r : Repo) (key : ByteArray) (S : Blk) (w : World) (h : Rp w S v r) (hc : headK r.2 key = c) :
    Calls Tryz.prog 59 #[v, .string key] w (Ret w fun x _ => x = .int .i64 (atI c)) := hc ▸ refHeadAt v r key S w h
theorem refRepoError_of {c : Int} (v : Value) (r : Repo) (S : Blk) (w : World) (h : Rp w S v r) (hc : repoErr r = c) : Calls Tryz.prog 4 #[v] w (Ret w fun x _ => x = .int .i64 c) := hc ▸ refRepoError v r S w h

set_option maxHeartbeats 2000000 in
theorem refHeadOf (v : Value) (r : Repo) (key : ByteArray) (S : Blk) (w : World) (h : Rp w S v r) :
    Calls Tryz.prog 55 #[v, .string key] w (Ret w fun x _ => x = .tuple #[.int .i64 (headP r key).1, .int .i64 (headP r key).2]) := by
  have hR := h
  obtain ⟨cs, hs⟩ := r
  obtain ⟨vc, vh, rfl, hc, hh⟩ := h
  obtain ⟨ac, cc, rfl, _, _, _⟩ := hc.shape
  obtain ⟨ah, ch, rfl, _, _, _⟩ := hh.shape
  simp only at hc hh
  obtain ⟨wA, hwA⟩ : ∃ wA, wA = w.alloc (.cells #[.slice ac cs.length cc, .slice ah hs.length ch] 25) := ⟨_, rfl⟩
  have bA : Below w.heap.size w wA := by rw [hwA]; exact (Below.refl _ _).alloc (Nat.le_refl _) _
  have sA : wA.heap.size = w.heap.size + 1 := by rw [hwA]; simp
  have k0 : wA.cell? ⟨w.heap.size, 0, none⟩ = some (.slice ac cs.length cc) := by rw [hwA]; simp
  have k1 : wA.cell? ⟨w.heap.size, 1, none⟩ = some (.slice ah hs.length ch) := by rw [hwA]; simp
  have HWA := keepBack hwA
  clear hwA
  by_cases he : repoErr (cs, hs) = 0
  · have hok := repo_ok he
    have hsk := headK_seek hok.2.2.2 key
    cases hb : hdHas hs key with
    | true =>
      obtain ⟨x, hx, hP, _⟩ := headP_is (s := key) he hb
      have HP := keepBack hP
      clear hP
      simp only [hb, if_pos] at hsk
      go_enter Tryz.func55, Tryz.ntmps55
      go_wp2_with fail
      rw [← HWA.out]
      refine (refRepoError_of _ (cs, hs) _ wA (hR.call bA) he).mono ?_; rintro e w1 ⟨_, rfl, rfl, b1⟩
      have s1 := b1.size
      have r0 := (b1.cell (p := ⟨w.heap.size, 0, none⟩) (by simp; omega)).trans k0
      have r1 := (b1.cell (p := ⟨w.heap.size, 1, none⟩) (by simp; omega)).trans k1
      go_wp2_with fail
      refine (refHeadAt_of _ (cs, hs) key _ w1 ((hR.call bA).call b1) hsk).mono ?_; rintro e w2 ⟨_, rfl, rfl, b2⟩
      have s2 := b2.size
      have b02 := (bA.trans (b1.mono (by omega))).trans (b2.mono (by omega))
      have q0 := (b2.cell (p := ⟨w.heap.size, 0, none⟩) (by simp; omega)).trans r0
      have q1 := (b2.cell (p := ⟨w.heap.size, 1, none⟩) (by simp; omega)).trans r1
      obtain ⟨b, o, hix, _, hbs, ok1, ok2, hc0, hc1⟩ := (((hh.call bA).call b1).call b2).idxHeadAt aHead (hdN hs key) (hdN hs key) x rfl hx
      have hbb : ((hdN hs key : Nat) : Int) < hs.length := by have := (List.getElem?_eq_some_iff.1 hx).1; omega
      rw [show atI (some (hdN hs key)) = ((hdN hs key : Nat) : Int) from rfl]
      clear k0 k1 r0 r1 hsk
      generalize hdN hs key = kk at *
      go_wp2_with fail
      go_ret2
      exact ⟨_, rfl, by rw [HP.out]; rfl, b02⟩
    | false =>
      have HP := keepBack (headP_none (s := key) he hb)
      simp only [hb] at hsk
      go_enter Tryz.func55, Tryz.ntmps55
      go_wp2_with fail
      rw [← HWA.out]
      refine (refRepoError_of _ (cs, hs) _ wA (hR.call bA) he).mono ?_; rintro e w1 ⟨_, rfl, rfl, b1⟩
      have s1 := b1.size
      have r0 := (b1.cell (p := ⟨w.heap.size, 0, none⟩) (by simp; omega)).trans k0
      have r1 := (b1.cell (p := ⟨w.heap.size, 1, none⟩) (by simp; omega)).trans k1
      go_wp2_with fail
      refine (refHeadAt_of (c := none) _ (cs, hs) key _ w1 ((hR.call bA).call b1) (by rw [hsk]; rfl)).mono ?_; rintro e w2 ⟨_, rfl, rfl, b2⟩
      rw [show atI none = -1 from rfl]
      go_wp2_with fail
      go_ret2
      exact ⟨_, rfl, by rw [HP.out]; rfl, (bA.trans (b1.mono (by omega))).trans (b2.mono (by omega))⟩
  · have HP := keepBack (headP_bad (s := key) he)
    have hq : (repoErr (cs, hs) != 0) = true := by simp [he]
    go_enter Tryz.func55, Tryz.ntmps55
    go_wp2_with fail
    rw [← HWA.out]
    refine (refRepoError _ (cs, hs) _ wA (hR.call bA)).mono ?_; rintro e w1 ⟨_, rfl, rfl, b1⟩
    go_wp2_with fail
    go_ret2
    exact ⟨_, rfl, by rw [HP.out]; rfl, bA.trans (b1.mono (by omega))⟩
theorem refHeadOf_of {c : Int × Int} (v : Value) (r : Repo) (key : ByteArray) (S : Blk) (w : World) (h : Rp w S v r) (hc : headP r key = c) :
    Calls Tryz.prog 55 #[v, .string key] w (Ret w fun x _ => x = .tuple #[.int .i64 c.1, .int .i64 c.2]) := hc ▸ refHeadOf v r key S w h

/-- From the end down to k. -/
def logTo (l : List Commit) (n k : Nat) : List Int := ((((List.range l.length).drop k).filter (ab l n)).map Int.ofNat).reverse
theorem logTo_top (l : List Commit) (n : Nat) : logTo l n l.length = [] := by rw [logTo, List.drop_of_length_le (by simp)]; rfl
theorem logTo_all (l : List Commit) (n : Nat) : logTo l n 0 = logL l n := rfl
theorem logTo_next {l : List Commit} {n k : Nat} (hk : k < l.length) : logTo l n k = logTo l n (k + 1) ++ (if ab l n k = true then [(k : Int)] else []) := by
  rw [logTo, List.drop_eq_getElem_cons (by simpa using hk), List.getElem_range, List.filter_cons, logTo]
  by_cases h : ab l n k = true
  · rw [if_pos h, if_pos h, List.map_cons, List.reverse_cons]; rfl
  · rw [if_neg h, if_neg h, List.append_nil]
theorem logTo_len (l : List Commit) (n k : Nat) : (logTo l n k).length ≤ l.length := by
  rw [logTo, List.length_reverse, List.length_map]
  refine Nat.le_trans (List.length_filter_le _ _) ?_
  rw [List.length_drop, List.length_range]; omega


end Go.Pch
end

section
namespace Go.Pch
open Go.RowKit Go.Proofs

set_option maxRecDepth 100000 in
set_option maxHeartbeats 400000 in
theorem rowsSame (v u : Value) (l m : List Row) (S S' : Blk) (w : World) (h : Sl tRow w S v l) (g : Sl tRow w S' u m) :
    Calls Tryz.prog 13 #[v, u] w (Quiet w (.bool (decide (l = m)))) := by
  obtain ⟨ao, cap, rfl, hcap, hmax, hnil⟩ := h.shape
  obtain ⟨ao', cap', rfl, hcap', hmax', hnil'⟩ := g.shape
  unfold maxLen at hmax hmax'
  by_cases he : l.length = m.length
  · have hne : (((l.length : Nat) : Int) != (m.length : Int)) = false := by simp [he]
    have hl1 : l.length ≤ m.length := by omega
    have hl2 : m.length ≤ l.length := by omega
    clear he
    go_enter Tryz.func13, Tryz.ntmps13
    go_wp2
    go_loopw [5] (fun i wr => ∃ (k : Nat), k ≤ l.length ∧ i = .int .i64 k ∧ Drawn w wr ∧ Hid (l.take k = m.take k)) (fun i _ => l.length - (intOf i).toNat)
    case atStart => exact ⟨0, Nat.zero_le _, rfl, .refl _, rfl⟩
    case round =>
      obtain ⟨k, hk, rfl, hd, hm⟩ := hrel
      by_cases hlt : k < l.length
      · obtain ⟨b, o, hix, _, hbs, ok1, ok2, hc0, hc1⟩ := (h.call hd.below).idxRow aRow k k rfl hlt
        obtain ⟨b', o', hix', _, hbs', ok1', ok2', hc0', hc1'⟩ := (g.call hd.below).idxRow aRow k k rfl (by omega)
        have hg := rowGuard
        have he := rowEqual l[k].1 l[k].2 m[k].1 m[k].2
        go_wp2
        go_quiet (fail)
        go_wp2
        · have hx : (!decide (l[k].1 = m[k].1)) = true ∨ (!decide (l[k].2 = m[k].2)) = true := by assumption
          go_ret
          refine ⟨ret_no fun e => ?_, hd.next _⟩
          subst e
          simp at hx
        · have hx : (!decide (l[k].1 = m[k].1)) = false ∧ (!decide (l[k].2 = m[k].2)) = false := by assumption
          go_roundw
          case rel => exact ⟨k + 1, by omega, by go_num, hd.next _, take_more hlt (by omega) hm.out (by simp at hx; exact Prod.ext hx.1 hx.2)⟩
          case measure => simp [intOf]; omega
      · go_wp2
        go_ret
        exact ⟨ret_yes (take_all hlt hl1 hl2 hm.out), hd⟩
  · have hne : (((l.length : Nat) : Int) != (m.length : Int)) = true := by simp; omega
    go_enter Tryz.func13, Tryz.ntmps13
    go_wp2
    go_ret
    exact ⟨ret_no fun e => he (by rw [e]), .refl _⟩

theorem rowsSame_of {c : Bool} (v u : Value) (l m : List Row) (S S' : Blk) (w : World) (h : Sl tRow w S v l) (g : Sl tRow w S' u m) (hc : decide (l = m) = c) :
    Calls Tryz.prog 13 #[v, u] w (Quiet w (.bool c)) := hc ▸ rowsSame v u l m S S' w h g

end Go.Pch
end
