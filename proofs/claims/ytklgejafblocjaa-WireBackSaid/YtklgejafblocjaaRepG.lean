/- The walks of SameRepos and of the law RepoTells' examples. -/
import Derived.Test.YtklgejafblocjaaRepF
import Derived.Test.YtklgejafblocjaaDagG
import Derived.Test.YtklgejafblocjaaSamR
namespace Go.Pch
open Go.RowKit Go.Proofs
set_option maxRecDepth 100000

theorem hdGuard : Try.prog.eqGuardType Try.prog.depth 76 = false := by kernel_rfl
theorem hdHeld : Try.prog.stoodInHeld 76 = false := by kernel_rfl
theorem hdStruct : Try.prog.underlying 76 = some (.struct (Try.prog.fieldsOf 76)) := by kernel_rfl
theorem hdFields : (Try.prog.fieldsOf 76).toList.map (fun f => (f.type, f.offset, f.name)) = [(9, 0, "Name"), (3, 1, "At")] := by kernel_rfl
theorem two_of_mapH {α β : Type} {f : α → β} {l : List α} {x y : β} (h : l.map f = [x, y]) : ∃ a b, l = [a, b] ∧ f a = x ∧ f b = y := by
  match l, h with
  | [a, b], h => simp at h; exact ⟨a, b, rfl, h.1, h.2⟩
theorem bytes_eq {a b : ByteArray} : (a.toList == b.toList) = decide (a = b) := by
  rw [Bool.eq_iff_iff, decide_eq_true_eq, beq_iff_eq, ByteArray.toList_eq, ByteArray.toList_eq]
  constructor
  · intro h
    obtain ⟨⟨x⟩⟩ := a
    obtain ⟨⟨y⟩⟩ := b
    simp at h
    rw [h]
  · rintro rfl; rfl
theorem hdEqual (x y : Head) (W : World) : Sem.run Try.prog (Op.equalIn 10000 76 (.agg #[.string x.1, .int .i64 x.2]) (.agg #[.string y.1, .int .i64 y.2])) W = .ok (decide (x = y)) W := by
  obtain ⟨a, b⟩ := x
  obtain ⟨a', b'⟩ := y
  obtain ⟨f, g, h1, h2, h3⟩ := two_of_mapH hdFields
  simp only [Prod.mk.injEq] at h2 h3
  obtain ⟨h21, h22, h23⟩ := h2
  obtain ⟨h31, h32, h33⟩ := h3
  rw [show (10000 : Nat) = 9999 + 1 from rfl, run_equalIn_struct W 9999 _ _ _ hdStruct hdHeld, h1]
  have e := fun x y W => run_equalIn_int (P := Try.prog) W 9998 3 .i64 .i64 x y Try.underlying3
  have es := fun x y W => run_equalIn_string (P := Try.prog) W 9998 9 x y Try.underlying9
  simp only [Nat.reduceAdd] at e es
  have hb := @bytes_eq a a'
  by_cases ha : a = a' <;> by_cases hb : b = b' <;> simp_all [Op.eqFields, part]


set_option maxHeartbeats 4000000 in
theorem refSameRepos (v u : Value) (a b : Repo) (S S' : Blk) (w : World) (h : Rp w S v a) (g : Rp w S' u b) :
    Calls Try.prog 25 #[v, u] w (Ret w fun r _ => r = .bool (decide (a.1 = b.1) && decide (a.2 = b.2))) := by
  obtain ⟨cs, hs⟩ := a
  obtain ⟨cs', hs'⟩ := b
  obtain ⟨vc, vh, rfl, hc, hh⟩ := h
  obtain ⟨vc', vh', rfl, gc, gh⟩ := g
  obtain ⟨ac, cc, rfl, _, hm1, _⟩ := hc.shape
  obtain ⟨ah, ch, rfl, _, hm2, _⟩ := hh.shape
  obtain ⟨ac', cc', rfl, _, _, _⟩ := gc.shape
  obtain ⟨ah', ch', rfl, _, _, _⟩ := gh.shape
  simp only at hc hh gc gh
  unfold maxLen at hm1 hm2
  obtain ⟨wA, hwA⟩ : ∃ wA, wA = (w.alloc (.cells #[.slice ac cs.length cc, .slice ah hs.length ch] 43)).alloc (.cells #[.slice ac' cs'.length cc', .slice ah' hs'.length ch'] 43) := ⟨_, rfl⟩
  have bA : Below w.heap.size w wA := by rw [hwA]; exact ((Below.refl _ _).alloc (Nat.le_refl _) _).alloc (by simp) _
  have sA : wA.heap.size = w.heap.size + 2 := by rw [hwA]; simp
  have k0 : wA.cell? ⟨w.heap.size, 0, none⟩ = some (.slice ac cs.length cc) := by rw [hwA]; simp
  have k1 : wA.cell? ⟨w.heap.size, 1, none⟩ = some (.slice ah hs.length ch) := by rw [hwA]; simp
  have k2 : wA.cell? ⟨w.heap.size + 1, 0, none⟩ = some (.slice ac' cs'.length cc') := by rw [hwA]; simp
  have k3 : wA.cell? ⟨w.heap.size + 1, 1, none⟩ = some (.slice ah' hs'.length ch') := by rw [hwA]; simp
  have HWA := keepBack hwA
  clear hwA
  have hcA := (hc.call bA).old
  have hhA := (hh.call bA).old
  have gcA := (gc.call bA).old
  have ghA := (gh.call bA).old
  by_cases e1 : cs.length = cs'.length
  · by_cases e2 : hs.length = hs'.length
    · have n1 : (((cs.length : Nat) : Int) != (cs'.length : Int)) = false := by simp [e1]
      have n2 : (((hs.length : Nat) : Int) != (hs'.length : Int)) = false := by simp [e2]
      have hl1 : cs.length ≤ cs'.length := by omega
      have hl2 : cs'.length ≤ cs.length := by omega
      have hl3 : hs.length ≤ hs'.length := by omega
      have hl4 : hs'.length ≤ hs.length := by omega
      clear e1 e2
      go_enter Try.func25, Try.ntmps25
      go_wp2_with fail
      rw [← HWA.out]
      go_loopw [5] (fun i wr => ∃ (k : Nat), k ≤ cs.length ∧ i = .int .i64 k ∧ Drawn wA wr ∧ Hid (cs.take k = cs'.take k)) (fun i _ => cs.length - (intOf i).toNat)
      case atStart => exact ⟨0, Nat.zero_le _, rfl, .refl _, rfl⟩
      case round =>
        obtain ⟨k, hk, rfl, hdr, hm⟩ := hrel
        have hb := hdr.below
        have z0 := (hb.cell (p := ⟨w.heap.size, 0, none⟩) (by simp; omega)).trans k0
        have z1 := (hb.cell (p := ⟨w.heap.size, 1, none⟩) (by simp; omega)).trans k1
        have z2 := (hb.cell (p := ⟨w.heap.size + 1, 0, none⟩) (by simp; omega)).trans k2
        have z3 := (hb.cell (p := ⟨w.heap.size + 1, 1, none⟩) (by simp; omega)).trans k3
        by_cases hlt : k < cs.length
        · obtain ⟨rs, ps, hck⟩ : ∃ r p, cs[k] = (r, p) := ⟨_, _, rfl⟩
          obtain ⟨rs', ps', hck'⟩ : ∃ r p, cs'[k]'(by omega) = (r, p) := ⟨_, _, rfl⟩
          obtain ⟨b, o, a1, c1, a2, c2, hix, _, hbs, h1, h2, y1, y2, y3, y4, hc0, hc1⟩ := (hcA.call hb).idxCommitAt aCom k k rfl hlt rs ps hck
          obtain ⟨b', o', a1', c1', a2', c2', hix', _, hbs', g1, g2, y1', y2', y3', y4', hc0', hc1'⟩ := (gcA.call hb).idxCommitAt aCom k k rfl (by omega) rs' ps' hck'
          have HCK := keepBack hck
          have HCK' := keepBack hck'
          clear hck hck'
          cases q1 : decide (rs = rs') with
          | false =>
            have q2 : decide (ps = ps') = decide (ps = ps') := rfl
            clear q2
            go_wp2_with fail
            go_quiet ((go_at_call 58; exact quietOf (rowsSame_of _ _ _ _ _ _ _ (h1.keep fun _ _ _ => rfl) (g1.keep fun _ _ _ => rfl) q1)))
            go_wp2
            go_ret
            refine ⟨_, rfl, ?_, bA.trans ((hdr.next _).below.mono (by omega))⟩
            have : decide (cs = cs') = false := by
              rw [decide_eq_false_iff_not]
              rintro rfl
              have := HCK.out.symm.trans HCK'.out
              simp only [Prod.mk.injEq] at this
              rw [this.1] at q1
              simp at q1
            simp only
            rw [this]; rfl
          | true =>
            cases q2 : decide (ps = ps') with
            | false =>
              go_wp2_with fail
              go_quiet ((first | (go_at_call 58; exact quietOf (rowsSame_of _ _ _ _ _ _ _ (h1.keep fun _ _ _ => rfl) (g1.keep fun _ _ _ => rfl) q1)) | (go_at_call 18; exact quietOf (refSameInts_of _ _ _ _ _ _ _ (h2.keep fun _ _ _ => rfl) (g2.keep fun _ _ _ => rfl) q2))))
              go_wp2
              go_ret
              refine ⟨_, rfl, ?_, bA.trans ((hdr.next _).below.mono (by omega))⟩
              have : decide (cs = cs') = false := by
                rw [decide_eq_false_iff_not]
                rintro rfl
                have := HCK.out.symm.trans HCK'.out
                simp only [Prod.mk.injEq] at this
                rw [this.2] at q2
                simp at q2
              simp only
              rw [this]; rfl
            | true =>
              have HT := keepBack (take_more hlt (by omega) hm.out (by rw [HCK.out, HCK'.out, of_decide_eq_true q1, of_decide_eq_true q2]))
              go_wp2_with fail
              go_quiet ((first | (go_at_call 58; exact quietOf (rowsSame_of _ _ _ _ _ _ _ (h1.keep fun _ _ _ => rfl) (g1.keep fun _ _ _ => rfl) q1)) | (go_at_call 18; exact quietOf (refSameInts_of _ _ _ _ _ _ _ (h2.keep fun _ _ _ => rfl) (g2.keep fun _ _ _ => rfl) q2))))
              go_wp2
              go_roundw
              case rel => exact ⟨k + 1, by omega, by go_num, hdr.next _, HT⟩
              case measure => simp [intOf]; omega
        · have HCE := keepBack (take_all hlt hl1 hl2 hm.out)
          obtain ⟨wo, rfl⟩ : ∃ wo : World, wo = wr := ⟨_, rfl⟩
          go_wp2_with fail
          go_loopw [6] (fun i wr => ∃ (k : Nat), k ≤ hs.length ∧ i = .int .i64 k ∧ Drawn wA wr ∧ Hid (hs.take k = hs'.take k)) (fun i _ => hs.length - (intOf i).toNat)
          case atStart => exact ⟨0, Nat.zero_le _, rfl, hdr, rfl⟩
          case round =>
            obtain ⟨j, hj, rfl, hdr2, hm'⟩ := hrel
            have hb2 := hdr2.below
            have x0 := (hb2.cell (p := ⟨w.heap.size, 0, none⟩) (by simp; omega)).trans k0
            have x1 := (hb2.cell (p := ⟨w.heap.size, 1, none⟩) (by simp; omega)).trans k1
            have x2 := (hb2.cell (p := ⟨w.heap.size + 1, 0, none⟩) (by simp; omega)).trans k2
            have x3 := (hb2.cell (p := ⟨w.heap.size + 1, 1, none⟩) (by simp; omega)).trans k3
            by_cases hlt2 : j < hs.length
            · obtain ⟨b, o, hix, _, hbs, _, _, hc0, hc1⟩ := (hhA.call hb2).idxHeadAt aHead j j hs[j] rfl (List.getElem?_eq_getElem hlt2)
              obtain ⟨b', o', hix', _, hbs', _, _, hc0', hc1'⟩ := (ghA.call hb2).idxHeadAt aHead j j (hs'[j]'(by omega)) rfl (List.getElem?_eq_getElem _)
              have hg := hdGuard
              have he := hdEqual hs[j] (hs'[j]'(by omega))
              by_cases hx : hs[j] = hs'[j]'(by omega)
              · have HT := keepBack (take_more hlt2 (by omega) hm'.out hx)
                rw [decide_eq_true hx] at he
                clear hx
                go_wp2_with fail
                go_quiet (fail)
                go_wp2
                go_roundw
                case rel => exact ⟨j + 1, by omega, by go_num, hdr2.next _, HT⟩
                case measure => simp [intOf]; omega
              · have HT := keepBack (show decide (hs = hs') = false by
                  rw [decide_eq_false_iff_not]
                  rintro rfl
                  exact hx rfl)
                rw [decide_eq_false hx] at he
                clear hx
                go_wp2_with fail
                go_quiet (fail)
                go_wp2
                go_ret
                refine ⟨_, rfl, ?_, bA.trans ((hdr2.next _).below.mono (by omega))⟩
                simp only
                rw [HT.out, Bool.and_false]; rfl
            · have HHE := keepBack (take_all hlt2 hl3 hl4 hm'.out)
              go_wp2_with fail
              go_ret
              refine ⟨_, rfl, ?_, bA.trans (hb2.mono (by omega))⟩
              simp only
              rw [decide_eq_true HCE.out, decide_eq_true HHE.out]; rfl
    · have n1 : (((cs.length : Nat) : Int) != (cs'.length : Int)) = false := by simp [e1]
      have n2 : (((hs.length : Nat) : Int) != (hs'.length : Int)) = true := by simp; omega
      have HNE := keepBack (show decide (hs = hs') = false by rw [decide_eq_false_iff_not]; exact fun e => e2 (by rw [e]))
      clear e1 e2
      go_enter Try.func25, Try.ntmps25
      go_wp2_with fail
      rw [← HWA.out]
      go_ret
      refine ⟨_, rfl, ?_, bA⟩
      simp only
      rw [HNE.out, Bool.and_false]; rfl
  · have n1 : (((cs.length : Nat) : Int) != (cs'.length : Int)) = true := by simp; omega
    have HNE := keepBack (show decide (cs = cs') = false by rw [decide_eq_false_iff_not]; exact fun e => e1 (by rw [e]))
    clear e1
    go_enter Try.func25, Try.ntmps25
    go_wp2_with fail
    rw [← HWA.out]
    go_ret
    refine ⟨_, rfl, ?_, bA⟩
    simp only
    rw [HNE.out, Bool.false_and]; rfl

end Go.Pch
