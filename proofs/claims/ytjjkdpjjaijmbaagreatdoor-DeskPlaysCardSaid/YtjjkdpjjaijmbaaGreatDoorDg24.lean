/- The walks of the document's headAt, HeadOf and LogOf. -/
import Derived.Test.YtjjkdpjjaijmbaaGreatDoorDg23
section
namespace Go.Pch
open Go.RowKit Go.Proofs
set_option maxRecDepth 100000
def atI : Option Nat → Int
  | some k => k
  | none => -1
theorem headK_skip {hs : List Head} {s : ByteArray} {k : Nat} {x : Head} (hx : hs[k]? = some x) (h : x.1.toList ≠ s.toList) {o : Option Nat} (g : o = (headK (hs.drop k) s).map (· + k)) : o = (headK (hs.drop (k + 1)) s).map (· + (k + 1)) := by
  obtain ⟨hk, rfl⟩ := List.getElem?_eq_some_iff.1 hx
  rw [g, List.drop_eq_getElem_cons hk, headK, if_neg h, Option.map_map]
  congr 1
  funext a
  simp only [Function.comp_apply]
  omega
theorem headK_stop {hs : List Head} {s : ByteArray} {k : Nat} {x : Head} (hx : hs[k]? = some x) (h : x.1.toList = s.toList) {o : Option Nat} (g : o = (headK (hs.drop k) s).map (· + k)) : atI o = k := by
  obtain ⟨hk, rfl⟩ := List.getElem?_eq_some_iff.1 hx
  rw [g, List.drop_eq_getElem_cons hk, headK, if_pos h]
  simp [atI]
theorem headK_end {hs : List Head} {s : ByteArray} {k : Nat} (hk : ¬ k < hs.length) {o : Option Nat} (g : o = (headK (hs.drop k) s).map (· + k)) : atI o = -1 := by
  rw [g, List.drop_of_length_le (by omega), headK]; rfl
set_option maxHeartbeats 1000000 in
theorem refHeadAt (v : Value) (r : Repo) (key : ByteArray) (S : Blk) (w : World) (h : Rp w S v r) :
    Calls Tryz.prog 81 #[v, .string key] w (Ret w fun x _ => x = .int .i64 (atI (headK r.2 key))) := by
  obtain ⟨cs, hs⟩ := r
  obtain ⟨vc, vh, rfl, hc, hh⟩ := h
  obtain ⟨ac, cc, rfl, _, _, _⟩ := hc.shape
  obtain ⟨ah, ch, rfl, _, hmh, _⟩ := hh.shape
  unfold maxLen at hmh
  simp only at hc hh
  obtain ⟨wA, hwA⟩ : ∃ wA, wA = w.alloc (.cells #[.slice ac cs.length cc, .slice ah hs.length ch] 33) := ⟨_, rfl⟩
  have bA : Below w.heap.size w wA := by rw [hwA]; exact (Below.refl _ _).alloc (Nat.le_refl _) _
  have sA : wA.heap.size = w.heap.size + 1 := by rw [hwA]; simp
  have k0 : wA.cell? ⟨w.heap.size, 0, none⟩ = some (.slice ac cs.length cc) := by rw [hwA]; simp
  have k1 : wA.cell? ⟨w.heap.size, 1, none⟩ = some (.slice ah hs.length ch) := by rw [hwA]; simp
  have HWA := keepBack hwA
  clear hwA
  have hh1 := (hh.call bA).old
  go_enter Tryz.func81, Tryz.ntmps81
  go_wp2_with fail
  rw [← HWA.out]
  go_loopw [5] (fun i wr => ∃ (k : Nat), k ≤ hs.length ∧ i = .int .i64 k ∧ Drawn wA wr ∧ Hid (headK hs key = (headK (hs.drop k) key).map (· + k))) (fun i _ => hs.length - (intOf i).toNat)
  case atStart => exact ⟨0, Nat.zero_le _, rfl, .refl _, keepBack (by rw [List.drop_zero]; simp)⟩
  case round =>
    obtain ⟨k, hk, rfl, hdr, HK⟩ := hrel
    have hb := hdr.below
    have hs' := hb.size
    have z0 := (hb.cell (p := ⟨w.heap.size, 0, none⟩) (by simp; omega)).trans k0
    have z1 := (hb.cell (p := ⟨w.heap.size, 1, none⟩) (by simp; omega)).trans k1
    by_cases hlt : k < hs.length
    · obtain ⟨x, hx⟩ : ∃ x, hs[k]? = some x := ⟨hs[k], List.getElem?_eq_getElem hlt⟩
      obtain ⟨b, o, hix, _, hbs, ok1, ok2, hc00, hc10⟩ := hh1.idxHeadAt aHead k k x rfl hx
      have hc0 := (hb.cell (p := ⟨b, o, none⟩) hbs).trans hc00
      clear hc00 hc10
      have HX := keepBack hx
      clear hx
      cases he : (x.1.toList == key.toList) with
      | true =>
        have HE := keepBack (headK_stop HX.out (eq_of_beq he) HK.out)
        go_wp2_with fail
        go_ret
        exact ⟨_, rfl, by rw [HE.out]; rfl, bA.trans (hb.mono (by omega))⟩
      | false =>
        have HE := keepBack (headK_skip HX.out (by simpa using he) HK.out)
        go_wp2_with fail
        go_roundw
        case rel => exact ⟨k + 1, by omega, by go_num, hdr, HE⟩
        case measure => simp [intOf]; omega
    · have HE := keepBack (headK_end hlt HK.out)
      go_wp2_with fail
      go_ret
      exact ⟨_, rfl, by rw [HE.out]; rfl, bA.trans (hb.mono (by omega))⟩
theorem refHeadAt_of {c : Option Nat} (v : Value) (r : Repo) (key : ByteArray) (S : Blk) (w : World) (h : Rp w S v r) (hc : headK r.2 key = c) :
    Calls Tryz.prog 81 #[v, .string key] w (Ret w fun x _ => x = .int .i64 (atI c)) := hc ▸ refHeadAt v r key S w h
theorem refRepoError_of {c : Int} (v : Value) (r : Repo) (S : Blk) (w : World) (h : Rp w S v r) (hc : repoErr r = c) : Calls Tryz.prog 116 #[v] w (Ret w fun x _ => x = .int .i64 c) := hc ▸ refRepoError v r S w h
set_option maxHeartbeats 2000000 in
theorem refHeadOf (v : Value) (r : Repo) (key : ByteArray) (S : Blk) (w : World) (h : Rp w S v r) :
    Calls Tryz.prog 79 #[v, .string key] w (Ret w fun x _ => x = .tuple #[.int .i64 (headP r key).1, .int .i64 (headP r key).2]) := by
  have hR := h
  obtain ⟨cs, hs⟩ := r
  obtain ⟨vc, vh, rfl, hc, hh⟩ := h
  obtain ⟨ac, cc, rfl, _, _, _⟩ := hc.shape
  obtain ⟨ah, ch, rfl, _, _, _⟩ := hh.shape
  simp only at hc hh
  obtain ⟨wA, hwA⟩ : ∃ wA, wA = w.alloc (.cells #[.slice ac cs.length cc, .slice ah hs.length ch] 33) := ⟨_, rfl⟩
  have bA : Below w.heap.size w wA := by rw [hwA]; exact (Below.refl _ _).alloc (Nat.le_refl _) _
  have sA : wA.heap.size = w.heap.size + 1 := by rw [hwA]; simp
  have k0 : wA.cell? ⟨w.heap.size, 0, none⟩ = some (.slice ac cs.length cc) := by rw [hwA]; simp
  have k1 : wA.cell? ⟨w.heap.size, 1, none⟩ = some (.slice ah hs.length ch) := by rw [hwA]; simp
  have HWA := keepBack hwA
  clear hwA
  by_cases he : repoErr (cs, hs) = 0
  · have hok := repo_ok he
    have hsk := headK_seek hok.2.2.2 key
    cases hb : hdHas hs key with
    | true =>
      obtain ⟨x, hx, hP, _⟩ := headP_is (s := key) he hb
      have HP := keepBack hP
      clear hP
      simp only [hb, if_pos] at hsk
      go_enter Tryz.func79, Tryz.ntmps79
      go_wp2_with fail
      rw [← HWA.out]
      refine (refRepoError_of _ (cs, hs) _ wA (hR.call bA) he).mono ?_; rintro e w1 ⟨_, rfl, rfl, b1⟩
      have s1 := b1.size
      have r0 := (b1.cell (p := ⟨w.heap.size, 0, none⟩) (by simp; omega)).trans k0
      have r1 := (b1.cell (p := ⟨w.heap.size, 1, none⟩) (by simp; omega)).trans k1
      go_wp2_with fail
      refine (refHeadAt_of _ (cs, hs) key _ w1 ((hR.call bA).call b1) hsk).mono ?_; rintro e w2 ⟨_, rfl, rfl, b2⟩
      have s2 := b2.size
      have b02 := (bA.trans (b1.mono (by omega))).trans (b2.mono (by omega))
      have q0 := (b2.cell (p := ⟨w.heap.size, 0, none⟩) (by simp; omega)).trans r0
      have q1 := (b2.cell (p := ⟨w.heap.size, 1, none⟩) (by simp; omega)).trans r1
      obtain ⟨b, o, hix, _, hbs, ok1, ok2, hc0, hc1⟩ := (((hh.call bA).call b1).call b2).idxHeadAt aHead (hdN hs key) (hdN hs key) x rfl hx
      have hbb : ((hdN hs key : Nat) : Int) < hs.length := by have := (List.getElem?_eq_some_iff.1 hx).1; omega
      rw [show atI (some (hdN hs key)) = ((hdN hs key : Nat) : Int) from rfl]
      clear k0 k1 r0 r1 hsk
      generalize hdN hs key = kk at *
      go_wp2_with fail
      go_ret2
      exact ⟨_, rfl, by rw [HP.out]; rfl, b02⟩
    | false =>
      have HP := keepBack (headP_none (s := key) he hb)
      simp only [hb] at hsk
      go_enter Tryz.func79, Tryz.ntmps79
      go_wp2_with fail
      rw [← HWA.out]
      refine (refRepoError_of _ (cs, hs) _ wA (hR.call bA) he).mono ?_; rintro e w1 ⟨_, rfl, rfl, b1⟩
      have s1 := b1.size
      have r0 := (b1.cell (p := ⟨w.heap.size, 0, none⟩) (by simp; omega)).trans k0
      have r1 := (b1.cell (p := ⟨w.heap.size, 1, none⟩) (by simp; omega)).trans k1
      go_wp2_with fail
      refine (refHeadAt_of (c := none) _ (cs, hs) key _ w1 ((hR.call bA).call b1) (by rw [hsk]; rfl)).mono ?_; rintro e w2 ⟨_, rfl, rfl, b2⟩
      rw [show atI none = -1 from rfl]
      go_wp2_with fail
      go_ret2
      exact ⟨_, rfl, by rw [HP.out]; rfl, (bA.trans (b1.mono (by omega))).trans (b2.mono (by omega))⟩
  · have HP := keepBack (headP_bad (s := key) he)
    have hq : (repoErr (cs, hs) != 0) = true := by simp [he]
    go_enter Tryz.func79, Tryz.ntmps79
    go_wp2_with fail
    rw [← HWA.out]
    refine (refRepoError _ (cs, hs) _ wA (hR.call bA)).mono ?_; rintro e w1 ⟨_, rfl, rfl, b1⟩
    go_wp2_with fail
    go_ret2
    exact ⟨_, rfl, by rw [HP.out]; rfl, bA.trans (b1.mono (by omega))⟩
theorem refHeadOf_of {c : Int × Int} (v : Value) (r : Repo) (key : ByteArray) (S : Blk) (w : World) (h : Rp w S v r) (hc : headP r key = c) :
    Calls Tryz.prog 79 #[v, .string key] w (Ret w fun x _ => x = .tuple #[.int .i64 c.1, .int .i64 c.2]) := hc ▸ refHeadOf v r key S w h
def logTo (l : List Commit) (n k : Nat) : List Int := ((((List.range l.length).drop k).filter (ab l n)).map Int.ofNat).reverse
theorem logTo_top (l : List Commit) (n : Nat) : logTo l n l.length = [] := by rw [logTo, List.drop_of_length_le (by simp)]; rfl
theorem logTo_all (l : List Commit) (n : Nat) : logTo l n 0 = logL l n := rfl
theorem logTo_next {l : List Commit} {n k : Nat} (hk : k < l.length) : logTo l n k = logTo l n (k + 1) ++ (if ab l n k = true then [(k : Int)] else []) := by
  rw [logTo, List.drop_eq_getElem_cons (by simpa using hk), List.getElem_range, List.filter_cons, logTo]
  by_cases h : ab l n k = true
  · rw [if_pos h, if_pos h, List.map_cons, List.reverse_cons]; rfl
  · rw [if_neg h, if_neg h, List.append_nil]
theorem logTo_len (l : List Commit) (n k : Nat) : (logTo l n k).length ≤ l.length := by
  rw [logTo, List.length_reverse, List.length_map]
  refine Nat.le_trans (List.length_filter_le _ _) ?_
  rw [List.length_drop, List.length_range]; omega
set_option maxHeartbeats 2000000 in
theorem refLogOf (v : Value) (r : Repo) (key : ByteArray) (S : Blk) (w : World) (h : Rp w S v r) :
    Calls Tryz.prog 42 #[v, .string key] w (Ret w fun x w' => ∃ y, x = .tuple #[y, .int .i64 (logP r key).2] ∧ Sl tInt w' (fun k => w.heap.size ≤ k) y (logP r key).1) := by
  have hR := h
  obtain ⟨cs, hs⟩ := r
  obtain ⟨vc, vh, rfl, hc, hh⟩ := h
  obtain ⟨ac, cc, rfl, _, _, _⟩ := hc.shape
  obtain ⟨ah, ch, rfl, _, _, _⟩ := hh.shape
  simp only at hc hh
  obtain ⟨wA, hwA⟩ : ∃ wA, wA = w.alloc (.cells #[.slice ac cs.length cc, .slice ah hs.length ch] 33) := ⟨_, rfl⟩
  have bA : Below w.heap.size w wA := by rw [hwA]; exact (Below.refl _ _).alloc (Nat.le_refl _) _
  have sA : wA.heap.size = w.heap.size + 1 := by rw [hwA]; simp
  have k0 : wA.cell? ⟨w.heap.size, 0, none⟩ = some (.slice ac cs.length cc) := by rw [hwA]; simp
  have k1 : wA.cell? ⟨w.heap.size, 1, none⟩ = some (.slice ah hs.length ch) := by rw [hwA]; simp
  have HWA := keepBack hwA
  clear hwA
  by_cases h0 : (headP (cs, hs) key).2 = 0
  · obtain ⟨he, n, hn, hP, _⟩ := headP_at h0
    have hok := dag_ok (repo_ok he).1
    have HP := keepBack (logP_is hP)
    have hl14 := hok.1
    simp only at hn hl14
    clear h0
    go_enter Tryz.func42, Tryz.ntmps42
    go_wp2_with fail
    rw [← HWA.out]
    refine (refHeadOf_of _ (cs, hs) key _ wA (hR.call bA) hP).mono ?_; rintro e w1 ⟨_, rfl, rfl, b1⟩
    have s1 := b1.size
    have r0 := (b1.cell (p := ⟨w.heap.size, 0, none⟩) (by simp; omega)).trans k0
    have b01 := bA.trans (b1.mono (by omega))
    have hc1 := (hc.call bA).call b1
    clear k0 k1
    go_wp2_with fail
    refine (refAboveOf hok n hn _ _ w1 hc1).mono ?_; rintro e w2 ⟨_, rfl, ⟨gx, x1, x2, rfl, X, hX, fX⟩, b2⟩
    have s2 := b2.size
    have FX := keepBack fX
    clear fX
    go_wp2_with fail
    go_loopw [9, 10] (fun out i wr => ∃ (k : Nat) (L : List Int), k ≤ cs.length ∧ i = .int .i64 ((k : Int) - 1) ∧ Below w2.heap.size w2 wr ∧ Own tInt 3 wr w2.heap.size (fun _ => False) out L ∧ Hid (L = logTo cs n k)) (fun _ i _ => match i with
      | .int _ z => (z + 1).toNat
      | _ => 0)
    case atStart => exact ⟨cs.length, [], Nat.le_refl _, by go_num, Below.refl _ _, .nil, keepBack (logTo_top cs n).symm⟩
    case round =>
      obtain ⟨k, L, hk, rfl, hb, ho, HL⟩ := hrel
      have hs' := hb.size
      rcases Nat.eq_zero_or_pos k with hk0 | hk0
      · subst hk0
        have HE : Hid (L = logL cs n) := keepBack (by rw [HL.out, logTo_all])
        obtain ⟨ag, cg, rfl, _, _⟩ := ho.shape
        go_wp2_with fail
        go_ret2
        refine ⟨_, rfl, ⟨_, by rw [HP.out]; rfl, ?_⟩, b01.trans ((b2.mono (by omega)).trans (hb.mono (by omega)))⟩
        rw [HP.out]
        have hx := ho.sl (D := fun k => w.heap.size ≤ k) (fun _ h => h.elim) (fun k hk => by omega)
        rw [HE.out] at hx
        rw [HE.out]
        exact hx
      · obtain ⟨m, rfl⟩ : ∃ m, k = m + 1 := ⟨k - 1, by omega⟩
        have hm : m < cs.length := by omega
        have hmm : ((m + 1 : Nat) : Int) - 1 = (m : Int) := by omega
        rw [hmm]
        have HN := keepBack (logTo_next (n := n) hm)
        have hlen := logTo_len cs n (m + 1)
        have hixx := idxBools gx cs.length m hm
        have hcx := ((hX.call hb) m _ (FX.out.2 m hm)).1
        have hm0 : (0 : Int) ≤ m := by omega
        cases hab : ab cs n m with
        | true =>
          rw [hab] at hcx
          have HL2 : Hid (L ++ [(m : Int)] = logTo cs n m) := keepBack (by rw [HN.out, if_pos hab, HL.out])
          have hLl : L.length ≤ 14 := by rw [HL.out]; omega
          obtain ⟨ag, cg, rfl, _, _⟩ := ho.shape
          have hobl := ho.block
          have hone : Src tInt (wr.alloc (.cells #[.int .i64 m] 3)) (fun _ => False) (some ⟨wr.heap.size, 0, none⟩) [(m : Int)] := Src.one (E := tInt) (cs := [.int .i64 m]) ⟨rfl, by unfold i64ok; omega⟩ _
          clear hk0 hmm hlen
          go_wp2_with (at_builtin; refine wpList_grow rfl (.tmp 35) (.tmp 37) rfl aInt rfl (ho.alloc _) rfl rfl hone (by simp) (fun _ h => h.elim) (by simp; omega) (by simp; omega) ?_)
          intro v3 w3 ho3 hg3
          have hb3 : Below w2.heap.size w2 w3 := (hb.alloc (by omega) _).grown hg3 (by simp; omega) (fun g hg => (hobl g hg).1)
          go_wp2
          go_roundw
          case rel => exact ⟨m, _, by omega, by go_num, hb3, ho3, HL2⟩
          case measure => simp
        | false =>
          rw [hab] at hcx
          have HL2 : Hid (L = logTo cs n m) := keepBack (by rw [HN.out, if_neg (by simp [hab]), List.append_nil, HL.out])
          clear hk0 hmm hlen
          go_wp2_with fail
          go_roundw
          case rel => exact ⟨m, L, by omega, by go_num, hb, ho, HL2⟩
          case measure => simp
  · have HP := keepBack (logP_no h0)
    have hq : ((headP (cs, hs) key).2 != 0) = true := by simp [h0]
    go_enter Tryz.func42, Tryz.ntmps42
    go_wp2_with fail
    rw [← HWA.out]
    refine (refHeadOf _ (cs, hs) key _ wA (hR.call bA)).mono ?_; rintro e w1 ⟨_, rfl, rfl, b1⟩
    go_wp2_with fail
    go_ret2
    exact ⟨_, rfl, ⟨_, by rw [HP.out]; rfl, by rw [HP.out]; exact Sl.nil _ _ _⟩, bA.trans (b1.mono (by omega))⟩
end Go.Pch
end
