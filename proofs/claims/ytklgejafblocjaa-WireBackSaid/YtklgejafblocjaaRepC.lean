/- The walks of repo.Head and Log. -/
import Derived.Test.YtklgejafblocjaaRepB
import Derived.Test.YtklgejafblocjaaRevI
namespace Go.Pch
open Go.RowKit Go.Proofs
set_option maxRecDepth 100000

theorem Rp.keep {w w' : World} {S : Blk} {v : Value} {r : Repo} (h : Rp w S v r) (hk : ∀ k, S k → k < w.heap.size → w'.heap[k]? = w.heap[k]?) : Rp w' S v r := by
  obtain ⟨vc, vh, rfl, hc, hh⟩ := h
  exact ⟨vc, vh, rfl, hc.keep hk, hh.keep hk⟩
theorem Rp.call {w w' : World} {S : Blk} {v : Value} {r : Repo} (h : Rp w S v r) (hb : Below w.heap.size w w') : Rp w' S v r := by
  obtain ⟨vc, vh, rfl, hc, hh⟩ := h
  exact ⟨vc, vh, rfl, hc.call hb, hh.call hb⟩
theorem repo_ok {r : Repo} (h : repoErr r = 0) : commitsErr r.1 = 0 ∧ r.2.length ≤ 4 ∧ (r.2.any fun h => !nameB h.1) = false ∧ headsRise r.1.length [] r.2 = true := by
  unfold repoErr at h
  by_cases h1 : commitsErr r.1 = 0
  · rw [if_neg (by simp [h1])] at h
    by_cases h2 : 4 < r.2.length
    · rw [if_pos h2] at h; cases h
    · rw [if_neg h2] at h
      cases h3 : r.2.any fun h => !nameB h.1 with
      | true => rw [h3] at h; simp at h
      | false =>
        rw [h3] at h
        cases h4 : headsRise r.1.length [] r.2 with
        | true => exact ⟨h1, by omega, rfl, rfl⟩
        | false => rw [h4] at h; simp at h
  · rw [if_pos h1] at h
    exact absurd h h1
theorem headP_bad {r : Repo} {s : ByteArray} (h : repoErr r ≠ 0) : headP r s = (0, repoErr r) := by rw [headP, if_neg h]
theorem headP_none {r : Repo} {s : ByteArray} (h : repoErr r = 0) (hs : hdHas r.2 s = false) : headP r s = (0, 5) := by
  rw [headP, if_pos h, headK_seek (repo_ok h).2.2.2, hs]; rfl
theorem headP_is {r : Repo} {s : ByteArray} (h : repoErr r = 0) (hs : hdHas r.2 s = true) : ∃ x, r.2[hdN r.2 s]? = some x ∧ headP r s = (x.2, 0) ∧ x.1.toList = s.toList := by
  have hk := headK_seek (repo_ok h).2.2.2 s
  rw [hs, if_pos rfl] at hk
  have h2 := hs
  unfold hdHas at h2
  cases hx : r.2[hdN r.2 s]? with
  | none => rw [hx] at h2; cases h2
  | some x =>
    rw [hx] at h2
    refine ⟨x, rfl, ?_, by simpa using h2⟩
    rw [headP, if_pos h, hk]
    simp only [hx, Option.getD_some]

theorem repoCheck_of {c : Int} (v : Value) (r : Repo) (S : Blk) (w : World) (h : Rp w S v r) (hc : repoErr r = c) : Calls Try.prog 32 #[v] w (Ret w fun x _ => x = .int .i64 c) := hc ▸ repoCheck v r S w h

set_option maxHeartbeats 2000000 in
theorem repoHead (v : Value) (r : Repo) (key : ByteArray) (S : Blk) (w : World) (h : Rp w S v r) :
    Calls Try.prog 27 #[v, .string key] w (Ret w fun x _ => x = .tuple #[.int .i64 (headP r key).1, .int .i64 (headP r key).2]) := by
  have hR := h
  obtain ⟨cs, hs⟩ := r
  obtain ⟨vc, vh, rfl, hc, hh⟩ := h
  obtain ⟨ac, cc, rfl, _, _, _⟩ := hc.shape
  obtain ⟨ah, ch, rfl, _, _, _⟩ := hh.shape
  simp only at hc hh
  obtain ⟨wA, hwA⟩ : ∃ wA, wA = w.alloc (.cells #[.slice ac cs.length cc, .slice ah hs.length ch] 43) := ⟨_, rfl⟩
  have bA : Below w.heap.size w wA := by rw [hwA]; exact (Below.refl _ _).alloc (Nat.le_refl _) _
  have sA : wA.heap.size = w.heap.size + 1 := by rw [hwA]; simp
  have k0 : wA.cell? ⟨w.heap.size, 0, none⟩ = some (.slice ac cs.length cc) := by rw [hwA]; simp
  have k1 : wA.cell? ⟨w.heap.size, 1, none⟩ = some (.slice ah hs.length ch) := by rw [hwA]; simp
  have HWA := keepBack hwA
  clear hwA
  by_cases he : repoErr (cs, hs) = 0
  · have hok := repo_ok he
    cases hb : hdHas hs key with
    | true =>
      obtain ⟨x, hx, hP, _⟩ := headP_is (s := key) he hb
      have HP := keepBack hP
      clear hP
      go_enter Try.func27, Try.ntmps27
      go_wp2_with fail
      rw [← HWA.out]
      refine (repoCheck_of _ (cs, hs) _ wA (hR.call bA) he).mono ?_; rintro e w1 ⟨_, rfl, rfl, b1⟩
      have s1 := b1.size
      have r0 := (b1.cell (p := ⟨w.heap.size, 0, none⟩) (by simp; omega)).trans k0
      have r1 := (b1.cell (p := ⟨w.heap.size, 1, none⟩) (by simp; omega)).trans k1
      go_wp2_with fail
      refine (repoWhere _ (cs, hs) key _ w1 ((hR.call bA).call b1) hok.2.2.2 (by show hs.length ≤ 1000000; have := hok.2.1; omega)).mono ?_; rintro e w2 ⟨_, rfl, rfl, b2⟩
      have s2 := b2.size
      have b02 := (bA.trans (b1.mono (by omega))).trans (b2.mono (by omega))
      have q0 := (b2.cell (p := ⟨w.heap.size, 0, none⟩) (by simp; omega)).trans r0
      have q1 := (b2.cell (p := ⟨w.heap.size, 1, none⟩) (by simp; omega)).trans r1
      obtain ⟨b, o, hix, _, hbs, ok1, ok2, hc0, hc1⟩ := (((hh.call bA).call b1).call b2).idxHeadAt aHead (hdN hs key) (hdN hs key) x rfl hx
      have hbb : ((hdN hs key : Nat) : Int) < hs.length := by have := (List.getElem?_eq_some_iff.1 hx).1; omega
      clear k0 k1 r0 r1
      simp only at hb ⊢
      rw [hb]
      generalize hdN hs key = kk at *
      go_wp2_with fail
      go_ret2
      exact ⟨_, rfl, by rw [HP.out]; rfl, b02⟩
    | false =>
      have HP := keepBack (headP_none (s := key) he hb)
      go_enter Try.func27, Try.ntmps27
      go_wp2_with fail
      rw [← HWA.out]
      refine (repoCheck_of _ (cs, hs) _ wA (hR.call bA) he).mono ?_; rintro e w1 ⟨_, rfl, rfl, b1⟩
      have s1 := b1.size
      have r0 := (b1.cell (p := ⟨w.heap.size, 0, none⟩) (by simp; omega)).trans k0
      have r1 := (b1.cell (p := ⟨w.heap.size, 1, none⟩) (by simp; omega)).trans k1
      go_wp2_with fail
      refine (repoWhere _ (cs, hs) key _ w1 ((hR.call bA).call b1) hok.2.2.2 (by show hs.length ≤ 1000000; have := hok.2.1; omega)).mono ?_; rintro e w2 ⟨_, rfl, rfl, b2⟩
      simp only at hb ⊢
      rw [hb]
      go_wp2_with fail
      go_ret2
      exact ⟨_, rfl, by rw [HP.out]; rfl, (bA.trans (b1.mono (by omega))).trans (b2.mono (by omega))⟩
  · have HP := keepBack (headP_bad (s := key) he)
    have hq : (repoErr (cs, hs) != 0) = true := by simp [he]
    go_enter Try.func27, Try.ntmps27
    go_wp2_with fail
    rw [← HWA.out]
    refine (repoCheck _ (cs, hs) _ wA (hR.call bA)).mono ?_; rintro e w1 ⟨_, rfl, rfl, b1⟩
    go_wp2_with fail
    go_ret2
    exact ⟨_, rfl, by rw [HP.out]; rfl, bA.trans (b1.mono (by omega))⟩

theorem dagOver {l : List Commit} (hok : DagOk l) (a b : Nat) (ha : a < l.length) (hb : b < l.length) (v : Value) (S : Blk) (w : World) (h : Sl tCommit w S v l) :
    Calls Try.prog 62 #[v, .int .i64 a, .int .i64 b] w (Quiet w (.bool (ab l b a))) := by
  have hlt := ofL_lt hok hb
  have hbit := ofL_bit l b a
  have hl := hok.1
  go_enter Try.func62, Try.ntmps62
  go_wp2_with fail
  refine (dagOf_of hok b hb v S w h).mono ?_; rintro e w1 ⟨rfl, d1⟩
  generalize ofL l b = m at *
  go_wp2_with fail
  refine (dagHas m a hlt (by omega) w1).mono ?_; rintro e w2 ⟨rfl, rfl⟩
  go_wp2
  go_ret
  exact ⟨rfl, d1⟩
theorem dagOver_of {c : Bool} {l : List Commit} (hok : DagOk l) (a b : Nat) (ha : a < l.length) (hb : b < l.length) (v : Value) (S : Blk) (w : World) (h : Sl tCommit w S v l) (hc : ab l b a = c) :
    Calls Try.prog 62 #[v, .int .i64 a, .int .i64 b] w (Quiet w (.bool c)) := hc ▸ dagOver hok a b ha hb v S w h

theorem headP_at {r : Repo} {s : ByteArray} (h : (headP r s).2 = 0) : repoErr r = 0 ∧ ∃ n : Nat, n < r.1.length ∧ headP r s = ((n : Int), 0) ∧ ∃ x, r.2[hdN r.2 s]? = some x ∧ x.2 = n ∧ hdHas r.2 s = true := by
  by_cases he : repoErr r = 0
  · cases hb : hdHas r.2 s with
    | false => rw [headP_none he hb] at h; cases h
    | true =>
      obtain ⟨x, hx, hP, _⟩ := headP_is he hb
      have := heads_all (repo_ok he).2.2.2 x (List.mem_of_getElem? hx)
      exact ⟨he, x.2.toNat, by omega, by rw [hP]; congr 1; omega, x, hx, by omega, rfl⟩
  · rw [headP_bad he] at h
    exact absurd h he
theorem logP_is {r : Repo} {s : ByteArray} {n : Nat} (h : headP r s = ((n : Int), 0)) : logP r s = (logL r.1 n, 0) := by rw [logP, h]; simp
theorem logP_no {r : Repo} {s : ByteArray} (h : (headP r s).2 ≠ 0) : logP r s = ([], (headP r s).2) := by rw [logP, if_neg h]
theorem repoHead_of {c : Int × Int} (v : Value) (r : Repo) (key : ByteArray) (S : Blk) (w : World) (h : Rp w S v r) (hc : headP r key = c) :
    Calls Try.prog 27 #[v, .string key] w (Ret w fun x _ => x = .tuple #[.int .i64 c.1, .int .i64 c.2]) := hc ▸ repoHead v r key S w h

theorem fil_next {f : Nat → Bool} {k : Nat} : ((List.range (k + 1)).filter f).map Int.ofNat = ((List.range k).filter f).map Int.ofNat ++ (if f k = true then [(k : Int)] else []) := by
  rw [List.range_succ, List.filter_append, List.map_append]
  congr 1
  by_cases h : f k = true
  · rw [if_pos h]; simp [h]
  · rw [if_neg h]; simp [h]

set_option maxHeartbeats 2000000 in
theorem repoLog (v : Value) (r : Repo) (key : ByteArray) (S : Blk) (w : World) (h : Rp w S v r) :
    Calls Try.prog 28 #[v, .string key] w (Ret w fun x w' => ∃ y, x = .tuple #[y, .int .i64 (logP r key).2] ∧ Sl tInt w' (fun k => w.heap.size ≤ k) y (logP r key).1) := by
  have hR := h
  obtain ⟨cs, hs⟩ := r
  obtain ⟨vc, vh, rfl, hc, hh⟩ := h
  obtain ⟨ac, cc, rfl, _, _, _⟩ := hc.shape
  obtain ⟨ah, ch, rfl, _, _, _⟩ := hh.shape
  simp only at hc hh
  obtain ⟨wA, hwA⟩ : ∃ wA, wA = w.alloc (.cells #[.slice ac cs.length cc, .slice ah hs.length ch] 43) := ⟨_, rfl⟩
  have bA : Below w.heap.size w wA := by rw [hwA]; exact (Below.refl _ _).alloc (Nat.le_refl _) _
  have sA : wA.heap.size = w.heap.size + 1 := by rw [hwA]; simp
  have k0 : wA.cell? ⟨w.heap.size, 0, none⟩ = some (.slice ac cs.length cc) := by rw [hwA]; simp
  have k1 : wA.cell? ⟨w.heap.size, 1, none⟩ = some (.slice ah hs.length ch) := by rw [hwA]; simp
  have HWA := keepBack hwA
  clear hwA
  by_cases h0 : (headP (cs, hs) key).2 = 0
  · obtain ⟨he, n, hn, hP, _⟩ := headP_at h0
    have hok := dag_ok (repo_ok he).1
    have HP := keepBack (logP_is hP)
    have hl14 := hok.1
    simp only at hn hl14
    clear h0
    go_enter Try.func28, Try.ntmps28
    go_wp2_with fail
    rw [← HWA.out]
    refine (repoHead_of _ (cs, hs) key _ wA (hR.call bA) hP).mono ?_; rintro e w1 ⟨_, rfl, rfl, b1⟩
    have s1 := b1.size
    have r0 := (b1.cell (p := ⟨w.heap.size, 0, none⟩) (by simp; omega)).trans k0
    have b01 := bA.trans (b1.mono (by omega))
    have hc1 := (hc.call bA).call b1
    clear k0 k1
    go_wp2_with fail
    go_loopw [8, 22] (fun out i wr => ∃ (k : Nat) (L : List Int), k ≤ cs.length ∧ i = .int .i64 k ∧ Below w1.heap.size w1 wr ∧ Own tInt 3 wr w1.heap.size (fun _ => False) out L ∧ Hid (L = ((List.range k).filter (ab cs n)).map Int.ofNat) ∧ L.length ≤ k) (fun _ i _ => cs.length - (intOf i).toNat)
    case atStart => exact ⟨0, [], Nat.zero_le _, rfl, Below.refl _ _, .nil, keepBack rfl, Nat.le_refl _⟩
    case round =>
      obtain ⟨k, L, hk, rfl, hb, ho, HL, hLl⟩ := hrel
      have hs' := hb.size
      have z0 := (hb.cell (p := ⟨w.heap.size, 0, none⟩) (by simp; omega)).trans r0
      have hcr := hc1.call hb
      by_cases hlt : k < cs.length
      · cases hab : ab cs n k with
        | true =>
          have HN : Hid (L ++ [(k : Int)] = ((List.range (k + 1)).filter (ab cs n)).map Int.ofNat) := keepBack (by rw [fil_next, if_pos hab, HL.out])
          obtain ⟨ag, cg, rfl, _, _⟩ := ho.shape
          go_wp2_with fail
          refine (dagOver_of hok k n hlt hn _ _ wr hcr hab).mono ?_; rintro e w2 ⟨rfl, d2⟩
          have ho2 := ho.call d2.below
          have hs2 := d2.below.size
          have hobl := ho2.block
          have hone : Src tInt (w2.alloc (.cells #[.int .i64 k] 3)) (fun _ => False) (some ⟨w2.heap.size, 0, none⟩) [(k : Int)] := Src.one (E := tInt) (cs := [.int .i64 k]) ⟨rfl, by unfold i64ok; omega⟩ _
          go_wp2_with (at_builtin; refine wpList_grow rfl (.tmp 30) (.tmp 32) rfl aInt rfl (ho2.alloc _) rfl rfl hone (by simp) (fun _ h => h.elim) (by simp; omega) (by simp; omega) ?_)
          intro v3 w3 ho3 hg3
          have hb3 : Below w1.heap.size w1 w3 := ((hb.trans (d2.below.mono hs')).alloc (by omega) _).grown hg3 (by simp; omega) (fun g hg => (hobl g hg).1)
          go_wp2
          go_roundw
          case rel => exact ⟨k + 1, _, by omega, by go_num, hb3, ho3, HN, by simp; omega⟩
          case measure => simp [intOf]; omega
        | false =>
          have HN : Hid (L = ((List.range (k + 1)).filter (ab cs n)).map Int.ofNat) := keepBack (by rw [fil_next, if_neg (by simp [hab]), List.append_nil, HL.out])
          go_wp2_with (go_at_call 62; refine (dagOver_of hok k n hlt hn _ _ wr hcr hab).mono ?_; rintro e w2 ⟨rfl, d2⟩)
          go_roundw
          case rel => exact ⟨k + 1, L, by omega, by go_num, hb.trans (d2.below.mono hs'), ho.call d2.below, HN, by omega⟩
          case measure => simp [intOf]; omega
      · obtain rfl : k = cs.length := by omega
        have hpos : 0 < L.length := by
          rw [HL.out, List.length_map, List.length_pos_iff]
          exact List.ne_nil_of_mem (List.mem_filter.2 ⟨List.mem_range.2 hn, ab_self hok n⟩)
        have HE : Hid (L.reverse = logL cs n) := keepBack (by rw [HL.out]; rfl)
        obtain ⟨ag, cg, rfl, _, _⟩ := ho.shape
        have hobl := ho.block
        go_wp2_with fail
        refine (ownRev ho hpos (by omega)).mono ?_; rintro e w2 ⟨rfl, ho2, hg2⟩
        have hb2 : Below w1.heap.size w1 w2 := hb.grown hg2 hs' (fun g hg => (hobl g hg).1)
        go_wp2
        go_ret2
        have hx := ho2.sl (D := fun k => w.heap.size ≤ k) (fun _ h => h.elim) (fun k hk => by omega)
        rw [HE.out] at hx
        exact ⟨_, rfl, ⟨_, by rw [HP.out]; rfl, by rw [HP.out]; exact hx⟩, b01.trans (hb2.mono (by omega))⟩
  · have HP := keepBack (logP_no h0)
    have hq : ((headP (cs, hs) key).2 != 0) = true := by simp [h0]
    go_enter Try.func28, Try.ntmps28
    go_wp2_with fail
    rw [← HWA.out]
    refine (repoHead _ (cs, hs) key _ wA (hR.call bA)).mono ?_; rintro e w1 ⟨_, rfl, rfl, b1⟩
    go_wp2_with fail
    go_ret2
    exact ⟨_, rfl, ⟨_, by rw [HP.out]; rfl, by rw [HP.out]; exact Sl.nil _ _ _⟩, bA.trans (b1.mono (by omega))⟩

end Go.Pch
