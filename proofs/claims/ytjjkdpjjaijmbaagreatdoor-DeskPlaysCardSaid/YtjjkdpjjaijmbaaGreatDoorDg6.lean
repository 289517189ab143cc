/- The walks of repo.Head and Log. Plain words of chapter 1: where a key stands in right rows, and putting it there; no program is named here. Plain words of chapters 6 and 7: changes, differences, patches, merges of rows; no program is named here. -/
import Derived.Test.YtjjkdpjjaijmbaaGreatDoorDg4
import Derived.Test.YtjjkdpjjaijmbaaGreatDoorDg5
import Derived.Test.YtjjkdpjjaijmbaaGreatDoorDg1
section
namespace Go.Pch
open Go.RowKit Go.Proofs
set_option maxRecDepth 100000
theorem Rp.keep {w w' : World} {S : Blk} {v : Value} {r : Repo} (h : Rp w S v r) (hk : ∀ k, S k → k < w.heap.size → w'.heap[k]? = w.heap[k]?) : Rp w' S v r := by
  obtain ⟨vc, vh, rfl, hc, hh⟩ := h
  exact ⟨vc, vh, rfl, hc.keep hk, hh.keep hk⟩
theorem Rp.call {w w' : World} {S : Blk} {v : Value} {r : Repo} (h : Rp w S v r) (hb : Below w.heap.size w w') : Rp w' S v r := by
  obtain ⟨vc, vh, rfl, hc, hh⟩ := h
  exact ⟨vc, vh, rfl, hc.call hb, hh.call hb⟩
theorem repo_ok {r : Repo} (h : repoErr r = 0) : commitsErr r.1 = 0 ∧ r.2.length ≤ 4 ∧ (r.2.any fun h => !nameB h.1) = false ∧ headsRise r.1.length [] r.2 = true := by
  unfold repoErr at h
  by_cases h1 : commitsErr r.1 = 0
  · rw [if_neg (by simp [h1])] at h
    by_cases h2 : 4 < r.2.length
    · rw [if_pos h2] at h; cases h
    · rw [if_neg h2] at h
      cases h3 : r.2.any fun h => !nameB h.1 with
      | true => rw [h3] at h; simp at h
      | false =>
        rw [h3] at h
        cases h4 : headsRise r.1.length [] r.2 with
        | true => exact ⟨h1, by omega, rfl, rfl⟩
        | false => rw [h4] at h; simp at h
  · rw [if_pos h1] at h
    exact absurd h h1
theorem headP_bad {r : Repo} {s : ByteArray} (h : repoErr r ≠ 0) : headP r s = (0, repoErr r) := by rw [headP, if_neg h]
theorem headP_none {r : Repo} {s : ByteArray} (h : repoErr r = 0) (hs : hdHas r.2 s = false) : headP r s = (0, 5) := by
  rw [headP, if_pos h, headK_seek (repo_ok h).2.2.2, hs]; rfl
theorem headP_is {r : Repo} {s : ByteArray} (h : repoErr r = 0) (hs : hdHas r.2 s = true) : ∃ x, r.2[hdN r.2 s]? = some x ∧ headP r s = (x.2, 0) ∧ x.1.toList = s.toList := by
  have hk := headK_seek (repo_ok h).2.2.2 s
  rw [hs, if_pos rfl] at hk
  have h2 := hs
  unfold hdHas at h2
  cases hx : r.2[hdN r.2 s]? with
  | none => rw [hx] at h2; cases h2
  | some x =>
    rw [hx] at h2
    refine ⟨x, rfl, ?_, by simpa using h2⟩
    rw [headP, if_pos h, hk]
    simp only [hx, Option.getD_some]
theorem repoCheck_of {c : Int} (v : Value) (r : Repo) (S : Blk) (w : World) (h : Rp w S v r) (hc : repoErr r = c) : Calls Tryz.prog 144 #[v] w (Ret w fun x _ => x = .int .i64 c) := hc ▸ repoCheck v r S w h
set_option maxHeartbeats 2000000 in
theorem repoHead (v : Value) (r : Repo) (key : ByteArray) (S : Blk) (w : World) (h : Rp w S v r) :
    Calls Tryz.prog 108 #[v, .string key] w (Ret w fun x _ => x = .tuple #[.int .i64 (headP r key).1, .int .i64 (headP r key).2]) := by
  have hR := h
  obtain ⟨cs, hs⟩ := r
  obtain ⟨vc, vh, rfl, hc, hh⟩ := h
  obtain ⟨ac, cc, rfl, _, _, _⟩ := hc.shape
  obtain ⟨ah, ch, rfl, _, _, _⟩ := hh.shape
  simp only at hc hh
  obtain ⟨wA, hwA⟩ : ∃ wA, wA = w.alloc (.cells #[.slice ac cs.length cc, .slice ah hs.length ch] 33) := ⟨_, rfl⟩
  have bA : Below w.heap.size w wA := by rw [hwA]; exact (Below.refl _ _).alloc (Nat.le_refl _) _
  have sA : wA.heap.size = w.heap.size + 1 := by rw [hwA]; simp
  have k0 : wA.cell? ⟨w.heap.size, 0, none⟩ = some (.slice ac cs.length cc) := by rw [hwA]; simp
  have k1 : wA.cell? ⟨w.heap.size, 1, none⟩ = some (.slice ah hs.length ch) := by rw [hwA]; simp
  have HWA := keepBack hwA
  clear hwA
  by_cases he : repoErr (cs, hs) = 0
  · have hok := repo_ok he
    cases hb : hdHas hs key with
    | true =>
      obtain ⟨x, hx, hP, _⟩ := headP_is (s := key) he hb
      have HP := keepBack hP
      clear hP
      go_enter Tryz.func108, Tryz.ntmps108
      go_wp2_with fail
      rw [← HWA.out]
      refine (repoCheck_of _ (cs, hs) _ wA (hR.call bA) he).mono ?_; rintro e w1 ⟨_, rfl, rfl, b1⟩
      have s1 := b1.size
      have r0 := (b1.cell (p := ⟨w.heap.size, 0, none⟩) (by simp; omega)).trans k0
      have r1 := (b1.cell (p := ⟨w.heap.size, 1, none⟩) (by simp; omega)).trans k1
      go_wp2_with fail
      refine (repoWhere _ (cs, hs) key _ w1 ((hR.call bA).call b1) hok.2.2.2 (by show hs.length ≤ 1000000; have := hok.2.1; omega)).mono ?_; rintro e w2 ⟨_, rfl, rfl, b2⟩
      have s2 := b2.size
      have b02 := (bA.trans (b1.mono (by omega))).trans (b2.mono (by omega))
      have q0 := (b2.cell (p := ⟨w.heap.size, 0, none⟩) (by simp; omega)).trans r0
      have q1 := (b2.cell (p := ⟨w.heap.size, 1, none⟩) (by simp; omega)).trans r1
      obtain ⟨b, o, hix, _, hbs, ok1, ok2, hc0, hc1⟩ := (((hh.call bA).call b1).call b2).idxHeadAt aHead (hdN hs key) (hdN hs key) x rfl hx
      have hbb : ((hdN hs key : Nat) : Int) < hs.length := by have := (List.getElem?_eq_some_iff.1 hx).1; omega
      clear k0 k1 r0 r1
      simp only at hb ⊢
      rw [hb]
      generalize hdN hs key = kk at *
      go_wp2_with fail
      go_ret2
      exact ⟨_, rfl, by rw [HP.out]; rfl, b02⟩
    | false =>
      have HP := keepBack (headP_none (s := key) he hb)
      go_enter Tryz.func108, Tryz.ntmps108
      go_wp2_with fail
      rw [← HWA.out]
      refine (repoCheck_of _ (cs, hs) _ wA (hR.call bA) he).mono ?_; rintro e w1 ⟨_, rfl, rfl, b1⟩
      have s1 := b1.size
      have r0 := (b1.cell (p := ⟨w.heap.size, 0, none⟩) (by simp; omega)).trans k0
      have r1 := (b1.cell (p := ⟨w.heap.size, 1, none⟩) (by simp; omega)).trans k1
      go_wp2_with fail
      refine (repoWhere _ (cs, hs) key _ w1 ((hR.call bA).call b1) hok.2.2.2 (by show hs.length ≤ 1000000; have := hok.2.1; omega)).mono ?_; rintro e w2 ⟨_, rfl, rfl, b2⟩
      simp only at hb ⊢
      rw [hb]
      go_wp2_with fail
      go_ret2
      exact ⟨_, rfl, by rw [HP.out]; rfl, (bA.trans (b1.mono (by omega))).trans (b2.mono (by omega))⟩
  · have HP := keepBack (headP_bad (s := key) he)
    have hq : (repoErr (cs, hs) != 0) = true := by simp [he]
    go_enter Tryz.func108, Tryz.ntmps108
    go_wp2_with fail
    rw [← HWA.out]
    refine (repoCheck _ (cs, hs) _ wA (hR.call bA)).mono ?_; rintro e w1 ⟨_, rfl, rfl, b1⟩
    go_wp2_with fail
    go_ret2
    exact ⟨_, rfl, by rw [HP.out]; rfl, bA.trans (b1.mono (by omega))⟩
theorem dagOver {l : List Commit} (hok : DagOk l) (a b : Nat) (ha : a < l.length) (hb : b < l.length) (v : Value) (S : Blk) (w : World) (h : Sl tCommit w S v l) :
    Calls Tryz.prog 112 #[v, .int .i64 a, .int .i64 b] w (Quiet w (.bool (ab l b a))) := by
  have hlt := ofL_lt hok hb
  have hbit := ofL_bit l b a
  have hl := hok.1
  go_enter Tryz.func112, Tryz.ntmps112
  go_wp2_with fail
  refine (dagOf_of hok b hb v S w h).mono ?_; rintro e w1 ⟨rfl, d1⟩
  generalize ofL l b = m at *
  go_wp2_with fail
  refine (dagHas m a hlt (by omega) w1).mono ?_; rintro e w2 ⟨rfl, rfl⟩
  go_wp2
  go_ret
  exact ⟨rfl, d1⟩
theorem dagOver_of {c : Bool} {l : List Commit} (hok : DagOk l) (a b : Nat) (ha : a < l.length) (hb : b < l.length) (v : Value) (S : Blk) (w : World) (h : Sl tCommit w S v l) (hc : ab l b a = c) :
    Calls Tryz.prog 112 #[v, .int .i64 a, .int .i64 b] w (Quiet w (.bool c)) := hc ▸ dagOver hok a b ha hb v S w h
theorem headP_at {r : Repo} {s : ByteArray} (h : (headP r s).2 = 0) : repoErr r = 0 ∧ ∃ n : Nat, n < r.1.length ∧ headP r s = ((n : Int), 0) ∧ ∃ x, r.2[hdN r.2 s]? = some x ∧ x.2 = n ∧ hdHas r.2 s = true := by
  by_cases he : repoErr r = 0
  · cases hb : hdHas r.2 s with
    | false => rw [headP_none he hb] at h; cases h
    | true =>
      obtain ⟨x, hx, hP, _⟩ := headP_is he hb
      have := heads_all (repo_ok he).2.2.2 x (List.mem_of_getElem? hx)
      exact ⟨he, x.2.toNat, by omega, by rw [hP]; congr 1; omega, x, hx, by omega, rfl⟩
  · rw [headP_bad he] at h
    exact absurd h he
theorem logP_is {r : Repo} {s : ByteArray} {n : Nat} (h : headP r s = ((n : Int), 0)) : logP r s = (logL r.1 n, 0) := by rw [logP, h]; simp
theorem logP_no {r : Repo} {s : ByteArray} (h : (headP r s).2 ≠ 0) : logP r s = ([], (headP r s).2) := by rw [logP, if_neg h]
theorem repoHead_of {c : Int × Int} (v : Value) (r : Repo) (key : ByteArray) (S : Blk) (w : World) (h : Rp w S v r) (hc : headP r key = c) :
    Calls Tryz.prog 108 #[v, .string key] w (Ret w fun x _ => x = .tuple #[.int .i64 c.1, .int .i64 c.2]) := hc ▸ repoHead v r key S w h
theorem fil_next {f : Nat → Bool} {k : Nat} : ((List.range (k + 1)).filter f).map Int.ofNat = ((List.range k).filter f).map Int.ofNat ++ (if f k = true then [(k : Int)] else []) := by
  rw [List.range_succ, List.filter_append, List.map_append]
  congr 1
  by_cases h : f k = true
  · rw [if_pos h]; simp [h]
  · rw [if_neg h]; simp [h]
set_option maxHeartbeats 2000000 in
theorem repoLog (v : Value) (r : Repo) (key : ByteArray) (S : Blk) (w : World) (h : Rp w S v r) :
    Calls Tryz.prog 69 #[v, .string key] w (Ret w fun x w' => ∃ y, x = .tuple #[y, .int .i64 (logP r key).2] ∧ Sl tInt w' (fun k => w.heap.size ≤ k) y (logP r key).1) := by
  have hR := h
  obtain ⟨cs, hs⟩ := r
  obtain ⟨vc, vh, rfl, hc, hh⟩ := h
  obtain ⟨ac, cc, rfl, _, _, _⟩ := hc.shape
  obtain ⟨ah, ch, rfl, _, _, _⟩ := hh.shape
  simp only at hc hh
  obtain ⟨wA, hwA⟩ : ∃ wA, wA = w.alloc (.cells #[.slice ac cs.length cc, .slice ah hs.length ch] 33) := ⟨_, rfl⟩
  have bA : Below w.heap.size w wA := by rw [hwA]; exact (Below.refl _ _).alloc (Nat.le_refl _) _
  have sA : wA.heap.size = w.heap.size + 1 := by rw [hwA]; simp
  have k0 : wA.cell? ⟨w.heap.size, 0, none⟩ = some (.slice ac cs.length cc) := by rw [hwA]; simp
  have k1 : wA.cell? ⟨w.heap.size, 1, none⟩ = some (.slice ah hs.length ch) := by rw [hwA]; simp
  have HWA := keepBack hwA
  clear hwA
  by_cases h0 : (headP (cs, hs) key).2 = 0
  · obtain ⟨he, n, hn, hP, _⟩ := headP_at h0
    have hok := dag_ok (repo_ok he).1
    have HP := keepBack (logP_is hP)
    have hl14 := hok.1
    simp only at hn hl14
    clear h0
    go_enter Tryz.func69, Tryz.ntmps69
    go_wp2_with fail
    rw [← HWA.out]
    refine (repoHead_of _ (cs, hs) key _ wA (hR.call bA) hP).mono ?_; rintro e w1 ⟨_, rfl, rfl, b1⟩
    have s1 := b1.size
    have r0 := (b1.cell (p := ⟨w.heap.size, 0, none⟩) (by simp; omega)).trans k0
    have b01 := bA.trans (b1.mono (by omega))
    have hc1 := (hc.call bA).call b1
    clear k0 k1
    go_wp2_with fail
    go_loopw [8, 22] (fun out i wr => ∃ (k : Nat) (L : List Int), k ≤ cs.length ∧ i = .int .i64 k ∧ Below w1.heap.size w1 wr ∧ Own tInt 3 wr w1.heap.size (fun _ => False) out L ∧ Hid (L = ((List.range k).filter (ab cs n)).map Int.ofNat) ∧ L.length ≤ k) (fun _ i _ => cs.length - (intOf i).toNat)
    case atStart => exact ⟨0, [], Nat.zero_le _, rfl, Below.refl _ _, .nil, keepBack rfl, Nat.le_refl _⟩
    case round =>
      obtain ⟨k, L, hk, rfl, hb, ho, HL, hLl⟩ := hrel
      have hs' := hb.size
      have z0 := (hb.cell (p := ⟨w.heap.size, 0, none⟩) (by simp; omega)).trans r0
      have hcr := hc1.call hb
      by_cases hlt : k < cs.length
      · cases hab : ab cs n k with
        | true =>
          have HN : Hid (L ++ [(k : Int)] = ((List.range (k + 1)).filter (ab cs n)).map Int.ofNat) := keepBack (by rw [fil_next, if_pos hab, HL.out])
          obtain ⟨ag, cg, rfl, _, _⟩ := ho.shape
          go_wp2_with fail
          refine (dagOver_of hok k n hlt hn _ _ wr hcr hab).mono ?_; rintro e w2 ⟨rfl, d2⟩
          have ho2 := ho.call d2.below
          have hs2 := d2.below.size
          have hobl := ho2.block
          have hone : Src tInt (w2.alloc (.cells #[.int .i64 k] 3)) (fun _ => False) (some ⟨w2.heap.size, 0, none⟩) [(k : Int)] := Src.one (E := tInt) (cs := [.int .i64 k]) ⟨rfl, by unfold i64ok; omega⟩ _
          go_wp2_with (at_builtin; refine wpList_grow rfl (.tmp 30) (.tmp 32) rfl aInt rfl (ho2.alloc _) rfl rfl hone (by simp) (fun _ h => h.elim) (by simp; omega) (by simp; omega) ?_)
          intro v3 w3 ho3 hg3
          have hb3 : Below w1.heap.size w1 w3 := ((hb.trans (d2.below.mono hs')).alloc (by omega) _).grown hg3 (by simp; omega) (fun g hg => (hobl g hg).1)
          go_wp2
          go_roundw
          case rel => exact ⟨k + 1, _, by omega, by go_num, hb3, ho3, HN, by simp; omega⟩
          case measure => simp [intOf]; omega
        | false =>
          have HN : Hid (L = ((List.range (k + 1)).filter (ab cs n)).map Int.ofNat) := keepBack (by rw [fil_next, if_neg (by simp [hab]), List.append_nil, HL.out])
          go_wp2_with (go_at_call 112; refine (dagOver_of hok k n hlt hn _ _ wr hcr hab).mono ?_; rintro e w2 ⟨rfl, d2⟩)
          go_roundw
          case rel => exact ⟨k + 1, L, by omega, by go_num, hb.trans (d2.below.mono hs'), ho.call d2.below, HN, by omega⟩
          case measure => simp [intOf]; omega
      · obtain rfl : k = cs.length := by omega
        have hpos : 0 < L.length := by
          rw [HL.out, List.length_map, List.length_pos_iff]
          exact List.ne_nil_of_mem (List.mem_filter.2 ⟨List.mem_range.2 hn, ab_self hok n⟩)
        have HE : Hid (L.reverse = logL cs n) := keepBack (by rw [HL.out]; rfl)
        obtain ⟨ag, cg, rfl, _, _⟩ := ho.shape
        have hobl := ho.block
        go_wp2_with fail
        refine (ownRev ho hpos (by omega)).mono ?_; rintro e w2 ⟨rfl, ho2, hg2⟩
        have hb2 : Below w1.heap.size w1 w2 := hb.grown hg2 hs' (fun g hg => (hobl g hg).1)
        go_wp2
        go_ret2
        have hx := ho2.sl (D := fun k => w.heap.size ≤ k) (fun _ h => h.elim) (fun k hk => by omega)
        rw [HE.out] at hx
        exact ⟨_, rfl, ⟨_, by rw [HP.out]; rfl, by rw [HP.out]; exact hx⟩, b01.trans (hb2.mono (by omega))⟩
  · have HP := keepBack (logP_no h0)
    have hq : ((headP (cs, hs) key).2 != 0) = true := by simp [h0]
    go_enter Tryz.func69, Tryz.ntmps69
    go_wp2_with fail
    rw [← HWA.out]
    refine (repoHead _ (cs, hs) key _ wA (hR.call bA)).mono ?_; rintro e w1 ⟨_, rfl, rfl, b1⟩
    go_wp2_with fail
    go_ret2
    exact ⟨_, rfl, ⟨_, by rw [HP.out]; rfl, by rw [HP.out]; exact Sl.nil _ _ _⟩, bA.trans (b1.mono (by omega))⟩
end Go.Pch
end

section
namespace Go.Pch
def seekN : List Row → Int → Nat
  | [], _ => 0
  | r :: l, k => if r.1 < k then seekN l k + 1 else 0
def hasB (l : List Row) (k : Int) : Bool := match l[seekN l k]? with
  | some r => decide (r.1 = k)
  | none => false
theorem seekN_le : ∀ (l : List Row) (k : Int), seekN l k ≤ l.length
  | [], _ => Nat.le_refl _
  | r :: l, k => by
    rw [seekN]
    split
    · have := seekN_le l k
      simp only [List.length_cons]
      omega
    · omega
theorem seekN_low : ∀ (l : List Row) (k : Int) (i : Nat) (h : i < l.length), i < seekN l k → l[i].1 < k
  | [], _, i, h, _ => by simp at h
  | r :: l, k, i, h, hi => by
    rw [seekN] at hi
    split at hi
    · rename_i hr
      cases i with
      | zero => exact hr
      | succ i => exact seekN_low l k i (by simpa using h) (by omega)
    · omega
theorem rise_all {m : Int} : ∀ {l : List Row}, riseB m l = true → ∀ r ∈ l, m < r.1
  | [], _, r, hr => by cases hr
  | q :: l, h, r, hr => by
    rw [riseB_cons] at h
    rcases List.mem_cons.1 hr with rfl | hr
    · exact h.1.1
    · have := rise_all h.2 r hr; omega
theorem seekN_high : ∀ {m : Int} {l : List Row}, riseB m l = true → ∀ (k : Int) (i : Nat) (h : i < l.length), seekN l k ≤ i → k ≤ l[i].1
  | _, [], _, _, i, h, _ => by simp at h
  | m, r :: l, hr, k, i, h, hi => by
    rw [riseB_cons] at hr
    rw [seekN] at hi
    split at hi
    · cases i with
      | zero => omega
      | succ i => exact seekN_high hr.2 k i (by simpa using h) (by omega)
    · rename_i hk
      have := rise_all (m := r.1 - 1) (l := r :: l) (by rw [riseB_cons]; exact ⟨by omega, hr.2⟩) _ (List.getElem_mem h)
      omega
theorem rise_lt {m : Int} : ∀ {l : List Row}, riseB m l = true → ∀ {i j : Nat} (_ : i < j) (hj : j < l.length), l[i].1 < l[j].1
  | [], _, i, j, _, hj => by simp at hj
  | r :: l, h, i, j, hij, hj => by
    rw [riseB_cons] at h
    cases j with
    | zero => omega
    | succ j =>
      have hj' : j < l.length := by simpa using hj
      cases i with
      | zero => exact rise_all h.2 _ (List.getElem_mem hj')
      | succ i => exact rise_lt h.2 (by omega) hj'
theorem seekN_eq {m : Int} {l : List Row} (h : riseB m l = true) {k : Int} {i : Nat} (hi : i ≤ l.length) (h1 : ∀ (j : Nat) (hj : j < l.length), j < i → l[j].1 < k) (h2 : ∀ (j : Nat) (hj : j < l.length), i ≤ j → k ≤ l[j].1) : seekN l k = i := by
  have hn := seekN_le l k
  rcases Nat.lt_trichotomy (seekN l k) i with hlt | he | hgt
  · have a := h1 (seekN l k) (by omega) hlt
    have b := seekN_high h k (seekN l k) (by omega) (Nat.le_refl _)
    omega
  · exact he
  · have a := h2 i (by omega) (Nat.le_refl _)
    have b := seekN_low l k i (by omega) hgt
    omega
theorem valueOf_seek : ∀ {m : Int} {l : List Row}, riseB m l = true → ∀ (k : Int), valueOf l k = match l[seekN l k]? with | some r => if r.1 = k then r.2 else -1 | none => -1
  | _, [], _, k => rfl
  | m, r :: l, h, k => by
    rw [riseB_cons] at h
    rw [valueOf, seekN]
    by_cases h1 : r.1 = k
    · rw [if_pos h1, if_neg (by omega)]
      simp [h1]
    · rw [if_neg h1]
      by_cases h2 : r.1 < k
      · rw [if_pos h2, List.getElem?_cons_succ]
        exact valueOf_seek h.2 k
      · rw [if_neg h2, valueOf_low h.2 (by omega)]
        simp [h1]
theorem valueOf_has {m : Int} {l : List Row} (h : riseB m l = true) {k : Int} (hk : hasB l k = true) : ∃ r, l[seekN l k]? = some r ∧ r.1 = k ∧ valueOf l k = r.2 := by
  rw [valueOf_seek h k]
  unfold hasB at hk
  cases hl : l[seekN l k]? with
  | none => rw [hl] at hk; cases hk
  | some r =>
    rw [hl] at hk
    have hk' : r.1 = k := by simpa using hk
    exact ⟨r, rfl, hk', by simp [hk']⟩
theorem valueOf_hasnt {m : Int} {l : List Row} (h : riseB m l = true) {k : Int} (hk : hasB l k = false) : valueOf l k = -1 := by
  rw [valueOf_seek h k]
  unfold hasB at hk
  cases hl : l[seekN l k]? with
  | none => rfl
  | some r =>
    rw [hl] at hk
    have hk' : ¬ r.1 = k := by simpa using hk
    simp [hk']
def setL (l : List Row) (key val : Int) : List Row :=
  l.take (seekN l key) ++ ((if val = -1 then [] else [(key, val)]) ++ l.drop (seekN l key + if hasB l key then 1 else 0))
theorem setL_cons_lt {r : Row} {l : List Row} {key val : Int} (h : r.1 < key) : setL (r :: l) key val = r :: setL l key val := by
  unfold setL hasB
  rw [seekN, if_pos h]
  simp only [List.take_succ_cons, List.getElem?_cons_succ, List.cons_append]
  rw [show seekN l key + 1 + (if (match l[seekN l key]? with | some r => decide (r.1 = key) | none => false) = true then 1 else 0) = (seekN l key + (if (match l[seekN l key]? with | some r => decide (r.1 = key) | none => false) = true then 1 else 0)) + 1 by omega, List.drop_succ_cons]
theorem setL_cons_eq {r : Row} {l : List Row} {key val : Int} (h : r.1 = key) : setL (r :: l) key val = (if val = -1 then [] else [(key, val)]) ++ l := by
  unfold setL hasB
  rw [seekN, if_neg (by omega)]
  simp [h]
theorem setL_cons_gt {r : Row} {l : List Row} {key val : Int} (h : key < r.1) : setL (r :: l) key val = (if val = -1 then [] else [(key, val)]) ++ r :: l := by
  unfold setL hasB
  rw [seekN, if_neg (by omega)]
  simp [show ¬ r.1 = key by omega]
theorem setL_nil (key val : Int) : setL [] key val = if val = -1 then [] else [(key, val)] := by simp [setL]
theorem setL_rise : ∀ {m : Int} {l : List Row}, riseB m l = true → ∀ {key val : Int}, m < key → key ≤ 99 → -1 ≤ val → val ≤ 996 → riseB m (setL l key val) = true
  | m, [], _, key, val, h1, h2, h3, h4 => by
    rw [setL_nil]
    split
    · rfl
    · rw [riseB_cons]; exact ⟨⟨h1, h2, by show 0 ≤ val; omega, h4⟩, rfl⟩
  | m, r :: l, h, key, val, h1, h2, h3, h4 => by
    have h' := h
    rw [riseB_cons] at h
    rcases Int.lt_trichotomy r.1 key with hlt | heq | hgt
    · rw [setL_cons_lt hlt, riseB_cons]
      exact ⟨h.1, setL_rise h.2 hlt h2 h3 h4⟩
    · rw [setL_cons_eq heq]
      split
      · exact riseB_weaken h.2 (by omega)
      · rw [List.singleton_append, riseB_cons]
        exact ⟨⟨h1, h2, by show 0 ≤ val; omega, h4⟩, by show riseB key l = true; rw [← heq]; exact h.2⟩
    · rw [setL_cons_gt hgt]
      split
      · exact h'
      · rw [List.singleton_append, riseB_cons]
        refine ⟨⟨h1, h2, by show 0 ≤ val; omega, h4⟩, ?_⟩
        rw [riseB_cons]
        exact ⟨⟨hgt, h.1.2⟩, h.2⟩
theorem setL_value : ∀ {m : Int} {l : List Row}, riseB m l = true → ∀ (key val k : Int), valueOf (setL l key val) k = if k = key then val else valueOf l k
  | m, [], _, key, val, k => by
    rw [setL_nil]
    by_cases hv : val = -1
    · rw [if_pos hv, valueOf]
      split
      · exact hv.symm
      · rfl
    · rw [if_neg hv, valueOf, valueOf]
      by_cases hk : key = k
      · rw [if_pos hk, if_pos hk.symm]
      · rw [if_neg hk, if_neg (fun e => hk e.symm)]; rfl
  | m, r :: l, h, key, val, k => by
    rw [riseB_cons] at h
    rcases Int.lt_trichotomy r.1 key with hlt | heq | hgt
    · rw [setL_cons_lt hlt, valueOf, valueOf]
      by_cases hk : r.1 = k
      · rw [if_pos hk, if_pos hk, if_neg (by omega)]
      · rw [if_neg hk, if_neg hk]
        exact setL_value h.2 key val k
    · rw [setL_cons_eq heq]
      by_cases hv : val = -1
      · rw [if_pos hv, List.nil_append]
        by_cases hk : k = key
        · rw [if_pos hk, hv]; exact valueOf_low h.2 (by omega)
        · rw [if_neg hk, valueOf, if_neg (by omega)]
      · rw [if_neg hv, List.singleton_append, valueOf]
        by_cases hk : key = k
        · rw [if_pos hk, if_pos hk.symm]
        · rw [if_neg hk, if_neg (fun e => hk e.symm), valueOf, if_neg (by omega)]
    · rw [setL_cons_gt hgt]
      by_cases hv : val = -1
      · rw [if_pos hv, List.nil_append]
        by_cases hk : k = key
        · rw [if_pos hk, hv, valueOf, if_neg (by omega)]; exact valueOf_low h.2 (by omega)
        · rw [if_neg hk]
      · rw [if_neg hv, List.singleton_append, valueOf]
        by_cases hk : key = k
        · rw [if_pos hk, if_pos hk.symm]
        · rw [if_neg hk, if_neg (fun e => hk e.symm)]
theorem setL_len (l : List Row) (key val : Int) : (setL l key val).length ≤ l.length + 1 := by
  have := seekN_le l key
  unfold setL
  split <;> simp <;> omega
end Go.Pch
end

section
namespace Go.Pch
abbrev Change := Int × Int × Int
def fineC : Int → List Change → Bool
  | _, [] => true
  | last, x :: d => !(decide (x.1 ≤ last) || decide (99 < x.1) || !valB x.2.1 || !valB x.2.2 || decide (x.2.1 = x.2.2)) && fineC x.1 d
theorem fineC_cons {last : Int} {x : Change} {d : List Change} : fineC last (x :: d) = true ↔ (last < x.1 ∧ x.1 ≤ 99 ∧ valB x.2.1 = true ∧ valB x.2.2 = true ∧ x.2.1 ≠ x.2.2) ∧ fineC x.1 d = true := by
  simp only [fineC, Bool.and_eq_true, Bool.not_eq_true', Bool.or_eq_false_iff, decide_eq_false_iff_not, Bool.not_eq_false']
  constructor
  · rintro ⟨⟨⟨⟨⟨h1, h2⟩, h3⟩, h4⟩, h5⟩, h6⟩; exact ⟨⟨by omega, by omega, h3, h4, h5⟩, h6⟩
  · rintro ⟨⟨h1, h2, h3, h4, h5⟩, h6⟩; exact ⟨⟨⟨⟨⟨by omega, by omega⟩, h3⟩, h4⟩, h5⟩, h6⟩
theorem fineC_go {m : Int} {d : List Change} {k : Nat} (hk : k < d.length) (h : (m < d[k].1 ∧ d[k].1 ≤ 99) ∧ valB d[k].2.1 = true ∧ valB d[k].2.2 = true ∧ d[k].2.1 ≠ d[k].2.2) : fineC m (d.drop k) = fineC d[k].1 (d.drop (k + 1)) := by
  rw [List.drop_eq_getElem_cons hk, Bool.eq_iff_iff, fineC_cons]
  exact ⟨fun h => h.2, fun g => ⟨⟨h.1.1, h.1.2, h.2.1, h.2.2.1, h.2.2.2⟩, g⟩⟩
theorem fineC_stop {m : Int} {d : List Change} {k : Nat} (hk : k < d.length) (h : d[k].1 ≤ m ∨ 99 < d[k].1 ∨ valB d[k].2.1 = false ∨ valB d[k].2.2 = false ∨ d[k].2.1 = d[k].2.2) : fineC m (d.drop k) = false := by
  rw [List.drop_eq_getElem_cons hk, Bool.eq_false_iff]
  intro g
  have := (fineC_cons.1 g).1
  rcases h with h | h | h | h | h
  · omega
  · omega
  · rw [h] at this; exact absurd this.2.2.1 (by simp)
  · rw [h] at this; exact absurd this.2.2.2.1 (by simp)
  · exact this.2.2.2.2 h
theorem fineC_end {m : Int} {d : List Change} {k : Nat} (hk : ¬ k < d.length) : fineC m (d.drop k) = true := by
  rw [List.drop_of_length_le (by omega)]; rfl
theorem fineC_weaken {a b : Int} {d : List Change} (h : fineC b d = true) (hab : a ≤ b) : fineC a d = true := by
  cases d with
  | nil => rfl
  | cons x d =>
    rw [fineC_cons] at h ⊢
    exact ⟨⟨by omega, h.1.2⟩, h.2⟩
theorem fineC_all {m : Int} : ∀ {d : List Change}, fineC m d = true → ∀ x ∈ d, m < x.1 ∧ x.1 ≤ 99 ∧ valB x.2.1 = true ∧ valB x.2.2 = true ∧ x.2.1 ≠ x.2.2
  | [], _, x, hx => by cases hx
  | y :: d, h, x, hx => by
    rw [fineC_cons] at h
    rcases List.mem_cons.1 hx with rfl | hx
    · exact h.1
    · have := fineC_all h.2 x hx
      exact ⟨by omega, this.2⟩
theorem fineC_len {m : Int} : ∀ {d : List Change}, fineC m d = true → m ≤ 99 → (d.length : Int) ≤ 99 - m
  | [], _, h => by simp; omega
  | x :: d, h, _ => by
    rw [fineC_cons] at h
    have := fineC_len h.2 h.1.2.1
    rw [List.length_cons]
    omega
def diffFrom (x y : Int → Int) : Nat → Int → List Change
  | 0, _ => []
  | n + 1, k => if x k = y k then diffFrom x y n (k + 1) else (k, x k, y k) :: diffFrom x y n (k + 1)
def diffL (x y : Int → Int) : List Change := diffFrom x y 100 0
theorem diff_congr {x y x' y' : Int → Int} : ∀ (n : Nat) (k : Int), (∀ j, k ≤ j → j < k + n → (x j = y j ↔ x' j = y' j) ∧ (x j ≠ y j → x j = x' j ∧ y j = y' j)) → diffFrom x y n k = diffFrom x' y' n k
  | 0, _, _ => rfl
  | n + 1, k, h => by
    have h0 := h k (Int.le_refl _) (by omega)
    have ih := diff_congr n (k + 1) fun j h1 h2 => h j (by omega) (by omega)
    rw [diffFrom, diffFrom, ih]
    by_cases he : x k = y k
    · rw [if_pos he, if_pos (h0.1.1 he)]
    · rw [if_neg he, if_neg (fun e => he (h0.1.2 e)), (h0.2 he).1, (h0.2 he).2]
def betw : List Row → List Row → List Change
  | [], [] => []
  | r :: a, [] => (r.1, r.2, -1) :: betw a []
  | [], q :: b => (q.1, -1, q.2) :: betw [] b
  | r :: a, q :: b =>
    if r.1 < q.1 then (r.1, r.2, -1) :: betw a (q :: b)
    else if q.1 < r.1 then (q.1, -1, q.2) :: betw (r :: a) b
    else if r.2 = q.2 then betw a b else (r.1, r.2, q.2) :: betw a b
termination_by a b => a.length + b.length
theorem betw_nil : betw [] [] = [] := by rw [betw]
theorem betw_left {r : Row} {a b : List Row} (h : b = [] ∨ ∃ q c, b = q :: c ∧ r.1 < q.1) : betw (r :: a) b = (r.1, r.2, -1) :: betw a b := by
  rcases h with rfl | ⟨q, c, rfl, h⟩
  · rw [betw]
  · rw [betw, if_pos h]
theorem betw_right {q : Row} {a b : List Row} (h : a = [] ∨ ∃ r c, a = r :: c ∧ q.1 < r.1) : betw a (q :: b) = (q.1, -1, q.2) :: betw a b := by
  rcases h with rfl | ⟨r, c, rfl, h⟩
  · rw [betw]
  · rw [betw, if_neg (by omega), if_pos h]
theorem betw_both {r q : Row} {a b : List Row} (h : r.1 = q.1) : betw (r :: a) (q :: b) = if r.2 = q.2 then betw a b else (r.1, r.2, q.2) :: betw a b := by
  rw [betw, if_neg (by omega), if_neg (by omega)]
theorem betw_len : ∀ (a b : List Row), (betw a b).length ≤ a.length + b.length
  | [], [] => by rw [betw_nil]; simp
  | r :: a, [] => by
    have := betw_len a []
    rw [betw_left (.inl rfl), List.length_cons, List.length_cons]
    omega
  | [], q :: b => by
    have := betw_len [] b
    rw [betw_right (.inl rfl), List.length_cons, List.length_cons]
    omega
  | r :: a, q :: b => by
    rw [betw]
    split
    · have := betw_len a (q :: b)
      simp only [List.length_cons] at this ⊢
      omega
    · split
      · have := betw_len (r :: a) b
        simp only [List.length_cons] at this ⊢
        omega
      · have := betw_len a b
        split <;> simp only [List.length_cons] <;> omega
termination_by a b => a.length + b.length
theorem valueOf_head {r : Row} {a : List Row} : valueOf (r :: a) r.1 = r.2 := by rw [valueOf, if_pos rfl]
theorem valueOf_tail {r : Row} {a : List Row} {k : Int} (h : r.1 ≠ k) : valueOf (r :: a) k = valueOf a k := by rw [valueOf, if_neg h]
theorem diff_betw : ∀ (n : Nat) (k : Int) (a b : List Row), k + n = 100 → riseB (k - 1) a = true → riseB (k - 1) b = true → diffFrom (valueOf a) (valueOf b) n k = betw a b
  | 0, k, a, b, hk, ha, hb => by
    have ea : a = [] := by
      cases a with
      | nil => rfl
      | cons r a => rw [riseB_cons] at ha; omega
    have eb : b = [] := by
      cases b with
      | nil => rfl
      | cons r b => rw [riseB_cons] at hb; omega
    subst ea eb
    rw [betw_nil]; rfl
  | n + 1, k, a, b, hk, ha, hb => by
    -- without the rows of key k
    have strip : ∀ c : List Row, riseB (k - 1) c = true → (riseB k c = true ∧ valueOf c k = -1) ∨ ∃ r c', c = r :: c' ∧ r.1 = k ∧ riseB k c' = true ∧ 0 ≤ r.2 := by
      intro c hc
      cases c with
      | nil => exact .inl ⟨rfl, rfl⟩
      | cons r c =>
        rw [riseB_cons] at hc
        by_cases hr : r.1 = k
        · exact .inr ⟨r, c, rfl, hr, by rw [← hr]; exact hc.2, hc.1.2.2.1⟩
        · have : riseB k (r :: c) = true := by rw [riseB_cons]; exact ⟨⟨by omega, hc.1.2⟩, hc.2⟩
          exact .inl ⟨this, valueOf_low this (Int.le_refl _)⟩
    have hd : ∀ c : List Row, riseB k c = true → c = [] ∨ ∃ q c', c = q :: c' ∧ k < q.1 := by
      intro c hc
      cases c with
      | nil => exact .inl rfl
      | cons q c => rw [riseB_cons] at hc; exact .inr ⟨q, c, rfl, hc.1.1⟩
    have e1 : ∀ c, riseB k c = true → riseB (k + 1 - 1) c = true := fun c h => by rw [show k + 1 - 1 = k by omega]; exact h
    rw [diffFrom]
    rcases strip a ha with ⟨a1, a2⟩ | ⟨r, a', rfl, a1, a2, a3⟩
    · rcases strip b hb with ⟨b1, b2⟩ | ⟨q, b', rfl, b1, b2, b3⟩
      · rw [a2, b2, if_pos rfl]
        exact diff_betw n (k + 1) a b (by omega) (e1 a a1) (e1 b b1)
      · have hq : valueOf (q :: b') k = q.2 := by rw [← b1]; exact valueOf_head
        rw [a2, hq, if_neg (by omega)]
        have hb2 : betw a (q :: b') = (q.1, -1, q.2) :: betw a b' := betw_right (by
          rcases hd a a1 with rfl | ⟨r, c, rfl, h⟩
          · exact .inl rfl
          · exact .inr ⟨r, c, rfl, by omega⟩)
        rw [hb2, b1, ← diff_betw n (k + 1) a b' (by omega) (e1 a a1) (e1 b' b2)]
        congr 1
        refine diff_congr n (k + 1) fun j h1 _ => ?_
        rw [valueOf_tail (r := q) (by omega)]
        exact ⟨Iff.rfl, fun _ => ⟨rfl, rfl⟩⟩
    · have hr : valueOf (r :: a') k = r.2 := by rw [← a1]; exact valueOf_head
      rcases strip b hb with ⟨b1, b2⟩ | ⟨q, b', rfl, b1, b2, b3⟩
      · rw [hr, b2, if_neg (by omega)]
        have hb2 : betw (r :: a') b = (r.1, r.2, -1) :: betw a' b := betw_left (by
          rcases hd b b1 with rfl | ⟨q, c, rfl, h⟩
          · exact .inl rfl
          · exact .inr ⟨q, c, rfl, by omega⟩)
        rw [hb2, a1, ← diff_betw n (k + 1) a' b (by omega) (e1 a' a2) (e1 b b1)]
        congr 1
        refine diff_congr n (k + 1) fun j h1 _ => ?_
        rw [valueOf_tail (r := r) (by omega)]
        exact ⟨Iff.rfl, fun _ => ⟨rfl, rfl⟩⟩
      · have hq : valueOf (q :: b') k = q.2 := by rw [← b1]; exact valueOf_head
        have hrest : diffFrom (valueOf (r :: a')) (valueOf (q :: b')) n (k + 1) = betw a' b' := by
          rw [← diff_betw n (k + 1) a' b' (by omega) (e1 a' a2) (e1 b' b2)]
          refine diff_congr n (k + 1) fun j h1 _ => ?_
          rw [valueOf_tail (r := r) (by omega), valueOf_tail (r := q) (by omega)]
          exact ⟨Iff.rfl, fun _ => ⟨rfl, rfl⟩⟩
        rw [hr, hq, hrest, betw_both (by omega), a1]
theorem betw_diff {a b : List Row} (ha : riseB (-1) a = true) (hb : riseB (-1) b = true) : betw a b = diffL (valueOf a) (valueOf b) := (diff_betw 100 0 a b (by omega) ha hb).symm
theorem diff_fine (x y : Int → Int) (hx : ∀ k, -1 ≤ x k ∧ x k ≤ 996) (hy : ∀ k, -1 ≤ y k ∧ y k ≤ 996) : ∀ (n : Nat) (k : Int), k + n ≤ 100 → fineC (k - 1) (diffFrom x y n k) = true
  | 0, _, _ => rfl
  | n + 1, k, h => by
    have ih := diff_fine x y hx hy n (k + 1) (by omega)
    rw [show k + 1 - 1 = k by omega] at ih
    rw [diffFrom]
    by_cases he : x k = y k
    · rw [if_pos he]; exact fineC_weaken ih (by omega)
    · rw [if_neg he, fineC_cons]
      have a := hx k
      have b := hy k
      exact ⟨⟨by show k - 1 < k; omega, by show k ≤ 99; omega, by simp [valB]; omega, by simp [valB]; omega, he⟩, ih⟩
theorem diffL_fine {x y : Int → Int} (hx : ∀ k, -1 ≤ x k ∧ x k ≤ 996) (hy : ∀ k, -1 ≤ y k ∧ y k ≤ 996) : fineC (-1) (diffL x y) = true := diff_fine x y hx hy 100 0 (by omega)
theorem mem_diff {x y : Int → Int} {c : Change} : ∀ (n : Nat) (k : Int), c ∈ diffFrom x y n k ↔ (k ≤ c.1 ∧ c.1 < k + n ∧ c.2.1 = x c.1 ∧ c.2.2 = y c.1 ∧ x c.1 ≠ y c.1)
  | 0, k => by
    simp only [diffFrom, List.not_mem_nil, false_iff]
    rintro ⟨h1, h2, _⟩
    omega
  | n + 1, k => by
    have ih := mem_diff (x := x) (y := y) (c := c) n (k + 1)
    rw [diffFrom]
    by_cases he : x k = y k
    · rw [if_pos he, ih]
      constructor
      · rintro ⟨h1, h2, h3⟩; exact ⟨by omega, by omega, h3⟩
      · rintro ⟨h1, h2, h3, h4, h5⟩
        refine ⟨?_, by omega, h3, h4, h5⟩
        rcases Int.lt_or_eq_of_le h1 with h | h
        · omega
        · rw [← h] at h5; exact absurd he h5
    · rw [if_neg he, List.mem_cons, ih]
      constructor
      · rintro (rfl | ⟨h1, h2, h3⟩)
        · exact ⟨Int.le_refl _, by show k < k + _; omega, rfl, rfl, he⟩
        · exact ⟨by omega, by omega, h3⟩
      · rintro ⟨h1, h2, h3, h4, h5⟩
        rcases Int.lt_or_eq_of_le h1 with h | h
        · exact .inr ⟨by omega, by omega, h3, h4, h5⟩
        · left
          obtain ⟨c1, c2, c3⟩ := c
          simp only at h h3 h4
          subst h h3 h4
          rfl
def setAll (l : List Row) (d : List Change) : List Row := d.foldl (fun m x => setL m x.1 x.2.2) l
theorem setAll_cons (l : List Row) (x : Change) (d : List Change) : setAll l (x :: d) = setAll (setL l x.1 x.2.2) d := rfl
theorem setAll_snoc (l : List Row) (d : List Change) (x : Change) : setAll l (d ++ [x]) = setL (setAll l d) x.1 x.2.2 := by simp [setAll]
theorem setAll_rise {last : Int} (h0 : -1 ≤ last) : ∀ {d : List Change} {l : List Row}, riseB (-1) l = true → fineC last d = true → riseB (-1) (setAll l d) = true
  | [], _, h, _ => h
  | x :: d, l, h, hd => by
    rw [fineC_cons] at hd
    have hv : -1 ≤ x.2.2 ∧ x.2.2 ≤ 996 := by have := hd.1.2.2.2.1; simpa [valB] using this
    show riseB (-1) (setAll (setL l x.1 x.2.2) d) = true
    exact setAll_rise (last := x.1) (by omega) (setL_rise h (by omega) hd.1.2.1 hv.1 hv.2) hd.2
theorem setAll_len (l : List Row) : ∀ (d : List Change), (setAll l d).length ≤ l.length + d.length := by
  intro d
  induction d generalizing l with
  | nil => exact Nat.le_refl _
  | cons x d ih =>
    have h1 := setL_len l x.1 x.2.2
    have h2 := ih (setL l x.1 x.2.2)
    rw [setAll_cons, List.length_cons]
    omega
theorem setAll_other : ∀ {last : Int} {d : List Change} {l : List Row}, -1 ≤ last → riseB (-1) l = true → fineC last d = true → ∀ k, k ≤ last → valueOf (setAll l d) k = valueOf l k
  | _, [], _, _, _, _, _, _ => rfl
  | last, x :: d, l, h0, h, hd, k, hk => by
    rw [fineC_cons] at hd
    have hv : -1 ≤ x.2.2 ∧ x.2.2 ≤ 996 := by have := hd.1.2.2.2.1; simpa [valB] using this
    rw [setAll_cons, setAll_other (last := x.1) (by omega) (setL_rise h (by omega) hd.1.2.1 hv.1 hv.2) hd.2 k (by omega), setL_value h, if_neg (by omega)]
theorem setAll_value : ∀ {last : Int} {d : List Change} {l : List Row}, -1 ≤ last → riseB (-1) l = true → fineC last d = true → ∀ k, valueOf (setAll l d) k = match d.find? (fun x => decide (x.1 = k)) with | some x => x.2.2 | none => valueOf l k
  | _, [], _, _, _, _, _ => rfl
  | last, x :: d, l, h0, h, hd, k => by
    rw [fineC_cons] at hd
    have hv : -1 ≤ x.2.2 ∧ x.2.2 ≤ 996 := by have := hd.1.2.2.2.1; simpa [valB] using this
    have hs := setL_rise h (key := x.1) (val := x.2.2) (by omega) hd.1.2.1 hv.1 hv.2
    rw [setAll_cons, List.find?_cons]
    by_cases hk : x.1 = k
    · rw [setAll_other (last := x.1) (by omega) hs hd.2 k (by omega), setL_value h, if_pos hk.symm]
      simp [hk]
    · rw [setAll_value (last := x.1) (by omega) hs hd.2 k]
      simp only [hk, decide_false]
      cases d.find? (fun x => decide (x.1 = k)) with
      | some y => rfl
      | none => show valueOf (setL l x.1 x.2.2) k = valueOf l k; rw [setL_value h, if_neg (fun e => hk e.symm)]
def matchB (l : List Row) (d : List Change) : Bool := d.all fun x => decide (valueOf l x.1 = x.2.1)
def patchP (l : List Row) (d : List Change) : List Row × Int :=
  if rowsErr l = 0 then (if fineC (-1) d then (if matchB l d then (if 40 < (setAll l d).length then ([], 2) else (setAll l d, 0)) else ([], 7)) else ([], 1)) else ([], rowsErr l)
end Go.Pch
end
