/- The walk of slices.Reverse at ints: a row of the call's own, turned round in place. The walks of repo.Head and Log. -/
import Derived.Test.YtjjkdpjjaijmbaaGreatRg6
import Derived.Test.YtjjkdpjjaijmbaaGreatRg4
import Derived.Laws.Rows
import Derived.IntWalk
section
namespace Go.Pch
open Go.RowKit Go.Proofs
set_option maxRecDepth 100000

theorem grown_setCellI (A : World) (a : Addr) (v : Value) : A.grownBy (A.setCell a v) (some a.block) :=
  ⟨rfl, rfl, rfl, by simp, fun k _ hk => Below.heap_setCell _ _ _ _ (by intro e; exact hk (by rw [e]))⟩

/-- Which cell comes to p, when i of n cells at both ends (from o on) have been swapped. -/
def sgI (o n i p : Nat) : Nat := if (o ≤ p ∧ p < o + i) ∨ (o + n ≤ p + i ∧ p < o + n) then 2 * o + n - 1 - p else p
structure SwappedI (cur cs : List Value) (o n i : Nat) : Prop where
  len : cs.length = cur.length
  get : ∀ p, p < cur.length → cs[p]? = cur[sgI o n i p]?
theorem SwappedI.refl (cur : List Value) (o n : Nat) : SwappedI cur cur o n 0 :=
  ⟨rfl, fun p _ => by rw [sgI, if_neg (by omega)]⟩
theorem SwappedI.step {cur cs : List Value} {o n i j : Nat} (h : SwappedI cur cs o n i) (hj : j = n - 1 - i) (hij : i < j) (hn : o + n ≤ cur.length) {a b : Value} (ha : cs[o + i]? = some a) (hb : cs[o + j]? = some b) :
    SwappedI cur ((cs.set (o + i) b).set (o + j) a) o n (i + 1) := by
  refine ⟨by rw [List.length_set, List.length_set, h.len], fun p hp => ?_⟩
  have hl := h.len
  by_cases h1 : p = o + j
  · subst h1
    rw [List.getElem?_set_self (by rw [List.length_set]; omega), ← ha, h.get _ (by omega)]
    congr 1
    rw [sgI, if_neg (by omega), sgI, if_pos (by omega)]
    omega
  · rw [List.getElem?_set_ne (by omega)]
    by_cases h2 : p = o + i
    · subst h2
      rw [List.getElem?_set_self (by omega), ← hb, h.get _ (by omega)]
      congr 1
      rw [sgI, if_neg (by omega), sgI, if_pos (by omega)]
      omega
    · rw [List.getElem?_set_ne (by omega), h.get p hp]
      congr 1
      unfold sgI
      by_cases h3 : (o ≤ p ∧ p < o + i) ∨ (o + n ≤ p + i ∧ p < o + n)
      · rw [if_pos h3, if_pos (by omega)]
      · rw [if_neg h3, if_neg (by omega)]
theorem cells_cellI {w : World} {g p : Nat} {cs : List Value} {t : TypeId} (hg : w.heap[g]? = some (.cells cs.toArray t)) {v : Value} (hv : cs[p]? = some v) : w.cell? ⟨g, p, none⟩ = some v := by
  rw [World.cell?, hg]
  simpa using hv




end Go.Pch
end

section
namespace Go.Pch
open Go.RowKit Go.Proofs
set_option maxRecDepth 100000

theorem Rp.keep {w w' : World} {S : Blk} {v : Value} {r : Repo} (h : Rp w S v r) (hk : ∀ k, S k → k < w.heap.size → w'.heap[k]? = w.heap[k]?) : Rp w' S v r := by
  obtain ⟨vc, vh, rfl, hc, hh⟩ := h
  exact ⟨vc, vh, rfl, hc.keep hk, hh.keep hk⟩
theorem Rp.call {w w' : World} {S : Blk} {v : Value} {r : Repo} (h : Rp w S v r) (hb : Below w.heap.size w w') : Rp w' S v r := by
  obtain ⟨vc, vh, rfl, hc, hh⟩ := h
  exact ⟨vc, vh, rfl, hc.call hb, hh.call hb⟩
theorem repo_ok {r : Repo} (h : repoErr r = 0) : commitsErr r.1 = 0 ∧ r.2.length ≤ 4 ∧ (r.2.any fun h => !nameB h.1) = false ∧ headsRise r.1.length [] r.2 = true := by
  unfold repoErr at h
  by_cases h1 : commitsErr r.1 = 0
  · rw [if_neg (by simp [h1])] at h
    by_cases h2 : 4 < r.2.length
    · rw [if_pos h2] at h; cases h
    · rw [if_neg h2] at h
      cases h3 : r.2.any fun h => !nameB h.1 with
      | true => rw [h3] at h; simp at h
      | false =>
        rw [h3] at h
        cases h4 : headsRise r.1.length [] r.2 with
        | true => exact ⟨h1, by omega, rfl, rfl⟩
        | false => rw [h4] at h; simp at h
  · rw [if_pos h1] at h
    exact absurd h h1
theorem headP_bad {r : Repo} {s : ByteArray} (h : repoErr r ≠ 0) : headP r s = (0, repoErr r) := by rw [headP, if_neg h]
theorem headP_none {r : Repo} {s : ByteArray} (h : repoErr r = 0) (hs : hdHas r.2 s = false) : headP r s = (0, 5) := by
  rw [headP, if_pos h, headK_seek (repo_ok h).2.2.2, hs]; rfl
theorem headP_is {r : Repo} {s : ByteArray} (h : repoErr r = 0) (hs : hdHas r.2 s = true) : ∃ x, r.2[hdN r.2 s]? = some x ∧ headP r s = (x.2, 0) ∧ x.1.toList = s.toList := by
  have hk := headK_seek (repo_ok h).2.2.2 s
  rw [hs, if_pos rfl] at hk
  have h2 := hs
  unfold hdHas at h2
  cases hx : r.2[hdN r.2 s]? with
  | none => rw [hx] at h2; cases h2
  | some x =>
    rw [hx] at h2
    refine ⟨x, rfl, ?_, by simpa using h2⟩
    rw [headP, if_pos h, hk]
    simp only [hx, Option.getD_some]

theorem repoCheck_of {c : Int} (v : Value) (r : Repo) (S : Blk) (w : World) (h : Rp w S v r) (hc : repoErr r = c) : Calls Tryz.prog 95 #[v] w (Ret w fun x _ => x = .int .i64 c) := hc ▸ repoCheck v r S w h

set_option maxHeartbeats 2000000 in
theorem repoHead (v : Value) (r : Repo) (key : ByteArray) (S : Blk) (w : World) (h : Rp w S v r) :
    Calls Tryz.prog 71 #[v, .string key] w (Ret w fun x _ => x = .tuple #[.int .i64 (headP r key).1, .int .i64 (headP r key).2]) := by
  have hR := h
  obtain ⟨cs, hs⟩ := r
  obtain ⟨vc, vh, rfl, hc, hh⟩ := h
  obtain ⟨ac, cc, rfl, _, _, _⟩ := hc.shape
  obtain ⟨ah, ch, rfl, _, _, _⟩ := hh.shape
  simp only at hc hh
  obtain ⟨wA, hwA⟩ : ∃ wA, wA = w.alloc (.cells #[.slice ac cs.length cc, .slice ah hs.length ch] 25) := ⟨_, rfl⟩
  have bA : Below w.heap.size w wA := by rw [hwA]; exact (Below.refl _ _).alloc (Nat.le_refl _) _
  have sA : wA.heap.size = w.heap.size + 1 := by rw [hwA]; simp
  have k0 : wA.cell? ⟨w.heap.size, 0, none⟩ = some (.slice ac cs.length cc) := by rw [hwA]; simp
  have k1 : wA.cell? ⟨w.heap.size, 1, none⟩ = some (.slice ah hs.length ch) := by rw [hwA]; simp
  have HWA := keepBack hwA
  clear hwA
  by_cases he : repoErr (cs, hs) = 0
  · have hok := repo_ok he
    cases hb : hdHas hs key with
    | true =>
      obtain ⟨x, hx, hP, _⟩ := headP_is (s := key) he hb
      have HP := keepBack hP
      clear hP
      go_enter Tryz.func71, Tryz.ntmps71
      go_wp2_with fail
      rw [← HWA.out]
      refine (repoCheck_of _ (cs, hs) _ wA (hR.call bA) he).mono ?_; rintro e w1 ⟨_, rfl, rfl, b1⟩
      have s1 := b1.size
      have r0 := (b1.cell (p := ⟨w.heap.size, 0, none⟩) (by simp; omega)).trans k0
      have r1 := (b1.cell (p := ⟨w.heap.size, 1, none⟩) (by simp; omega)).trans k1
      go_wp2_with fail
      refine (repoWhere _ (cs, hs) key _ w1 ((hR.call bA).call b1) hok.2.2.2 (by show hs.length ≤ 1000000; have := hok.2.1; omega)).mono ?_; rintro e w2 ⟨_, rfl, rfl, b2⟩
      have s2 := b2.size
      have b02 := (bA.trans (b1.mono (by omega))).trans (b2.mono (by omega))
      have q0 := (b2.cell (p := ⟨w.heap.size, 0, none⟩) (by simp; omega)).trans r0
      have q1 := (b2.cell (p := ⟨w.heap.size, 1, none⟩) (by simp; omega)).trans r1
      obtain ⟨b, o, hix, _, hbs, ok1, ok2, hc0, hc1⟩ := (((hh.call bA).call b1).call b2).idxHeadAt aHead (hdN hs key) (hdN hs key) x rfl hx
      have hbb : ((hdN hs key : Nat) : Int) < hs.length := by have := (List.getElem?_eq_some_iff.1 hx).1; omega
      clear k0 k1 r0 r1
      simp only at hb ⊢
      rw [hb]
      generalize hdN hs key = kk at *
      go_wp2_with fail
      go_ret2
      exact ⟨_, rfl, by rw [HP.out]; rfl, b02⟩
    | false =>
      have HP := keepBack (headP_none (s := key) he hb)
      go_enter Tryz.func71, Tryz.ntmps71
      go_wp2_with fail
      rw [← HWA.out]
      refine (repoCheck_of _ (cs, hs) _ wA (hR.call bA) he).mono ?_; rintro e w1 ⟨_, rfl, rfl, b1⟩
      have s1 := b1.size
      have r0 := (b1.cell (p := ⟨w.heap.size, 0, none⟩) (by simp; omega)).trans k0
      have r1 := (b1.cell (p := ⟨w.heap.size, 1, none⟩) (by simp; omega)).trans k1
      go_wp2_with fail
      refine (repoWhere _ (cs, hs) key _ w1 ((hR.call bA).call b1) hok.2.2.2 (by show hs.length ≤ 1000000; have := hok.2.1; omega)).mono ?_; rintro e w2 ⟨_, rfl, rfl, b2⟩
      simp only at hb ⊢
      rw [hb]
      go_wp2_with fail
      go_ret2
      exact ⟨_, rfl, by rw [HP.out]; rfl, (bA.trans (b1.mono (by omega))).trans (b2.mono (by omega))⟩
  · have HP := keepBack (headP_bad (s := key) he)
    have hq : (repoErr (cs, hs) != 0) = true := by simp [he]
    go_enter Tryz.func71, Tryz.ntmps71
    go_wp2_with fail
    rw [← HWA.out]
    refine (repoCheck _ (cs, hs) _ wA (hR.call bA)).mono ?_; rintro e w1 ⟨_, rfl, rfl, b1⟩
    go_wp2_with fail
    go_ret2
    exact ⟨_, rfl, by rw [HP.out]; rfl, bA.trans (b1.mono (by omega))⟩

theorem dagOver {l : List Commit} (hok : DagOk l) (a b : Nat) (ha : a < l.length) (hb : b < l.length) (v : Value) (S : Blk) (w : World) (h : Sl tCommit w S v l) :
    Calls Tryz.prog 48 #[v, .int .i64 a, .int .i64 b] w (Quiet w (.bool (ab l b a))) := by
  have hlt := ofL_lt hok hb
  have hbit := ofL_bit l b a
  have hl := hok.1
  go_enter Tryz.func48, Tryz.ntmps48
  go_wp2_with fail
  refine (dagOf_of hok b hb v S w h).mono ?_; rintro e w1 ⟨rfl, d1⟩
  generalize ofL l b = m at *
  go_wp2_with fail
  refine (dagHas m a hlt (by omega) w1).mono ?_; rintro e w2 ⟨rfl, rfl⟩
  go_wp2
  go_ret
  exact ⟨rfl, d1⟩
theorem dagOver_of {c : Bool} {l : List Commit} (hok : DagOk l) (a b : Nat) (ha : a < l.length) (hb : b < l.length) (v : Value) (S : Blk) (w : World) (h : Sl tCommit w S v l) (hc : ab l b a = c) :
    Calls Tryz.prog 48 #[v, .int .i64 a, .int .i64 b] w (Quiet w (.bool c)) := hc ▸ dagOver hok a b ha hb v S w h

theorem headP_at {r : Repo} {s : ByteArray} (h : (headP r s).2 = 0) : repoErr r = 0 ∧ ∃ n : Nat, n < r.1.length ∧ headP r s = ((n : Int), 0) ∧ ∃ x, r.2[hdN r.2 s]? = some x ∧ x.2 = n ∧ hdHas r.2 s = true := by
  by_cases he : repoErr r = 0
  · cases hb : hdHas r.2 s with
    | false => rw [headP_none he hb] at h; cases h
    | true =>
      obtain ⟨x, hx, hP, _⟩ := headP_is he hb
      have := heads_all (repo_ok he).2.2.2 x (List.mem_of_getElem? hx)
      exact ⟨he, x.2.toNat, by omega, by rw [hP]; congr 1; omega, x, hx, by omega, rfl⟩
  · rw [headP_bad he] at h
    exact absurd h he
theorem logP_is {r : Repo} {s : ByteArray} {n : Nat} (h : headP r s = ((n : Int), 0)) : logP r s = (logL r.1 n, 0) := by rw [logP, h]; simp
theorem logP_no {r : Repo} {s : ByteArray} (h : (headP r s).2 ≠ 0) : logP r s = ([], (headP r s).2) := by rw [logP, if_neg h]
theorem repoHead_of {c : Int × Int} (v : Value) (r : Repo) (key : ByteArray) (S : Blk) (w : World) (h : Rp w S v r) (hc : headP r key = c) :
    Calls Tryz.prog 71 #[v, .string key] w (Ret w fun x _ => x = .tuple #[.int .i64 c.1, .int .i64 c.2]) := hc ▸ repoHead v r key S w h

theorem fil_next {f : Nat → Bool} {k : Nat} : ((List.range (k + 1)).filter f).map Int.ofNat = ((List.range k).filter f).map Int.ofNat ++ (if f k = true then [(k : Int)] else []) := by
  rw [List.range_succ, List.filter_append, List.map_append]
  congr 1
  by_cases h : f k = true
  · rw [if_pos h]; simp [h]
  · rw [if_neg h]; simp [h]


end Go.Pch
end
