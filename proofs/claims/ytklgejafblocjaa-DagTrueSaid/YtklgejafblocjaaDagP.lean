/- The plain law of chapter 8: who is above both is above a base; no base is above another. -/
import Derived.Test.YtklgejafblocjaaDagD
namespace Go.Pch

theorem mem_bases {l : List Commit} {a b : Nat} {t : Int} (h : t ∈ basesL l a b) : ∃ k : Nat, t = k ∧ k < l.length ∧ baseB l a b k = true := by
  rw [basesL, List.mem_map] at h
  obtain ⟨k, hk, rfl⟩ := h
  rw [List.mem_filter, List.mem_range] at hk
  exact ⟨k, rfl, hk.1, hk.2⟩
theorem base_both {l : List Commit} {a b k : Nat} (h : baseB l a b k = true) : ab l a k = true ∧ ab l b k = true := by
  rw [baseB, Bool.and_eq_true, Bool.and_eq_true] at h
  exact h.1
theorem base_none {l : List Commit} {a b k i : Nat} (h : baseB l a b k = true) (hi : i < l.length) (hk : k < i) (h1 : ab l a i = true) (h2 : ab l b i = true) : ab l i k = false := by
  rw [baseB, Bool.and_eq_true, Bool.not_eq_true', List.any_eq_false] at h
  have := h.2 i (List.mem_range.2 hi)
  simpa [hk, h1, h2] using this
theorem base_apart {l : List Commit} (hok : DagOk l) {a b t u : Nat} (_ht : t < l.length) (ht : baseB l a b t = true) (hu : baseB l a b u = true) (hne : u ≠ t) : ab l t u = false := by
  cases h : ab l t u with
  | false => rfl
  | true =>
    have := ab_le hok t u h
    have hb := base_both ht
    rw [base_none hu _ht (by omega) hb.1 hb.2] at h
    cases h
theorem base_over {l : List Commit} (hok : DagOk l) {a b k : Nat} : ∀ (n i : Nat), l.length - i ≤ n → i < l.length → ab l a i = true → ab l b i = true → ab l i k = true → ∃ t, t < l.length ∧ baseB l a b t = true ∧ ab l t k = true
  | 0, i, h, hi, _, _, _ => by omega
  | n + 1, i, h, hi, h1, h2, h3 => by
    by_cases hb : baseB l a b i = true
    · exact ⟨i, hi, hb, h3⟩
    · have : ((List.range l.length).any fun j => decide (i < j) && (ab l a j && ab l b j) && ab l j i) = true := by
        cases hx : ((List.range l.length).any fun j => decide (i < j) && (ab l a j && ab l b j) && ab l j i) with
        | true => rfl
        | false => exact absurd (by rw [baseB, hx, h1, h2]; rfl) hb
      rw [List.any_eq_true] at this
      obtain ⟨j, hj, hx⟩ := this
      simp only [Bool.and_eq_true, decide_eq_true_eq, List.mem_range] at hx hj
      exact base_over hok n j (by omega) hj hx.1.2.1 hx.1.2.2 (ab_trans hok j i k hx.2 h3)
/-- Above both just if above a base. -/
theorem under_eq {l : List Commit} (hok : DagOk l) {a b k : Nat} (_ha : a < l.length) : (basesL l a b).any (fun t => ab l t.toNat k) = (ab l a k && ab l b k) := by
  rw [Bool.eq_iff_iff, Bool.and_eq_true, List.any_eq_true]
  constructor
  · rintro ⟨t, ht, hk⟩
    obtain ⟨u, rfl, hu, hb⟩ := mem_bases ht
    have := base_both hb
    rw [Int.toNat_natCast] at hk
    exact ⟨ab_trans hok a u k this.1 hk, ab_trans hok b u k this.2 hk⟩
  · rintro ⟨h1, h2⟩
    have hkl : k < l.length := by have := ab_le hok a k h1; omega
    obtain ⟨t, ht, hb, hk⟩ := base_over hok (a := a) (b := b) (k := k) l.length k (by omega) hkl h1 h2 (ab_self hok k)
    refine ⟨(t : Int), ?_, by rw [Int.toNat_natCast]; exact hk⟩
    rw [basesL, List.mem_map]
    exact ⟨t, List.mem_filter.2 ⟨List.mem_range.2 ht, hb⟩, rfl⟩
theorem bases_nodup (l : List Commit) (a b : Nat) : (basesL l a b).Nodup := by
  rw [basesL]
  refine List.Pairwise.map _ (fun x y h => ?_) (List.Pairwise.filter _ List.nodup_range)
  intro e; exact h (Int.ofNat.inj e)
theorem aboveL_length (l : List Commit) (n : Nat) : (aboveL l n).length = l.length := by simp [aboveL]
theorem aboveL_get {l : List Commit} {n k : Nat} (hk : k < (aboveL l n).length) : (aboveL l n)[k] = ab l n k := by simp [aboveL]

end Go.Pch
