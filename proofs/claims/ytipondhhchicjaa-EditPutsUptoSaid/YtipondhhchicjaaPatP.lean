/- Plain words on patches that are fine; no program is named here. -/
import Derived.Test.YtipondhhchicjaaChgP
namespace Go.Pch

theorem fineC_parts {m : Int} : ∀ {p q : List Change}, fineC m (p ++ q) = true → fineC m p = true ∧ ∀ x ∈ p, ∀ y ∈ q, x.1 < y.1
  | [], _, _ => ⟨rfl, by simp⟩
  | x :: p, q, h => by
    rw [List.cons_append, fineC_cons] at h
    obtain ⟨h1, h2⟩ := fineC_parts h.2
    refine ⟨by rw [fineC_cons]; exact ⟨h.1, h1⟩, fun y hy z hz => ?_⟩
    rcases List.mem_cons.1 hy with rfl | hy
    · exact (fineC_all h.2 z (by simp [hz])).1
    · exact h2 y hy z hz
theorem fineC_take {m : Int} {d : List Change} (h : fineC m d = true) (k : Nat) : fineC m (d.take k) = true := by
  rw [← List.take_append_drop k d] at h
  exact (fineC_parts h).1
/-- A key whose change is still to come has what it had. -/
theorem setAll_ahead {l : List Row} {d : List Change} (hl : riseB (-1) l = true) (h : fineC (-1) d = true) {k : Nat} (hk : k < d.length) : valueOf (setAll l (d.take k)) d[k].1 = valueOf l d[k].1 := by
  have hp := h
  rw [← List.take_append_drop k d] at hp
  have h2 := (fineC_parts hp).2
  rw [setAll_value (by omega) hl (fineC_take h k)]
  have : (d.take k).find? (fun x => decide (x.1 = d[k].1)) = none := by
    refine List.find?_eq_none.2 fun x hx => ?_
    have := h2 x hx d[k] (by rw [List.drop_eq_getElem_cons hk]; exact List.mem_cons_self)
    simpa using fun e : x.1 = d[k].1 => by omega
  rw [this]
theorem setAll_step (l : List Row) (d : List Change) {k : Nat} (hk : k < d.length) : setAll l (d.take (k + 1)) = setL (setAll l (d.take k)) d[k].1 d[k].2.2 := by
  rw [List.take_succ_eq_append_getElem hk, setAll_snoc]
theorem match_go {l : List Row} {d : List Change} {k : Nat} (hk : k < d.length) (h : valueOf l d[k].1 = d[k].2.1) : matchB l (d.drop k) = matchB l (d.drop (k + 1)) := by
  rw [List.drop_eq_getElem_cons hk, matchB, List.all_cons, show decide (valueOf l d[k].1 = d[k].2.1) = true by simpa using h, Bool.true_and, matchB]
theorem match_stop {l : List Row} {d : List Change} {k : Nat} (hk : k < d.length) (h : valueOf l d[k].1 ≠ d[k].2.1) : matchB l (d.drop k) = false := by
  rw [List.drop_eq_getElem_cons hk, matchB, List.all_cons, show decide (valueOf l d[k].1 = d[k].2.1) = false by simpa using h, Bool.false_and]
theorem match_end {l : List Row} {d : List Change} {k : Nat} (hk : ¬ k < d.length) : matchB l (d.drop k) = true := by
  rw [List.drop_of_length_le (by omega)]; rfl
theorem patchP_err {l : List Row} {d : List Change} (h : rowsErr l ≠ 0) : patchP l d = ([], rowsErr l) := by rw [patchP, if_neg h]
theorem patchP_form {l : List Row} {d : List Change} (h : rowsErr l = 0) (hf : fineC (-1) d = false) : patchP l d = ([], 1) := by rw [patchP, if_pos h, hf]; rfl
theorem patchP_clash {l : List Row} {d : List Change} (h : rowsErr l = 0) (hf : fineC (-1) d = true) (hm : matchB l d = false) : patchP l d = ([], 7) := by rw [patchP, if_pos h, if_pos hf, hm]; rfl
theorem patchP_many {l : List Row} {d : List Change} (h : rowsErr l = 0) (hf : fineC (-1) d = true) (hm : matchB l d = true) (h4 : 40 < (setAll l d).length) : patchP l d = ([], 2) := by rw [patchP, if_pos h, if_pos hf, if_pos hm, if_pos h4]
theorem patchP_ok {l : List Row} {d : List Change} (h : rowsErr l = 0) (hf : fineC (-1) d = true) (hm : matchB l d = true) (h4 : ¬ 40 < (setAll l d).length) : patchP l d = (setAll l d, 0) := by rw [patchP, if_pos h, if_pos hf, if_pos hm, if_neg h4]

end Go.Pch
