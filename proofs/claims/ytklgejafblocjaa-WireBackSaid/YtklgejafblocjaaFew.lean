/- The walks of the laws' own helpers: few rows, a choice. -/
import Derived.Test.YtklgejafblocjaaOwn
import Derived.Test.YtklgejafblocjaaC1
namespace Go.Pch
open Go.RowKit Go.Proofs

def fewL : List Row := [(2, 5), (7, 0), (9, 30)]
theorem tRow_mk (w : World) (S : Blk) (a b : Int) (ha : i64ok a) (hb : i64ok b) : tRow.rd w S [.int .i64 a, .int .i64 b] (a, b) := ⟨rfl, ha, hb⟩
theorem ok_small {a : Int} (h : -1000000 ≤ a ∧ a ≤ 1000000) : i64ok a := ⟨by omega, by omega⟩

set_option maxHeartbeats 400000 in
theorem lawFew (w : World) : Calls Try.prog 70 #[] w (Ret w fun r w' => Sl tRow w' (fun k => w.heap.size ≤ k) r fewL) := by
  go_enter Try.func70, Try.ntmps70
  go_wp2
  go_ret
  have hE : Each tRow w (fun _ => False) [[.int .i64 2, .int .i64 5], [.int .i64 7, .int .i64 0], [.int .i64 9, .int .i64 30]] fewL :=
    ((Each.one _ _ (tRow_mk _ _ 2 5 (ok_small (by omega)) (ok_small (by omega)))).app (Each.one _ _ (tRow_mk _ _ 7 0 (ok_small (by omega)) (ok_small (by omega))))).app (Each.one _ _ (tRow_mk _ _ 9 30 (ok_small (by omega)) (ok_small (by omega))))
  have ho := Own.lit (E := tRow) (e := 74) (B := w.heap.size) hE rfl (by decide) (Nat.le_refl _)
  exact ⟨_, rfl, ho.sl (fun _ h => h.elim) (fun _ h => h), (Below.refl _ _).alloc (Nat.le_refl _) _⟩

theorem lawChoose (c n : Int) (w : World) (hc : i64ok c) (h0 : 0 < n) (h1 : n ≤ 1000000000) : Calls Try.prog 19 #[.int .i64 c, .int .i64 n] w fun e w' => e = .returned (.int .i64 (chooseL c n)) ∧ w = w' := by
  obtain ⟨hc1, hc2⟩ := hc
  by_cases hneg : c < 0
  · have hn0 : (n == 0) = false := by simp; omega
    go_enter Try.func19, Try.ntmps19
    go_wp2
    go_ret
    exact ⟨ret_int (by rw [chooseL, if_pos hneg, ← Int.neg_tmod, Int.tmod_eq_emod_of_nonneg (by omega)]), rfl⟩
  · have hn0 : (n == 0) = false := by simp; omega
    go_enter Try.func19, Try.ntmps19
    go_wp2
    go_ret
    exact ⟨ret_int (by rw [chooseL, if_neg (by omega)]), rfl⟩

end Go.Pch
