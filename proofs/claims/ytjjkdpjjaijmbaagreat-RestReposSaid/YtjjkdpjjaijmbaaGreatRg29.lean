/- The walk of workBegun. -/
import Derived.Test.YtjjkdpjjaijmbaaGreatRg25
import Derived.Test.YtjjkdpjjaijmbaaGreatRg22
import Derived.Test.YtjjkdpjjaijmbaaGreatRg28
section
namespace Go.Pch
open Go.RowKit Go.Proofs
set_option maxRecDepth 100000

abbrev sMain : ByteArray := ByteArray.mk #[109, 97, 105, 110]
abbrev sSide : ByteArray := ByteArray.mk #[115, 105, 100, 101]
abbrev sNew : ByteArray := ByteArray.mk #[110, 101, 119]
abbrev shopR : Repo := (crossL, H3 sMain sSide)
def putC : List Commit := crossL ++ [([(2, 5), (7, 4), (9, 30)], [1])]
theorem putA : jPut shopR sSide [(7, 0, 4)] = ((putC, [(sMain, 3), (sSide, 6)]), 0) := by decide +kernel
theorem putB : jPut shopR sSide [(7, 1, 4)] = (noRepo, 7) := by decide +kernel
theorem putC0 : jPut shopR sSide [] = (noRepo, 9) := by decide +kernel
theorem brA : jBranch shopR sNew sSide = ((crossL, [(sMain, 3), (sNew, 1), (sSide, 1)]), 0) := by decide +kernel
theorem drA : jDrop shopR sMain = ((crossL, [(sSide, 1)]), 0) := by decide +kernel
theorem joA : jJoin (putC, [(sMain, 3), (sSide, 6)]) sMain sSide = (noRepo, [7], 7) := by decide +kernel
theorem joB : jJoin shopR sMain sSide = (noRepo, [], 9) := by decide +kernel
theorem joC : jJoin shopR sSide sMain = ((crossL, [(sMain, 3), (sSide, 3)]), [], 0) := by decide +kernel

theorem workPut_of {c : Repo × Int} (v u : Value) (r : Repo) (s : ByteArray) (d : List Change) (S S' : Blk) (w : World) (h : Rp w S v r) (g : Sl tChange w S' u d) (hc : jPut r s d = c) :
    Calls Tryz.prog 23 #[v, .string s, u] w (Ret w (RepoRet w.heap.size c)) := hc ▸ workPut v u r s d S S' w h g
theorem workBranch_of {c : Repo × Int} (v : Value) (r : Repo) (s f : ByteArray) (S : Blk) (w : World) (h : Rp w S v r) (hc : jBranch r s f = c) :
    Calls Tryz.prog 24 #[v, .string s, .string f] w (Ret w (RepoRet w.heap.size c)) := hc ▸ workBranch v r s f S w h
theorem workDrop_of {c : Repo × Int} (v : Value) (r : Repo) (s : ByteArray) (S : Blk) (w : World) (h : Rp w S v r) (hc : jDrop r s = c) :
    Calls Tryz.prog 26 #[v, .string s] w (Ret w (RepoRet w.heap.size c)) := hc ▸ workDrop v r s S w h
theorem workMerge_of {c : Repo × List Int × Int} (v : Value) (r : Repo) (s f : ByteArray) (S : Blk) (w : World) (h : Rp w S v r) (hc : jJoin r s f = c) :
    Calls Tryz.prog 25 #[v, .string s, .string f] w (Ret w (JoinRet w.heap.size c)) := hc ▸ workMerge v r s f S w h
theorem oneChg (w : World) (a b c : Int) (ha : i64ok a) (hb : i64ok b) (hc : i64ok c) : Sl tChange (w.alloc (.cells #[.int .i64 a, .int .i64 b, .int .i64 c] 59)) (fun k => w.heap.size ≤ k) (.slice (some ⟨w.heap.size, 0, none⟩) 1 1) [(a, b, c)] :=
  (Own.lit (E := tChange) (e := 59) (B := w.heap.size) (C := fun _ => False) (Each.one [.int .i64 a, .int .i64 b, .int .i64 c] (a, b, c) ⟨rfl, ha, hb, hc⟩) rfl (by simp [maxLen]) (Nat.le_refl _)).sl (fun _ h => h.elim) (fun _ h => h)

theorem litAt (w : World) (n : Int) (hn : i64ok n) (k : Nat) (hk : k = w.heap.size) : Sl tInt (w.alloc (.cells #[.int .i64 n] 3)) (fun k => w.heap.size ≤ k) (.slice (some ⟨k, 0, none⟩) 1 1) [n] := by
  subst hk
  exact dLitOne w n hn
/-- A repo in a box. -/
structure BoxRow (w : World) (g : Nat) (x0 x1 : Value) : Prop where
  row : w.heap[g]? = some (.cells #[x0, x1] 25)
theorem BoxRow.call {w w' : World} {g : Nat} {x0 x1 : Value} (h : BoxRow w g x0 x1) (hb : Below w.heap.size w w') : BoxRow w' g x0 x1 := ⟨(hb.block g (Array.getElem?_eq_some_iff.1 h.row).1).trans h.row⟩
theorem BoxRow.cell0 {w : World} {g : Nat} {x0 x1 : Value} (h : BoxRow w g x0 x1) : w.cell? ⟨g, 0, none⟩ = some x0 := by rw [World.cell?, h.row]; rfl
theorem BoxRow.cell1 {w : World} {g : Nat} {x0 x1 : Value} (h : BoxRow w g x0 x1) : w.cell? ⟨g, 1, none⟩ = some x1 := by rw [World.cell?, h.row]; rfl

--WALK

end Go.Pch
end
