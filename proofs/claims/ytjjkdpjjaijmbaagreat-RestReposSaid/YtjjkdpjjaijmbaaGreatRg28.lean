/- The walks of repoBegun and the law RepoTells. -/
import Derived.Test.YtjjkdpjjaijmbaaGreatRg27
section
namespace Go.Pch
open Go.RowKit Go.Proofs
theorem below_on {W0 W W' : World} (a : Below W0.heap.size W0 W) (b : Below W.heap.size W W') : Below W0.heap.size W0 W' := a.trans (b.mono a.size)

set_option maxRecDepth 100000

/-- A shop whose two heads lie in a block of their own. -/
def ShopAt (w : World) (B : Nat) (vc : Value) (g : Nat) (s t : ByteArray) : Prop := B ≤ g ∧ g < w.heap.size ∧ w.heap[g]? = some (.cells #[.string s, .int .i64 3, .string t, .int .i64 1] 46) ∧ Sl tCommit w (fun k => B ≤ k ∧ k ≠ g) vc crossL
theorem ShopAt.rp {w : World} {B : Nat} {vc : Value} {g : Nat} {s t : ByteArray} (h : ShopAt w B vc g s t) (hs : s.size ≤ 1000) (ht : t.size ≤ 1000) : Rp w (fun k => B ≤ k) (.agg #[vc, .slice (some ⟨g, 0, none⟩) 2 2]) (crossL, H3 s t) :=
  ⟨_, _, rfl, h.2.2.2.mono fun k hk _ => hk.1, headsTwo h.2.2.1 h.1 (ok_small (by decide)) (ok_small (by decide)) hs ht⟩
theorem ShopAt.call {w w' : World} {B : Nat} {vc : Value} {g : Nat} {s t : ByteArray} (h : ShopAt w B vc g s t) (hb : Below w.heap.size w w') : ShopAt w' B vc g s t :=
  ⟨h.1, Nat.lt_of_lt_of_le h.2.1 hb.size, (hb.block _ h.2.1).trans h.2.2.1, h.2.2.2.call hb⟩
theorem shopAt (w : World) : Calls Tryz.prog 22 #[] w (Ret w fun r w' => ∃ ac cc g, r = .agg #[.slice ac crossL.length cc, .slice (some ⟨g, 0, none⟩) 2 2] ∧ ShopAt w' w.heap.size (.slice ac crossL.length cc) g (ByteArray.mk #[109, 97, 105, 110]) (ByteArray.mk #[115, 105, 100, 101])) := by
  refine (lawShop w).mono ?_
  rintro e w1 ⟨_, rfl, ⟨vc, g, rfl, h1, h2, h3, h4⟩, b1⟩
  obtain ⟨ac, cc, rfl, _, _, _⟩ := h4.shape
  exact ⟨_, rfl, ⟨ac, cc, g, rfl, h1, h2, h3, h4⟩, b1⟩

theorem ShopAt.put {w : World} {B : Nat} {vc : Value} {g : Nat} {s t : ByteArray} (h : ShopAt w B vc g s t) (i : Nat) (u : ByteArray) {cs : Array Value} (hcs : (#[.string s, .int .i64 3, .string t, .int .i64 1] : Array Value).setIfInBounds i (.string u) = cs) :
    (w.setCell ⟨g, i, none⟩ (.string u)).heap[g]? = some (.cells cs 46) ∧ Sl tCommit (w.setCell ⟨g, i, none⟩ (.string u)) (fun k => B ≤ k ∧ k ≠ g) vc crossL := by
  refine ⟨?_, h.2.2.2.keep fun k hk _ => heap_setCell_other _ _ _ _ (by simpa using hk.2)⟩
  have e : w.setCell ⟨g, i, none⟩ (.string u) = w.setRow g _ := setCell_eq_setRow w g i _ _ _ _ h.2.2.1
  rw [e, ← hcs]
  exact setRow_heap _ _ _ _ _ _ h.2.2.1
theorem ShopAt.put1 {w : World} {B : Nat} {vc : Value} {g : Nat} {s t : ByteArray} (h : ShopAt w B vc g s t) (u : ByteArray) : ShopAt (w.setCell ⟨g, 2, none⟩ (.string u)) B vc g s u := by
  obtain ⟨h1, h2⟩ := h.put 2 u rfl
  exact ⟨h.1, by simpa using h.2.1, h1, h2⟩
theorem ShopAt.put0 {w : World} {B : Nat} {vc : Value} {g : Nat} {s t : ByteArray} (h : ShopAt w B vc g s t) (u : ByteArray) : ShopAt (w.setCell ⟨g, 0, none⟩ (.string u)) B vc g u t := by
  obtain ⟨h1, h2⟩ := h.put 0 u rfl
  exact ⟨h.1, by simpa using h.2.1, h1, h2⟩
theorem ShopAt.cells {w : World} {B : Nat} {vc : Value} {g : Nat} {s t : ByteArray} (h : ShopAt w B vc g s t) : w.cell? ⟨g, 0, none⟩ = some (.string s) ∧ w.cell? ⟨g, 2, none⟩ = some (.string t) ∧ ∀ i, w.frozen? ⟨g, i, none⟩ = false :=
  ⟨by rw [World.cell?, h.2.2.1]; rfl, by rw [World.cell?, h.2.2.1]; rfl, fun i => frozen_of_row w g i _ _ h.2.2.1⟩

theorem oneI (w : World) (C : Blk) (n : Int) (hn : i64ok n) : Each tInt w C [[.int .i64 n]] [n] := Each.one _ _ ⟨rfl, hn⟩
theorem lit3210 (w : World) : Sl tInt (w.alloc (.cells #[.int .i64 3, .int .i64 2, .int .i64 1, .int .i64 0] 3)) (fun k => w.heap.size ≤ k) (.slice (some ⟨w.heap.size, 0, none⟩) 4 4) [3, 2, 1, 0] :=
  (Own.lit (E := tInt) (e := 3) (B := w.heap.size) (C := fun _ => False) ((((oneI w _ 3 (ok_small (by decide))).app (oneI w _ 2 (ok_small (by decide)))).app (oneI w _ 1 (ok_small (by decide)))).app (oneI w _ 0 (ok_small (by decide)))) rfl (by simp [maxLen]) (Nat.le_refl _)).sl (fun _ h => h.elim) (fun _ h => h)



end Go.Pch
end
