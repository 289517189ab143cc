/- The walk of rowsBegun. -/
import Derived.Test.YtdbecbjhgiljoaaTabB
import Derived.Laws.MakeOwn
namespace Go.Pch
open Go.RowKit Go.Proofs

theorem rowsFind_of {c : Int × Int} (v : Value) (l : List Row) (key : Int) (S : Blk) (w : World) (h : Sl tRow w S v l) (hc : findP l key = c) :
    Calls Try.prog 35 #[v, .int .i64 key] w (Ret w fun r _ => r = .tuple #[.int .i64 c.1, .int .i64 c.2]) := hc ▸ rowsFind v l key S w h
theorem rowsPut_of {c : List Row × Int} (v : Value) (l : List Row) (key val : Int) (S : Blk) (w : World) (h : Sl tRow w S v l) (ok : i64ok key ∧ i64ok val) (hc : putP l key val = c) :
    Calls Try.prog 40 #[v, .int .i64 key, .int .i64 val] w (Ret w fun r w' => ∃ x, r = .tuple #[x, .int .i64 c.2] ∧ Sl tRow w' (fun k => w.heap.size ≤ k) x c.1) := hc ▸ rowsPut v l key val S w h ok
theorem rowsCheck_of {c : Int} (v : Value) (l : List Row) (S : Blk) (w : World) (h : Sl tRow w S v l) (hc : rowsErr l = c) :
    Calls Try.prog 38 #[v] w (Ret w fun r _ => r = .int .i64 c) := hc ▸ rowsCheck v l S w h
theorem rowsCheck_many (ao : Option Addr) (n c : Nat) (w : World) (hn : 40 < n) (h : n ≤ 1000) : Calls Try.prog 38 #[.slice ao n c] w fun e w' => e = .returned (.int .i64 2) ∧ w = w' := by
  go_enter Try.func38, Try.ntmps38
  go_wp2
  go_ret
  exact ⟨rfl, rfl⟩

theorem runMake41 : ∃ Z : Array Value, ∀ W, Sem.run Try.prog (Instr.makeSlice 22 (.int .i64 41) (.int .i64 41)) W = .ok (.slice (some ⟨W.heap.size, 0, none⟩) 41 41) (W.alloc (.cells Z 31)) := by
  obtain ⟨q, z, i1, i2, i3, i4, i5⟩ := aRow.info
  exact ⟨_, fun W => run_makeSlice W 22 31 q z Try.underlying22 i1 i2 .i64 .i64 41 41 (by omega) (by omega) (by rw [i3]; decide) (by omega) (by omega)⟩

theorem on_cell' {w : World} {k i : Nat} {x : Value} (h : w.cell? ⟨k, i, none⟩ = some x) (o : Obj) : (w.alloc o).cell? ⟨k, i, none⟩ = some x :=
  (World.cell?_of_block (Below.heap_alloc w o k (World.block_lt_of_cell? _ _ h))).trans h

theorem twoThrees (w : World) : Sl tRow (w.alloc (.cells #[.int .i64 3, .int .i64 0, .int .i64 3, .int .i64 0] 31)) (fun k => w.heap.size ≤ k) (.slice (some ⟨w.heap.size, 0, none⟩) 2 2) [(3, 0), (3, 0)] := by
  have hE : Each tRow w (fun _ => False) [[.int .i64 3, .int .i64 0], [.int .i64 3, .int .i64 0]] [(3, 0), (3, 0)] :=
    (Each.one _ _ (tRow_mk _ _ 3 0 (ok_small (by omega)) (ok_small (by omega)))).app (Each.one _ _ (tRow_mk _ _ 3 0 (ok_small (by omega)) (ok_small (by omega))))
  have ho := Own.lit (E := tRow) (e := 31) (B := w.heap.size) hE rfl (by decide) (Nat.le_refl _)
  exact ho.sl (fun _ h => h.elim) (fun _ h => h)

set_option maxRecDepth 100000 in
set_option maxHeartbeats 2000000 in
theorem rowsBegun (w : World) : Calls Try.prog 37 #[] w (Ret w fun r _ => r = .bool true) := by
  have hg := rowGuard
  obtain ⟨Z, hmk⟩ := runMake41
  have heq := rowEqual 8 1 8 1
  simp only [decide_true] at heq
  go_enter Try.func37, Try.ntmps37
  go_wp2_with fail
  refine (lawFew _).mono ?_; rintro e w1 ⟨v1, rfl, h1, b1⟩
  have s1 := b1.size
  go_wp2_with fail
  refine (rowsFind_of (c := (0, 0)) _ _ _ _ w1 h1 (by decide)).mono ?_; rintro e w2 ⟨_, rfl, rfl, b2⟩
  have b02 := b1.trans (b2.mono s1)
  clear h1 b1 s1 b2
  have s2 := b02.size
  go_wp2_with fail
  refine (lawFew _).mono ?_; rintro e w3 ⟨v3, rfl, h3, b3⟩
  have s3 := b3.size
  go_wp2_with fail
  refine (rowsFind_of (c := (-1, 0)) _ _ _ _ w3 h3 (by decide)).mono ?_; rintro e w4 ⟨_, rfl, rfl, b4⟩
  have b04 := b02.trans ((b3.trans (b4.mono s3)).mono s2)
  clear h3 b3 s3 b4 b02 s2
  have s4 := b04.size
  go_wp2_with fail
  refine (lawFew _).mono ?_; rintro e w5 ⟨v5, rfl, h5, b5⟩
  have s5 := b5.size
  go_wp2_with fail
  refine (rowsPut_of (c := ([(2, 5), (7, 0), (8, 1), (9, 30)], 0)) _ _ _ _ _ w5 h5 ⟨ok_small (by omega), ok_small (by omega)⟩ (by decide)).mono ?_; rintro e w6 ⟨_, rfl, ⟨x6, rfl, h6⟩, b6⟩
  have b06 := b04.trans ((b5.trans (b6.mono s5)).mono s4)
  clear h5 b5 s5 b6 b04 s4
  have s6 := b06.size
  obtain ⟨a6, c6, rfl, _, _, _⟩ := h6.shapeAt 4 rfl
  go_wp2_with fail
  refine (lawFew _).mono ?_; rintro e w7 ⟨v7, rfl, h7, b7⟩
  have s7 := b7.size
  go_wp2_with fail
  refine (rowsPut_of (c := ([(2, 5), (9, 30)], 0)) _ _ _ _ _ w7 h7 ⟨ok_small (by omega), ok_small (by omega)⟩ (by decide)).mono ?_; rintro e w8 ⟨_, rfl, ⟨x8, rfl, h8⟩, b8⟩
  have b68 := b7.trans (b8.mono s7)
  have b08 := b06.trans (b68.mono s6)
  have h68 := h6.call b68
  clear h7 b7 s7 b8 b06 s6 h6 b68
  have s8 := b08.size
  obtain ⟨a8, c8, rfl, _, _, _⟩ := h8.shapeAt 2 rfl
  clear h8
  go_wp2_with fail
  refine (lawFew _).mono ?_; rintro e w9 ⟨v9, rfl, h9, b9⟩
  have s9 := b9.size
  go_wp2_with fail
  refine (rowsPut_of (c := ([], 3)) _ _ _ _ _ w9 h9 ⟨ok_small (by omega), ok_small (by omega)⟩ (by decide)).mono ?_; rintro e w10 ⟨_, rfl, ⟨x10, rfl, _⟩, b10⟩
  have b810 := b9.trans (b10.mono s9)
  have b010 := b08.trans (b810.mono s8)
  have h610 := h68.call b810
  clear h9 b9 s9 b10 h68 b810 b08 s8
  have s10 := b010.size
  go_wp2_with fail
  refine (lawFew _).mono ?_; rintro e w11 ⟨v11, rfl, h11, b11⟩
  have s11 := b11.size
  go_wp2_with fail
  refine (rowsPut_of (c := ([], 3)) _ _ _ _ _ w11 h11 ⟨ok_small (by omega), ok_small (by omega)⟩ (by decide)).mono ?_; rintro e w12 ⟨_, rfl, ⟨x12, rfl, _⟩, b12⟩
  have b1012 := b11.trans (b12.mono s11)
  have b012 := b010.trans (b1012.mono s10)
  have h612 := h610.call b1012
  clear h11 b11 s11 b12 h610 b1012 b010 s10
  have s12 := b012.size
  go_wp2_with fail
  refine (lawFew _).mono ?_; rintro e w13 ⟨v13, rfl, h13, b13⟩
  have s13 := b13.size
  go_wp2_with fail
  refine (rowsCheck_of (c := 0) _ _ _ w13 h13 (by decide)).mono ?_; rintro e w14 ⟨_, rfl, rfl, b14⟩
  have b1214 := b13.trans (b14.mono s13)
  have b014 := b012.trans (b1214.mono s12)
  have h614 := h612.call b1214
  clear h13 b13 s13 b14 h612 b1214 b012 s12
  have s14 := b014.size
  go_wp2_with fail
  refine (rowsCheck_of (c := 1) _ _ _ _ (twoThrees w14) (by decide)).mono ?_; rintro e w15 ⟨_, rfl, rfl, b15⟩
  have b1415 := ((Below.refl w14.heap.size w14).alloc (Nat.le_refl _) (.cells #[.int .i64 3, .int .i64 0, .int .i64 3, .int .i64 0] 31)).trans (b15.mono (by simp))
  have b015 := b014.trans (b1415.mono s14)
  have h615 := h614.call b1415
  clear b15 h614 b1415 b014 s14
  have s15 := b015.size
  obtain ⟨p2, o2, i2, _, hp2, _, _, q0, q1⟩ := h615.idxRow aRow 2 2 rfl (by decide)
  have q0' : ∀ o, (w15.alloc o).cell? ⟨p2, o2, none⟩ = some (.int .i64 8) := fun o => on_cell' q0 o
  have q1' : ∀ o, (w15.alloc o).cell? ⟨p2, o2 + 1, none⟩ = some (.int .i64 1) := fun o => on_cell' q1 o
  clear h615 q0 q1
  go_wp2_with fail
  refine (rowsCheck_many _ 41 _ _ (by omega) (by omega)).mono ?_; rintro e w' ⟨rfl, rfl⟩
  go_wp2
  go_ret
  exact ⟨_, rfl, rfl, b015.alloc s15 _⟩

end Go.Pch
