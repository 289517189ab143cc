/- The walk of diff.Between. -/
import Derived.Test.YtjjkdpjjaijmbaaGreatDoorDg13
import Derived.Test.YtjjkdpjjaijmbaaGreatDoorDg14
section
namespace Go.Pch
open Go.RowKit Go.Proofs
set_option maxRecDepth 100000
def lenOf : Value → Nat
  | .slice _ n _ => n
  | _ => 0
theorem Sl.tail {α : Type} {E : Ty α} {w : World} {S : Blk} {P : Program} {T e : TypeId} {v : Value} {r : α} {l : List α} (h : Sl E w S v (r :: l)) (hA : At P E T e) :
    ∃ ao cap, (∀ W, Sem.run P (Instr.sliceAt T v (some (.int .i64 1)) none none) W = .ok (.slice ao l.length cap) W) ∧
      (∀ W, Sem.run P (Instr.slice T v (some (.int .i64 1)) none none) W = .ok (.slice ao l.length cap) W) ∧ Sl E w S (.slice ao l.length cap) l := by
  obtain ⟨ao, cap, h1, h2, h3, _⟩ := h.cutFrom hA 1 1 rfl (by simp)
  simp only [List.length_cons, Nat.add_sub_cancel, List.drop_succ_cons, List.drop_zero] at h1 h2 h3
  exact ⟨ao, cap, h1, h2, h3⟩
theorem fineB_cons {r : Row} {l : List Row} : fineB (r :: l) = true ↔ (0 ≤ r.1 ∧ r.1 ≤ 99 ∧ 0 ≤ r.2 ∧ r.2 ≤ 996) ∧ fineB l = true := by
  simp [fineB, List.all_cons, and_assoc]
structure Cell3 (w0 w : World) (X : Nat) (t : TypeId) (x : Change) : Prop where
  blk : w.heap[X]? = some (.cells #[.int .i64 x.1, .int .i64 x.2.1, .int .i64 x.2.2] t)
  low : Below X w0 w
section
variable {w0 w : World} {X : Nat} {t : TypeId} {x : Change}
theorem Cell3.alloc (w : World) (t : TypeId) (a b c : Int) : Cell3 w (w.alloc (.cells #[.int .i64 a, .int .i64 b, .int .i64 c] t)) w.heap.size t (a, b, c) :=
  ⟨heap_alloc_new w _, (Below.refl _ _).alloc (Nat.le_refl _) _⟩
theorem Cell3.lt (h : Cell3 w0 w X t x) : X < w.heap.size := (Array.getElem?_eq_some_iff.1 h.blk).1
theorem Cell3.drew (h : Cell3 w0 w X t x) : Cell3 w0 w.drew X t x := ⟨h.blk, h.low.drew⟩
theorem Cell3.drewN (h : Cell3 w0 w X t x) (n : Nat) : Cell3 w0 (w.drewN n) X t x := ⟨h.blk, below_drewN h.low n⟩
theorem Cell3.cell0 (h : Cell3 w0 w X t x) : w.cell? ⟨X, 0, none⟩ = some (.int .i64 x.1) := by simp [World.cell?, h.blk]
theorem Cell3.cell1 (h : Cell3 w0 w X t x) : w.cell? ⟨X, 1, none⟩ = some (.int .i64 x.2.1) := by simp [World.cell?, h.blk]
theorem Cell3.cell2 (h : Cell3 w0 w X t x) : w.cell? ⟨X, 2, none⟩ = some (.int .i64 x.2.2) := by simp [World.cell?, h.blk]
theorem Cell3.free (h : Cell3 w0 w X t x) (k : Nat) : w.frozen? ⟨X, k, none⟩ = false := frozen_plain' h.blk
theorem Cell3.set0 (h : Cell3 w0 w X t x) (v : Int) : Cell3 w0 (w.setCell ⟨X, 0, none⟩ (.int .i64 v)) X t (v, x.2) :=
  ⟨(heap_setCell_same w X 0 _ _ _ h.blk).trans rfl, h.low.setCell (Nat.le_refl _) _⟩
theorem Cell3.set1 (h : Cell3 w0 w X t x) (v : Int) : Cell3 w0 (w.setCell ⟨X, 1, none⟩ (.int .i64 v)) X t (x.1, v, x.2.2) :=
  ⟨(heap_setCell_same w X 1 _ _ _ h.blk).trans rfl, h.low.setCell (Nat.le_refl _) _⟩
theorem Cell3.set2 (h : Cell3 w0 w X t x) (v : Int) : Cell3 w0 (w.setCell ⟨X, 2, none⟩ (.int .i64 v)) X t (x.1, x.2.1, v) :=
  ⟨(heap_setCell_same w X 2 _ _ _ h.blk).trans rfl, h.low.setCell (Nat.le_refl _) _⟩
end
set_option maxHeartbeats 2000000 in
theorem between (v u : Value) (a b : List Row) (S S' : Blk) (w : World) (h : Sl tRow w S v a) (g : Sl tRow w S' u b) (ha : fineB a = true) (hb : fineB b = true) (hl : a.length + b.length ≤ 1000000) :
    Calls Tryz.prog 73 #[v, u] w (Ret w fun r w' => Own tChange 95 w' w.heap.size (fun _ => False) r (betw a b)) := by
  have hv := h.old
  have gv := g.old
  clear h g
  go_enter Tryz.func73, Tryz.ntmps73
  go_wp2
  go_loopw [0, 1, 5] (fun va vb vo wr => ∃ (x y : List Row) (o : List Change), Sl tRow w (fun k => k < w.heap.size) va x ∧ Sl tRow w (fun k => k < w.heap.size) vb y ∧ fineB x = true ∧ fineB y = true ∧ Below w.heap.size w wr ∧ Own tChange 95 wr w.heap.size (fun _ => False) vo o ∧ Hid (betw a b = o ++ betw x y) ∧ o.length + x.length + y.length ≤ a.length + b.length) (fun va vb _ _ => lenOf va + lenOf vb)
  case atStart => exact ⟨a, b, [], hv, gv, ha, hb, Below.refl _ _, .nil, rfl, by simp⟩
  case round =>
    obtain ⟨x, y, o, hx, hy, fx, fy, hbl, ho, hH, hn⟩ := hrel
    clear hv gv ha hb
    have hs := hbl.size
    cases x with
    | nil =>
      cases y with
      | nil =>
        obtain ⟨ax, cx, rfl, hcx, hmx, _⟩ := hx.shapeAt 0 rfl
        obtain ⟨ay, cy, rfl, hcy, hmy, _⟩ := hy.shapeAt 0 rfl
        go_wp2
        go_ret
        refine ⟨_, rfl, ?_, hbl⟩
        rw [hH.out, betw_nil, List.append_nil]
        exact ho
      | cons s y =>
        obtain ⟨ax, cx, rfl, hcx, hmx, _⟩ := hx.shapeAt 0 rfl
        obtain ⟨⟨j0, j1, j2, j3⟩, fy'⟩ := fineB_cons.1 fy
        obtain ⟨p2, q2, hiy, _, hbs2, ok3, ok4, e0, e1⟩ := hy.idxRowAt aRow 0 0 s rfl rfl
        obtain ⟨a2, ca2, hd1, hd2, hy'⟩ := hy.tail aRow
        have e0' := (hbl.cell (p := ⟨p2, q2, none⟩) hbs2).trans e0
        have e1' := (hbl.cell (p := ⟨p2, q2 + 1, none⟩) hbs2).trans e1
        obtain ⟨ay, cy, rfl, hcy, hmy, _⟩ := hy.shapeAt (y.length + 1) rfl
        have m1 : p2 ≠ wr.heap.size := by omega
        have m2 : wr.heap.size ≠ p2 := by omega
        have T := Cell3.alloc wr 95 0 (-1) (-1)
        go_wp2_with fail
        generalize wr.alloc (Obj.cells #[Value.int IntKind.i64 0, Value.int IntKind.i64 (-1), Value.int IntKind.i64 (-1)] 95) = W1 at *
        have g0 := (T.low.cell (p := ⟨p2, q2, none⟩) (by simp; omega)).trans e0'
        have g1 := (T.low.cell (p := ⟨p2, q2 + 1, none⟩) (by simp; omega)).trans e1'
        go_quiet (fail)
        replace T := T.drewN nq
        replace g0 := (World.cell?_drewN W1 nq _).trans g0
        replace g1 := (World.cell?_drewN W1 nq _).trans g1
        generalize W1.drewN nq = W3 at *
        go_wp2_with fail
        have t0 := T.cell0
        have t1 := T.cell1
        have t2 := T.cell2
        have z0 := T.free 0
        have z1 := T.free 1
        have z2 := T.free 2
        go_region
        have T' := (((T.set0 s.1).set2 s.2)).drew
        simp only at T'
        generalize (((W3.setCell ⟨wr.heap.size, 0, none⟩ (Value.int IntKind.i64 s.1)).setCell ⟨wr.heap.size, 2, none⟩ (Value.int IntKind.i64 s.2)).drew) = W2 at *
        clear T t0 t1 t2 z0 z1 z2 g0 g1
        have u0 := T'.cell0
        have u1 := T'.cell1
        have u2 := T'.cell2
        simp only at u0 u1 u2
        have ho' := ho.call T'.low
        have hs2 := T'.low.size
        have hb2 : Below w.heap.size w W2 := hbl.trans (T'.low.mono hs)
        have hlen : o.length + 1 ≤ 1000000000000 := by simp at hn; omega
        have hne : ((-1 : Int) != s.2) = true := by simp; omega
        obtain ⟨ao, co, rfl, _, _⟩ := ho.shape
        go_wp2_with (at_builtin; refine wpList_grow rfl (.tmp 95) (.tmp 97) rfl aChg rfl (ho'.alloc _) rfl (by simp) (Src.one (cs := [_, _, _]) (tChange_mk W2 (fun _ => False) s.1 (-1) s.2 ok3 (ok_small (by omega)) ok4) _) (by simp) (fun _ h => h.elim) (by simp; omega) (by simp; omega) ?_)
        intro v3 w3 ho3 hg3
        have hb3 : Below w.heap.size w w3 := (hb2.alloc (by omega) _).grown hg3 (by simp; omega) (fun k hk => (ho'.block k hk).1)
        go_wp2
        go_roundw
        case rel => exact ⟨[], y, o ++ [(s.1, (-1), s.2)], hx, hy', fx, fy', hb3, ho3, by rw [hH.out, betw_right (.inl rfl), List.append_assoc]; rfl, by simp at hn ⊢; omega⟩
        case measure => simp [lenOf]; try omega
    | cons r x =>
      cases y with
      | nil =>
        obtain ⟨⟨k0, k1, k2, k3⟩, fx'⟩ := fineB_cons.1 fx
        obtain ⟨p, q, hix, _, hbs, ok1, ok2, c0, c1⟩ := hx.idxRowAt aRow 0 0 r rfl rfl
        obtain ⟨a1, ca1, hc1, hc2, hx'⟩ := hx.tail aRow
        have c0' := (hbl.cell (p := ⟨p, q, none⟩) hbs).trans c0
        have c1' := (hbl.cell (p := ⟨p, q + 1, none⟩) hbs).trans c1
        obtain ⟨ax, cx, rfl, hcx, hmx, _⟩ := hx.shapeAt (x.length + 1) rfl
        have n1 : p ≠ wr.heap.size := by omega
        have n2 : wr.heap.size ≠ p := by omega
        obtain ⟨ay, cy, rfl, hcy, hmy, _⟩ := hy.shapeAt 0 rfl
        have T := Cell3.alloc wr 95 0 (-1) (-1)
        go_wp2_with fail
        generalize wr.alloc (Obj.cells #[Value.int IntKind.i64 0, Value.int IntKind.i64 (-1), Value.int IntKind.i64 (-1)] 95) = W1 at *
        have d0 := (T.low.cell (p := ⟨p, q, none⟩) (by simp; omega)).trans c0'
        have d1 := (T.low.cell (p := ⟨p, q + 1, none⟩) (by simp; omega)).trans c1'
        have t0 := T.cell0
        have t1 := T.cell1
        have t2 := T.cell2
        have z0 := T.free 0
        have z1 := T.free 1
        have z2 := T.free 2
        go_region
        have T' := (((T.set0 r.1).set1 r.2)).drew
        simp only at T'
        generalize (((W1.setCell ⟨wr.heap.size, 0, none⟩ (Value.int IntKind.i64 r.1)).setCell ⟨wr.heap.size, 1, none⟩ (Value.int IntKind.i64 r.2)).drew) = W2 at *
        clear T t0 t1 t2 z0 z1 z2 d0 d1
        have u0 := T'.cell0
        have u1 := T'.cell1
        have u2 := T'.cell2
        simp only at u0 u1 u2
        have ho' := ho.call T'.low
        have hs2 := T'.low.size
        have hb2 : Below w.heap.size w W2 := hbl.trans (T'.low.mono hs)
        have hlen : o.length + 1 ≤ 1000000000000 := by simp at hn; omega
        have hne : (r.2 != -1) = true := by simp; omega
        obtain ⟨ao, co, rfl, _, _⟩ := ho.shape
        go_wp2_with (at_builtin; refine wpList_grow rfl (.tmp 95) (.tmp 97) rfl aChg rfl (ho'.alloc _) rfl (by simp) (Src.one (cs := [_, _, _]) (tChange_mk W2 (fun _ => False) r.1 r.2 (-1) ok1 ok2 (ok_small (by omega))) _) (by simp) (fun _ h => h.elim) (by simp; omega) (by simp; omega) ?_)
        intro v3 w3 ho3 hg3
        have hb3 : Below w.heap.size w w3 := (hb2.alloc (by omega) _).grown hg3 (by simp; omega) (fun k hk => (ho'.block k hk).1)
        go_wp2
        go_roundw
        case rel => exact ⟨x, [], o ++ [(r.1, r.2, (-1))], hx', hy, fx', fy, hb3, ho3, by rw [hH.out, betw_left (.inl rfl), List.append_assoc]; rfl, by simp at hn ⊢; omega⟩
        case measure => simp [lenOf]; try omega
      | cons s y =>
        rcases Int.lt_trichotomy r.1 s.1 with hlt | heq | hlt
        · obtain ⟨⟨k0, k1, k2, k3⟩, fx'⟩ := fineB_cons.1 fx
          obtain ⟨p, q, hix, _, hbs, ok1, ok2, c0, c1⟩ := hx.idxRowAt aRow 0 0 r rfl rfl
          obtain ⟨a1, ca1, hc1, hc2, hx'⟩ := hx.tail aRow
          have c0' := (hbl.cell (p := ⟨p, q, none⟩) hbs).trans c0
          have c1' := (hbl.cell (p := ⟨p, q + 1, none⟩) hbs).trans c1
          obtain ⟨ax, cx, rfl, hcx, hmx, _⟩ := hx.shapeAt (x.length + 1) rfl
          have n1 : p ≠ wr.heap.size := by omega
          have n2 : wr.heap.size ≠ p := by omega
          obtain ⟨⟨j0, j1, j2, j3⟩, fy'⟩ := fineB_cons.1 fy
          obtain ⟨p2, q2, hiy, _, hbs2, ok3, ok4, e0, e1⟩ := hy.idxRowAt aRow 0 0 s rfl rfl
          obtain ⟨a2, ca2, hd1, hd2, hy'⟩ := hy.tail aRow
          have e0' := (hbl.cell (p := ⟨p2, q2, none⟩) hbs2).trans e0
          have e1' := (hbl.cell (p := ⟨p2, q2 + 1, none⟩) hbs2).trans e1
          obtain ⟨ay, cy, rfl, hcy, hmy, _⟩ := hy.shapeAt (y.length + 1) rfl
          have m1 : p2 ≠ wr.heap.size := by omega
          have m2 : wr.heap.size ≠ p2 := by omega
          have hlt' : decide (r.1 < s.1) = true := by simpa using hlt
          have T := Cell3.alloc wr 95 0 (-1) (-1)
          go_wp2_with fail
          generalize wr.alloc (Obj.cells #[Value.int IntKind.i64 0, Value.int IntKind.i64 (-1), Value.int IntKind.i64 (-1)] 95) = W1 at *
          have d0 := (T.low.cell (p := ⟨p, q, none⟩) (by simp; omega)).trans c0'
          have d1 := (T.low.cell (p := ⟨p, q + 1, none⟩) (by simp; omega)).trans c1'
          have g0 := (T.low.cell (p := ⟨p2, q2, none⟩) (by simp; omega)).trans e0'
          have g1 := (T.low.cell (p := ⟨p2, q2 + 1, none⟩) (by simp; omega)).trans e1'
          go_quiet (fail)
          replace T := T.drewN nq
          replace d0 := (World.cell?_drewN W1 nq _).trans d0
          replace d1 := (World.cell?_drewN W1 nq _).trans d1
          replace g0 := (World.cell?_drewN W1 nq _).trans g0
          replace g1 := (World.cell?_drewN W1 nq _).trans g1
          generalize W1.drewN nq = W3 at *
          go_wp2_with fail
          have t0 := T.cell0
          have t1 := T.cell1
          have t2 := T.cell2
          have z0 := T.free 0
          have z1 := T.free 1
          have z2 := T.free 2
          go_region
          have T' := (((T.set0 r.1).set1 r.2)).drew
          simp only at T'
          generalize (((W3.setCell ⟨wr.heap.size, 0, none⟩ (Value.int IntKind.i64 r.1)).setCell ⟨wr.heap.size, 1, none⟩ (Value.int IntKind.i64 r.2)).drew) = W2 at *
          clear T t0 t1 t2 z0 z1 z2 d0 d1 g0 g1
          have u0 := T'.cell0
          have u1 := T'.cell1
          have u2 := T'.cell2
          simp only at u0 u1 u2
          have ho' := ho.call T'.low
          have hs2 := T'.low.size
          have hb2 : Below w.heap.size w W2 := hbl.trans (T'.low.mono hs)
          have hlen : o.length + 1 ≤ 1000000000000 := by simp at hn; omega
          have hne : (r.2 != -1) = true := by simp; omega
          obtain ⟨ao, co, rfl, _, _⟩ := ho.shape
          go_wp2_with (at_builtin; refine wpList_grow rfl (.tmp 95) (.tmp 97) rfl aChg rfl (ho'.alloc _) rfl (by simp) (Src.one (cs := [_, _, _]) (tChange_mk W2 (fun _ => False) r.1 r.2 (-1) ok1 ok2 (ok_small (by omega))) _) (by simp) (fun _ h => h.elim) (by simp; omega) (by simp; omega) ?_)
          intro v3 w3 ho3 hg3
          have hb3 : Below w.heap.size w w3 := (hb2.alloc (by omega) _).grown hg3 (by simp; omega) (fun k hk => (ho'.block k hk).1)
          go_wp2
          go_roundw
          case rel => exact ⟨x, s :: y, o ++ [(r.1, r.2, (-1))], hx', hy, fx', fy, hb3, ho3, by rw [hH.out, betw_left (.inr ⟨s, y, rfl, hlt⟩), List.append_assoc]; rfl, by simp at hn ⊢; omega⟩
          case measure => simp [lenOf]; try omega
        · by_cases hv : r.2 = s.2
          · obtain ⟨⟨k0, k1, k2, k3⟩, fx'⟩ := fineB_cons.1 fx
            obtain ⟨p, q, hix, _, hbs, ok1, ok2, c0, c1⟩ := hx.idxRowAt aRow 0 0 r rfl rfl
            obtain ⟨a1, ca1, hc1, hc2, hx'⟩ := hx.tail aRow
            have c0' := (hbl.cell (p := ⟨p, q, none⟩) hbs).trans c0
            have c1' := (hbl.cell (p := ⟨p, q + 1, none⟩) hbs).trans c1
            obtain ⟨ax, cx, rfl, hcx, hmx, _⟩ := hx.shapeAt (x.length + 1) rfl
            have n1 : p ≠ wr.heap.size := by omega
            have n2 : wr.heap.size ≠ p := by omega
            obtain ⟨⟨j0, j1, j2, j3⟩, fy'⟩ := fineB_cons.1 fy
            obtain ⟨p2, q2, hiy, _, hbs2, ok3, ok4, e0, e1⟩ := hy.idxRowAt aRow 0 0 s rfl rfl
            obtain ⟨a2, ca2, hd1, hd2, hy'⟩ := hy.tail aRow
            have e0' := (hbl.cell (p := ⟨p2, q2, none⟩) hbs2).trans e0
            have e1' := (hbl.cell (p := ⟨p2, q2 + 1, none⟩) hbs2).trans e1
            obtain ⟨ay, cy, rfl, hcy, hmy, _⟩ := hy.shapeAt (y.length + 1) rfl
            have m1 : p2 ≠ wr.heap.size := by omega
            have m2 : wr.heap.size ≠ p2 := by omega
            have hge1 : decide (r.1 < s.1) = false := by simpa using (by omega : s.1 ≤ r.1)
            have hge2 : decide (s.1 < r.1) = false := by simpa using (by omega : r.1 ≤ s.1)
            have heqH := keepBack heq
            have hvH := keepBack hv
            have hne : (r.2 != s.2) = false := by simp [hv]
            clear heq hv
            have T := Cell3.alloc wr 95 0 (-1) (-1)
            go_wp2_with fail
            generalize wr.alloc (Obj.cells #[Value.int IntKind.i64 0, Value.int IntKind.i64 (-1), Value.int IntKind.i64 (-1)] 95) = W1 at *
            have d0 := (T.low.cell (p := ⟨p, q, none⟩) (by simp; omega)).trans c0'
            have d1 := (T.low.cell (p := ⟨p, q + 1, none⟩) (by simp; omega)).trans c1'
            have g0 := (T.low.cell (p := ⟨p2, q2, none⟩) (by simp; omega)).trans e0'
            have g1 := (T.low.cell (p := ⟨p2, q2 + 1, none⟩) (by simp; omega)).trans e1'
            go_quiet (fail)
            replace T := T.drewN nq
            replace d0 := (World.cell?_drewN W1 nq _).trans d0
            replace d1 := (World.cell?_drewN W1 nq _).trans d1
            replace g0 := (World.cell?_drewN W1 nq _).trans g0
            replace g1 := (World.cell?_drewN W1 nq _).trans g1
            generalize W1.drewN nq = W3 at *
            go_wp2_with fail
            go_quiet (fail)
            replace T := T.drewN nq
            replace d0 := (World.cell?_drewN W3 nq _).trans d0
            replace d1 := (World.cell?_drewN W3 nq _).trans d1
            replace g0 := (World.cell?_drewN W3 nq _).trans g0
            replace g1 := (World.cell?_drewN W3 nq _).trans g1
            generalize W3.drewN nq = W4 at *
            go_wp2_with fail
            have t0 := T.cell0
            have t1 := T.cell1
            have t2 := T.cell2
            have z0 := T.free 0
            have z1 := T.free 1
            have z2 := T.free 2
            go_region
            have T' := ((((T.set0 r.1).set1 r.2).set2 s.2)).drew
            simp only at T'
            generalize ((((W4.setCell ⟨wr.heap.size, 0, none⟩ (Value.int IntKind.i64 r.1)).setCell ⟨wr.heap.size, 1, none⟩ (Value.int IntKind.i64 r.2)).setCell ⟨wr.heap.size, 2, none⟩ (Value.int IntKind.i64 s.2)).drew) = W2 at *
            clear T t0 t1 t2 z0 z1 z2 d0 d1 g0 g1
            go_wp2_with fail
            go_quiet (fail)
            replace T' := T'.drewN nq
            generalize W2.drewN nq = W5 at *
            have u0 := T'.cell0
            have u1 := T'.cell1
            have u2 := T'.cell2
            simp only at u0 u1 u2
            have ho' := ho.call T'.low
            have hs2 := T'.low.size
            have hb2 : Below w.heap.size w W5 := hbl.trans (T'.low.mono hs)
            have hlen : o.length + 1 ≤ 1000000000000 := by simp at hn; omega
            go_wp2
            go_roundw
            case rel => exact ⟨x, y, o, hx', hy', fx', fy', hb2, ho', by rw [hH.out, betw_both heqH.out, if_pos hvH.out]; rfl, by simp at hn ⊢; omega⟩
            case measure => simp [lenOf]; omega
          · obtain ⟨⟨k0, k1, k2, k3⟩, fx'⟩ := fineB_cons.1 fx
            obtain ⟨p, q, hix, _, hbs, ok1, ok2, c0, c1⟩ := hx.idxRowAt aRow 0 0 r rfl rfl
            obtain ⟨a1, ca1, hc1, hc2, hx'⟩ := hx.tail aRow
            have c0' := (hbl.cell (p := ⟨p, q, none⟩) hbs).trans c0
            have c1' := (hbl.cell (p := ⟨p, q + 1, none⟩) hbs).trans c1
            obtain ⟨ax, cx, rfl, hcx, hmx, _⟩ := hx.shapeAt (x.length + 1) rfl
            have n1 : p ≠ wr.heap.size := by omega
            have n2 : wr.heap.size ≠ p := by omega
            obtain ⟨⟨j0, j1, j2, j3⟩, fy'⟩ := fineB_cons.1 fy
            obtain ⟨p2, q2, hiy, _, hbs2, ok3, ok4, e0, e1⟩ := hy.idxRowAt aRow 0 0 s rfl rfl
            obtain ⟨a2, ca2, hd1, hd2, hy'⟩ := hy.tail aRow
            have e0' := (hbl.cell (p := ⟨p2, q2, none⟩) hbs2).trans e0
            have e1' := (hbl.cell (p := ⟨p2, q2 + 1, none⟩) hbs2).trans e1
            obtain ⟨ay, cy, rfl, hcy, hmy, _⟩ := hy.shapeAt (y.length + 1) rfl
            have m1 : p2 ≠ wr.heap.size := by omega
            have m2 : wr.heap.size ≠ p2 := by omega
            have hge1 : decide (r.1 < s.1) = false := by simpa using (by omega : s.1 ≤ r.1)
            have hge2 : decide (s.1 < r.1) = false := by simpa using (by omega : r.1 ≤ s.1)
            have heqH := keepBack heq
            have hvH := keepBack hv
            have hne : (r.2 != s.2) = true := by simp [hv]
            clear heq hv
            have T := Cell3.alloc wr 95 0 (-1) (-1)
            go_wp2_with fail
            generalize wr.alloc (Obj.cells #[Value.int IntKind.i64 0, Value.int IntKind.i64 (-1), Value.int IntKind.i64 (-1)] 95) = W1 at *
            have d0 := (T.low.cell (p := ⟨p, q, none⟩) (by simp; omega)).trans c0'
            have d1 := (T.low.cell (p := ⟨p, q + 1, none⟩) (by simp; omega)).trans c1'
            have g0 := (T.low.cell (p := ⟨p2, q2, none⟩) (by simp; omega)).trans e0'
            have g1 := (T.low.cell (p := ⟨p2, q2 + 1, none⟩) (by simp; omega)).trans e1'
            go_quiet (fail)
            replace T := T.drewN nq
            replace d0 := (World.cell?_drewN W1 nq _).trans d0
            replace d1 := (World.cell?_drewN W1 nq _).trans d1
            replace g0 := (World.cell?_drewN W1 nq _).trans g0
            replace g1 := (World.cell?_drewN W1 nq _).trans g1
            generalize W1.drewN nq = W3 at *
            go_wp2_with fail
            go_quiet (fail)
            replace T := T.drewN nq
            replace d0 := (World.cell?_drewN W3 nq _).trans d0
            replace d1 := (World.cell?_drewN W3 nq _).trans d1
            replace g0 := (World.cell?_drewN W3 nq _).trans g0
            replace g1 := (World.cell?_drewN W3 nq _).trans g1
            generalize W3.drewN nq = W4 at *
            go_wp2_with fail
            have t0 := T.cell0
            have t1 := T.cell1
            have t2 := T.cell2
            have z0 := T.free 0
            have z1 := T.free 1
            have z2 := T.free 2
            go_region
            have T' := ((((T.set0 r.1).set1 r.2).set2 s.2)).drew
            simp only at T'
            generalize ((((W4.setCell ⟨wr.heap.size, 0, none⟩ (Value.int IntKind.i64 r.1)).setCell ⟨wr.heap.size, 1, none⟩ (Value.int IntKind.i64 r.2)).setCell ⟨wr.heap.size, 2, none⟩ (Value.int IntKind.i64 s.2)).drew) = W2 at *
            clear T t0 t1 t2 z0 z1 z2 d0 d1 g0 g1
            go_wp2_with fail
            go_quiet (fail)
            replace T' := T'.drewN nq
            generalize W2.drewN nq = W5 at *
            have u0 := T'.cell0
            have u1 := T'.cell1
            have u2 := T'.cell2
            simp only at u0 u1 u2
            have ho' := ho.call T'.low
            have hs2 := T'.low.size
            have hb2 : Below w.heap.size w W5 := hbl.trans (T'.low.mono hs)
            have hlen : o.length + 1 ≤ 1000000000000 := by simp at hn; omega
            obtain ⟨ao, co, rfl, _, _⟩ := ho.shape
            go_wp2_with (at_builtin; refine wpList_grow rfl (.tmp 95) (.tmp 97) rfl aChg rfl (ho'.alloc _) rfl (by simp) (Src.one (cs := [_, _, _]) (tChange_mk W5 (fun _ => False) r.1 r.2 s.2 ok1 ok2 ok4) _) (by simp) (fun _ h => h.elim) (by simp; omega) (by simp; omega) ?_)
            intro v3 w3 ho3 hg3
            have hb3 : Below w.heap.size w w3 := (hb2.alloc (by omega) _).grown hg3 (by simp; omega) (fun k hk => (ho'.block k hk).1)
            go_wp2
            go_roundw
            case rel => exact ⟨x, y, o ++ [(r.1, r.2, s.2)], hx', hy', fx', fy', hb3, ho3, by rw [hH.out, betw_both heqH.out, if_neg hvH.out, List.append_assoc]; rfl, by simp at hn ⊢; omega⟩
            case measure => simp [lenOf]; try omega
        · obtain ⟨⟨k0, k1, k2, k3⟩, fx'⟩ := fineB_cons.1 fx
          obtain ⟨p, q, hix, _, hbs, ok1, ok2, c0, c1⟩ := hx.idxRowAt aRow 0 0 r rfl rfl
          obtain ⟨a1, ca1, hc1, hc2, hx'⟩ := hx.tail aRow
          have c0' := (hbl.cell (p := ⟨p, q, none⟩) hbs).trans c0
          have c1' := (hbl.cell (p := ⟨p, q + 1, none⟩) hbs).trans c1
          obtain ⟨ax, cx, rfl, hcx, hmx, _⟩ := hx.shapeAt (x.length + 1) rfl
          have n1 : p ≠ wr.heap.size := by omega
          have n2 : wr.heap.size ≠ p := by omega
          obtain ⟨⟨j0, j1, j2, j3⟩, fy'⟩ := fineB_cons.1 fy
          obtain ⟨p2, q2, hiy, _, hbs2, ok3, ok4, e0, e1⟩ := hy.idxRowAt aRow 0 0 s rfl rfl
          obtain ⟨a2, ca2, hd1, hd2, hy'⟩ := hy.tail aRow
          have e0' := (hbl.cell (p := ⟨p2, q2, none⟩) hbs2).trans e0
          have e1' := (hbl.cell (p := ⟨p2, q2 + 1, none⟩) hbs2).trans e1
          obtain ⟨ay, cy, rfl, hcy, hmy, _⟩ := hy.shapeAt (y.length + 1) rfl
          have m1 : p2 ≠ wr.heap.size := by omega
          have m2 : wr.heap.size ≠ p2 := by omega
          have hlt' : decide (s.1 < r.1) = true := by simpa using hlt
          have hge' : decide (r.1 < s.1) = false := by simpa using (by omega : s.1 ≤ r.1)
          have T := Cell3.alloc wr 95 0 (-1) (-1)
          go_wp2_with fail
          generalize wr.alloc (Obj.cells #[Value.int IntKind.i64 0, Value.int IntKind.i64 (-1), Value.int IntKind.i64 (-1)] 95) = W1 at *
          have d0 := (T.low.cell (p := ⟨p, q, none⟩) (by simp; omega)).trans c0'
          have d1 := (T.low.cell (p := ⟨p, q + 1, none⟩) (by simp; omega)).trans c1'
          have g0 := (T.low.cell (p := ⟨p2, q2, none⟩) (by simp; omega)).trans e0'
          have g1 := (T.low.cell (p := ⟨p2, q2 + 1, none⟩) (by simp; omega)).trans e1'
          go_quiet (fail)
          replace T := T.drewN nq
          replace d0 := (World.cell?_drewN W1 nq _).trans d0
          replace d1 := (World.cell?_drewN W1 nq _).trans d1
          replace g0 := (World.cell?_drewN W1 nq _).trans g0
          replace g1 := (World.cell?_drewN W1 nq _).trans g1
          generalize W1.drewN nq = W3 at *
          go_wp2_with fail
          go_quiet (fail)
          replace T := T.drewN nq
          replace d0 := (World.cell?_drewN W3 nq _).trans d0
          replace d1 := (World.cell?_drewN W3 nq _).trans d1
          replace g0 := (World.cell?_drewN W3 nq _).trans g0
          replace g1 := (World.cell?_drewN W3 nq _).trans g1
          generalize W3.drewN nq = W4 at *
          go_wp2_with fail
          have t0 := T.cell0
          have t1 := T.cell1
          have t2 := T.cell2
          have z0 := T.free 0
          have z1 := T.free 1
          have z2 := T.free 2
          go_region
          have T' := (((T.set0 s.1).set2 s.2)).drew
          simp only at T'
          generalize (((W4.setCell ⟨wr.heap.size, 0, none⟩ (Value.int IntKind.i64 s.1)).setCell ⟨wr.heap.size, 2, none⟩ (Value.int IntKind.i64 s.2)).drew) = W2 at *
          clear T t0 t1 t2 z0 z1 z2 d0 d1 g0 g1
          have u0 := T'.cell0
          have u1 := T'.cell1
          have u2 := T'.cell2
          simp only at u0 u1 u2
          have ho' := ho.call T'.low
          have hs2 := T'.low.size
          have hb2 : Below w.heap.size w W2 := hbl.trans (T'.low.mono hs)
          have hlen : o.length + 1 ≤ 1000000000000 := by simp at hn; omega
          have hne : ((-1 : Int) != s.2) = true := by simp; omega
          obtain ⟨ao, co, rfl, _, _⟩ := ho.shape
          go_wp2_with (at_builtin; refine wpList_grow rfl (.tmp 95) (.tmp 97) rfl aChg rfl (ho'.alloc _) rfl (by simp) (Src.one (cs := [_, _, _]) (tChange_mk W2 (fun _ => False) s.1 (-1) s.2 ok3 (ok_small (by omega)) ok4) _) (by simp) (fun _ h => h.elim) (by simp; omega) (by simp; omega) ?_)
          intro v3 w3 ho3 hg3
          have hb3 : Below w.heap.size w w3 := (hb2.alloc (by omega) _).grown hg3 (by simp; omega) (fun k hk => (ho'.block k hk).1)
          go_wp2
          go_roundw
          case rel => exact ⟨r :: x, y, o ++ [(s.1, (-1), s.2)], hx, hy', fx, fy', hb3, ho3, by rw [hH.out, betw_right (.inr ⟨r, x, rfl, hlt⟩), List.append_assoc]; rfl, by simp at hn ⊢; omega⟩
          case measure => simp [lenOf]; try omega
end Go.Pch
end
