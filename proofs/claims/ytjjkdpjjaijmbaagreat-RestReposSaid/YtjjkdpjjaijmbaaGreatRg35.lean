/- The walk of log.read's closure for a change (written by wip/gen_lgr.py). The walk of log.List at changes (written by wip/gen_list.py Chg). Rows of acts. What log.read defers, and its boxes. The walk of log.read. -/
import Derived.Test.YtjjkdpjjaijmbaaGreatRg34
import Derived.Deep.RegionHeld3
import Derived.Test.YtjjkdpjjaijmbaaGreatRg16
import Derived.Test.YtjjkdpjjaijmbaaGreatRg30
import Derived.Test.YtjjkdpjjaijmbaaGreatRg33
import Derived.Test.YtjjkdpjjaijmbaaGreatRg13
import Derived.Defers
import Derived.Recover
import Derived.Laws.Pointers
section
namespace Go.Pch
open Go.RowKit Go.Proofs
set_option maxRecDepth 100000

set_option maxHeartbeats 4000000 in
theorem readChg (gv gb : Nat) (W0 : World) (s : Bytes) (h : GVar W0 gv gb s) : Calls Tryz.prog 69 #[.pointer (some ⟨gv, 0, none⟩)] W0 (Reads gb W0 (VElChg W0) (chgG s)) := by
  obtain ⟨w, rfl⟩ : ∃ w, w = W0 := ⟨_, rfl⟩
  have B0 : Below w.heap.size w (w.alloc (.cells #[.int .i64 0, .int .i64 0, .int .i64 0] 59)).drew := ((Below.refl _ _).alloc (Nat.le_refl _) _).drew
  have h0 := h.next (GOn.of B0) (h.glass.call B0)
  have q := h.ptr
  have hgl := World.block_lt_of_cell? w _ h.ptr
  have q0 : (w.alloc (.cells #[.int .i64 0, .int .i64 0, .int .i64 0] 59)).cell? ⟨gv, 0, none⟩ = some (.pointer (some ⟨gb, 0, none⟩)) := h0.ptr
  have hrow : (w.alloc (.cells #[.int .i64 0, .int .i64 0, .int .i64 0] 59)).drew.heap[w.heap.size]? = some (.cells #[.int .i64 0, .int .i64 0, .int .i64 0] 59) := heap_alloc_new w _
  have hsz : w.heap.size < (w.alloc (.cells #[.int .i64 0, .int .i64 0, .int .i64 0] 59)).drew.heap.size := by simp [World.drew]
  have hng : w.heap.size ≠ gb := by have := h.glass.lt; omega
  cases h1 : num1 s with
  | none =>
    exact readChgNo gv gb w s h (chgG_n1 h1)
  | some x =>
    obtain ⟨k, t⟩ := x
    cases h2 : num2 t with
    | none =>
      exact readChgNo gv gb w s h (chgG_n2 h1 h2)
    | some x =>
      obtain ⟨y, u⟩ := x
      cases h3 : num2 u with
      | none =>
        exact readChgNo gv gb w s h (chgG_n3 h1 h2 h3)
      | some x =>
        obtain ⟨z, r⟩ := x
        have f1 := num1_fit h1
        have f2 := num2_fit h2
        have f3 := num2_fit h3
        have HT : Hid (chgG s = some ((k, y - 1, z - 1), r)) := chgG_ok h1 h2 h3
        have e1 : IntKind.i64.wrap (y - 1) = y - 1 := by rw [IntKind.wrap_i64]; omega
        have e2 : IntKind.i64.wrap (z - 1) = z - 1 := by rw [IntKind.wrap_i64]; omega
        have E1 := keepBack e1
        have E2 := keepBack e2
        clear e1 e2
        go_enter Tryz.func69, Tryz.ntmps69
        go_wp2_with fail
        go_region_held3 (fun W => W.cell? ⟨gv, 0, none⟩ = some (.pointer (some ⟨gb, 0, none⟩)))
          (first
            | exact q0
            | exact h0.ptr
            | exact g1.ptr
            | exact g2.ptr
            | exact g3.ptr
            | exact g4 _ _ _
            | fail)
          (first
            | (go_at_call 66; refine (numTwo gb u _ g2.glass).mono ?_; intro e w3 hT; obtain ⟨_, rfl, rfl, g3, on3⟩ := hT.ok h3; clear hT; replace g3 := g2.next on3 g3; have on13 := (on1.on on2).on on3; have hr3 := (on13.block _ hsz hng).trans hrow; obtain ⟨cc0, cc1, cc2, ff0, g4, g5, g6⟩ := threeCells hr3 hgl hng g3)
            | (go_at_call 66; refine (numTwo gb t _ g1.glass).mono ?_; intro e w2 hT; obtain ⟨_, rfl, rfl, g2, on2⟩ := hT.ok h2; clear hT; replace g2 := g1.next on2 g2)
            | (go_at_call 66; refine (numOne gb s _ h0.glass).mono ?_; intro e w1 hT; obtain ⟨_, rfl, rfl, g1, on1⟩ := hT.ok h1; clear hT; replace g1 := h0.next on1 g1)
            | fail)
        go_wp2
        exact bodyPost_ret (results_cell_row rfl _ _ _ _ _ _ _ rfl (g5 _ _ _) Tryz.underlying59 rfl rfl) rfl (Reads.mk HT.out rfl ⟨by rw [E1.out, E2.out], by unfold i64ok; simp only; omega, by unfold i64ok; simp only; omega, by unfold i64ok; simp only; omega⟩ (g6 _ _ _) (((((GOn.of B0).on on13).late _ (Nat.le_refl _)).late _ (Nat.le_refl _)).late _ (Nat.le_refl _)))

end Go.Pch
end

section
namespace Go.Pch
open Go.RowKit Go.Proofs
set_option maxRecDepth 100000

set_option maxHeartbeats 1000000 in
theorem listChg (p : Bytes → Option (Change × Bytes)) (gv gb : Nat)
    (hF : ∀ (W : World) (s : Bytes), GVar W gv gb s → Calls Tryz.prog 69 #[.pointer (some ⟨gv, 0, none⟩)] W (Reads gb W (VElChg W) (p s)))
    (s : Bytes) (w : World) (h : GVar w gv gb s) :
    Calls Tryz.prog 68 #[.pointer (some ⟨gb, 0, none⟩), .func (.func 69) #[] #[.pointer (some ⟨gv, 0, none⟩)]] w (Reads gb w (VSl tChange w) (listG p s)) := by
  have T := numOne gb s w h.glass
  cases h1 : num1 s with
  | none =>
    have HT := keepBack (listG_none (p := p) h1)
    go_enter Tryz.func68, Tryz.ntmps68
    go_wp2_with fail
    refine T.mono ?_; intro e w1 hT
    obtain ⟨rfl, on1⟩ := hT.no h1
    clear T
    go_wp2
    exact ⟨rfl, Reads.mkNo HT.out rfl on1⟩
  | some x =>
    obtain ⟨m, t⟩ := x
    have hf := num1_fit h1
    obtain ⟨n, rfl⟩ : ∃ n : Nat, m = (n : Int) := ⟨m.toNat, by omega⟩
    have hn : n < 256 := by omega
    have HT := keepBack (listG_some (p := p) h1)
    go_enter Tryz.func68, Tryz.ntmps68
    go_wp2_with fail
    refine T.mono ?_; intro e w1 hT
    obtain ⟨_, rfl, rfl, g1, on1⟩ := hT.ok h1
    replace g1 := h.next on1 g1
    clear T hT h1 hf
    have hgb := h.glass.lt
    have hs1 := on1.size
    go_wp2_with fail
    go_loopw [5, 8] (fun ul ui wr => ∃ (k : Nat) (vl : Value) (l : List Change) (s' : Bytes), vl = ul ∧ k ≤ n ∧ ui = .int .i64 k ∧ l.length = k ∧ Own tChange 59 wr w.heap.size (fun k => w.heap.size ≤ k) vl l ∧ GVar wr gv gb s' ∧ GOn gb w wr ∧
      Hid (repG p n t = (repG p (n - k) s').map fun y => (l ++ y.1, y.2))) (fun _ ui _ => n - (intOf ui).toNat)
    case atStart => exact ⟨0, _, [], t, rfl, Nat.zero_le _, rfl, rfl, Own.nil, g1, on1, by simp [Hid]⟩
    case round =>
      obtain ⟨k, vl, l, s', rfl, hk, rfl, hl, ho, gr, onr, hrep⟩ := hrel
      have hsr := onr.size
      by_cases hlt : k < n
      · obtain ⟨j, hj⟩ : ∃ j, n - k = j + 1 := ⟨n - k - 1, by omega⟩
        rw [hj] at hrep
        have T := hF wr s' gr
        cases hp : p s' with
        | none =>
          have HN : Hid (listG p s = none) := by rw [HT.out, hrep.out, repG_no hp]; rfl
          have HJ := keepBack hj
          clear hj hl
          go_wp2_with fail
          refine T.mono ?_; intro e w2 hT
          obtain ⟨rfl, on2⟩ := hT.no hp
          clear T hp
          go_wp2
          exact ⟨rfl, Reads.mkNo HN.out rfl (onr.on on2)⟩
        | some x =>
          obtain ⟨a, u⟩ := x
          have HN : Hid (repG p n t = (repG p j u).map fun y => (l ++ [a] ++ y.1, y.2)) := by
            rw [hrep.out, repG_ok hp]
            show Hid (Option.map _ (Option.map _ _) = _)
            rw [Option.map_map]
            congr 1
            funext y
            simp
          have HJ := keepBack hj
          have HLL := keepBack hl
          clear hj hl
          go_wp2_with fail
          refine T.mono ?_; intro e w2 hT
          obtain ⟨v, rfl, hv, g2, on2⟩ := hT.ok hp
          replace g2 := gr.next on2 g2
          clear T hp hT
          obtain ⟨rfl, hok1, hok2, hok3⟩ := hv; have hrd : tChange.rd w2 (fun k => wr.heap.size ≤ k) [.int .i64 a.1, .int .i64 a.2.1, .int .i64 a.2.2] a := ⟨rfl, hok1, hok2, hok3⟩
          have hs2 := on2.size
          have ho2 : Own tChange 59 w2 w.heap.size (fun k => w.heap.size ≤ k) vl l := ho.keep fun k hk hlt => on2.block k hlt (by
            rcases hk with hk | hk
            · omega
            · have := (ho.block k hk).1; omega)
          have hvb : ∀ g, vl.ownBlock = some g → g < wr.heap.size := fun g hg => (ho.block g hg).2
          have hD : ∀ k, wr.heap.size ≤ k → k < (w2.alloc (.cells #[.int .i64 a.1, .int .i64 a.2.1, .int .i64 a.2.2] 59)).heap.size → w.heap.size ≤ k ∧ some k ≠ vl.ownBlock := fun k hk _ => ⟨by omega, fun e => by have := hvb k e.symm; omega⟩
          have hNN : l.length + [a].length ≤ 1000000000000 := by have := HLL.out; rw [List.length_singleton]; omega
          have hBB : w.heap.size ≤ (w2.alloc (.cells #[.int .i64 a.1, .int .i64 a.2.1, .int .i64 a.2.2] 59)).heap.size := Nat.le_trans (by omega) ((Below.refl w2.heap.size w2).alloc (Nat.le_refl _) _).size
          go_wp2_with (at_builtin; refine wpList_grow rfl (.tmp 10) (.tmp 13) rfl aChg rfl (ho2.alloc _) rfl (by simp) (Src.one (cs := [.int .i64 a.1, .int .i64 a.2.1, .int .i64 a.2.2]) hrd _) (by simp) hD hNN hBB ?_; intro v3 w3 ho3 hg3)
          have bL := (Below.refl w2.heap.size w2).alloc (Nat.le_refl _) (.cells #[.int .i64 a.1, .int .i64 a.2.1, .int .i64 a.2.2] 59)
          have on3 : Step (fun k => k = gb) w w3 := ((onr.on on2).on (GOn.of bL)).trans (Step.grown hg3 (X := fun k => vl.ownBlock = some k) fun k hk => hk) fun k hk hx => by have := (ho.block k hx).1; omega
          have g3 : GVar w3 gv gb u := by
            have onl : Step (fun k => vl.ownBlock = some k) w2 w3 := (Step.of_below bL).on (Step.grown hg3 fun k hk => hk)
            have hlg := g2.glass.lt
            have hlv := World.block_lt_of_cell? w _ h.ptr
            exact ⟨(onl.block gb hlg fun e => by have := (ho.block gb e).1; omega).trans g2.glass, (onl.cell (p := ⟨gv, 0, none⟩) (by simp; simp at hlv; omega) fun e => by have := (ho.block gv e).1; simp at hlv; omega).trans g2.ptr, h.ne⟩
          go_roundw
          case rel => exact ⟨k + 1, v3, l ++ [a], u, rfl, by omega, by go_num, by simp; exact HLL.out, ho3, g3, on3, by rw [show n - (k + 1) = j from by have := HJ.out; omega]; exact HN⟩
          case measure => simp [intOf]; omega
      · have hkn : n - k = 0 := by omega
        rw [hkn] at hrep
        have HN : Hid (listG p s = some (l, s')) := by rw [HT.out, hrep.out]; simp [repG, Hid]
        clear hkn hl
        go_wp2
        go_ret
        exact Reads.mk HN.out rfl (ho.sl (fun _ h => h) (fun _ h => h)) gr.glass onr

end Go.Pch
end

section
namespace Go.Pch
open Go.RowKit Go.Proofs
set_option maxRecDepth 100000

/-- An act's four cells. -/
def ActRd (w : World) (S : Blk) (cs : List Value) (x : Act) : Prop := ∃ vd, cs = [.int .i64 x.1, .string x.2.1, .string x.2.2.1, vd] ∧ i64ok x.1 ∧ x.2.1.size ≤ maxLen ∧ x.2.2.1.size ≤ maxLen ∧ Sl tChange w S vd x.2.2.2
def tAct : Ty Act where
  size := 4
  pos := by decide
  rd := ActRd
  len := by rintro _ _ _ _ ⟨_, rfl, _⟩; rfl
  one := by
    rintro _ _ _ _ ⟨vd, rfl, _, _, _, hd⟩ u hu
    obtain ⟨a, c, rfl, _⟩ := hd.shape
    simp at hu
    rcases hu with rfl | rfl | rfl | rfl <;> rfl
  keep := by rintro _ _ _ _ _ ⟨vd, rfl, h1, h2, h3, hd⟩ hk; exact ⟨vd, rfl, h1, h2, h3, hd.keep hk⟩
  mono := by rintro _ _ _ _ _ ⟨vd, rfl, h1, h2, h3, hd⟩ hk; exact ⟨vd, rfl, h1, h2, h3, hd.mono hk⟩
theorem aAct : At Tryz.prog tAct 60 28 := At.mk' Tryz.underlying60 (z := .agg #[.int .i64 0, .string ByteArray.empty, .string ByteArray.empty, .slice none 0 0]) (size := 4) (bytes := 64) (by kernel_rfl) rfl rfl (by decide)
theorem Sl.idxAct {w : World} {S : Blk} {P : Program} {T e : TypeId} {v : Value} {l : List Act} (h : Sl tAct w S v l) (hA : At P tAct T e) (n : Int) (i : Nat) (x : Act) (hn : n = (i : Int)) (hx : l[i]? = some x) :
    ∃ b o ad cd, (∀ W, Sem.run P (Instr.indexAt T v (.int .i64 n)) W = .ok (.pointer (some ⟨b, o, none⟩)) W) ∧ S b ∧ b < w.heap.size ∧ i64ok x.1 ∧ x.2.1.size ≤ maxLen ∧ x.2.2.1.size ≤ maxLen ∧ Sl tChange w S (.slice ad x.2.2.2.length cd) x.2.2.2 ∧ x.2.2.2.length ≤ cd ∧ cd ≤ maxLen ∧
      w.cell? ⟨b, o, none⟩ = some (.int .i64 x.1) ∧ w.cell? ⟨b, o + 1, none⟩ = some (.string x.2.1) ∧ w.cell? ⟨b, o + 2, none⟩ = some (.string x.2.2.1) ∧ w.cell? ⟨b, o + 3, none⟩ = some (.slice ad x.2.2.2.length cd) := by
  obtain ⟨hi, rfl⟩ := List.getElem?_eq_some_iff.1 hx
  obtain ⟨b, o, cs, h1, h2, h3, ⟨vd, rfl, h4, h5, h6, hd⟩, h7⟩ := h.idx hA n i hn hi
  obtain ⟨ad, cd, rfl, z1, z2, _⟩ := hd.shape
  exact ⟨b, o, ad, cd, h1, h2, h3, h4, h5, h6, hd, z1, z2, by simpa using h7 0 _ rfl, h7 1 _ rfl, h7 2 _ rfl, h7 3 _ rfl⟩

end Go.Pch
end

section
namespace Go.Pch
open Go.RowKit Go.Proofs
set_option maxRecDepth 100000

set_option maxHeartbeats 400000 in
theorem actIdle (n p q r : Addr) (w : World) :
    CallsD Tryz.prog 65 #[.pointer (some n), .pointer (some p), .pointer (some q), .pointer (some r)] .returning w fun e u' w' => e = .returned (.tuple #[]) ∧ u' = .returning ∧ w' = w := by
  refine callsD_of_wpS Tryz.func65 rfl fun c₀ cs hu => ?_
  apply wpS_seq
  apply wpS_region
  simp [wpOpsS, go_sem, recoverD, hu, Tryz.ntmps65, Exit.thenS]
  refine wpS_cond (t := false) (by simp [Act.eval, Array.replicate]) ?_
  simp only [Bool.false_eq_true, if_false]
  refine wpS_of_wp (wp_skip ?_)
  cases c₀
  simp_all [bodyPostS, results, Tryz.results65]

set_option maxHeartbeats 1000000 in
theorem actCatch (n x q i : Nat) (t : ByteArray) (a b c d e f : Value) (older : List PanicEntry) (w : World) (hn : w.heap[n]? = some (.cells #[.string t] 9)) (hx : w.heap[x]? = some (.cells #[a, b, c, d] 28))
    (hq : w.heap[q]? = some (.cells #[e] 9)) (hi : w.heap[i]? = some (.cells #[f] 4)) (h2 : x < q) (h3 : q < i) :
    CallsD Tryz.prog 65 #[.pointer (some ⟨n, 0, none⟩), .pointer (some ⟨x, 0, none⟩), .pointer (some ⟨q, 0, none⟩), .pointer (some ⟨i, 0, none⟩)] (.panicking ({ v := .iface 156 (.agg #[]), recovered := false } :: older)) w fun y u' w' =>
      y = .returned (.tuple #[]) ∧ u' = .panicking ({ v := .iface 156 (.agg #[]), recovered := true } :: older) ∧ w' = (((((w.setCell ⟨x, 0, none⟩ (.int .i64 0)).setCell ⟨x, 1, none⟩ (.string ⟨#[]⟩)).setCell ⟨x, 2, none⟩ (.string ⟨#[]⟩)).setCell ⟨x, 3, none⟩ (.slice none 0 0)).setCell ⟨q, 0, none⟩ (.string t)).setCell ⟨i, 0, none⟩ (.bool false) := by
  refine callsD_of_wpS Tryz.func65 rfl fun c₀ cs hu => ?_
  apply wpS_seq
  apply wpS_region
  simp [wpOpsS, go_sem, recoverD, hu, Tryz.ntmps65, Exit.thenS]
  refine wpS_cond (t := true) (by simp [Act.eval, Array.replicate]) ?_
  simp only [if_true]
  have n0 : w.cell? ⟨n, 0, none⟩ = some (.string t) := by rw [World.cell?, hn]; rfl
  have r0 : w.cell? ⟨x, 0, none⟩ = some a := by rw [World.cell?, hx]; rfl
  have r1 : w.cell? ⟨x, 1, none⟩ = some b := by rw [World.cell?, hx]; rfl
  have r2 : w.cell? ⟨x, 2, none⟩ = some c := by rw [World.cell?, hx]; rfl
  have r3 : w.cell? ⟨x, 3, none⟩ = some d := by rw [World.cell?, hx]; rfl
  have rf : ∀ i, w.frozen? ⟨x, i, none⟩ = false := fun i => frozen_of_row w x i _ _ hx
  have hq1 : ((((w.setCell ⟨x, 0, none⟩ (.int .i64 0)).setCell ⟨x, 1, none⟩ (.string ⟨#[]⟩)).setCell ⟨x, 2, none⟩ (.string ⟨#[]⟩)).setCell ⟨x, 3, none⟩ (.slice none 0 0)).heap[q]? = some (.cells #[e] 9) :=
    (heap_setCell_other _ _ _ _ (by simp; omega)).trans ((heap_setCell_other _ _ _ _ (by simp; omega)).trans ((heap_setCell_other _ _ _ _ (by simp; omega)).trans ((heap_setCell_other _ _ _ _ (by simp; omega)).trans hq)))
  have e0 : ((((w.setCell ⟨x, 0, none⟩ (.int .i64 0)).setCell ⟨x, 1, none⟩ (.string ⟨#[]⟩)).setCell ⟨x, 2, none⟩ (.string ⟨#[]⟩)).setCell ⟨x, 3, none⟩ (.slice none 0 0)).cell? ⟨q, 0, none⟩ = some e := by rw [World.cell?, hq1]; rfl
  have ef := frozen_of_row _ q 0 _ _ hq1
  have hi1 : (((((w.setCell ⟨x, 0, none⟩ (.int .i64 0)).setCell ⟨x, 1, none⟩ (.string ⟨#[]⟩)).setCell ⟨x, 2, none⟩ (.string ⟨#[]⟩)).setCell ⟨x, 3, none⟩ (.slice none 0 0)).setCell ⟨q, 0, none⟩ (.string t)).heap[i]? = some (.cells #[f] 4) :=
    (heap_setCell_other _ _ _ _ (by simp; omega)).trans ((heap_setCell_other _ _ _ _ (by simp; omega)).trans ((heap_setCell_other _ _ _ _ (by simp; omega)).trans ((heap_setCell_other _ _ _ _ (by simp; omega)).trans ((heap_setCell_other _ _ _ _ (by simp; omega)).trans hi))))
  have i0 : (((((w.setCell ⟨x, 0, none⟩ (.int .i64 0)).setCell ⟨x, 1, none⟩ (.string ⟨#[]⟩)).setCell ⟨x, 2, none⟩ (.string ⟨#[]⟩)).setCell ⟨x, 3, none⟩ (.slice none 0 0)).setCell ⟨q, 0, none⟩ (.string t)).cell? ⟨i, 0, none⟩ = some f := by rw [World.cell?, hi1]; rfl
  have jf := frozen_of_row _ i 0 _ _ hi1
  refine wpS_of_wp ?_
  have ha : ({ tmps := #[Value.pointer (some { block := n, off := 0 }), Value.pointer (some { block := x, off := 0 }), Value.pointer (some { block := q, off := 0 }), Value.pointer (some { block := i, off := 0 })] ++ ((Array.replicate 4 undef).setIfInBounds 0 (Value.iface 156 (Value.agg #[]))).setIfInBounds 1 (Value.bool true), defers := [] } : Go.Act) =
      { tmps := #[Value.pointer (some { block := n, off := 0 }), Value.pointer (some { block := x, off := 0 }), Value.pointer (some { block := q, off := 0 }), Value.pointer (some { block := i, off := 0 }), Value.iface 156 (Value.agg #[]), Value.bool true, undef, undef], defers := [] } := by rfl
  rw [ha]
  clear ha
  go_wp2
  simp [bodyPostS, results, Tryz.results65]

/-- What lies in read's boxes: the text, the act, what is left, whether there is one. -/
structure RdBox (w W : World) (t : Bytes) (k : Int) (a b : ByteArray) (vd : Value) (r : ByteArray) (c : Bool) : Prop where
  e0 : W.heap[w.heap.size]? = some (.cells #[.string (bl t)] 9)
  e1 : W.heap[w.heap.size + 1]? = some (.cells #[.int .i64 k, .string a, .string b, vd] 28)
  e2 : W.heap[w.heap.size + 1 + 1]? = some (.cells #[.string r] 9)
  e3 : W.heap[w.heap.size + 1 + 1 + 1]? = some (.cells #[.bool c] 4)
  low : Below w.heap.size w W
  size : w.heap.size + 6 ≤ W.heap.size
/-- And the glass with its variable. -/
structure RdAt (w W : World) (t s : Bytes) (k : Int) (a b : ByteArray) (vd : Value) (r : ByteArray) (c : Bool) : Prop where
  box : RdBox w W t k a b vd r c
  gl : GVar W (w.heap.size + 1 + 1 + 1 + 1 + 1) (w.heap.size + 1 + 1 + 1 + 1) s
section
variable {w W W' : World} {t s s' : Bytes} {k k' : Int} {a b a' b' r : ByteArray} {vd vd' : Value} {c : Bool}
theorem RdBox.next (h : RdBox w W t k a b vd r c) (on : GOn (w.heap.size + 1 + 1 + 1 + 1) W W') : RdBox w W' t k a b vd r c := by
  have hz := h.size
  exact ⟨(on.block _ (by omega) (by omega)).trans h.e0, (on.block _ (by omega) (by omega)).trans h.e1, (on.block _ (by omega) (by omega)).trans h.e2, (on.block _ (by omega) (by omega)).trans h.e3, h.low.trans (on.below (fun k hk => by omega) (by omega)), Nat.le_trans hz on.size⟩
theorem RdAt.next (h : RdAt w W t s k a b vd r c) (on : GOn (w.heap.size + 1 + 1 + 1 + 1) W W') (hg : GlassAt W' (w.heap.size + 1 + 1 + 1 + 1) s') : RdAt w W' t s' k a b vd r c := ⟨h.box.next on, h.gl.next on hg⟩
theorem RdBox.cells (h : RdBox w W t k a b vd r c) : (W.cell? ⟨w.heap.size, 0, none⟩ = some (.string (bl t)) ∧ W.cell? ⟨w.heap.size + 1, 0, none⟩ = some (.int .i64 k) ∧ W.cell? ⟨w.heap.size + 1, 1, none⟩ = some (.string a) ∧ W.cell? ⟨w.heap.size + 1, 2, none⟩ = some (.string b) ∧ W.cell? ⟨w.heap.size + 1, 3, none⟩ = some vd) ∧
    (W.cell? ⟨w.heap.size + 1 + 1, 0, none⟩ = some (.string r) ∧ W.cell? ⟨w.heap.size + 1 + 1 + 1, 0, none⟩ = some (.bool c)) ∧
    (∀ i, W.frozen? ⟨w.heap.size + 1, i, none⟩ = false) ∧ (∀ i, W.frozen? ⟨w.heap.size + 1 + 1, i, none⟩ = false) ∧ ∀ i, W.frozen? ⟨w.heap.size + 1 + 1 + 1, i, none⟩ = false :=
  ⟨⟨by rw [World.cell?, h.e0]; rfl, by rw [World.cell?, h.e1]; rfl, by rw [World.cell?, h.e1]; rfl, by rw [World.cell?, h.e1]; rfl, by rw [World.cell?, h.e1]; rfl⟩,
    ⟨by rw [World.cell?, h.e2]; rfl, by rw [World.cell?, h.e3]; rfl⟩, fun i => frozen_of_row W _ i _ _ h.e1, fun i => frozen_of_row W _ i _ _ h.e2, fun i => frozen_of_row W _ i _ _ h.e3⟩
theorem GVar.set {gv gb : Nat} {p : Addr} (h : GVar W gv gb s) (u : Value) (h1 : gv ≠ p.block) (h2 : gb ≠ p.block) : GVar (W.setCell p u) gv gb s :=
  ⟨(heap_setCell_other _ _ _ _ h2).trans h.glass, (World.cell?_of_block (w := W) (heap_setCell_other _ _ _ _ h1)).trans h.ptr, h.ne⟩
theorem RdBox.set1 (h : RdBox w W t k a b vd r c) (i : Nat) (u : Value) (he : ∀ X, W.heap[w.heap.size + 1]? = some (.cells #[.int .i64 k, .string a, .string b, vd] X) → (W.setCell ⟨w.heap.size + 1, i, none⟩ u).heap[w.heap.size + 1]? = some (.cells #[.int .i64 k', .string a', .string b', vd'] X)) : RdBox w (W.setCell ⟨w.heap.size + 1, i, none⟩ u) t k' a' b' vd' r c :=
  ⟨(heap_setCell_other _ _ _ _ (by simp <;> omega)).trans h.e0, he _ h.e1, (heap_setCell_other _ _ _ _ (by simp <;> omega)).trans h.e2, (heap_setCell_other _ _ _ _ (by simp <;> omega)).trans h.e3, h.low.setCell (by simp <;> omega) _, by simpa [World.setCell] using h.size⟩
theorem RdBox.setK (h : RdBox w W t k a b vd r c) (n : Int) : RdBox w (W.setCell ⟨w.heap.size + 1, 0, none⟩ (.int .i64 n)) t n a b vd r c := h.set1 0 _ fun X e => heap_setCell_same W _ 0 _ X _ e
theorem RdBox.setA (h : RdBox w W t k a b vd r c) (n : ByteArray) : RdBox w (W.setCell ⟨w.heap.size + 1, 1, none⟩ (.string n)) t k n b vd r c := h.set1 1 _ fun X e => heap_setCell_same W _ 1 _ X _ e
theorem RdBox.setB (h : RdBox w W t k a b vd r c) (n : ByteArray) : RdBox w (W.setCell ⟨w.heap.size + 1, 2, none⟩ (.string n)) t k a n vd r c := h.set1 2 _ fun X e => heap_setCell_same W _ 2 _ X _ e
theorem RdBox.setD (h : RdBox w W t k a b vd r c) (n : Value) : RdBox w (W.setCell ⟨w.heap.size + 1, 3, none⟩ n) t k a b n r c := h.set1 3 _ fun X e => heap_setCell_same W _ 3 _ X _ e
theorem RdBox.setR (h : RdBox w W t k a b vd r c) (n : ByteArray) : RdBox w (W.setCell ⟨w.heap.size + 1 + 1, 0, none⟩ (.string n)) t k a b vd n c :=
  ⟨(heap_setCell_other _ _ _ _ (by simp <;> omega)).trans h.e0, (heap_setCell_other _ _ _ _ (by simp <;> omega)).trans h.e1, heap_setCell_same W _ 0 _ _ _ h.e2, (heap_setCell_other _ _ _ _ (by simp <;> omega)).trans h.e3, h.low.setCell (by simp <;> omega) _, by simpa [World.setCell] using h.size⟩
theorem RdBox.setC (h : RdBox w W t k a b vd r c) (n : Bool) : RdBox w (W.setCell ⟨w.heap.size + 1 + 1 + 1, 0, none⟩ (.bool n)) t k a b vd r n :=
  ⟨(heap_setCell_other _ _ _ _ (by simp <;> omega)).trans h.e0, (heap_setCell_other _ _ _ _ (by simp <;> omega)).trans h.e1, (heap_setCell_other _ _ _ _ (by simp <;> omega)).trans h.e2, heap_setCell_same W _ 0 _ _ _ h.e3, h.low.setCell (by simp <;> omega) _, by simpa [World.setCell] using h.size⟩
theorem RdAt.setK (h : RdAt w W t s k a b vd r c) (n : Int) : RdAt w (W.setCell ⟨w.heap.size + 1, 0, none⟩ (.int .i64 n)) t s n a b vd r c := ⟨h.box.setK n, h.gl.set _ (by simp <;> omega) (by simp <;> omega)⟩
theorem RdAt.setA (h : RdAt w W t s k a b vd r c) (n : ByteArray) : RdAt w (W.setCell ⟨w.heap.size + 1, 1, none⟩ (.string n)) t s k n b vd r c := ⟨h.box.setA n, h.gl.set _ (by simp <;> omega) (by simp <;> omega)⟩
theorem RdAt.setB (h : RdAt w W t s k a b vd r c) (n : ByteArray) : RdAt w (W.setCell ⟨w.heap.size + 1, 2, none⟩ (.string n)) t s k a n vd r c := ⟨h.box.setB n, h.gl.set _ (by simp <;> omega) (by simp <;> omega)⟩
theorem RdAt.setD (h : RdAt w W t s k a b vd r c) (n : Value) : RdAt w (W.setCell ⟨w.heap.size + 1, 3, none⟩ n) t s k a b n r c := ⟨h.box.setD n, h.gl.set _ (by simp <;> omega) (by simp <;> omega)⟩
theorem RdAt.ptrs (h : RdAt w W t s k a b vd r c) : W.cell? ⟨w.heap.size + 1 + 1 + 1 + 1 + 1, 0, none⟩ = some (.pointer (some ⟨w.heap.size + 1 + 1 + 1 + 1, 0, none⟩)) ∧ W.cell? ⟨w.heap.size + 1 + 1 + 1 + 1, 0, none⟩ = some (.string (bl s)) := ⟨h.gl.ptr, h.gl.glass.cell⟩
/-- What read leaves. -/
def ActPost (w : World) (t : Bytes) (o : Option (Act × Bytes)) : Ending → World → Prop := Ret w fun y W => match o with
  | some x => ∃ vd, y = .tuple #[.agg #[.int .i64 x.1.1, .string x.1.2.1, .string x.1.2.2.1, vd], .string (bl x.2), .bool true] ∧ Sl tChange W (fun k => w.heap.size ≤ k) vd x.1.2.2.2
  | none => y = .tuple #[.agg #[.int .i64 0, .string ⟨#[]⟩, .string ⟨#[]⟩, .slice none 0 0], .string (bl t), .bool false]
theorem rdResults (tmps : Array Value) (h : RdBox w W t k a b vd r c) (h2 : tmps.getD 2 undef = .pointer (some ⟨w.heap.size + 1, 0, none⟩)) (h3 : tmps.getD 3 undef = .pointer (some ⟨w.heap.size + 1 + 1, 0, none⟩)) (h4 : tmps.getD 4 undef = .pointer (some ⟨w.heap.size + 1 + 1 + 1, 0, none⟩)) :
    (results Tryz.f38 tmps).run Tryz.prog W = .ok (.tuple #[.agg #[.int .i64 k, .string a, .string b, vd], .string r, .bool c]) W := by
  obtain ⟨⟨_, c0, c1, c2, c3⟩, ⟨c4, c5⟩, _⟩ := h.cells
  have h2' : tmps[2]?.getD undef = .pointer (some ⟨w.heap.size + 1, 0, none⟩) := by simpa using h2
  have h3' : tmps[3]?.getD undef = .pointer (some ⟨w.heap.size + 1 + 1, 0, none⟩) := by simpa using h3
  have h4' : tmps[4]?.getD undef = .pointer (some ⟨w.heap.size + 1 + 1 + 1, 0, none⟩) := by simpa using h4
  simp [results, Tryz.results38, h2', h3', h4', asAddr, go_sem, c0, c1, c2, c3, c4, c5, Result.andThen]
/-- What read defers. -/
def rdDefer (w : World) : Deferred := { target := .fn (.func 65) #[.pointer (some ⟨w.heap.size, 0, none⟩), .pointer (some ⟨w.heap.size + 1, 0, none⟩), .pointer (some ⟨w.heap.size + 1 + 1, 0, none⟩), .pointer (some ⟨w.heap.size + 1 + 1 + 1, 0, none⟩)], args := #[] }
theorem rdDies (tmps : Array Value) (h : RdBox w W t k a b vd r c) (h2 : tmps.getD 2 undef = .pointer (some ⟨w.heap.size + 1, 0, none⟩)) (h3 : tmps.getD 3 undef = .pointer (some ⟨w.heap.size + 1 + 1, 0, none⟩)) (h4 : tmps.getD 4 undef = .pointer (some ⟨w.heap.size + 1 + 1 + 1, 0, none⟩)) :
    Leaves Tryz.prog Tryz.f38 tmps (ActPost w t none) [rdDefer w] (.panicking short) W := by
  rw [rdDefer]
  refine leaves_cons (f := 65) (args := #[.pointer (some ⟨w.heap.size, 0, none⟩), .pointer (some ⟨w.heap.size + 1, 0, none⟩), .pointer (some ⟨w.heap.size + 1 + 1, 0, none⟩), .pointer (some ⟨w.heap.size + 1 + 1 + 1, 0, none⟩)]) (by simp) (by simp [go_sem]) ?_
  refine (actCatch _ _ _ _ _ _ _ _ _ _ _ [] W h.e0 h.e1 h.e2 h.e3 (by omega) (by omega)).mono ?_
  rintro e u' w'' ⟨rfl, rfl, rfl⟩
  have hF := (((((h.setK 0).setA ⟨#[]⟩).setB ⟨#[]⟩).setD (.slice none 0 0)).setR (bl t)).setC false
  exact ⟨_, rdResults tmps hF h2 h3 h4, _, rfl, rfl, hF.low⟩
theorem rdLives {d : List Change} (tmps : Array Value) (h : RdBox w W t k a b vd (bl s) true) (hd : Sl tChange W (fun k => w.heap.size ≤ k) vd d) (h2 : tmps.getD 2 undef = .pointer (some ⟨w.heap.size + 1, 0, none⟩)) (h3 : tmps.getD 3 undef = .pointer (some ⟨w.heap.size + 1 + 1, 0, none⟩)) (h4 : tmps.getD 4 undef = .pointer (some ⟨w.heap.size + 1 + 1 + 1, 0, none⟩)) :
    Leaves Tryz.prog Tryz.f38 tmps (ActPost w t (some ((k, a, b, d), s))) [rdDefer w] .returning W := by
  rw [rdDefer]
  refine leaves_cons (f := 65) (args := #[.pointer (some ⟨w.heap.size, 0, none⟩), .pointer (some ⟨w.heap.size + 1, 0, none⟩), .pointer (some ⟨w.heap.size + 1 + 1, 0, none⟩), .pointer (some ⟨w.heap.size + 1 + 1 + 1, 0, none⟩)]) (by simp) (by simp [go_sem]) ?_
  refine (actIdle _ _ _ _ W).mono ?_
  rintro e u' w'' ⟨rfl, rfl, rfl⟩
  exact ⟨_, rdResults tmps h h2 h3 h4, _, rfl, ⟨_, rfl, hd⟩, h.low⟩
theorem rdStart (w : World) (t : Bytes) : RdAt w ((((((w.alloc (.cells #[.string (bl t)] 9)).alloc (.cells #[.int .i64 0, .string ⟨#[]⟩, .string ⟨#[]⟩, .slice none 0 0] 28)).alloc (.cells #[.string ⟨#[]⟩] 9)).alloc (.cells #[.bool false] 4)).alloc (.cells #[.string (bl t)] 115)).alloc (.cells #[.pointer (some ⟨w.heap.size + 1 + 1 + 1 + 1, 0, none⟩)] 113)) t t 0 ⟨#[]⟩ ⟨#[]⟩ (.slice none 0 0) ⟨#[]⟩ false := by
  have b : ∀ (W : World) (o : Obj) (n : Nat), n ≠ W.heap.size → (W.alloc o).heap[n]? = W.heap[n]? := fun W o n hn => by
    by_cases h : n < W.heap.size
    · exact Below.heap_alloc _ _ _ h
    · rw [Array.getElem?_eq_none (by simp <;> omega), Array.getElem?_eq_none (by omega)]
  have c : ∀ (W : World) (o : Obj) (n : Nat), n = W.heap.size → (W.alloc o).heap[n]? = some o := fun W o n hn => by subst hn; exact heap_alloc_new _ _
  refine ⟨⟨?_, ?_, ?_, ?_, ?_, by simp⟩, ?_, ?_, by omega⟩
  · rw [b _ _ _ (by simp <;> omega), b _ _ _ (by simp <;> omega), b _ _ _ (by simp <;> omega), b _ _ _ (by simp <;> omega), b _ _ _ (by simp), c _ _ _ (by simp)]
  · rw [b _ _ _ (by simp <;> omega), b _ _ _ (by simp <;> omega), b _ _ _ (by simp <;> omega), b _ _ _ (by simp), c _ _ _ (by simp)]
  · rw [b _ _ _ (by simp), b _ _ _ (by simp), b _ _ _ (by simp), c _ _ _ (by simp)]
  · rw [b _ _ _ (by simp), b _ _ _ (by simp), c _ _ _ (by simp)]
  · exact ((((((Below.refl _ _).alloc (Nat.le_refl _) _).alloc (by simp) _).alloc (by simp <;> omega) _).alloc (by simp <;> omega) _).alloc (by simp <;> omega) _).alloc (by simp <;> omega) _
  · show _ = _
    rw [b _ _ _ (by simp), c _ _ _ (by simp)]
  · rw [World.cell?, c _ _ _ (by simp)]; rfl
end

end Go.Pch
end

section
namespace Go.Pch
open Go.RowKit Go.Proofs
set_option maxRecDepth 100000

theorem actG_n1 {t : Bytes} (h1 : num1 t = none) : actG t = none := by rw [actG, h1]; rfl
theorem actG_n2 {t t1 : Bytes} {k : Int} (h1 : num1 t = some (k, t1)) (h2 : textG t1 = none) : actG t = none := by rw [actG, h1]; simp [h2]
theorem actG_n3 {t t1 t2 : Bytes} {k : Int} {a : ByteArray} (h1 : num1 t = some (k, t1)) (h2 : textG t1 = some (a, t2)) (h3 : textG t2 = none) : actG t = none := by rw [actG, h1]; simp [h2, h3]
theorem actG_n4 {t t1 t2 t3 : Bytes} {k : Int} {a b : ByteArray} (h1 : num1 t = some (k, t1)) (h2 : textG t1 = some (a, t2)) (h3 : textG t2 = some (b, t3)) (h4 : listG chgG t3 = none) : actG t = none := by rw [actG, h1]; simp [h2, h3, h4]
theorem actG_y {t t1 t2 t3 t4 : Bytes} {k : Int} {a b : ByteArray} {d : List Change} (h1 : num1 t = some (k, t1)) (h2 : textG t1 = some (a, t2)) (h3 : textG t2 = some (b, t3)) (h4 : listG chgG t3 = some (d, t4)) : actG t = some ((k, a, b, d), t4) := by rw [actG, h1]; simp [h2, h3, h4]

theorem keepSets (W : World) (n k : Nat) (a b c d e f : Value) (hk : n + 6 ≤ k) : ((((((W.setCell ⟨n + 1, 0, none⟩ a).setCell ⟨n + 1, 1, none⟩ b).setCell ⟨n + 1, 2, none⟩ c).setCell ⟨n + 1, 3, none⟩ d).setCell ⟨n + 1 + 1, 0, none⟩ e).setCell ⟨n + 1 + 1 + 1, 0, none⟩ f).drew.heap[k]? = W.heap[k]? := by
  rw [show ∀ X : World, X.drew.heap = X.heap from fun _ => rfl]
  rw [heap_setCell_other, heap_setCell_other, heap_setCell_other, heap_setCell_other, heap_setCell_other, heap_setCell_other]
  all_goals (simp <;> omega)
theorem rdFin {w W8 : World} {t t4 : Bytes} {k : Int} {a b : ByteArray} {vd : Value} {d : List Change} (r8 : RdBox w W8 t k a b vd ⟨#[]⟩ false) (hd : Sl tChange W8 (fun k => w.heap.size + 6 ≤ k) vd d) :
    RdBox w (((((((W8.setCell ⟨w.heap.size + 1, 0, none⟩ (.int .i64 k)).setCell ⟨w.heap.size + 1, 1, none⟩ (.string a)).setCell ⟨w.heap.size + 1, 2, none⟩ (.string b)).setCell ⟨w.heap.size + 1, 3, none⟩ vd).setCell ⟨w.heap.size + 1 + 1, 0, none⟩ (.string (bl t4))).setCell ⟨w.heap.size + 1 + 1 + 1, 0, none⟩ (.bool true)).drew) t k a b vd (bl t4) true ∧
    Sl tChange (((((((W8.setCell ⟨w.heap.size + 1, 0, none⟩ (.int .i64 k)).setCell ⟨w.heap.size + 1, 1, none⟩ (.string a)).setCell ⟨w.heap.size + 1, 2, none⟩ (.string b)).setCell ⟨w.heap.size + 1, 3, none⟩ vd).setCell ⟨w.heap.size + 1 + 1, 0, none⟩ (.string (bl t4))).setCell ⟨w.heap.size + 1 + 1 + 1, 0, none⟩ (.bool true)).drew) (fun k => w.heap.size ≤ k) vd d :=
  ⟨((((((r8.setK k).setA a).setB b).setD vd).setR (bl t4)).setC true).next (GOn.of (Below.refl _ _).drew), (hd.keep fun k hk _ => keepSets W8 w.heap.size k _ _ _ _ _ _ hk).mono fun k hk _ => by omega⟩

set_option maxHeartbeats 4000000 in
theorem logRead (t : Bytes) (w : World) : Calls Tryz.prog 38 #[.string (bl t)] w (ActPost w t (actG t)) := by
  obtain ⟨O, hO⟩ : ∃ O, actG t = O := ⟨_, rfl⟩
  rw [hO]
  have HO := keepBack hO
  clear hO
  have hmf : ∀ (fn : Fn) (first cap : Array Value) (w : World), (Instr.makeFunc fn first cap).run Tryz.prog w = .ok (.func fn first cap) w := fun _ _ _ _ => rfl
  have h0 := rdStart w t
  generalize hW6 : (((((w.alloc (.cells #[.string (bl t)] 9)).alloc (.cells #[.int .i64 0, .string ⟨#[]⟩, .string ⟨#[]⟩, .slice none 0 0] 28)).alloc (.cells #[.string ⟨#[]⟩] 9)).alloc (.cells #[.bool false] 4)).alloc (.cells #[.string (bl t)] 115)).alloc (.cells #[.pointer (some ⟨w.heap.size + 1 + 1 + 1 + 1, 0, none⟩)] 113) = W6 at h0
  have HW6 := keepBack hW6
  clear hW6
  go_enter_defers Tryz.func38, Tryz.ntmps38
  go_wp2_with fail
  rw [HW6.out]
  refine (numOne _ t _ h0.gl.glass).mono ?_; intro e w1 hT
  cases h1 : num1 t with
  | none =>
    obtain ⟨rfl, on1⟩ := hT.no h1
    clear hT
    have hD := HO.out
    rw [actG_n1 h1] at hD
    subst hD
    clear HO
    go_wp2
    exact rdDies _ (h0.box.next on1) rfl rfl rfl
  | some x =>
    obtain ⟨k, t1⟩ := x
    obtain ⟨_, rfl, rfl, g1, on1⟩ := hT.ok h1
    clear hT
    have r1 := h0.next on1 g1
    obtain ⟨p1, p2⟩ := r1.ptrs
    obtain ⟨⟨c0, c1, c2, c3, c4⟩, ⟨c5, c6⟩, f1, f2, f3⟩ := r1.box.cells
    have r2 := r1.setK k
    have p3 := r2.ptrs.1
    obtain ⟨w2, hw2⟩ : ∃ w2, w2 = w1.setCell ⟨w.heap.size + 1, 0, none⟩ (.int .i64 k) := ⟨_, rfl⟩
    rw [← hw2] at r2
    have HW2 := keepBack hw2
    clear hw2
    go_wp2_with fail
    rw [← HW2.out]
    clear p1 p2 c0 c1 c2 c3 c4 c5 c6 f1 f2 f3 p3
    refine (glaText _ t1 _ r2.gl.glass).mono ?_; intro e w3 hT
    cases h2 : textG t1 with
    | none =>
      obtain ⟨rfl, on1⟩ := hT.no h2
      clear hT
      have hD := HO.out
      rw [actG_n2 h1 h2] at hD
      subst hD
      clear HO
      go_wp2
      exact rdDies _ (r2.box.next on1) rfl rfl rfl
    | some x =>
      obtain ⟨a, t2⟩ := x
      obtain ⟨_, rfl, rfl, g3, on3⟩ := hT.ok h2
      clear hT
      have r3 := r2.next on3 g3
      obtain ⟨p1, p2⟩ := r3.ptrs
      obtain ⟨⟨c0, c1, c2, c3, c4⟩, ⟨c5, c6⟩, f1, f2, f3⟩ := r3.box.cells
      have r4 := r3.setA a
      have p3 := r4.ptrs.1
      obtain ⟨w4, hw4⟩ : ∃ w4, w4 = w3.setCell ⟨w.heap.size + 1, 1, none⟩ (.string a) := ⟨_, rfl⟩
      rw [← hw4] at r4
      have HW4 := keepBack hw4
      clear hw4
      go_wp2_with fail
      rw [← HW4.out]
      clear p1 p2 c0 c1 c2 c3 c4 c5 c6 f1 f2 f3 p3
      refine (glaText _ t2 _ r4.gl.glass).mono ?_; intro e w5 hT
      cases h3 : textG t2 with
      | none =>
        obtain ⟨rfl, on1⟩ := hT.no h3
        clear hT
        have hD := HO.out
        rw [actG_n3 h1 h2 h3] at hD
        subst hD
        clear HO
        go_wp2
        exact rdDies _ (r4.box.next on1) rfl rfl rfl
      | some x =>
        obtain ⟨b, t3⟩ := x
        obtain ⟨_, rfl, rfl, g5, on5⟩ := hT.ok h3
        clear hT
        have r5 := r4.next on5 g5
        obtain ⟨p1, p2⟩ := r5.ptrs
        obtain ⟨⟨c0, c1, c2, c3, c4⟩, ⟨c5, c6⟩, f1, f2, f3⟩ := r5.box.cells
        have r6 := r5.setB b
        have p3 := r6.ptrs.1
        obtain ⟨w6, hw6⟩ : ∃ w6, w6 = w5.setCell ⟨w.heap.size + 1, 2, none⟩ (.string b) := ⟨_, rfl⟩
        rw [← hw6] at r6
        have HW6 := keepBack hw6
        clear hw6
        go_wp2_with fail
        rw [← HW6.out]
        clear p1 p2 c0 c1 c2 c3 c4 c5 c6 f1 f2 f3 p3
        refine (listChg chgG _ _ (readChg _ _) t3 _ r6.gl).mono ?_; intro e w7 hT
        cases h4 : listG chgG t3 with
        | none =>
          obtain ⟨rfl, on1⟩ := hT.no h4
          clear hT
          have hD := HO.out
          rw [actG_n4 h1 h2 h3 h4] at hD
          subst hD
          clear HO
          go_wp2
          exact rdDies _ (r6.box.next on1) rfl rfl rfl
        | some x =>
          obtain ⟨d, t4⟩ := x
          obtain ⟨vd, rfl, hvd, g7, on7⟩ := hT.ok h4
          clear hT
          have r7 := r6.next on7 g7
          have z6 := r6.box.size
          obtain ⟨ad, cd, hv, _, _, _⟩ := hvd.shape
          generalize d.length = nd at hv
          subst hv
          obtain ⟨p1, p2⟩ := r7.ptrs
          obtain ⟨⟨c0, c1, c2, c3, c4⟩, ⟨c5, c6⟩, f1, f2, f3⟩ := r7.box.cells
          have r8 := r7.setD (.slice ad nd cd)
          have p3 := r8.ptrs.1
          obtain ⟨w8, hw8⟩ : ∃ w8, w8 = w7.setCell ⟨w.heap.size + 1, 3, none⟩ (.slice ad nd cd) := ⟨_, rfl⟩
          rw [← hw8] at r8
          have HW8 := keepBack hw8
          clear hw8
          go_wp2_with fail
          rw [← HW8.out]
          clear p1 p2 c0 c1 c2 c3 c4 c5 c6 f1 f2 f3 p3
          have b8 : Below w8.heap.size w8 w8.drew := (Below.refl _ _).drew
          obtain ⟨q1, q2⟩ := r8.ptrs
          obtain ⟨⟨d0, d1, d2, d3, d4⟩, ⟨d5, d6⟩, e1, e2, e3⟩ := r8.box.cells
          have r8d := r8.next (GOn.of b8) (r8.gl.glass.call b8)
          have r9 := ((((r8d.setK k).setA a).setB b).setD (.slice ad nd cd))
          obtain ⟨u1, u2⟩ := r9.ptrs
          obtain ⟨⟨_, _, _, _, _⟩, ⟨m5, m6⟩, _, m2, m3⟩ := r9.box.cells
          have r10 := r9.box.setR (bl t4)
          obtain ⟨⟨_, _, _, _, _⟩, ⟨_, n6⟩, _, _, n3⟩ := r10.cells
          have r11 := r10.setC true
          go_region
          all_goals go_wp2
          have hd8 : Sl tChange w8 (fun k => w.heap.size + 6 ≤ k) (.slice ad nd cd) d := by
            rw [HW8.out]
            exact (hvd.keep fun k hk _ => heap_setCell_other _ _ _ _ (by simp <;> omega)).mono fun k hk _ => by omega
          obtain ⟨rG, hG⟩ := rdFin (t4 := t4) r8.box hd8
          have hD := HO.out
          rw [actG_y h1 h2 h3 h4] at hD
          subst hD
          exact rdLives _ rG hG rfl rfl rfl

end Go.Pch
end
