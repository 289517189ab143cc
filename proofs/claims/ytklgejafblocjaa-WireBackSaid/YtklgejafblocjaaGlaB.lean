/- The walks of log.List (written by wip/gen_list.py). -/
import Derived.Test.YtklgejafblocjaaGlaA
namespace Go.Pch
open Go.RowKit Go.Proofs
set_option maxRecDepth 100000

/-- What is read, as a slice's element. -/
def VElInt (_ : World) (a : Int) (v : Value) (_ : World) : Prop := v = .int .i64 a ∧ i64ok a
def VElRow (_ : World) (a : Row) (v : Value) (_ : World) : Prop := v = .agg #[.int .i64 a.1, .int .i64 a.2] ∧ i64ok a.1 ∧ i64ok a.2
def VElHead (_ : World) (a : Head) (v : Value) (_ : World) : Prop := v = .agg #[.string a.1, .int .i64 a.2] ∧ i64ok a.2 ∧ a.1.size ≤ maxLen
def VElCom (W : World) (a : Commit) (v : Value) (w' : World) : Prop := ∃ x y, v = .agg #[x, y] ∧ Sl tRow w' (fun k => W.heap.size ≤ k) x a.1 ∧ Sl tInt w' (fun k => W.heap.size ≤ k) y a.2
/-- A slice that is read. -/
def VSl {α : Type} (E : Ty α) (W : World) (l : List α) (v : Value) (w' : World) : Prop := Sl E w' (fun k => W.heap.size ≤ k) v l
theorem listG_none {α : Type} {p : Bytes → Option (α × Bytes)} {s : Bytes} (h : num1 s = none) : listG p s = none := by rw [listG, h]; rfl
theorem listG_some {α : Type} {p : Bytes → Option (α × Bytes)} {s t : Bytes} {n : Nat} (h : num1 s = some ((n : Int), t)) : listG p s = repG p n t := by rw [listG, h]; rfl
theorem repG_no {α : Type} {p : Bytes → Option (α × Bytes)} {s : Bytes} {n : Nat} (h : p s = none) : repG p (n + 1) s = none := by rw [repG, h]; rfl
theorem repG_ok {α : Type} {p : Bytes → Option (α × Bytes)} {s t : Bytes} {n : Nat} {a : α} (h : p s = some (a, t)) : repG p (n + 1) s = (repG p n t).map fun y => (a :: y.1, y.2) := by rw [repG, h]; rfl

set_option maxHeartbeats 1000000 in
theorem listRow (p : Bytes → Option (Row × Bytes)) (gv gb : Nat)
    (hF : ∀ (W : World) (s : Bytes), GVar W gv gb s → Calls Try.prog 50 #[.pointer (some ⟨gv, 0, none⟩)] W (Reads gb W (VElRow W) (p s)))
    (s : Bytes) (w : World) (h : GVar w gv gb s) :
    Calls Try.prog 49 #[.pointer (some ⟨gb, 0, none⟩), .func (.func 50) #[] #[.pointer (some ⟨gv, 0, none⟩)]] w (Reads gb w (VSl tRow w) (listG p s)) := by
  have T := numOne gb s w h.glass
  cases h1 : num1 s with
  | none =>
    have HT := keepBack (listG_none (p := p) h1)
    go_enter Try.func49, Try.ntmps49
    go_wp2_with fail
    refine T.mono ?_; intro e w1 hT
    obtain ⟨rfl, on1⟩ := hT.no h1
    clear T
    go_wp2
    exact ⟨rfl, Reads.mkNo HT.out rfl on1⟩
  | some x =>
    obtain ⟨m, t⟩ := x
    have hf := num1_fit h1
    obtain ⟨n, rfl⟩ : ∃ n : Nat, m = (n : Int) := ⟨m.toNat, by omega⟩
    have hn : n < 256 := by omega
    have HT := keepBack (listG_some (p := p) h1)
    go_enter Try.func49, Try.ntmps49
    go_wp2_with fail
    refine T.mono ?_; intro e w1 hT
    obtain ⟨_, rfl, rfl, g1, on1⟩ := hT.ok h1
    replace g1 := h.next on1 g1
    clear T hT h1 hf
    have hgb := h.glass.lt
    have hs1 := on1.size
    go_wp2_with fail
    go_loopw [5, 8] (fun ul ui wr => ∃ (k : Nat) (vl : Value) (l : List Row) (s' : Bytes), vl = ul ∧ k ≤ n ∧ ui = .int .i64 k ∧ l.length = k ∧ Own tRow 74 wr w.heap.size (fun k => w.heap.size ≤ k) vl l ∧ GVar wr gv gb s' ∧ GOn gb w wr ∧
      Hid (repG p n t = (repG p (n - k) s').map fun y => (l ++ y.1, y.2))) (fun _ ui _ => n - (intOf ui).toNat)
    case atStart => exact ⟨0, _, [], t, rfl, Nat.zero_le _, rfl, rfl, Own.nil, g1, on1, by simp [Hid]⟩
    case round =>
      obtain ⟨k, vl, l, s', rfl, hk, rfl, hl, ho, gr, onr, hrep⟩ := hrel
      have hsr := onr.size
      by_cases hlt : k < n
      · obtain ⟨j, hj⟩ : ∃ j, n - k = j + 1 := ⟨n - k - 1, by omega⟩
        rw [hj] at hrep
        have T := hF wr s' gr
        cases hp : p s' with
        | none =>
          have HN : Hid (listG p s = none) := by rw [HT.out, hrep.out, repG_no hp]; rfl
          have HJ := keepBack hj
          clear hj hl
          go_wp2_with fail
          refine T.mono ?_; intro e w2 hT
          obtain ⟨rfl, on2⟩ := hT.no hp
          clear T hp
          go_wp2
          exact ⟨rfl, Reads.mkNo HN.out rfl (onr.on on2)⟩
        | some x =>
          obtain ⟨a, u⟩ := x
          have HN : Hid (repG p n t = (repG p j u).map fun y => (l ++ [a] ++ y.1, y.2)) := by
            rw [hrep.out, repG_ok hp]
            show Hid (Option.map _ (Option.map _ _) = _)
            rw [Option.map_map]
            congr 1
            funext y
            simp
          have HJ := keepBack hj
          have HLL := keepBack hl
          clear hj hl
          go_wp2_with fail
          refine T.mono ?_; intro e w2 hT
          obtain ⟨v, rfl, hv, g2, on2⟩ := hT.ok hp
          replace g2 := gr.next on2 g2
          clear T hp hT
          obtain ⟨rfl, hok1, hok2⟩ := hv; have hrd : tRow.rd w2 (fun k => wr.heap.size ≤ k) [.int .i64 a.1, .int .i64 a.2] a := ⟨rfl, hok1, hok2⟩
          have hs2 := on2.size
          have ho2 : Own tRow 74 w2 w.heap.size (fun k => w.heap.size ≤ k) vl l := ho.keep fun k hk hlt => on2.block k hlt (by
            rcases hk with hk | hk
            · omega
            · have := (ho.block k hk).1; omega)
          have hvb : ∀ g, vl.ownBlock = some g → g < wr.heap.size := fun g hg => (ho.block g hg).2
          have hD : ∀ k, wr.heap.size ≤ k → k < (w2.alloc (.cells #[.int .i64 a.1, .int .i64 a.2] 74)).heap.size → w.heap.size ≤ k ∧ some k ≠ vl.ownBlock := fun k hk _ => ⟨by omega, fun e => by have := hvb k e.symm; omega⟩
          have hNN : l.length + [a].length ≤ 1000000000000 := by have := HLL.out; rw [List.length_singleton]; omega
          have hBB : w.heap.size ≤ (w2.alloc (.cells #[.int .i64 a.1, .int .i64 a.2] 74)).heap.size := Nat.le_trans (by omega) ((Below.refl w2.heap.size w2).alloc (Nat.le_refl _) _).size
          go_wp2_with (at_builtin; refine wpList_grow rfl (.tmp 10) (.tmp 13) rfl aRow rfl (ho2.alloc _) rfl (by simp) (Src.one (cs := [.int .i64 a.1, .int .i64 a.2]) hrd _) (by simp) hD hNN hBB ?_; intro v3 w3 ho3 hg3)
          have bL := (Below.refl w2.heap.size w2).alloc (Nat.le_refl _) (.cells #[.int .i64 a.1, .int .i64 a.2] 74)
          have on3 : Step (fun k => k = gb) w w3 := ((onr.on on2).on (GOn.of bL)).trans (Step.grown hg3 (X := fun k => vl.ownBlock = some k) fun k hk => hk) fun k hk hx => by have := (ho.block k hx).1; omega
          have g3 : GVar w3 gv gb u := by
            have onl : Step (fun k => vl.ownBlock = some k) w2 w3 := (Step.of_below bL).on (Step.grown hg3 fun k hk => hk)
            have hlg := g2.glass.lt
            have hlv := World.block_lt_of_cell? w _ h.ptr
            exact ⟨(onl.block gb hlg fun e => by have := (ho.block gb e).1; omega).trans g2.glass, (onl.cell (p := ⟨gv, 0, none⟩) (by simp; simp at hlv; omega) fun e => by have := (ho.block gv e).1; simp at hlv; omega).trans g2.ptr, h.ne⟩
          go_roundw
          case rel => exact ⟨k + 1, v3, l ++ [a], u, rfl, by omega, by go_num, by simp; exact HLL.out, ho3, g3, on3, by rw [show n - (k + 1) = j from by have := HJ.out; omega]; exact HN⟩
          case measure => simp [intOf]; omega
      · have hkn : n - k = 0 := by omega
        rw [hkn] at hrep
        have HN : Hid (listG p s = some (l, s')) := by rw [HT.out, hrep.out]; simp [repG, Hid]
        clear hkn hl
        go_wp2
        go_ret
        exact Reads.mk HN.out rfl (ho.sl (fun _ h => h) (fun _ h => h)) gr.glass onr

set_option maxHeartbeats 1000000 in
theorem listInt (p : Bytes → Option (Int × Bytes)) (gv gb : Nat)
    (hF : ∀ (W : World) (s : Bytes), GVar W gv gb s → Calls Try.prog 53 #[.pointer (some ⟨gv, 0, none⟩)] W (Reads gb W (VElInt W) (p s)))
    (s : Bytes) (w : World) (h : GVar w gv gb s) :
    Calls Try.prog 52 #[.pointer (some ⟨gb, 0, none⟩), .func (.func 53) #[] #[.pointer (some ⟨gv, 0, none⟩)]] w (Reads gb w (VSl tInt w) (listG p s)) := by
  have T := numOne gb s w h.glass
  cases h1 : num1 s with
  | none =>
    have HT := keepBack (listG_none (p := p) h1)
    go_enter Try.func52, Try.ntmps52
    go_wp2_with fail
    refine T.mono ?_; intro e w1 hT
    obtain ⟨rfl, on1⟩ := hT.no h1
    clear T
    go_wp2
    exact ⟨rfl, Reads.mkNo HT.out rfl on1⟩
  | some x =>
    obtain ⟨m, t⟩ := x
    have hf := num1_fit h1
    obtain ⟨n, rfl⟩ : ∃ n : Nat, m = (n : Int) := ⟨m.toNat, by omega⟩
    have hn : n < 256 := by omega
    have HT := keepBack (listG_some (p := p) h1)
    go_enter Try.func52, Try.ntmps52
    go_wp2_with fail
    refine T.mono ?_; intro e w1 hT
    obtain ⟨_, rfl, rfl, g1, on1⟩ := hT.ok h1
    replace g1 := h.next on1 g1
    clear T hT h1 hf
    have hgb := h.glass.lt
    have hs1 := on1.size
    go_wp2_with fail
    go_loopw [5, 8] (fun ul ui wr => ∃ (k : Nat) (vl : Value) (l : List Int) (s' : Bytes), vl = ul ∧ k ≤ n ∧ ui = .int .i64 k ∧ l.length = k ∧ Own tInt 3 wr w.heap.size (fun k => w.heap.size ≤ k) vl l ∧ GVar wr gv gb s' ∧ GOn gb w wr ∧
      Hid (repG p n t = (repG p (n - k) s').map fun y => (l ++ y.1, y.2))) (fun _ ui _ => n - (intOf ui).toNat)
    case atStart => exact ⟨0, _, [], t, rfl, Nat.zero_le _, rfl, rfl, Own.nil, g1, on1, by simp [Hid]⟩
    case round =>
      obtain ⟨k, vl, l, s', rfl, hk, rfl, hl, ho, gr, onr, hrep⟩ := hrel
      have hsr := onr.size
      by_cases hlt : k < n
      · obtain ⟨j, hj⟩ : ∃ j, n - k = j + 1 := ⟨n - k - 1, by omega⟩
        rw [hj] at hrep
        have T := hF wr s' gr
        cases hp : p s' with
        | none =>
          have HN : Hid (listG p s = none) := by rw [HT.out, hrep.out, repG_no hp]; rfl
          have HJ := keepBack hj
          clear hj hl
          go_wp2_with fail
          refine T.mono ?_; intro e w2 hT
          obtain ⟨rfl, on2⟩ := hT.no hp
          clear T hp
          go_wp2
          exact ⟨rfl, Reads.mkNo HN.out rfl (onr.on on2)⟩
        | some x =>
          obtain ⟨a, u⟩ := x
          have HN : Hid (repG p n t = (repG p j u).map fun y => (l ++ [a] ++ y.1, y.2)) := by
            rw [hrep.out, repG_ok hp]
            show Hid (Option.map _ (Option.map _ _) = _)
            rw [Option.map_map]
            congr 1
            funext y
            simp
          have HJ := keepBack hj
          have HLL := keepBack hl
          clear hj hl
          go_wp2_with fail
          refine T.mono ?_; intro e w2 hT
          obtain ⟨v, rfl, hv, g2, on2⟩ := hT.ok hp
          replace g2 := gr.next on2 g2
          clear T hp hT
          obtain ⟨rfl, hok⟩ := hv; have hrd : tInt.rd w2 (fun k => wr.heap.size ≤ k) [.int .i64 a] a := ⟨rfl, hok⟩
          have hs2 := on2.size
          have ho2 : Own tInt 3 w2 w.heap.size (fun k => w.heap.size ≤ k) vl l := ho.keep fun k hk hlt => on2.block k hlt (by
            rcases hk with hk | hk
            · omega
            · have := (ho.block k hk).1; omega)
          have hvb : ∀ g, vl.ownBlock = some g → g < wr.heap.size := fun g hg => (ho.block g hg).2
          have hD : ∀ k, wr.heap.size ≤ k → k < (w2.alloc (.cells #[.int .i64 a] 3)).heap.size → w.heap.size ≤ k ∧ some k ≠ vl.ownBlock := fun k hk _ => ⟨by omega, fun e => by have := hvb k e.symm; omega⟩
          have hNN : l.length + [a].length ≤ 1000000000000 := by have := HLL.out; rw [List.length_singleton]; omega
          have hBB : w.heap.size ≤ (w2.alloc (.cells #[.int .i64 a] 3)).heap.size := Nat.le_trans (by omega) ((Below.refl w2.heap.size w2).alloc (Nat.le_refl _) _).size
          go_wp2_with (at_builtin; refine wpList_grow rfl (.tmp 10) (.tmp 13) rfl aInt rfl (ho2.alloc _) rfl (by simp) (Src.one (cs := [.int .i64 a]) hrd _) (by simp) hD hNN hBB ?_; intro v3 w3 ho3 hg3)
          have bL := (Below.refl w2.heap.size w2).alloc (Nat.le_refl _) (.cells #[.int .i64 a] 3)
          have on3 : Step (fun k => k = gb) w w3 := ((onr.on on2).on (GOn.of bL)).trans (Step.grown hg3 (X := fun k => vl.ownBlock = some k) fun k hk => hk) fun k hk hx => by have := (ho.block k hx).1; omega
          have g3 : GVar w3 gv gb u := by
            have onl : Step (fun k => vl.ownBlock = some k) w2 w3 := (Step.of_below bL).on (Step.grown hg3 fun k hk => hk)
            have hlg := g2.glass.lt
            have hlv := World.block_lt_of_cell? w _ h.ptr
            exact ⟨(onl.block gb hlg fun e => by have := (ho.block gb e).1; omega).trans g2.glass, (onl.cell (p := ⟨gv, 0, none⟩) (by simp; simp at hlv; omega) fun e => by have := (ho.block gv e).1; simp at hlv; omega).trans g2.ptr, h.ne⟩
          go_roundw
          case rel => exact ⟨k + 1, v3, l ++ [a], u, rfl, by omega, by go_num, by simp; exact HLL.out, ho3, g3, on3, by rw [show n - (k + 1) = j from by have := HJ.out; omega]; exact HN⟩
          case measure => simp [intOf]; omega
      · have hkn : n - k = 0 := by omega
        rw [hkn] at hrep
        have HN : Hid (listG p s = some (l, s')) := by rw [HT.out, hrep.out]; simp [repG, Hid]
        clear hkn hl
        go_wp2
        go_ret
        exact Reads.mk HN.out rfl (ho.sl (fun _ h => h) (fun _ h => h)) gr.glass onr

set_option maxHeartbeats 1000000 in
theorem listHead (p : Bytes → Option (Head × Bytes)) (gv gb : Nat)
    (hF : ∀ (W : World) (s : Bytes), GVar W gv gb s → Calls Try.prog 55 #[.pointer (some ⟨gv, 0, none⟩)] W (Reads gb W (VElHead W) (p s)))
    (s : Bytes) (w : World) (h : GVar w gv gb s) :
    Calls Try.prog 54 #[.pointer (some ⟨gb, 0, none⟩), .func (.func 55) #[] #[.pointer (some ⟨gv, 0, none⟩)]] w (Reads gb w (VSl tHead w) (listG p s)) := by
  have T := numOne gb s w h.glass
  cases h1 : num1 s with
  | none =>
    have HT := keepBack (listG_none (p := p) h1)
    go_enter Try.func54, Try.ntmps54
    go_wp2_with fail
    refine T.mono ?_; intro e w1 hT
    obtain ⟨rfl, on1⟩ := hT.no h1
    clear T
    go_wp2
    exact ⟨rfl, Reads.mkNo HT.out rfl on1⟩
  | some x =>
    obtain ⟨m, t⟩ := x
    have hf := num1_fit h1
    obtain ⟨n, rfl⟩ : ∃ n : Nat, m = (n : Int) := ⟨m.toNat, by omega⟩
    have hn : n < 256 := by omega
    have HT := keepBack (listG_some (p := p) h1)
    go_enter Try.func54, Try.ntmps54
    go_wp2_with fail
    refine T.mono ?_; intro e w1 hT
    obtain ⟨_, rfl, rfl, g1, on1⟩ := hT.ok h1
    replace g1 := h.next on1 g1
    clear T hT h1 hf
    have hgb := h.glass.lt
    have hs1 := on1.size
    go_wp2_with fail
    go_loopw [5, 8] (fun ul ui wr => ∃ (k : Nat) (vl : Value) (l : List Head) (s' : Bytes), vl = ul ∧ k ≤ n ∧ ui = .int .i64 k ∧ l.length = k ∧ Own tHead 76 wr w.heap.size (fun k => w.heap.size ≤ k) vl l ∧ GVar wr gv gb s' ∧ GOn gb w wr ∧
      Hid (repG p n t = (repG p (n - k) s').map fun y => (l ++ y.1, y.2))) (fun _ ui _ => n - (intOf ui).toNat)
    case atStart => exact ⟨0, _, [], t, rfl, Nat.zero_le _, rfl, rfl, Own.nil, g1, on1, by simp [Hid]⟩
    case round =>
      obtain ⟨k, vl, l, s', rfl, hk, rfl, hl, ho, gr, onr, hrep⟩ := hrel
      have hsr := onr.size
      by_cases hlt : k < n
      · obtain ⟨j, hj⟩ : ∃ j, n - k = j + 1 := ⟨n - k - 1, by omega⟩
        rw [hj] at hrep
        have T := hF wr s' gr
        cases hp : p s' with
        | none =>
          have HN : Hid (listG p s = none) := by rw [HT.out, hrep.out, repG_no hp]; rfl
          have HJ := keepBack hj
          clear hj hl
          go_wp2_with fail
          refine T.mono ?_; intro e w2 hT
          obtain ⟨rfl, on2⟩ := hT.no hp
          clear T hp
          go_wp2
          exact ⟨rfl, Reads.mkNo HN.out rfl (onr.on on2)⟩
        | some x =>
          obtain ⟨a, u⟩ := x
          have HN : Hid (repG p n t = (repG p j u).map fun y => (l ++ [a] ++ y.1, y.2)) := by
            rw [hrep.out, repG_ok hp]
            show Hid (Option.map _ (Option.map _ _) = _)
            rw [Option.map_map]
            congr 1
            funext y
            simp
          have HJ := keepBack hj
          have HLL := keepBack hl
          clear hj hl
          go_wp2_with fail
          refine T.mono ?_; intro e w2 hT
          obtain ⟨v, rfl, hv, g2, on2⟩ := hT.ok hp
          replace g2 := gr.next on2 g2
          clear T hp hT
          obtain ⟨rfl, hok1, hok2⟩ := hv; have hrd : tHead.rd w2 (fun k => wr.heap.size ≤ k) [.string a.1, .int .i64 a.2] a := ⟨rfl, hok1, hok2⟩
          have hs2 := on2.size
          have ho2 : Own tHead 76 w2 w.heap.size (fun k => w.heap.size ≤ k) vl l := ho.keep fun k hk hlt => on2.block k hlt (by
            rcases hk with hk | hk
            · omega
            · have := (ho.block k hk).1; omega)
          have hvb : ∀ g, vl.ownBlock = some g → g < wr.heap.size := fun g hg => (ho.block g hg).2
          have hD : ∀ k, wr.heap.size ≤ k → k < (w2.alloc (.cells #[.string a.1, .int .i64 a.2] 76)).heap.size → w.heap.size ≤ k ∧ some k ≠ vl.ownBlock := fun k hk _ => ⟨by omega, fun e => by have := hvb k e.symm; omega⟩
          have hNN : l.length + [a].length ≤ 1000000000000 := by have := HLL.out; rw [List.length_singleton]; omega
          have hBB : w.heap.size ≤ (w2.alloc (.cells #[.string a.1, .int .i64 a.2] 76)).heap.size := Nat.le_trans (by omega) ((Below.refl w2.heap.size w2).alloc (Nat.le_refl _) _).size
          go_wp2_with (at_builtin; refine wpList_grow rfl (.tmp 10) (.tmp 13) rfl aHead rfl (ho2.alloc _) rfl (by simp) (Src.one (cs := [.string a.1, .int .i64 a.2]) hrd _) (by simp) hD hNN hBB ?_; intro v3 w3 ho3 hg3)
          have bL := (Below.refl w2.heap.size w2).alloc (Nat.le_refl _) (.cells #[.string a.1, .int .i64 a.2] 76)
          have on3 : Step (fun k => k = gb) w w3 := ((onr.on on2).on (GOn.of bL)).trans (Step.grown hg3 (X := fun k => vl.ownBlock = some k) fun k hk => hk) fun k hk hx => by have := (ho.block k hx).1; omega
          have g3 : GVar w3 gv gb u := by
            have onl : Step (fun k => vl.ownBlock = some k) w2 w3 := (Step.of_below bL).on (Step.grown hg3 fun k hk => hk)
            have hlg := g2.glass.lt
            have hlv := World.block_lt_of_cell? w _ h.ptr
            exact ⟨(onl.block gb hlg fun e => by have := (ho.block gb e).1; omega).trans g2.glass, (onl.cell (p := ⟨gv, 0, none⟩) (by simp; simp at hlv; omega) fun e => by have := (ho.block gv e).1; simp at hlv; omega).trans g2.ptr, h.ne⟩
          go_roundw
          case rel => exact ⟨k + 1, v3, l ++ [a], u, rfl, by omega, by go_num, by simp; exact HLL.out, ho3, g3, on3, by rw [show n - (k + 1) = j from by have := HJ.out; omega]; exact HN⟩
          case measure => simp [intOf]; omega
      · have hkn : n - k = 0 := by omega
        rw [hkn] at hrep
        have HN : Hid (listG p s = some (l, s')) := by rw [HT.out, hrep.out]; simp [repG, Hid]
        clear hkn hl
        go_wp2
        go_ret
        exact Reads.mk HN.out rfl (ho.sl (fun _ h => h) (fun _ h => h)) gr.glass onr

set_option maxHeartbeats 1000000 in
theorem listCom (p : Bytes → Option (Commit × Bytes)) (gv gb : Nat)
    (hF : ∀ (W : World) (s : Bytes), GVar W gv gb s → Calls Try.prog 48 #[.pointer (some ⟨gv, 0, none⟩)] W (Reads gb W (VElCom W) (p s)))
    (s : Bytes) (w : World) (h : GVar w gv gb s) :
    Calls Try.prog 47 #[.pointer (some ⟨gb, 0, none⟩), .func (.func 48) #[] #[.pointer (some ⟨gv, 0, none⟩)]] w (Reads gb w (VSl tCommit w) (listG p s)) := by
  have T := numOne gb s w h.glass
  cases h1 : num1 s with
  | none =>
    have HT := keepBack (listG_none (p := p) h1)
    go_enter Try.func47, Try.ntmps47
    go_wp2_with fail
    refine T.mono ?_; intro e w1 hT
    obtain ⟨rfl, on1⟩ := hT.no h1
    clear T
    go_wp2
    exact ⟨rfl, Reads.mkNo HT.out rfl on1⟩
  | some x =>
    obtain ⟨m, t⟩ := x
    have hf := num1_fit h1
    obtain ⟨n, rfl⟩ : ∃ n : Nat, m = (n : Int) := ⟨m.toNat, by omega⟩
    have hn : n < 256 := by omega
    have HT := keepBack (listG_some (p := p) h1)
    go_enter Try.func47, Try.ntmps47
    go_wp2_with fail
    refine T.mono ?_; intro e w1 hT
    obtain ⟨_, rfl, rfl, g1, on1⟩ := hT.ok h1
    replace g1 := h.next on1 g1
    clear T hT h1 hf
    have hgb := h.glass.lt
    have hs1 := on1.size
    go_wp2_with fail
    go_loopw [5, 8] (fun ul ui wr => ∃ (k : Nat) (vl : Value) (l : List Commit) (s' : Bytes), vl = ul ∧ k ≤ n ∧ ui = .int .i64 k ∧ l.length = k ∧ Own tCommit 65 wr w.heap.size (fun k => w.heap.size ≤ k) vl l ∧ GVar wr gv gb s' ∧ GOn gb w wr ∧
      Hid (repG p n t = (repG p (n - k) s').map fun y => (l ++ y.1, y.2))) (fun _ ui _ => n - (intOf ui).toNat)
    case atStart => exact ⟨0, _, [], t, rfl, Nat.zero_le _, rfl, rfl, Own.nil, g1, on1, by simp [Hid]⟩
    case round =>
      obtain ⟨k, vl, l, s', rfl, hk, rfl, hl, ho, gr, onr, hrep⟩ := hrel
      have hsr := onr.size
      by_cases hlt : k < n
      · obtain ⟨j, hj⟩ : ∃ j, n - k = j + 1 := ⟨n - k - 1, by omega⟩
        rw [hj] at hrep
        have T := hF wr s' gr
        cases hp : p s' with
        | none =>
          have HN : Hid (listG p s = none) := by rw [HT.out, hrep.out, repG_no hp]; rfl
          have HJ := keepBack hj
          clear hj hl
          go_wp2_with fail
          refine T.mono ?_; intro e w2 hT
          obtain ⟨rfl, on2⟩ := hT.no hp
          clear T hp
          go_wp2
          exact ⟨rfl, Reads.mkNo HN.out rfl (onr.on on2)⟩
        | some x =>
          obtain ⟨a, u⟩ := x
          have HN : Hid (repG p n t = (repG p j u).map fun y => (l ++ [a] ++ y.1, y.2)) := by
            rw [hrep.out, repG_ok hp]
            show Hid (Option.map _ (Option.map _ _) = _)
            rw [Option.map_map]
            congr 1
            funext y
            simp
          have HJ := keepBack hj
          have HLL := keepBack hl
          clear hj hl
          go_wp2_with fail
          refine T.mono ?_; intro e w2 hT
          obtain ⟨v, rfl, hv, g2, on2⟩ := hT.ok hp
          replace g2 := gr.next on2 g2
          clear T hp hT
          obtain ⟨x1, x2, rfl, hx1, hx2⟩ := hv; obtain ⟨b1, c1, rfl, _, _, _⟩ := hx1.shape; obtain ⟨b2, c2, rfl, _, _, _⟩ := hx2.shape; generalize a.1.length = n1 at *; generalize a.2.length = n2 at *; have hrd : tCommit.rd w2 (fun k => wr.heap.size ≤ k) [.slice b1 n1 c1, .slice b2 n2 c2] a := ⟨[_], [_], rfl, hx1, hx2⟩
          have hs2 := on2.size
          have ho2 : Own tCommit 65 w2 w.heap.size (fun k => w.heap.size ≤ k) vl l := ho.keep fun k hk hlt => on2.block k hlt (by
            rcases hk with hk | hk
            · omega
            · have := (ho.block k hk).1; omega)
          have hvb : ∀ g, vl.ownBlock = some g → g < wr.heap.size := fun g hg => (ho.block g hg).2
          have hD : ∀ k, wr.heap.size ≤ k → k < (w2.alloc (.cells #[.slice b1 n1 c1, .slice b2 n2 c2] 65)).heap.size → w.heap.size ≤ k ∧ some k ≠ vl.ownBlock := fun k hk _ => ⟨by omega, fun e => by have := hvb k e.symm; omega⟩
          have hNN : l.length + [a].length ≤ 1000000000000 := by have := HLL.out; rw [List.length_singleton]; omega
          have hBB : w.heap.size ≤ (w2.alloc (.cells #[.slice b1 n1 c1, .slice b2 n2 c2] 65)).heap.size := Nat.le_trans (by omega) ((Below.refl w2.heap.size w2).alloc (Nat.le_refl _) _).size
          go_wp2_with (at_builtin; refine wpList_grow rfl (.tmp 10) (.tmp 13) rfl aCom rfl (ho2.alloc _) rfl (by simp) (Src.one (cs := [.slice b1 n1 c1, .slice b2 n2 c2]) hrd _) (by simp) hD hNN hBB ?_; intro v3 w3 ho3 hg3)
          have bL := (Below.refl w2.heap.size w2).alloc (Nat.le_refl _) (.cells #[.slice b1 n1 c1, .slice b2 n2 c2] 65)
          have on3 : Step (fun k => k = gb) w w3 := ((onr.on on2).on (GOn.of bL)).trans (Step.grown hg3 (X := fun k => vl.ownBlock = some k) fun k hk => hk) fun k hk hx => by have := (ho.block k hx).1; omega
          have g3 : GVar w3 gv gb u := by
            have onl : Step (fun k => vl.ownBlock = some k) w2 w3 := (Step.of_below bL).on (Step.grown hg3 fun k hk => hk)
            have hlg := g2.glass.lt
            have hlv := World.block_lt_of_cell? w _ h.ptr
            exact ⟨(onl.block gb hlg fun e => by have := (ho.block gb e).1; omega).trans g2.glass, (onl.cell (p := ⟨gv, 0, none⟩) (by simp; simp at hlv; omega) fun e => by have := (ho.block gv e).1; simp at hlv; omega).trans g2.ptr, h.ne⟩
          go_roundw
          case rel => exact ⟨k + 1, v3, l ++ [a], u, rfl, by omega, by go_num, by simp; exact HLL.out, ho3, g3, on3, by rw [show n - (k + 1) = j from by have := HJ.out; omega]; exact HN⟩
          case measure => simp [intOf]; omega
      · have hkn : n - k = 0 := by omega
        rw [hkn] at hrep
        have HN : Hid (listG p s = some (l, s')) := by rw [HT.out, hrep.out]; simp [repG, Hid]
        clear hkn hl
        go_wp2
        go_ret
        exact Reads.mk HN.out rfl (ho.sl (fun _ h => h) (fun _ h => h)) gr.glass onr

end Go.Pch
