/- copy, append and clear inside a slice of the call's own, as runs on lists of cells; no program is named here. Chapter 12: bytes: plain words, and how a pen's and a glass' cells read. The walks of a pen: Put, Text. -/
import Derived.Test.YtjjkdpjjaijmbaaGreatRg2
import Derived.Laws.CopyRow
import Derived.Laws.CopyOwn
import Derived.Lib.AppendZerosOnto
import Derived.Lib.SliceRun
import Derived.Deep.RegionLaw
import Derived.Test.YtjjkdpjjaijmbaaGreatRg3
import Derived.Lib.AppendStr
import Derived.Laws.IdiomStrings
import Derived.Deep.Cut
import Derived.Deep.CutRange
section
namespace Go.Pch
open Go.RowKit

/-- Cells, some of which are written over. -/
def seg (cur : List Value) (o : Nat) (cs : List Value) : List Value := cur.take o ++ cs ++ cur.drop (o + cs.length)
theorem seg_len {cur cs : List Value} {o : Nat} (h : o + cs.length ≤ cur.length) : (seg cur o cs).length = cur.length := by
  simp [seg]; omega
theorem seg_take {cur : List Value} {o : Nat} (cs : List Value) (h : o ≤ cur.length) : (seg cur o cs).take o = cur.take o := by
  rw [seg, List.append_assoc, List.take_append_of_le_length (by simp; omega), List.take_take, Nat.min_self]
theorem seg_nil (cur : List Value) (o : Nat) : seg cur o [] = cur := by simp [seg]

section
variable {α : Type} {E : Ty α} {e T : TypeId} {P : Program} {w : World}

theorem run_copy_seg (hA : At P E T e) {g o dLen dCap : Nat} {a : Addr} {sLen sCap n : Nat} {cur : List Value} {t : TypeId} {cs : List Value} (hg : w.heap[g]? = some (.cells cur.toArray t)) (hn : Nat.min sLen dLen = n) (hl : cs.length = n * E.size)
    (hsrc : ∀ j v, cs[j]? = some v → w.cell? (a.add j) = some v) (hfit : o + cs.length ≤ cur.length) (h1 : ∀ v ∈ cs, v.oneCell' = true) (ty : TypeId) :
    (Builtin.copy_ #[T, T] ty #[.slice (some ⟨g, o, none⟩) dLen dCap, .slice (some a) sLen sCap]).run P w = .ok (goInt n) (w.setRow g (seg cur o cs).toArray) := by
  obtain ⟨q, z, i1, i2, i3, i4, i5⟩ := hA.info
  have hl' := run_loadCells_list (P := P) w a cs hsrc
  have hst := run_storeCells_at P g o t cs 0 cur.toArray w hg (by simpa using hfit) h1
  simp only [Nat.add_zero] at hst
  simp [Builtin.copy_, run_underlying hA.und, Builtin.lenOf, Builtin.firstCells, sizeOf, typeInfo, i1, i3, hn, ← hl, hl', hst, seg]

theorem run_append_seg (hA : At P E T e) {g i cap m c : Nat} {a : Addr} {cur : List Value} {t : TypeId} {cs : List Value} (hg : w.heap[g]? = some (.cells cur.toArray t)) (hl : cs.length = m * E.size)
    (hsrc : ∀ j v, cs[j]? = some v → w.cell? (a.add j) = some v) (hroom : i + m ≤ cap) (hfit : i * E.size + cs.length ≤ cur.length) (h1 : ∀ v ∈ cs, v.oneCell' = true) (ty : TypeId) :
    (Builtin.append_ #[T, T] ty #[.slice (some ⟨g, 0, none⟩) i cap, .slice (some a) m c]).run P w = .ok (.slice (some ⟨g, 0, none⟩) (i + m) cap) (w.setRow g (seg cur (i * E.size) cs).toArray) := by
  obtain ⟨q, z, i1, i2, i3, i4, i5⟩ := hA.info
  have hl' := run_loadCells_list (P := P) w a cs hsrc
  have hst := run_storeCells_at P g (i * E.size) t cs 0 cur.toArray w hg (by simpa using hfit) h1
  simp only [Nat.add_zero] at hst
  have hadd : (⟨g, 0, none⟩ : Addr).add (i * E.size) = ⟨g, i * E.size, none⟩ := by rw [Addr.add_lit, Nat.zero_add]
  simp [Builtin.append_, run_underlying hA.und, Builtin.lenOf, Builtin.firstCells, sizeOf, typeInfo, i1, i3, hroom, ← hl, hl', hadd, hst, seg]

theorem run_clear_seg (hA : At P E T e) {g o n c : Nat} {cur : List Value} {t : TypeId} (hg : w.heap[g]? = some (.cells cur.toArray t)) (hn : 0 < n) (hfit : o + n * E.size ≤ cur.length)
    (hz : ∃ z, (P.info? e).map (·.zero) = some (some z) ∧ ∀ u ∈ z.cells.toList, u.oneCell' = true) :
    ∃ zs : List Value, zs.length = n * E.size ∧ ∀ ty, (Builtin.clear_ #[T] ty #[.slice (some ⟨g, o, none⟩) n c]).run P w = .ok (.tuple #[]) (w.setRow g (seg cur o zs).toArray) := by
  obtain ⟨q, z, i1, i2, i3, i4, i5⟩ := hA.info
  obtain ⟨z', hz1, hz2⟩ := hz
  rw [i1] at hz1
  simp only [Option.map_some, Option.some.injEq, i2] at hz1
  subst hz1
  have hlen : (Builtin.zeroCells z.cells n).toList.length = n * E.size := by simp [Builtin.zeroCells, i4]
  have hpos := E.pos
  have hone : ∀ u ∈ (Builtin.zeroCells z.cells n).toList, u.oneCell' = true := by
    intro u hu
    simp only [Builtin.zeroCells, Array.toList_map, List.mem_map, Array.toList_range, List.mem_range] at hu
    obtain ⟨i, _, rfl⟩ := hu
    refine hz2 _ ?_
    rw [i4, getElem!_pos z.cells (i % E.size) (by rw [i4]; exact Nat.mod_lt _ hpos)]
    simp
  have hst := run_storeCells_at P g o t (Builtin.zeroCells z.cells n).toList 0 cur.toArray w hg (by rw [hlen]; simpa using hfit) hone
  simp only [Nat.add_zero] at hst
  refine ⟨_, hlen, fun ty => ?_⟩
  obtain ⟨m, rfl⟩ : ∃ m, n = m + 1 := ⟨n - 1, by omega⟩
  simp [Builtin.clear_, run_underlying hA.und, zeroValue, typeInfo, i1, i2, hst, seg]

/-- s[lo:hi:max]: the bounds fit. -/
theorem run_cut3 (hA : At P E T e) (ao : Option Addr) (len cap lo hi mx : Nat) (a b c : Int) (ha : a = lo) (hb : b = hi) (hc : c = mx) (h1 : lo ≤ hi) (h2 : hi ≤ mx) (h3 : mx ≤ cap) :
    ∃ v, ∀ W, Sem.run P (Instr.slice T (.slice ao len cap) (some (.int .i64 a)) (some (.int .i64 b)) (some (.int .i64 c))) W = .ok v W := by
  obtain ⟨q, z, i1, i2, i3, i4, i5⟩ := hA.info
  subst ha hb hc
  have a1 : ¬ hi < lo := by omega
  have a2 : ¬ mx < hi := by omega
  have a3 : ¬ cap < mx := by omega
  exact ⟨_, fun W => by simp [Instr.slice, run_underlying hA.und, Instr.sliceBounds, Instr.sliceBound, asIntOf, sizeOf, typeInfo, i1, i3, h1, h2, h3]; rfl⟩

theorem cutAddr_zero (g o cap s : Nat) : cutAddr (some ⟨g, o, none⟩) cap 0 s = some ⟨g, o, none⟩ := by
  unfold cutAddr
  split
  · rfl
  · simp [Addr.add_lit]
theorem cutAddr_on {g o cap lo s : Nat} (h : cap ≠ lo) : cutAddr (some ⟨g, o, none⟩) cap lo s = some ⟨g, o + lo * s, none⟩ := by
  unfold cutAddr
  rw [if_neg h]
  simp [Addr.add_lit]
/-- A piece's cells. -/
theorem cut_src {g cap lo s : Nat} {cur cs : List Value} {t : TypeId} (hg : w.heap[g]? = some (.cells cur.toArray t)) (hcs : ∀ j v, cs[j]? = some v → cur[lo * s + j]? = some v) (h0 : cap = lo → cs = []) :
    ∃ ad, cutAddr (some ⟨g, 0, none⟩) cap lo s = some ad ∧ ∀ j v, cs[j]? = some v → w.cell? (ad.add j) = some v := by
  by_cases h : cap = lo
  · refine ⟨⟨g, 0, none⟩, by unfold cutAddr; rw [if_pos h], fun j v hj => ?_⟩
    rw [h0 h] at hj
    simp at hj
  · refine ⟨⟨g, lo * s, none⟩, by rw [cutAddr_on h, Nat.zero_add], fun j v hj => ?_⟩
    rw [Addr.add_lit, World.cell?, hg]
    simpa using hcs j v hj

/-! ### Builtins whose run is known, as laws for the walk and for a drawn region -/
theorem wpList_copy_is {ops : Array Oper} {rest : List Oper} {o : Oper} {a : Go.Act} {Q : Exit → Go.Act → World → Prop} (hgd : o.guard = none) (d s : Operand) (t t' : TypeId)
    (ho : o.op = .call { callee := .builtin .copy, args := #[d, s], argTypes := #[t, t'] }) (v u : Value) (hd : a.eval d = v) (hs : a.eval s = u) {v' : Value} {w' : World}
    (hr : (Builtin.copy_ #[t, t'] o.type #[v, u]).run P w = .ok v' w') (h : wpList P ops Q rest (a.put o.dst v') w') : wpList P ops Q (o :: rest) a w :=
  wpList_plain hgd fun _ hK => by
    unfold Oper.wp execOp
    simp only [ho, resolve, invoke, builtin, Sem.run_bind, Sem.run_pure, Result.andThen_ok, List.map_toArray, List.map_cons, List.map_nil, hd, hs, hr]
    exact hK _ _ h
theorem step_copy_is {ops : Array Oper} {o : Oper} {a : Go.Act} {K : Go.Act → World → Prop} {Q : Exit → Go.Act → World → Prop} {X : Prop}
    (hg : o.guard = none) (d x : Operand) (dT sT : TypeId) (hop : o.op = Op.call { callee := Callee.builtin Builtin.copy, args := #[d, x], argTypes := #[dT, sT] })
    (v u : Value) (hd : a.eval d = v) (hx : a.eval x = u) {v' : Value} {w' : World} (hr : (Builtin.copy_ #[dT, sT] o.type #[v, u]).run P w = .ok v' w') (hK : K (a.put o.dst v') w') :
    if Region.wanted o (yielded ops a.tmps) = true then Oper.wp P o a w K Q else X := by
  have hw : Region.wanted o (yielded ops a.tmps) = true := by simp [Region.wanted, hg]
  rw [if_pos hw]
  unfold Oper.wp
  simp [execOp, hop, resolve, invoke, builtin, hd, hx, hr, Result.andThen]
  exact hK
theorem step_append_is {ops : Array Oper} {o : Oper} {a : Go.Act} {K : Go.Act → World → Prop} {Q : Exit → Go.Act → World → Prop} {X : Prop}
    (hg : o.guard = none) (d x : Operand) (dT sT : TypeId) (hop : o.op = Op.call { callee := Callee.builtin Builtin.append, args := #[d, x], argTypes := #[dT, sT] })
    (v u : Value) (hd : a.eval d = v) (hx : a.eval x = u) {v' : Value} {w' : World} (hr : (Builtin.append_ #[dT, sT] o.type #[v, u]).run P w = .ok v' w') (hK : K (a.put o.dst v') w') :
    if Region.wanted o (yielded ops a.tmps) = true then Oper.wp P o a w K Q else X := by
  have hw : Region.wanted o (yielded ops a.tmps) = true := by simp [Region.wanted, hg]
  rw [if_pos hw]
  unfold Oper.wp
  simp [execOp, hop, resolve, invoke, builtin, hd, hx, hr, Result.andThen]
  exact hK
theorem wpList_clear_is {ops : Array Oper} {rest : List Oper} {o : Oper} {a : Go.Act} {Q : Exit → Go.Act → World → Prop} (hgd : o.guard = none) (d : Operand) (t : TypeId)
    (ho : o.op = .call { callee := .builtin .clear, args := #[d], argTypes := #[t] }) (v : Value) (hd : a.eval d = v) {v' : Value} {w' : World}
    (hr : (Builtin.clear_ #[t] o.type #[v]).run P w = .ok v' w') (h : wpList P ops Q rest (a.put o.dst v') w') : wpList P ops Q (o :: rest) a w :=
  wpList_plain hgd fun _ hK => by
    unfold Oper.wp execOp
    simp only [ho, resolve, invoke, builtin, Sem.run_bind, Sem.run_pure, Result.andThen_ok, List.map_toArray, List.map_cons, List.map_nil, hd, hr]
    exact hK _ _ h
end

/-- append, as a law for the walk, at an operation that stands behind a guard. -/
theorem wpList_growG {α : Type} {E : Ty α} {e T : TypeId} {w : World} {B : Nat} {C D : Blk} {v : Value} {l m : List α} {P : Program} {ops : Array Oper} {rest : List Oper} {o : Oper} {a : Go.Act} {Q : Exit → Go.Act → World → Prop} (hw : Region.wanted o (yielded ops a.tmps) = true) (s x : Operand)
    (ho : o.op = .call { callee := .builtin .append, args := #[s, x], argTypes := #[T, T] }) (hA : At P E T e) (hs : a.eval s = v) (h : Own E e w B C v l) {ao : Option Addr} {c n : Nat} (hx : a.eval x = .slice ao n c) (hnm : n = m.length) (hsrc : Src E w D ao m) (hc : ao = none → c = 0)
    (hD : ∀ k, D k → k < w.heap.size → C k ∧ some k ≠ v.ownBlock) (hn : l.length + m.length ≤ 1000000000000) (hB : B ≤ w.heap.size)
    (hK : ∀ v' w', Own E e w' B C v' (l ++ m) → w.grownBy w' v.ownBlock → wpList P ops Q rest (a.put o.dst v') w') : wpList P ops Q (o :: rest) a w := by
  refine wpList_step fun K hK' => ?_
  rw [if_pos hw]
  subst hnm
  obtain ⟨v', w', hrun, h1, h2, _⟩ := h.run hA hsrc hc o.type hD hn hB
  unfold Oper.wp
  simp [execOp, ho, resolve, invoke, builtin, hs, hx, hrun, Result.andThen]
  exact hK' _ _ (hK v' w' h1 h2)

/-! ### What is grown, as cells -/
section
variable {α : Type} {E : Ty α} {e T : TypeId} {P : Program} {w w' : World} {B : Nat} {C : Blk} {v : Value} {l : List α}

theorem Own.cells (h : Own E e w B C v l) (hl : 0 < l.length) : ∃ g cap cur xs, v = .slice (some ⟨g, 0, none⟩) l.length cap ∧ B ≤ g ∧ g < w.heap.size ∧ w.heap[g]? = some (.cells (cur : List Value).toArray e) ∧ l.length ≤ cap ∧ cap ≤ maxLen ∧ cur.length = cap * E.size ∧
    cur.take (l.length * E.size) = xs.flatten ∧ Each E w (fun k => C k ∧ k ≠ g) xs l := by
  obtain ⟨xs, hr, hE⟩ := h
  rcases hr.2 with ⟨rfl, h0⟩ | ⟨g, cap, cur, rfl, hb, hg, h1, h2, h3, h4⟩
  · omega
  · refine ⟨g, cap, cur.toList, xs, rfl, hb, (Array.getElem?_eq_some_iff.1 hg).1, by simpa using hg, h1, h2, by simpa using h3, h4, ?_⟩
    exact hE.mono fun k hk _ => ⟨hk.1, fun e => hk.2 (by rw [e]; rfl)⟩
theorem Own.of_cells {g cap : Nat} {cur : List Value} {xs : List (List Value)} (hb : B ≤ g) (hg : w.heap[g]? = some (.cells cur.toArray e)) (h1 : l.length ≤ cap) (h2 : cap ≤ maxLen) (h3 : cur.length = cap * E.size)
    (h4 : cur.take (l.length * E.size) = xs.flatten) (hE : Each E w (fun k => C k ∧ k ≠ g) xs l) : Own E e w B C (.slice (some ⟨g, 0, none⟩) l.length cap) l := by
  refine ⟨xs, ⟨hE.flatLen, .inr ⟨g, cap, cur.toArray, rfl, hb, hg, h1, h2, by simpa using h3, by simpa using h4⟩⟩, hE.mono fun k hk _ => ⟨hk.1, ?_⟩⟩
  intro e
  exact hk.2 (Option.some.inj e)

theorem Each.take {xs : List (List Value)} {D : Blk} (h : Each E w D xs l) (n : Nat) : Each E w D (xs.take n) (l.take n) := by
  refine ⟨by simp [h.1], fun i cs a hc ha => ?_⟩
  rw [List.getElem?_take] at hc ha
  split at hc
  · rename_i hi
    rw [if_pos hi] at ha
    exact h.2 i cs a hc ha
  · cases hc
theorem Each.drop {xs : List (List Value)} {D : Blk} (h : Each E w D xs l) (n : Nat) : Each E w D (xs.drop n) (l.drop n) := by
  refine ⟨by simp [h.1], fun i cs a hc ha => ?_⟩
  rw [List.getElem?_drop] at hc ha
  exact h.2 _ cs a hc ha

theorem setRow_size (w : World) (g : Nat) (cs : Array Value) : (w.setRow g cs).heap.size = w.heap.size := by simp [World.setRow]
theorem setRow_grown (w : World) (g : Nat) (cs : Array Value) : w.grownBy (w.setRow g cs) (some g) := ⟨rfl, rfl, rfl, by rw [setRow_size]; exact Nat.le_refl _, fun k _ hk => setRow_other w g k cs (fun e => hk (by rw [e]))⟩
end

end Go.Pch
end

section
namespace Go.Pch
open Go.RowKit Go.Proofs

/-- Bytes. -/
abbrev Bytes := List UInt8
/-- A text of bytes. -/
def bl (l : Bytes) : ByteArray := ⟨l.toArray⟩
theorem bl_data (s : ByteArray) : bl s.data.toList = s := by cases s; simp [bl]
theorem bl_inj {a b : Bytes} (h : bl a = bl b) : a = b := by
  have := congrArg (fun s : ByteArray => s.data.toList) h
  simpa [bl] using this
theorem bl_size (l : Bytes) : (bl l).size = l.length := by simp [bl, ByteArray.size]
/-- A number's lowest byte. -/
def byteOf (n : Int) : UInt8 := UInt8.ofNat (n % 256).toNat
theorem byteOf_nat (n : Int) : ((byteOf n).toNat : Int) = n % 256 := by
  have h0 : 0 ≤ n % 256 := Int.emod_nonneg _ (by decide)
  have h1 : n % 256 < 256 := Int.emod_lt_of_pos _ (by decide)
  unfold byteOf
  rw [UInt8.toNat_ofNat']
  have : (n % 256).toNat % 2 ^ 8 = (n % 256).toNat := Nat.mod_eq_of_lt (by omega)
  rw [this]
  omega
/-- A number as one byte, as two. -/
def enc1 (n : Int) : Bytes := [byteOf n]
def enc2 (n : Int) : Bytes := [byteOf (n / 256), byteOf n]
/-- A number as one byte, or two. -/
def encN (k : Nat) (n : Int) : Bytes := if k = 1 then enc1 n else enc2 n
/-- Has the number no place? -/
def outN (k : Nat) (n : Int) : Bool := decide (n < 0) || decide ((if k = 1 then 256 else 65536) ≤ n)

def tByte : Ty UInt8 := Ty.flat 1 (by decide) (fun c => [.int .u8 (c.toNat : Int)]) (fun _ => True) (by intro; rfl) (by intro a u hu; simp at hu; subst hu; rfl)
theorem aByte : At Tryz.prog tByte 75 5 := At.mk' Tryz.underlying75 (z := .int .u8 0) (size := 1) (bytes := 1) (by kernel_rfl) rfl rfl (by decide)

/-- The world is as it was, but for these blocks; new ones may have come. -/
structure Step (X : Blk) (w w' : World) : Prop where
  os : w'.os = w.os
  tape : w'.tape = w.tape
  output : w'.output = w.output
  size : w.heap.size ≤ w'.heap.size
  block : ∀ k, k < w.heap.size → ¬ X k → w'.heap[k]? = w.heap[k]?
section
variable {X Y : Blk} {a b c : World}
theorem Step.refl (X : Blk) (a : World) : Step X a a := ⟨rfl, rfl, rfl, Nat.le_refl _, fun _ _ _ => rfl⟩
theorem Step.trans (h : Step X a b) (g : Step Y b c) (hY : ∀ k, k < a.heap.size → Y k → X k) : Step X a c :=
  ⟨g.os.trans h.os, g.tape.trans h.tape, g.output.trans h.output, Nat.le_trans h.size g.size, fun k hk hn => (g.block k (Nat.lt_of_lt_of_le hk h.size) fun hy => hn (hY k hk hy)).trans (h.block k hk hn)⟩
theorem Step.on (h : Step X a b) (g : Step X b c) : Step X a c := h.trans g fun _ _ h => h
theorem Step.of_below (h : Below a.heap.size a b) : Step X a b := ⟨h.os, h.tape, h.output, h.size, fun k hk _ => h.block k hk⟩
theorem Step.below {B : Nat} (h : Step X a b) (hX : ∀ k, X k → B ≤ k) (hB : B ≤ a.heap.size) : Below B a b :=
  ⟨h.os, h.tape, h.output, h.size, fun k hk => h.block k (by omega) fun hx => by have := hX k hx; omega⟩
theorem Step.setCell (p : Addr) (u : Value) (h : X p.block) : Step X a (a.setCell p u) :=
  ⟨rfl, rfl, rfl, by simp [World.setCell], fun k _ hn => Below.heap_setCell _ _ _ _ fun e => hn (e ▸ h)⟩
theorem Step.grown {row : Option Nat} (hg : a.grownBy b row) (hX : ∀ k, row = some k → X k) : Step X a b :=
  ⟨hg.os, hg.tape, hg.output, hg.size, fun k hk hn => hg.block k hk fun e => hn (hX k e.symm)⟩
theorem Step.mono (h : Step X a b) (hX : ∀ k, k < a.heap.size → X k → Y k) : Step Y a b := ⟨h.os, h.tape, h.output, h.size, fun k hk hn => h.block k hk fun hx => hn (hX k hk hx)⟩
theorem Step.cell (h : Step X a b) {p : Addr} (hp : p.block < a.heap.size) (hx : ¬ X p.block) : b.cell? p = a.cell? p := World.cell?_of_block (w := a) (h.block p.block hp hx)
end
theorem Sl.step {α : Type} {E : Ty α} {w w' : World} {S X : Blk} {v : Value} {l : List α} (h : Sl E w S v l) (hs : Step X w w') (hS : ∀ k, S k → ¬ X k) : Sl E w' S v l := h.keep fun k hk hlt => hs.block k hlt (hS k hk)

/-- The block that a pen's bytes lie in, and the pen's own. -/
def penX (pb : Nat) (v : Value) : Blk := fun k => k = pb ∨ v.ownBlock = some k
/-- A pen lies in block pb, its bytes are a slice of its own. -/
structure PenAt (w : World) (B pb : Nat) (v : Value) (bs : Bytes) (bad : Bool) : Prop where
  low : B ≤ pb
  lt : pb < w.heap.size
  row : w.heap[pb]? = some (.cells #[v, .bool bad] 77)
  own : Own tByte 5 w B (fun _ => False) v bs
theorem PenAt.apart {w : World} {B pb : Nat} {v : Value} {bs : Bytes} {bad : Bool} (h : PenAt w B pb v bs bad) : v.ownBlock ≠ some pb := by
  intro e
  obtain ⟨xs, hr, _⟩ := h.own
  rcases hr.2 with ⟨rfl, _⟩ | ⟨g, cap, cur, rfl, _, hg, _⟩
  · simp [Value.ownBlock] at e
  · simp [Value.ownBlock] at e
    subst e
    rw [h.row] at hg
    simp at hg
theorem PenAt.cell0 {w : World} {B pb : Nat} {v : Value} {bs : Bytes} {bad : Bool} (h : PenAt w B pb v bs bad) : w.cell? ⟨pb, 0, none⟩ = some v := by rw [World.cell?, h.row]; rfl
theorem PenAt.cell1 {w : World} {B pb : Nat} {v : Value} {bs : Bytes} {bad : Bool} (h : PenAt w B pb v bs bad) : w.cell? ⟨pb, 1, none⟩ = some (.bool bad) := by rw [World.cell?, h.row]; rfl
theorem PenAt.free {w : World} {B pb : Nat} {v : Value} {bs : Bytes} {bad : Bool} (h : PenAt w B pb v bs bad) (i : Nat) : w.frozen? ⟨pb, i, none⟩ = false := frozen_of_row w pb i _ _ h.row
theorem PenAt.setBad {w : World} {B pb : Nat} {v : Value} {bs : Bytes} {bad : Bool} (h : PenAt w B pb v bs bad) (b : Bool) : PenAt (w.setCell ⟨pb, 1, none⟩ (.bool b)) B pb v bs b :=
  ⟨h.low, by simpa [World.setCell] using h.lt, heap_setCell_same w pb 1 _ _ (.bool b) h.row, h.own.keep fun k hk _ => heap_setCell_other _ _ _ _ (by
    rcases hk with hk | hk
    · exact hk.elim
    · intro e; exact h.apart (by rw [hk, e]))⟩
theorem PenAt.setB {w w' : World} {B pb : Nat} {v v' : Value} {bs bs' : Bytes} {bad : Bool} (h : PenAt w B pb v bs bad) (ho : Own tByte 5 w' B (fun _ => False) v' bs') (hg : w.grownBy w' v.ownBlock) : PenAt (w'.setCell ⟨pb, 0, none⟩ v') B pb v' bs' bad := by
  have hrow : w'.heap[pb]? = some (.cells #[v, .bool bad] 77) := (hg.block pb h.lt fun e => h.apart e.symm).trans h.row
  have hlt : pb < w'.heap.size := Nat.lt_of_lt_of_le h.lt hg.size
  have hap : v'.ownBlock ≠ some pb := by
    intro e
    obtain ⟨xs, hr, _⟩ := ho
    rcases hr.2 with ⟨rfl, _⟩ | ⟨g, cap, cur, rfl, _, hg', _⟩
    · simp [Value.ownBlock] at e
    · simp [Value.ownBlock] at e
      subst e
      rw [hrow] at hg'
      simp at hg'
  exact ⟨h.low, by simpa [World.setCell] using hlt, heap_setCell_same w' pb 0 _ _ v' hrow, ho.keep fun k hk _ => heap_setCell_other _ _ _ _ (by
    rcases hk with hk | hk
    · exact hk.elim
    · intro e; exact hap (by rw [hk, e]))⟩
theorem PenAt.step {w w' : World} {B pb : Nat} {v : Value} {bs : Bytes} {bad : Bool} {X : Blk} (h : PenAt w B pb v bs bad) (hs : Step X w w') (hX : ∀ k, X k → ¬ penX pb v k) : PenAt w' B pb v bs bad :=
  ⟨h.low, Nat.lt_of_lt_of_le h.lt hs.size, (hs.block pb h.lt fun hx => hX _ hx (.inl rfl)).trans h.row, h.own.keep fun k hk hlt => hs.block k hlt fun hx => hX _ hx (by
    rcases hk with hk | hk
    · exact hk.elim
    · exact .inr hk)⟩
theorem PenAt.call {w w' : World} {B pb : Nat} {v : Value} {bs : Bytes} {bad : Bool} (h : PenAt w B pb v bs bad) (hb : Below w.heap.size w w') : PenAt w' B pb v bs bad :=
  h.step (Step.of_below (X := fun _ => False) hb) (fun _ h => h.elim)
/-- What a pen does: its own blocks turn, and new ones come; its bytes' block is as before or new. -/
def PenOn (pb : Nat) (v v' : Value) (w w' : World) : Prop := Step (penX pb v) w w' ∧ ∀ g, v'.ownBlock = some g → v.ownBlock = some g ∨ w.heap.size ≤ g
theorem PenOn.refl (pb : Nat) (v : Value) (w : World) : PenOn pb v v w w := ⟨Step.refl _ _, fun _ h => .inl h⟩
theorem PenOn.trans {pb : Nat} {v v' v'' : Value} {w w' w'' : World} (h : PenOn pb v v' w w') (g : PenOn pb v' v'' w' w'') : PenOn pb v v'' w w'' := by
  refine ⟨h.1.trans g.1 fun k hk hx => ?_, fun k hk => ?_⟩
  · rcases hx with hx | hx
    · exact .inl hx
    · rcases h.2 k hx with h' | h'
      · exact .inr h'
      · omega
  · rcases g.2 k hk with h' | h'
    · exact h.2 k h'
    · exact .inr (Nat.le_trans h.1.size h')
theorem PenOn.setBad {pb : Nat} {v v' : Value} {w w' : World} (h : PenOn pb v v' w w') (u : Value) : PenOn pb v v' w (w'.setCell ⟨pb, 1, none⟩ u) :=
  ⟨h.1.on (Step.setCell _ _ (.inl rfl)), h.2⟩
theorem PenOn.setB {pb : Nat} {v v' v'' : Value} {w w' w'' : World} (h : PenOn pb v v' w w') (hg : w'.grownBy w'' v'.ownBlock) (hn : ∀ g, v''.ownBlock = some g → v'.ownBlock = some g ∨ w'.heap.size ≤ g) (u : Value) : PenOn pb v v'' w (w''.setCell ⟨pb, 0, none⟩ u) := by
  refine h.trans ⟨(Step.grown hg fun k hk => .inr hk).on (Step.setCell _ _ (.inl rfl)), hn⟩

end Go.Pch
end

section
namespace Go.Pch
open Go.RowKit Go.Proofs
set_option maxRecDepth 100000
set_option linter.unusedSimpArgs false

/-- append, for the walk; where the grown block is. -/
theorem wpList_growB {α : Type} {E : Ty α} {e T : TypeId} {w : World} {B : Nat} {C D : Blk} {v : Value} {l m : List α} {P : Program} {ops : Array Oper} {rest : List Oper} {o : Oper} {a : Go.Act} {Q : Exit → Go.Act → World → Prop} (hgd : o.guard = none) (s x : Operand)
    (ho : o.op = .call { callee := .builtin .append, args := #[s, x], argTypes := #[T, T] }) (hA : At P E T e) (hs : a.eval s = v) (h : Own E e w B C v l) {ao : Option Addr} {c n : Nat} (hx : a.eval x = .slice ao n c) (hnm : n = m.length) (hsrc : Src E w D ao m) (hc : ao = none → c = 0)
    (hD : ∀ k, D k → k < w.heap.size → C k ∧ some k ≠ v.ownBlock) (hn : l.length + m.length ≤ 1000000000000) (hB : B ≤ w.heap.size)
    (hK : ∀ v' w', Own E e w' B C v' (l ++ m) → w.grownBy w' v.ownBlock → (∀ g, v'.ownBlock = some g → v.ownBlock = some g ∨ w.heap.size ≤ g) → wpList P ops Q rest (a.put o.dst v') w') : wpList P ops Q (o :: rest) a w := by
  refine wpList_plain hgd fun K hK' => ?_
  subst hnm
  obtain ⟨v', w', hrun, h1, h2, h3⟩ := h.run hA hsrc hc o.type hD hn hB
  unfold Oper.wp
  simp [execOp, ho, resolve, invoke, builtin, hs, hx, hrun, Result.andThen]
  refine hK' _ _ (hK v' w' h1 h2 fun g hg => ?_)
  rcases h3 with h3 | h3
  · exact .inl (h3 ▸ hg)
  · rw [hg] at h3
    exact .inr (by simp at h3; omega)

theorem flatMap_next {α β : Type} (f : α → List β) {l : List α} {k : Nat} (h : k < l.length) : (l.take (k + 1)).flatMap f = (l.take k).flatMap f ++ f l[k] := by
  rw [List.take_succ_eq_append_getElem h, List.flatMap_append, List.flatMap_cons, List.flatMap_nil, List.append_nil]
theorem any_next {α : Type} (f : α → Bool) {l : List α} {k : Nat} (h : k < l.length) : (l.take (k + 1)).any f = ((l.take k).any f || f l[k]) := by
  rw [List.take_succ_eq_append_getElem h, List.any_append, List.any_cons, List.any_nil, Bool.or_false]

theorem len_enc1 (l : List Int) : (l.flatMap enc1).length = l.length := by
  induction l with
  | nil => rfl
  | cons a l ih => rw [List.flatMap_cons, List.length_append, ih]; simp [enc1]; omega
theorem len_enc2 (l : List Int) : (l.flatMap enc2).length = 2 * l.length := by
  induction l with
  | nil => rfl
  | cons a l ih => rw [List.flatMap_cons, List.length_append, ih]; simp [enc2]; omega

/-- One byte more: the run of append, and what it leaves. -/
theorem PenAt.byte {w : World} {B pb : Nat} {v : Value} {bs : Bytes} {bad : Bool} (h : PenAt w B pb v bs bad) (c : UInt8) (hl : bs.length ≤ 10000000000) :
    ∃ (a2 : Option Addr) (L c2 : Nat) (w2 : World), (Builtin.append_ #[75, 75] 75 #[v, .slice (some ⟨w.heap.size, 0, none⟩) 1 1]).run Tryz.prog (w.drew.alloc (.cells #[.int .u8 (c.toNat : Int)] 5)) = .ok (.slice a2 L c2) w2 ∧
      w2.cell? ⟨pb, 0, none⟩ = some v ∧ w2.frozen? ⟨pb, 0, none⟩ = false ∧ PenAt (w2.setCell ⟨pb, 0, none⟩ (.slice a2 L c2)) B pb (.slice a2 L c2) (bs ++ [c]) bad ∧
      (∀ v0 w0, PenOn pb v0 v w0 w → PenOn pb v0 (.slice a2 L c2) w0 (w2.setCell ⟨pb, 0, none⟩ (.slice a2 L c2))) ∧ (w.alloc (.cells #[.int .u8 (c.toNat : Int)] 5)).cell? ⟨pb, 0, none⟩ = some v := by
  obtain ⟨W1, hW1⟩ : ∃ W1, W1 = w.drew.alloc (.cells #[.int .u8 (c.toNat : Int)] 5) := ⟨_, rfl⟩
  have hb1 : Below w.heap.size w W1 := by rw [hW1]; exact (Below.refl _ _).drew.alloc (Nat.le_refl _) _
  have hp1 := h.call hb1
  have hsrc : Src tByte W1 (fun _ => False) (some ⟨w.heap.size, 0, none⟩) [c] := by
    refine ⟨[[.int .u8 (c.toNat : Int)]], Each.one _ _ ⟨rfl, trivial⟩, by simp, fun ad had j u hj => ?_⟩
    obtain rfl := (Option.some.inj had).symm
    rw [hW1]
    cases j with
    | zero =>
      simp at hj; subst hj
      show (w.drew.alloc _).cell? ⟨w.drew.heap.size, 0, none⟩ = _
      rw [World.cell?_alloc_new]; rfl
    | succ j => simp at hj
  obtain ⟨v2, w2, hrun, ho2, hg2, hn2⟩ := hp1.own.run aByte hsrc (fun h => by cases h) 75 (fun _ h => h.elim) (c := 1) (by simp; omega) (Nat.le_trans hp1.low (Nat.le_of_lt hp1.lt))
  obtain ⟨a2, c2, rfl, _, _⟩ := ho2.shape
  have hr2 : w2.heap[pb]? = some (.cells #[v, .bool bad] 77) := (hg2.block pb hp1.lt fun e => hp1.apart e.symm).trans hp1.row
  refine ⟨a2, _, c2, w2, by rw [← hW1]; exact hrun, by rw [World.cell?, hr2]; rfl, frozen_of_row w2 pb 0 _ _ hr2, hp1.setB ho2 hg2, fun v0 w0 hon => ?_, ((((Below.refl w.heap.size w)).alloc (Nat.le_refl _) _).cell (p := ⟨pb, 0, none⟩) h.lt).trans h.cell0⟩
  exact (hon.trans ⟨Step.of_below hb1, fun g hg => .inl hg⟩).setB hg2 (fun g hg => by
    rcases hn2 with h | h
    · exact .inl (h ▸ hg)
    · rw [h] at hg; exact .inr (Nat.le_of_eq (Option.some.inj hg))) _

set_option maxHeartbeats 2000000 in
theorem penPut1 (pb B : Nat) (vl : Value) (l : List Int) (S : Blk) (w : World) (v : Value) (bs : Bytes) (bad : Bool)
    (hp : PenAt w B pb v bs bad) (hl : Sl tInt w S vl l) (hS : ∀ k, S k → ¬ penX pb v k) (hlen : l.length ≤ 1000) (hbs : bs.length ≤ 1000000000) :
    Calls Tryz.prog 36 #[.pointer (some ⟨pb, 0, none⟩), .int .i64 1, vl] w fun e w' => e = .returned (.tuple #[]) ∧ ∃ v', PenAt w' B pb v' (bs ++ l.flatMap enc1) (bad || l.any (outN 1)) ∧ PenOn pb v v' w w' := by
  obtain ⟨ao, cap, rfl, hcap, hmax, hnil⟩ := hl.shape
  go_enter Tryz.func36, Tryz.ntmps36
  go_wp2
  go_loopw [7, 8, 11] (fun _ _ i wr => ∃ (k : Nat) (vr : Value), k ≤ l.length ∧ i = .int .i64 k ∧ PenAt wr B pb vr (bs ++ (l.take k).flatMap enc1) (bad || (l.take k).any (outN 1)) ∧ PenOn pb v vr w wr) (fun _ _ i _ => l.length - (intOf i).toNat)
  case atStart => exact ⟨0, v, Nat.zero_le _, rfl, by simpa using hp, PenOn.refl _ _ _⟩
  case round =>
    obtain ⟨k, vr, hk, rfl, hpr, hon⟩ := hrel
    by_cases hlt : k < l.length
    · obtain ⟨b, o, hix, _, hbs, ok, hc0⟩ := (hl.step hon.1 hS).idxInt aInt k k rfl hlt
      have p1 := hpr.cell1
      have pf1 := hpr.free 1
      have ht : (l.take (k + 1)).flatMap enc1 = (l.take k).flatMap enc1 ++ enc1 l[k] := flatMap_next _ hlt
      have ha : (l.take (k + 1)).any (outN 1) = ((l.take k).any (outN 1) || outN 1 l[k]) := any_next _ hlt
      have hdl : ((l.take k).flatMap enc1).length ≤ 1000 := by rw [len_enc1, List.length_take]; omega
      have HT := keepBack ht
      have HA := keepBack ha
      clear ht ha
      generalize (l.take k).flatMap enc1 = done at *
      generalize hn : l[k] = n at *
      generalize hbr : (bad || (l.take k).any (outN 1)) = br at *
      have HBR := keepBack hbr
      clear hbr hn
      go_upto_region 3 with fail
      go_cut [7] from 12 to 53 (fun nv wc => nv = .int .i64 n ∧ PenAt wc B pb vr (bs ++ done) (br || outN 1 n) ∧ PenOn pb v vr w wc)
      case first =>
        have key : ∀ x, (br || outN 1 n) = x → PenAt (wr.setCell ⟨pb, 1, none⟩ (.bool x)) B pb vr (bs ++ done) (br || outN 1 n) ∧ PenOn pb v vr w (wr.setCell ⟨pb, 1, none⟩ (.bool x)) := fun x hx => by rw [hx]; exact ⟨hpr.setBad x, hon.setBad _⟩
        have KEY := keepBack key
        clear key
        cases br with
        | true =>
          go_wp2_with fail
          go_meet
          case rel => exact ⟨rfl, KEY.out true (by simp)⟩
        | false =>
          by_cases h0 : n < 0
          · go_wp2_with fail
            go_meet
            case rel => exact ⟨rfl, KEY.out true (by simp [outN, h0])⟩
          · by_cases h1 : 256 ≤ n
            · go_wp2_with fail
              go_meet
              case rel => exact ⟨rfl, KEY.out true (by simp [outN, h1])⟩
            · go_wp2_with fail
              go_meet
              case rel => exact ⟨rfl, KEY.out false (by simp [outN]; omega)⟩
      case rest =>
        obtain ⟨rfl, hpc, honc⟩ := hcut
        obtain ⟨wo, rfl⟩ : ∃ wo : World, wo = wr := ⟨_, rfl⟩
        go_wp2
        go_loopw [8] (fun iv wr => ∃ (j : Nat) (vx : Value) (bx : Bytes), j ≤ 1 ∧ iv = .int .i64 ((j : Int) - 1) ∧ PenAt wr B pb vx bx (br || outN 1 n) ∧ PenOn pb v vx w wr ∧ Hid (bx = bs ++ done ++ (enc1 n).take (1 - j))) (fun iv _ => (intOf iv + 1).toNat)
        case atStart => exact ⟨1, vr, _, Nat.le_refl _, rfl, hpc, honc, by simp [Hid]⟩
        case round =>
          obtain ⟨j, vx, bx, hj, rfl, hpx, honx, hbx⟩ := hrel
          by_cases hj0 : j = 0
          · subst hj0
            go_wp2
            have hbx1 := hbx.out
            simp only [enc1, Nat.sub_zero, List.take_succ_cons, List.take_zero] at hbx1
            go_roundw
            case rel => exact ⟨k + 1, vx, by omega, by go_num, by rw [HT.out, HA.out, ← Bool.or_assoc, HBR.out, ← List.append_assoc]; rw [hbx1] at hpx; exact hpx, honx⟩
            case measure => simp [intOf]; omega
          · obtain rfl : j = 1 := by omega
            have q0 := hpx.cell0
            have qf := hpx.free 0
            have hsh : ∀ W, Sem.run Tryz.prog (Op.shift BinOp.shr IntKind.i64 n IntKind.i64 (IntKind.i64.wrap 0)) W = .ok (.int .i64 (n)) W := fun W => by
              rw [show IntKind.i64.wrap 0 = 0 from by decide, shift_shr .i64 .i64 n 0 (by decide) (by decide)]
              simp [Sem.run_pure]
            have hw8 : IntKind.u8.wrap (n) = ((byteOf (n)).toNat : Int) := by rw [byteOf_nat, IntKind.wrap_u8]
            have hlx : bx.length ≤ 10000000000 := by rw [hbx.out]; simp [enc1, enc2]; omega
            obtain ⟨a2, L, c2, w2, hrun, r0, rf, hpn, hon2, q0'⟩ := hpx.byte (byteOf (n)) hlx
            have honn := hon2 _ _ honx
            clear hon2
            go_wp2
            go_region_law (refine step_append_is rfl (.tmp 43) (.tmp 49) 75 75 rfl _ _ rfl rfl hrun ?_)
            all_goals
              go_wp2
              go_roundw
              case rel => exact ⟨0, _, _, by omega, by go_num, hpn, honn, by rw [hbx.out]; simp [Hid, enc1, enc2]⟩
              case measure => simp [intOf]
    · go_wp2
      go_end0
      rw [List.take_of_length_le (by omega)] at hpr
      exact ⟨rfl, vr, hpr, hon⟩

set_option maxHeartbeats 2000000 in
theorem penPut2 (pb B : Nat) (vl : Value) (l : List Int) (S : Blk) (w : World) (v : Value) (bs : Bytes) (bad : Bool)
    (hp : PenAt w B pb v bs bad) (hl : Sl tInt w S vl l) (hS : ∀ k, S k → ¬ penX pb v k) (hlen : l.length ≤ 1000) (hbs : bs.length ≤ 1000000000) :
    Calls Tryz.prog 36 #[.pointer (some ⟨pb, 0, none⟩), .int .i64 2, vl] w fun e w' => e = .returned (.tuple #[]) ∧ ∃ v', PenAt w' B pb v' (bs ++ l.flatMap enc2) (bad || l.any (outN 2)) ∧ PenOn pb v v' w w' := by
  obtain ⟨ao, cap, rfl, hcap, hmax, hnil⟩ := hl.shape
  go_enter Tryz.func36, Tryz.ntmps36
  go_wp2
  go_loopw [7, 8, 11] (fun _ _ i wr => ∃ (k : Nat) (vr : Value), k ≤ l.length ∧ i = .int .i64 k ∧ PenAt wr B pb vr (bs ++ (l.take k).flatMap enc2) (bad || (l.take k).any (outN 2)) ∧ PenOn pb v vr w wr) (fun _ _ i _ => l.length - (intOf i).toNat)
  case atStart => exact ⟨0, v, Nat.zero_le _, rfl, by simpa using hp, PenOn.refl _ _ _⟩
  case round =>
    obtain ⟨k, vr, hk, rfl, hpr, hon⟩ := hrel
    by_cases hlt : k < l.length
    · obtain ⟨b, o, hix, _, hbs, ok, hc0⟩ := (hl.step hon.1 hS).idxInt aInt k k rfl hlt
      have p1 := hpr.cell1
      have pf1 := hpr.free 1
      have ht : (l.take (k + 1)).flatMap enc2 = (l.take k).flatMap enc2 ++ enc2 l[k] := flatMap_next _ hlt
      have ha : (l.take (k + 1)).any (outN 2) = ((l.take k).any (outN 2) || outN 2 l[k]) := any_next _ hlt
      have hdl : ((l.take k).flatMap enc2).length ≤ 2000 := by rw [len_enc2, List.length_take]; omega
      have HT := keepBack ht
      have HA := keepBack ha
      clear ht ha
      generalize (l.take k).flatMap enc2 = done at *
      generalize hn : l[k] = n at *
      generalize hbr : (bad || (l.take k).any (outN 2)) = br at *
      have HBR := keepBack hbr
      clear hbr hn
      go_upto_region 3 with fail
      go_cut [7] from 12 to 53 (fun nv wc => nv = .int .i64 n ∧ PenAt wc B pb vr (bs ++ done) (br || outN 2 n) ∧ PenOn pb v vr w wc)
      case first =>
        have key : ∀ x, (br || outN 2 n) = x → PenAt (wr.setCell ⟨pb, 1, none⟩ (.bool x)) B pb vr (bs ++ done) (br || outN 2 n) ∧ PenOn pb v vr w (wr.setCell ⟨pb, 1, none⟩ (.bool x)) := fun x hx => by rw [hx]; exact ⟨hpr.setBad x, hon.setBad _⟩
        have KEY := keepBack key
        clear key
        cases br with
        | true =>
          go_wp2_with fail
          go_meet
          case rel => exact ⟨rfl, KEY.out true (by simp)⟩
        | false =>
          by_cases h0 : n < 0
          · go_wp2_with fail
            go_meet
            case rel => exact ⟨rfl, KEY.out true (by simp [outN, h0])⟩
          · by_cases h1 : 65536 ≤ n
            · go_wp2_with fail
              go_meet
              case rel => exact ⟨rfl, KEY.out true (by simp [outN, h1])⟩
            · go_wp2_with fail
              go_meet
              case rel => exact ⟨rfl, KEY.out false (by simp [outN]; omega)⟩
      case rest =>
        obtain ⟨rfl, hpc, honc⟩ := hcut
        obtain ⟨wo, rfl⟩ : ∃ wo : World, wo = wr := ⟨_, rfl⟩
        go_wp2
        go_loopw [8] (fun iv wr => ∃ (j : Nat) (vx : Value) (bx : Bytes), j ≤ 2 ∧ iv = .int .i64 ((j : Int) - 1) ∧ PenAt wr B pb vx bx (br || outN 2 n) ∧ PenOn pb v vx w wr ∧ Hid (bx = bs ++ done ++ (enc2 n).take (2 - j))) (fun iv _ => (intOf iv + 1).toNat)
        case atStart => exact ⟨2, vr, _, Nat.le_refl _, rfl, hpc, honc, by simp [Hid]⟩
        case round =>
          obtain ⟨j, vx, bx, hj, rfl, hpx, honx, hbx⟩ := hrel
          by_cases hj0 : j = 0
          · subst hj0
            go_wp2
            have hbx1 := hbx.out
            simp only [enc2, Nat.sub_zero, List.take_succ_cons, List.take_zero] at hbx1
            go_roundw
            case rel => exact ⟨k + 1, vx, by omega, by go_num, by rw [HT.out, HA.out, ← Bool.or_assoc, HBR.out, ← List.append_assoc]; rw [hbx1] at hpx; exact hpx, honx⟩
            case measure => simp [intOf]; omega
          · have q0 := hpx.cell0
            have qf := hpx.free 0
            by_cases hj1 : j = 1
            · subst hj1
              have hsh : ∀ W, Sem.run Tryz.prog (Op.shift BinOp.shr IntKind.i64 n IntKind.i64 (IntKind.i64.wrap 0)) W = .ok (.int .i64 (n)) W := fun W => by
                rw [show IntKind.i64.wrap 0 = 0 from by decide, shift_shr .i64 .i64 n 0 (by decide) (by decide)]
                simp [Sem.run_pure]
              have hw8 : IntKind.u8.wrap (n) = ((byteOf (n)).toNat : Int) := by rw [byteOf_nat, IntKind.wrap_u8]
              have hlx : bx.length ≤ 10000000000 := by rw [hbx.out]; simp [enc1, enc2]; omega
              obtain ⟨a2, L, c2, w2, hrun, r0, rf, hpn, hon2, q0'⟩ := hpx.byte (byteOf (n)) hlx
              have honn := hon2 _ _ honx
              clear hon2
              go_wp2
              go_region_law (refine step_append_is rfl (.tmp 43) (.tmp 49) 75 75 rfl _ _ rfl rfl hrun ?_)
              all_goals
                go_wp2
                go_roundw
                case rel => exact ⟨0, _, _, by omega, by go_num, hpn, honn, by rw [hbx.out]; simp [Hid, enc1, enc2]⟩
                case measure => simp [intOf]
            · obtain rfl : j = 2 := by omega
              have hsh : ∀ W, Sem.run Tryz.prog (Op.shift BinOp.shr IntKind.i64 n IntKind.i64 (IntKind.i64.wrap 8)) W = .ok (.int .i64 (n / 256)) W := fun W => by
                rw [show IntKind.i64.wrap 8 = 8 from by decide, shift_shr .i64 .i64 n 8 (by decide) (by decide)]
                simp [Sem.run_pure]
              have hw8 : IntKind.u8.wrap (n / 256) = ((byteOf (n / 256)).toNat : Int) := by rw [byteOf_nat, IntKind.wrap_u8]
              have hlx : bx.length ≤ 10000000000 := by rw [hbx.out]; simp [enc1, enc2]; omega
              obtain ⟨a2, L, c2, w2, hrun, r0, rf, hpn, hon2, q0'⟩ := hpx.byte (byteOf (n / 256)) hlx
              have honn := hon2 _ _ honx
              clear hon2
              go_wp2
              go_region_law (refine step_append_is rfl (.tmp 43) (.tmp 49) 75 75 rfl _ _ rfl rfl hrun ?_)
              all_goals
                go_wp2
                go_roundw
                case rel => exact ⟨1, _, _, by omega, by go_num, hpn, honn, by rw [hbx.out]; simp [Hid, enc1, enc2]⟩
                case measure => simp [intOf]
    · go_wp2
      go_end0
      rw [List.take_of_length_le (by omega)] at hpr
      exact ⟨rfl, vr, hpr, hon⟩

end Go.Pch
end
