/- General words for the proofs over pleach: what a value reads as in a world (Ty), what a call returns (Ret), a slice that the call itself grows (Own); no program is named here. -/
import Derived.WalkKit
import Derived.WalkSpells
import Derived.WalkLawsBesides
import Derived.Deep.QuietTactic
import Derived.BigQuiet
import Derived.Test.YtdclpbdmdpakkaaWa1
section
namespace Go.Pch
open Go.RowKit

/-- A set of blocks. -/
abbrev Blk := Nat → Prop

/-- How a Go type's cells read: 'rd w S cs a': in the world w the cells cs read as a, by way of blocks of S alone. -/
structure Ty (α : Type) where
  size : Nat
  pos : 0 < size
  rd : World → Blk → List Value → α → Prop
  len : ∀ {w S cs a}, rd w S cs a → cs.length = size
  one : ∀ {w S cs a}, rd w S cs a → ∀ u ∈ cs, u.oneCell' = true
  keep : ∀ {w w' : World} {S cs a}, rd w S cs a → (∀ k, S k → k < w.heap.size → w'.heap[k]? = w.heap[k]?) → rd w' S cs a
  mono : ∀ {w S S' cs a}, rd w S cs a → (∀ k, S k → k < w.heap.size → S' k) → rd w S' cs a

/-- What a call returns: a value of which Q speaks; below the heap's old end all is as it was. -/
def Ret (w : World) (Q : Value → World → Prop) (e : Ending) (w' : World) : Prop := ∃ v, e = .returned v ∧ Q v w' ∧ Below w.heap.size w w'

/-- A fact kept from the walk. -/
theorem keepBack {p : Prop} (h : p) : Hid p := h
/-- w' is w, but for draws. -/
def Drawn (w w' : World) : Prop := ∃ n, w' = w.drewN n
theorem Drawn.refl (w : World) : Drawn w w := ⟨0, rfl⟩
theorem Drawn.next {w w' : World} (h : Drawn w w') (m : Nat) : Drawn w (w'.drewN m) := by
  obtain ⟨n, rfl⟩ := h
  exact ⟨n + m, by rw [World.drewN_drewN]⟩
theorem Drawn.trans {w w' w'' : World} (h : Drawn w w') (g : Drawn w' w'') : Drawn w w'' := by
  obtain ⟨n, rfl⟩ := g
  exact h.next n
theorem Drawn.below {w w' : World} (h : Drawn w w') : Below w.heap.size w w' := by
  obtain ⟨n, rfl⟩ := h
  exact below_drewN (Below.refl _ _) n
/-- A call that only reads, and may draw. -/
def Quiet (w : World) (v : Value) (e : Ending) (w' : World) : Prop := e = .returned v ∧ Drawn w w'
theorem quietOf {P : Program} {f : FuncId} {args : Array Value} {w : World} {n : Nat} {v : Value} (h : Calls P f args (w.drewN n) (Quiet (w.drewN n) v)) :
    Calls P f args (w.drewN n) fun e w'' => e = .returned v ∧ ∃ m, w'' = w.drewN m :=
  h.mono fun _ _ ⟨he, m, hm⟩ => ⟨he, n + m, by rw [hm, World.drewN_drewN]⟩
/-- A contract that leaves the world alone, in a region that draws. -/
theorem quietEq {P : Program} {f : FuncId} {args : Array Value} {w : World} {n : Nat} {v : Value}
    (h : Calls P f args (w.drewN n) fun e w' => e = .returned v ∧ w.drewN n = w') : Calls P f args (w.drewN n) fun e w'' => e = .returned v ∧ ∃ m, w'' = w.drewN m :=
  h.mono fun _ _ ⟨he, hm⟩ => ⟨he, n, hm.symm⟩

/-- Cells known outright. -/
def Ty.flat {α : Type} (n : Nat) (h0 : 0 < n) (f : α → List Value) (ok : α → Prop) (hl : ∀ a, (f a).length = n) (h1 : ∀ a, ∀ u ∈ f a, u.oneCell' = true) : Ty α where
  size := n
  pos := h0
  rd _ _ cs a := cs = f a ∧ ok a
  len := by rintro _ _ _ a ⟨rfl, _⟩; exact hl a
  one := by rintro _ _ _ a ⟨rfl, _⟩; exact h1 a
  keep := by intro _ _ _ _ _ h _; exact h
  mono := by intro _ _ _ _ _ h _; exact h

/-- int's bounds. -/
def i64ok (n : Int) : Prop := -9223372036854775808 ≤ n ∧ n ≤ 9223372036854775807

def tInt : Ty Int := Ty.flat 1 (by decide) (fun n => [.int .i64 n]) i64ok (by intro; rfl) (by intro a u hu; simp at hu; subst hu; rfl)
def tBool : Ty Bool := Ty.flat 1 (by decide) (fun b => [.bool b]) (fun _ => True) (by intro; rfl) (by intro a u hu; simp at hu; subst hu; rfl)
def tRow : Ty Row := Ty.flat 2 (by decide) (fun r => [.int .i64 r.1, .int .i64 r.2]) (fun r => i64ok r.1 ∧ i64ok r.2) (by intro; rfl) (by intro a u hu; simp at hu; rcases hu with rfl | rfl <;> rfl)

/-- A slice. -/
def Ty.slice {α : Type} (E : Ty α) : Ty (List α) where
  size := 1
  pos := by decide
  rd w S cs l := ∃ ao len cap, cs = [Value.slice ao len cap] ∧ l.length = len ∧ len ≤ cap ∧ cap ≤ maxLen ∧ (ao = none → cap = 0) ∧
    ∀ i a, l[i]? = some a → ∃ b o, ao = some ⟨b, o, none⟩ ∧ S b ∧ ∃ cs, E.rd w S cs a ∧ ∀ j u, cs[j]? = some u → w.cell? ⟨b, o + i * E.size + j, none⟩ = some u
  len := by rintro _ _ _ _ ⟨_, _, _, rfl, _⟩; rfl
  one := by
    rintro _ _ _ _ ⟨_, _, _, rfl, _⟩ u hu
    simp at hu; subst hu; rfl
  keep := by
    rintro w w' S cs l ⟨ao, len, cap, rfl, h1, h2, h3, h4, h5⟩ hk
    refine ⟨ao, len, cap, rfl, h1, h2, h3, h4, fun i a hi => ?_⟩
    obtain ⟨b, o, hb, hS, cs, hrd, hc⟩ := h5 i a hi
    refine ⟨b, o, hb, hS, cs, E.keep hrd hk, fun j u hj => ?_⟩
    have h := hc j u hj
    rw [World.cell?_of_block (w := w) (hk b hS (World.block_lt_of_cell? w _ h))]
    exact h
  mono := by
    rintro w S S' cs l ⟨ao, len, cap, rfl, h1, h2, h3, h4, h5⟩ hk
    refine ⟨ao, len, cap, rfl, h1, h2, h3, h4, fun i a hi => ?_⟩
    obtain ⟨b, o, hb, hS, cs, hrd, hc⟩ := h5 i a hi
    have h0 : ∃ u, cs[0]? = some u := by
      have := E.len hrd; have := E.pos
      exact ⟨cs[0], List.getElem?_eq_getElem (by omega)⟩
    obtain ⟨u, hu⟩ := h0
    exact ⟨b, o, hb, hk b hS (World.block_lt_of_cell? w _ (hc 0 u hu)), cs, E.mono hrd hk, hc⟩

/-- A slice value reads as l. -/
def Sl {α : Type} (E : Ty α) (w : World) (S : Blk) (v : Value) (l : List α) : Prop := E.slice.rd w S [v] l

section
variable {α : Type} {E : Ty α} {w w' : World} {S S' : Blk} {v : Value} {l : List α}

theorem Sl.shape (h : Sl E w S v l) : ∃ ao cap, v = .slice ao l.length cap ∧ l.length ≤ cap ∧ cap ≤ maxLen ∧ (ao = none → cap = 0) := by
  obtain ⟨ao, len, cap, hv, h1, h2, h3, h4, _⟩ := h
  simp at hv
  subst h1
  exact ⟨ao, cap, hv, h2, h3, h4⟩

theorem Sl.noAddr {ao : Option Addr} {len cap : Nat} (h : Sl E w S (.slice ao len cap) l) : ao = none → cap = 0 := by
  obtain ⟨ao', len', cap', hv, _, _, _, h4, _⟩ := h
  simp at hv
  obtain ⟨rfl, rfl, rfl⟩ := hv
  exact h4

theorem Sl.keep (h : Sl E w S v l) (hk : ∀ k, S k → k < w.heap.size → w'.heap[k]? = w.heap[k]?) : Sl E w' S v l := E.slice.keep h hk
theorem Sl.mono (h : Sl E w S v l) (hk : ∀ k, S k → k < w.heap.size → S' k) : Sl E w S' v l := E.slice.mono h hk
/-- Whatever reads, reads by way of blocks that are there. -/
theorem Sl.old (h : Sl E w S v l) : Sl E w (fun k => k < w.heap.size) v l := h.mono fun _ _ hk => hk
theorem Sl.below {B : Nat} (h : Sl E w (fun k => k < B) v l) (hb : Below B w w') : Sl E w' (fun k => k < B) v l := h.keep fun k hk _ => hb.block k hk
theorem Sl.any (h : Sl E w S v l) : Sl E w (fun _ => True) v l := h.mono fun _ _ _ => trivial
/-- Over a call. -/
theorem Sl.call (h : Sl E w S v l) (hb : Below w.heap.size w w') : Sl E w' S v l := h.keep fun k _ hk => hb.block k hk

theorem Sl.nil (E : Ty α) (w : World) (S : Blk) : Sl E w S (.slice none 0 0) [] :=
  ⟨none, 0, 0, rfl, rfl, Nat.le_refl _, Nat.zero_le _, fun _ => rfl, fun i a h => by simp at h⟩

/-- An element: where it lies, what it reads as. -/
theorem Sl.get {ao : Option Addr} {len cap : Nat} (h : Sl E w S (.slice ao len cap) l) (i : Nat) (a : α) (hi : l[i]? = some a) :
    ∃ b o cs, ao = some ⟨b, o, none⟩ ∧ S b ∧ b < w.heap.size ∧ E.rd w S cs a ∧ ∀ j u, cs[j]? = some u → w.cell? ⟨b, o + i * E.size + j, none⟩ = some u := by
  obtain ⟨ao', len', cap', hv, h1, h2, h3, h4, h5⟩ := h
  simp at hv
  obtain ⟨rfl, rfl, rfl⟩ := hv
  obtain ⟨b, o, hb, hS, cs, hrd, hc⟩ := h5 i a hi
  have := E.len hrd; have := E.pos
  exact ⟨b, o, cs, hb, hS, World.block_lt_of_cell? w _ (hc 0 cs[0] (List.getElem?_eq_getElem (by omega))), hrd, hc⟩
end

/-! ### A slice type of the program -/

/-- T is the slice type over e, whose values E reads. -/
structure At (P : Program) {α : Type} (E : Ty α) (T e : TypeId) : Prop where
  und : P.underlying T = some (.slice e)
  info : ∃ i z, P.info? e = some i ∧ i.zero = some z ∧ i.size = E.size ∧ z.cells.size = E.size ∧ i.bytes ≤ 64

theorem At.mk' {P : Program} {α : Type} {E : Ty α} {T e : TypeId} {z : Value} {size bytes : Nat} (h : P.underlying T = some (.slice e))
    (hi : (P.info? e).map (fun i => (i.zero, i.size, i.bytes)) = some (some z, size, bytes)) (hs : size = E.size) (hz : z.cells.size = size) (hb : bytes ≤ 64) : At P E T e := by
  obtain ⟨i, h1, h2, h3, h4⟩ := info_parts hi
  exact ⟨h, i, z, h1, h2, h3.trans hs, hz.trans hs, h4 ▸ hb⟩

section
variable {α : Type} {E : Ty α} {w w' : World} {S S' : Blk} {v : Value} {l : List α} {P : Program} {T e : TypeId}

theorem run_idx (hA : At P E T e) {b o len cap : Nat} (n : Int) (i : Nat) (hn : n = (i : Int)) (hi : i < len) (W : World) :
    Sem.run P (Instr.indexAt T (.slice (some ⟨b, o, none⟩) len cap) (.int .i64 n)) W = .ok (.pointer (some ⟨b, o + i * E.size, none⟩)) W := by
  obtain ⟨q, z, h1, h2, h3, h4, h5⟩ := hA.info
  subst hn
  simp [Instr.indexAt, asIntOf, run_underlying hA.und, sizeOf, typeInfo, h1, hi, h3, Addr.add_lit]

/-- The address of an element, and what lies there. -/
theorem Sl.idx (h : Sl E w S v l) (hA : At P E T e) (n : Int) (i : Nat) (hn : n = (i : Int)) (hi : i < l.length) :
    ∃ b o cs, (∀ W, Sem.run P (Instr.indexAt T v (.int .i64 n)) W = .ok (.pointer (some ⟨b, o, none⟩)) W) ∧ S b ∧ b < w.heap.size ∧ E.rd w S cs l[i] ∧
      ∀ j u, cs[j]? = some u → w.cell? ⟨b, o + j, none⟩ = some u := by
  obtain ⟨ao, cap, rfl, hcap, hmax, hnil⟩ := h.shape
  obtain ⟨b, o, cs, rfl, hS, hb, hrd, hc⟩ := h.get i l[i] (List.getElem?_eq_getElem hi)
  exact ⟨b, o + i * E.size, cs, fun W => run_idx hA n i hn hi W, hS, hb, hrd, hc⟩

theorem Sl.idxRow {v : Value} {l : List Row} (h : Sl tRow w S v l) (hA : At P tRow T e) (n : Int) (i : Nat) (hn : n = (i : Int)) (hi : i < l.length) :
    ∃ b o, (∀ W, Sem.run P (Instr.indexAt T v (.int .i64 n)) W = .ok (.pointer (some ⟨b, o, none⟩)) W) ∧ S b ∧ b < w.heap.size ∧ i64ok l[i].1 ∧ i64ok l[i].2 ∧
      w.cell? ⟨b, o, none⟩ = some (.int .i64 l[i].1) ∧ w.cell? ⟨b, o + 1, none⟩ = some (.int .i64 l[i].2) := by
  obtain ⟨b, o, cs, h1, h2, h3, ⟨rfl, h5, h6⟩, h7⟩ := h.idx hA n i hn hi
  exact ⟨b, o, h1, h2, h3, h5, h6, by simpa using h7 0 _ rfl, h7 1 _ rfl⟩
end

end Go.Pch
end
