/- Chapter 12: bytes: plain words, and how a pen's and a glass' cells read. -/
import Derived.Test.YtdclpbdmdpakkaaWa6
import Derived.Test.YtdclpbdmdpakkaaWa5
import Derived.Lib.AppendStr
import Derived.Laws.IdiomStrings
section
namespace Go.Pch
open Go.RowKit Go.Proofs

/-- Bytes. -/
abbrev Bytes := List UInt8
/-- A text of bytes. -/
def bl (l : Bytes) : ByteArray := ⟨l.toArray⟩
theorem bl_data (s : ByteArray) : bl s.data.toList = s := by cases s; simp [bl]
theorem bl_inj {a b : Bytes} (h : bl a = bl b) : a = b := by
  have := congrArg (fun s : ByteArray => s.data.toList) h
  simpa [bl] using this
theorem bl_size (l : Bytes) : (bl l).size = l.length := by simp [bl, ByteArray.size]
/-- A number's lowest byte. -/
def byteOf (n : Int) : UInt8 := UInt8.ofNat (n % 256).toNat
theorem byteOf_nat (n : Int) : ((byteOf n).toNat : Int) = n % 256 := by
  have h0 : 0 ≤ n % 256 := Int.emod_nonneg _ (by decide)
  have h1 : n % 256 < 256 := Int.emod_lt_of_pos _ (by decide)
  unfold byteOf
  rw [UInt8.toNat_ofNat']
  have : (n % 256).toNat % 2 ^ 8 = (n % 256).toNat := Nat.mod_eq_of_lt (by omega)
  rw [this]
  omega
/-- A number as one byte, as two. -/
def enc1 (n : Int) : Bytes := [byteOf n]
def enc2 (n : Int) : Bytes := [byteOf (n / 256), byteOf n]
/-- A number as one byte, or two. -/
def encN (k : Nat) (n : Int) : Bytes := if k = 1 then enc1 n else enc2 n
/-- Has the number no place? -/
def outN (k : Nat) (n : Int) : Bool := decide (n < 0) || decide ((if k = 1 then 256 else 65536) ≤ n)

def tByte : Ty UInt8 := Ty.flat 1 (by decide) (fun c => [.int .u8 (c.toNat : Int)]) (fun _ => True) (by intro; rfl) (by intro a u hu; simp at hu; subst hu; rfl)
theorem aByte : At Try.prog tByte 104 5 := At.mk' Try.underlying104 (z := .int .u8 0) (size := 1) (bytes := 1) (by kernel_rfl) rfl rfl (by decide)

/-- The world is as it was, but for these blocks; new ones may have come. -/
structure Step (X : Blk) (w w' : World) : Prop where
  os : w'.os = w.os
  tape : w'.tape = w.tape
  output : w'.output = w.output
  size : w.heap.size ≤ w'.heap.size
  block : ∀ k, k < w.heap.size → ¬ X k → w'.heap[k]? = w.heap[k]?
section
variable {X Y : Blk} {a b c : World}
theorem Step.refl (X : Blk) (a : World) : Step X a a := ⟨rfl, rfl, rfl, Nat.le_refl _, fun _ _ _ => rfl⟩
theorem Step.trans (h : Step X a b) (g : Step Y b c) (hY : ∀ k, k < a.heap.size → Y k → X k) : Step X a c :=
  ⟨g.os.trans h.os, g.tape.trans h.tape, g.output.trans h.output, Nat.le_trans h.size g.size, fun k hk hn => (g.block k (Nat.lt_of_lt_of_le hk h.size) fun hy => hn (hY k hk hy)).trans (h.block k hk hn)⟩
theorem Step.on (h : Step X a b) (g : Step X b c) : Step X a c := h.trans g fun _ _ h => h
theorem Step.of_below (h : Below a.heap.size a b) : Step X a b := ⟨h.os, h.tape, h.output, h.size, fun k hk _ => h.block k hk⟩
theorem Step.below {B : Nat} (h : Step X a b) (hX : ∀ k, X k → B ≤ k) (hB : B ≤ a.heap.size) : Below B a b :=
  ⟨h.os, h.tape, h.output, h.size, fun k hk => h.block k (by omega) fun hx => by have := hX k hx; omega⟩
theorem Step.setCell (p : Addr) (u : Value) (h : X p.block) : Step X a (a.setCell p u) :=
  ⟨rfl, rfl, rfl, by simp [World.setCell], fun k _ hn => Below.heap_setCell _ _ _ _ fun e => hn (e ▸ h)⟩
theorem Step.grown {row : Option Nat} (hg : a.grownBy b row) (hX : ∀ k, row = some k → X k) : Step X a b :=
  ⟨hg.os, hg.tape, hg.output, hg.size, fun k hk hn => hg.block k hk fun e => hn (hX k e.symm)⟩
theorem Step.mono (h : Step X a b) (hX : ∀ k, k < a.heap.size → X k → Y k) : Step Y a b := ⟨h.os, h.tape, h.output, h.size, fun k hk hn => h.block k hk fun hx => hn (hX k hk hx)⟩
theorem Step.cell (h : Step X a b) {p : Addr} (hp : p.block < a.heap.size) (hx : ¬ X p.block) : b.cell? p = a.cell? p := World.cell?_of_block (w := a) (h.block p.block hp hx)
end
theorem Sl.step {α : Type} {E : Ty α} {w w' : World} {S X : Blk} {v : Value} {l : List α} (h : Sl E w S v l) (hs : Step X w w') (hS : ∀ k, S k → ¬ X k) : Sl E w' S v l := h.keep fun k hk hlt => hs.block k hlt (hS k hk)

/-- The block that a pen's bytes lie in, and the pen's own. -/
def penX (pb : Nat) (v : Value) : Blk := fun k => k = pb ∨ v.ownBlock = some k
/-- A pen lies in block pb, its bytes are a slice of its own. -/
structure PenAt (w : World) (B pb : Nat) (v : Value) (bs : Bytes) (bad : Bool) : Prop where
  low : B ≤ pb
  lt : pb < w.heap.size
  row : w.heap[pb]? = some (.cells #[v, .bool bad] 106)
  own : Own tByte 5 w B (fun _ => False) v bs
theorem PenAt.apart {w : World} {B pb : Nat} {v : Value} {bs : Bytes} {bad : Bool} (h : PenAt w B pb v bs bad) : v.ownBlock ≠ some pb := by
  intro e
  obtain ⟨xs, hr, _⟩ := h.own
  rcases hr.2 with ⟨rfl, _⟩ | ⟨g, cap, cur, rfl, _, hg, _⟩
  · simp [Value.ownBlock] at e
  · simp [Value.ownBlock] at e
    subst e
    rw [h.row] at hg
    simp at hg
theorem PenAt.cell0 {w : World} {B pb : Nat} {v : Value} {bs : Bytes} {bad : Bool} (h : PenAt w B pb v bs bad) : w.cell? ⟨pb, 0, none⟩ = some v := by rw [World.cell?, h.row]; rfl
theorem PenAt.cell1 {w : World} {B pb : Nat} {v : Value} {bs : Bytes} {bad : Bool} (h : PenAt w B pb v bs bad) : w.cell? ⟨pb, 1, none⟩ = some (.bool bad) := by rw [World.cell?, h.row]; rfl
theorem PenAt.free {w : World} {B pb : Nat} {v : Value} {bs : Bytes} {bad : Bool} (h : PenAt w B pb v bs bad) (i : Nat) : w.frozen? ⟨pb, i, none⟩ = false := frozen_of_row w pb i _ _ h.row
theorem PenAt.setBad {w : World} {B pb : Nat} {v : Value} {bs : Bytes} {bad : Bool} (h : PenAt w B pb v bs bad) (b : Bool) : PenAt (w.setCell ⟨pb, 1, none⟩ (.bool b)) B pb v bs b :=
  ⟨h.low, by simpa [World.setCell] using h.lt, heap_setCell_same w pb 1 _ _ (.bool b) h.row, h.own.keep fun k hk _ => heap_setCell_other _ _ _ _ (by
    rcases hk with hk | hk
    · exact hk.elim
    · intro e; exact h.apart (by rw [hk, e]))⟩
theorem PenAt.setB {w w' : World} {B pb : Nat} {v v' : Value} {bs bs' : Bytes} {bad : Bool} (h : PenAt w B pb v bs bad) (ho : Own tByte 5 w' B (fun _ => False) v' bs') (hg : w.grownBy w' v.ownBlock) : PenAt (w'.setCell ⟨pb, 0, none⟩ v') B pb v' bs' bad := by
  have hrow : w'.heap[pb]? = some (.cells #[v, .bool bad] 106) := (hg.block pb h.lt fun e => h.apart e.symm).trans h.row
  have hlt : pb < w'.heap.size := Nat.lt_of_lt_of_le h.lt hg.size
  have hap : v'.ownBlock ≠ some pb := by
    intro e
    obtain ⟨xs, hr, _⟩ := ho
    rcases hr.2 with ⟨rfl, _⟩ | ⟨g, cap, cur, rfl, _, hg', _⟩
    · simp [Value.ownBlock] at e
    · simp [Value.ownBlock] at e
      subst e
      rw [hrow] at hg'
      simp at hg'
  exact ⟨h.low, by simpa [World.setCell] using hlt, heap_setCell_same w' pb 0 _ _ v' hrow, ho.keep fun k hk _ => heap_setCell_other _ _ _ _ (by
    rcases hk with hk | hk
    · exact hk.elim
    · intro e; exact hap (by rw [hk, e]))⟩
theorem PenAt.step {w w' : World} {B pb : Nat} {v : Value} {bs : Bytes} {bad : Bool} {X : Blk} (h : PenAt w B pb v bs bad) (hs : Step X w w') (hX : ∀ k, X k → ¬ penX pb v k) : PenAt w' B pb v bs bad :=
  ⟨h.low, Nat.lt_of_lt_of_le h.lt hs.size, (hs.block pb h.lt fun hx => hX _ hx (.inl rfl)).trans h.row, h.own.keep fun k hk hlt => hs.block k hlt fun hx => hX _ hx (by
    rcases hk with hk | hk
    · exact hk.elim
    · exact .inr hk)⟩
theorem PenAt.call {w w' : World} {B pb : Nat} {v : Value} {bs : Bytes} {bad : Bool} (h : PenAt w B pb v bs bad) (hb : Below w.heap.size w w') : PenAt w' B pb v bs bad :=
  h.step (Step.of_below (X := fun _ => False) hb) (fun _ h => h.elim)
/-- What a pen does: its own blocks turn, and new ones come; its bytes' block is as before or new. -/
def PenOn (pb : Nat) (v v' : Value) (w w' : World) : Prop := Step (penX pb v) w w' ∧ ∀ g, v'.ownBlock = some g → v.ownBlock = some g ∨ w.heap.size ≤ g
theorem PenOn.refl (pb : Nat) (v : Value) (w : World) : PenOn pb v v w w := ⟨Step.refl _ _, fun _ h => .inl h⟩
theorem PenOn.trans {pb : Nat} {v v' v'' : Value} {w w' w'' : World} (h : PenOn pb v v' w w') (g : PenOn pb v' v'' w' w'') : PenOn pb v v'' w w'' := by
  refine ⟨h.1.trans g.1 fun k hk hx => ?_, fun k hk => ?_⟩
  · rcases hx with hx | hx
    · exact .inl hx
    · rcases h.2 k hx with h' | h'
      · exact .inr h'
      · omega
  · rcases g.2 k hk with h' | h'
    · exact h.2 k h'
    · exact .inr (Nat.le_trans h.1.size h')
theorem PenOn.setBad {pb : Nat} {v v' : Value} {w w' : World} (h : PenOn pb v v' w w') (u : Value) : PenOn pb v v' w (w'.setCell ⟨pb, 1, none⟩ u) :=
  ⟨h.1.on (Step.setCell _ _ (.inl rfl)), h.2⟩
theorem PenOn.setB {pb : Nat} {v v' v'' : Value} {w w' w'' : World} (h : PenOn pb v v' w w') (hg : w'.grownBy w'' v'.ownBlock) (hn : ∀ g, v''.ownBlock = some g → v'.ownBlock = some g ∨ w'.heap.size ≤ g) (u : Value) : PenOn pb v v'' w (w''.setCell ⟨pb, 0, none⟩ u) := by
  refine h.trans ⟨(Step.grown hg fun k hk => .inr hk).on (Step.setCell _ _ (.inl rfl)), hn⟩

end Go.Pch
end
