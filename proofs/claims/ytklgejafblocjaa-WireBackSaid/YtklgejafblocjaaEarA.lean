/- The document's reading of bytes: plain words, and the walks of ear.byte and ear.two. -/
import Derived.Test.YtklgejafblocjaaGlaD
namespace Go.Pch
open Go.RowKit Go.Proofs
set_option maxRecDepth 100000

def byteE : Bytes → Int × Bytes
  | c :: s => ((c.toNat : Int), s)
  | [] => (0, [])
def twoE (s : Bytes) : Int × Bytes := (256 * (byteE s).1 + (byteE (byteE s).2).1, (byteE (byteE s).2).2)
def repE {α : Type} (p : Bytes → α × Bytes) : Nat → Bytes → List α × Bytes
  | 0, s => ([], s)
  | n + 1, s => ((p s).1 :: (repE p n (p s).2).1, (repE p n (p s).2).2)
def listE {α : Type} (p : Bytes → α × Bytes) (s : Bytes) : List α × Bytes := repE p (byteE s).1.toNat (byteE s).2
def rowE (s : Bytes) : Row × Bytes := (((byteE s).1, (twoE (byteE s).2).1), (twoE (byteE s).2).2)
def comE (s : Bytes) : Commit × Bytes := (((listE rowE s).1, (listE byteE (listE rowE s).2).1), (listE byteE (listE rowE s).2).2)
/-- How long a name is. -/
def nameE (s : Bytes) : Nat := min (byteE s).1.toNat (byteE s).2.length
def headE (s : Bytes) : Head × Bytes := ((bl ((byteE s).2.take (nameE s)), (byteE ((byteE s).2.drop (nameE s))).1), (byteE ((byteE s).2.drop (nameE s))).2)
def repoE (s : Bytes) : Repo := ((listE comE s).1, (listE headE (listE comE s).2).1)
/-- L1: RepoFrom's answer. -/
def fromP (b : Bytes) : Repo × Bool := if repoErr (repoE b) = 0 ∧ repoBy (repoE b) = b then (repoE b, true) else (([], []), false)
theorem byteE_fit (s : Bytes) : 0 ≤ (byteE s).1 ∧ (byteE s).1 < 256 := by
  cases s with
  | nil => simp [byteE]
  | cons c s => exact byte_lt c
theorem byteE_len (s : Bytes) : (byteE s).2.length ≤ s.length := by
  cases s with
  | nil => simp [byteE]
  | cons c s => simp [byteE]

/-- An ear lies in block gb; what is left of its text is s. -/
def EarAt (w : World) (gb : Nat) (s : Bytes) : Prop := w.heap[gb]? = some (.cells #[.string (bl s)] 99)
theorem EarAt.lt {w : World} {gb : Nat} {s : Bytes} (h : EarAt w gb s) : gb < w.heap.size := (Array.getElem?_eq_some_iff.1 h).1
theorem EarAt.cell {w : World} {gb : Nat} {s : Bytes} (h : EarAt w gb s) : w.cell? ⟨gb, 0, none⟩ = some (.string (bl s)) := by rw [World.cell?, h]; rfl
theorem EarAt.free {w : World} {gb : Nat} {s : Bytes} (h : EarAt w gb s) : w.frozen? ⟨gb, 0, none⟩ = false := frozen_of_row w gb 0 _ _ h
theorem EarAt.set {w : World} {gb : Nat} {s : Bytes} (h : EarAt w gb s) (t : Bytes) : EarAt (w.setCell ⟨gb, 0, none⟩ (.string (bl t))) gb t := heap_setCell_same w gb 0 _ _ _ h
theorem EarAt.call {w w' : World} {gb : Nat} {s : Bytes} (h : EarAt w gb s) (hb : Below w.heap.size w w') : EarAt w' gb s := (hb.block gb h.lt).trans h
theorem EarAt.step {w w' : World} {gb : Nat} {s : Bytes} {X : Blk} (h : EarAt w gb s) (hs : Step X w w') (hx : ¬ X gb) : EarAt w' gb s := (hs.block gb h.lt hx).trans h

theorem bl_tl (s : Bytes) (n : Nat) (m : Nat) (hm : m = s.length) : (bl s).extract n m = bl (s.drop n) := by rw [hm, bl_drop]

theorem small64 (n : Int) (h0 : 0 ≤ n) (h1 : n < 256) : wrap64 n = n := by unfold wrap64; omega

set_option maxHeartbeats 400000 in
theorem earByte (gb : Nat) (s : Bytes) (w : World) (h : EarAt w gb s) (hs : s.length ≤ 100000) :
    Calls Try.prog 59 #[.pointer (some ⟨gb, 0, none⟩)] w fun e w' => e = .returned (.int .i64 (byteE s).1) ∧ EarAt w' gb (byteE s).2 ∧ GOn gb w w' := by
  have g0 := h.cell
  have gf := h.free
  have hem : (bl s).toList.isEmpty = s.isEmpty := by rw [ByteArray.toList_eq]; simp [bl]
  have hsz := bl_size s
  cases s with
  | nil =>
    simp only [List.isEmpty_nil] at hem
    go_enter Try.func59, Try.ntmps59
    go_wp2
    go_ret
    exact ⟨rfl, h, Step.refl _ _⟩
  | cons c s =>
    simp only [List.isEmpty_cons] at hem
    simp only [List.length_cons] at hsz hs
    have hcl := byte_lt c
    go_enter Try.func59, Try.ntmps59
    go_wp2
    go_ret
    have hx : (bl (c :: s)).extract 1 (s.length + 1) = bl s := bl_tl (c :: s) 1 _ rfl
    have hc : ∀ hh, ((bl (c :: s))[0]'hh) = c := fun hh => rfl
    rw [hx]
    refine ⟨?_, h.set _, GOn.set _ _⟩
    rw [hc, small64 _ hcl.1 hcl.2]
    rfl

set_option maxHeartbeats 400000 in
theorem earTwo (gb : Nat) (s : Bytes) (w : World) (h : EarAt w gb s) (hs : s.length ≤ 100000) :
    Calls Try.prog 60 #[.pointer (some ⟨gb, 0, none⟩)] w fun e w' => e = .returned (.int .i64 (twoE s).1) ∧ EarAt w' gb (twoE s).2 ∧ GOn gb w w' := by
  have f1 := byteE_fit s
  have f2 := byteE_fit (byteE s).2
  have hl := byteE_len s
  have HT : Hid (twoE s = (256 * (byteE s).1 + (byteE (byteE s).2).1, (byteE (byteE s).2).2)) := rfl
  rw [HT.out]
  have T1 := earByte gb s w h hs
  generalize byteE s = a at *
  have T2 := fun w' (h' : EarAt w' gb a.2) => earByte gb a.2 w' h' (by omega)
  generalize byteE a.2 = b at *
  go_enter Try.func60, Try.ntmps60
  go_wp2_with fail
  refine T1.mono ?_; rintro e w1 ⟨rfl, h1, on1⟩
  go_wp2_with fail
  refine (T2 w1 h1).mono ?_; rintro e w2 ⟨rfl, h2, on2⟩
  go_wp2
  go_ret
  exact ⟨rfl, h2, on1.on on2⟩

end Go.Pch
