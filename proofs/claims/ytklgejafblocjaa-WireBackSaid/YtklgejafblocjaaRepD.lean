/- Chapter 9: names, heads, repos: plain words, and how their cells read. -/
import Derived.Test.YtklgejafblocjaaDagD
import Derived.Test.YtklgejafblocjaaDagB
import Derived.Test.YtklgejafblocjaaDagW
namespace Go.Pch
open Go.RowKit Go.Proofs

/-- I1: a letter. -/
def letB (c : UInt8) : Bool := decide (97 ≤ c.toNat) && decide (c.toNat ≤ 122)
/-- I1: is it a name? -/
def nameB (s : ByteArray) : Bool := (decide (1 ≤ s.size) && decide (s.size ≤ 8)) && s.toList.all letB
/-- A head: its name, and where it is. -/
abbrev Head := ByteArray × Int
/-- Commits, and heads. -/
abbrev Repo := List Commit × List Head
/-- Heads rise behind 'last', and are at commits. -/
def headsRise (n : Nat) : List UInt8 → List Head → Bool
  | _, [] => true
  | last, h :: hs => (Op.bytesLess last h.1.toList && (decide (0 ≤ h.2) && decide (h.2 < n))) && headsRise n h.1.toList hs
/-- I1: Check's answer. -/
def repoErr (r : Repo) : Int :=
  if commitsErr r.1 ≠ 0 then commitsErr r.1 else if 4 < r.2.length then 2 else if (r.2.any fun h => !nameB h.1) = true then 4 else if headsRise r.1.length [] r.2 = true then 0 else 1
/-- Where a head stands. -/
def headK : List Head → ByteArray → Option Nat
  | [], _ => none
  | h :: hs, s => if h.1.toList = s.toList then some 0 else (headK hs s).map (· + 1)
/-- I2: Head's answer. -/
def headP (r : Repo) (s : ByteArray) : Int × Int :=
  if repoErr r = 0 then (match headK r.2 s with
    | some k => ((r.2[k]?.getD (ByteArray.empty, 0)).2, 0)
    | none => (0, 5)) else (0, repoErr r)
/-- I2: Log's answer. -/
def logL (l : List Commit) (n : Nat) : List Int := (((List.range l.length).filter (ab l n)).map Int.ofNat).reverse
def logP (r : Repo) (s : ByteArray) : List Int × Int := if (headP r s).2 = 0 then (logL r.1 (headP r s).1.toNat, 0) else ([], (headP r s).2)

/-! ### Order of names -/
theorem less_iff : ∀ (a b : List UInt8), Op.bytesLess a b = true ↔ a < b
  | [], [] => by simp [Op.bytesLess]
  | _ :: _, [] => by simp [Op.bytesLess]
  | [], _ :: _ => by simp [Op.bytesLess]
  | x :: a, y :: b => by
    rw [Op.bytesLess, List.cons_lt_cons_iff, Bool.or_eq_true, Bool.and_eq_true, decide_eq_true_eq, beq_iff_eq, less_iff a b]
theorem less_trans {a b c : List UInt8} (h : Op.bytesLess a b = true) (g : Op.bytesLess b c = true) : Op.bytesLess a c = true := by
  rw [less_iff] at *
  exact List.lt_trans h g
theorem less_irrefl (a : List UInt8) : Op.bytesLess a a = false := by
  cases h : Op.bytesLess a a with
  | false => rfl
  | true => rw [less_iff] at h; exact absurd h (List.lt_irrefl a)
theorem less_tri {a b : List UInt8} (h : Op.bytesLess a b = false) (hne : a ≠ b) : Op.bytesLess b a = true := by
  rw [less_iff]
  have h1 : ¬ a < b := fun h' => by rw [← less_iff, h] at h'; cases h'
  rcases List.le_iff_lt_or_eq.1 (List.not_lt.1 h1) with h2 | h2
  · exact h2
  · exact absurd h2.symm hne
theorem less_asymm {a b : List UInt8} (h : Op.bytesLess a b = true) : Op.bytesLess b a = false := by
  cases g : Op.bytesLess b a with
  | false => rfl
  | true => have := less_trans h g; rw [less_irrefl] at this; cases this
theorem less_nil {a : List UInt8} (h : a ≠ []) : Op.bytesLess [] a = true := by
  cases a with
  | nil => exact absurd rfl h
  | cons => rfl
theorem not_leq {a b : List UInt8} : (Op.bytesLess a b || a == b) = !Op.bytesLess b a := by
  cases h : Op.bytesLess b a with
  | true =>
    have h1 := less_asymm h
    have h2 : (a == b) = false := by
      rw [beq_eq_false_iff_ne]
      rintro rfl
      rw [less_irrefl] at h; cases h
    rw [h1, h2]; rfl
  | false =>
    by_cases hne : a = b
    · subst hne; simp
    · rw [less_tri h (fun e => hne e.symm)]; rfl

/-- How a head's cells read. -/
def tHead : Ty Head := Ty.flat 2 (by decide) (fun h => [.string h.1, .int .i64 h.2]) (fun h => i64ok h.2 ∧ h.1.size ≤ maxLen) (by intro; rfl) (by intro a u hu; simp at hu; rcases hu with rfl | rfl <;> rfl)
theorem aHead : At Try.prog tHead 41 76 := At.mk' Try.underlying41 (z := .agg #[.string ByteArray.empty, .int .i64 0]) (size := 2) (bytes := 24) (by kernel_rfl) rfl rfl (by decide)
theorem Sl.idxHeadAt {w : World} {S : Blk} {P : Program} {T e : TypeId} {v : Value} {l : List Head} (h : Sl tHead w S v l) (hA : At P tHead T e) (n : Int) (i : Nat) (x : Head) (hn : n = (i : Int)) (hx : l[i]? = some x) :
    ∃ b o, (∀ W, Sem.run P (Instr.indexAt T v (.int .i64 n)) W = .ok (.pointer (some ⟨b, o, none⟩)) W) ∧ S b ∧ b < w.heap.size ∧ i64ok x.2 ∧ x.1.size ≤ maxLen ∧
      w.cell? ⟨b, o, none⟩ = some (.string x.1) ∧ w.cell? ⟨b, o + 1, none⟩ = some (.int .i64 x.2) := by
  obtain ⟨hi, rfl⟩ := List.getElem?_eq_some_iff.1 hx
  obtain ⟨b, o, cs, h1, h2, h3, ⟨rfl, h5, h6⟩, h7⟩ := h.idx hA n i hn hi
  exact ⟨b, o, h1, h2, h3, h5, h6, by simpa using h7 0 _ rfl, h7 1 _ rfl⟩
/-- A repo's value. -/
def Rp (w : World) (S : Blk) (v : Value) (r : Repo) : Prop := ∃ vc vh, v = .agg #[vc, vh] ∧ Sl tCommit w S vc r.1 ∧ Sl tHead w S vh r.2

end Go.Pch
