/- The walks of wire.Read's other closures. -/
import Derived.Test.YtjjkdpjjaijmbaaGreatRg32
section
namespace Go.Pch
open Go.RowKit Go.Proofs
set_option maxRecDepth 100000

theorem Reads.imp {α : Type} {gb : Nat} {w w' : World} {V V' : α → Value → World → Prop} {o : Option (α × Bytes)} {e : Ending} (h : Reads gb w V o e w') (hV : ∀ a s v, o = some (a, s) → V a v w' → V' a v w') : Reads gb w V' o e w' := by
  cases ho : o with
  | none => obtain ⟨h1, h2⟩ := h.no ho; exact Reads.mkNo rfl h1 h2
  | some x =>
    obtain ⟨a, s⟩ := x
    obtain ⟨v, h1, h2, h3, h4⟩ := h.ok ho
    exact Reads.mk rfl h1 (hV a s v ho h2) h3 h4
theorem num2_fit {s t : Bytes} {n : Int} (h : num2 s = some (n, t)) : 0 ≤ n ∧ n < 65536 := by
  match s, h with
  | c :: d :: s, h =>
    simp only [num2, Option.some.injEq, Prod.mk.injEq] at h
    obtain ⟨rfl, rfl⟩ := h
    have := byte_lt c
    have := byte_lt d
    omega
theorem two_some {α β γ : Type} {o : Option (α × Bytes)} {f : Bytes → Option (β × Bytes)} {g : α → β → γ} {c : γ} {s : Bytes} (h : (o.bind fun x => (f x.2).map fun y => (g x.1 y.1, y.2)) = some (c, s)) :
    ∃ a t b, o = some (a, t) ∧ f t = some (b, s) ∧ c = g a b := by
  cases o with
  | none => simp at h
  | some x =>
    obtain ⟨a, t⟩ := x
    cases h2 : f t with
    | none => simp [h2] at h
    | some y =>
      obtain ⟨b, u⟩ := y
      simp [h2] at h
      exact ⟨a, t, b, rfl, by rw [h2, h.2], h.1.symm⟩
theorem textG_fit {s u : Bytes} {b : ByteArray} (h : textG s = some (b, u)) : b.size ≤ maxLen := by
  unfold textG at h
  cases h1 : num1 s with
  | none => rw [h1] at h; simp at h
  | some x =>
    rw [h1] at h
    have g := num1_fit (t := x.2) (n := x.1) h1
    have hb : ((takeG x.1.toNat x.2).map fun y => (bl y.1, y.2)) = some (b, u) := h
    unfold takeG at hb
    split at hb
    · simp at hb
      rw [← hb.1, bl_size, List.length_take]
      unfold maxLen
      omega
    · simp at hb



end Go.Pch
end
