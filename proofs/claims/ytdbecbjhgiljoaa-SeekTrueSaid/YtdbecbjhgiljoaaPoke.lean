/- What a tree of slices reads as when one int cell of it is written; slices in memory that is not frozen; no program is named here. -/
import Derived.Test.YtdbecbjhgiljoaaOwn
namespace Go.Pch
open Go.RowKit

/-- A slice whose block, if it has elements, is plain memory that is not frozen. -/
def Ty.fslice {α : Type} (E : Ty α) : Ty (List α) where
  size := 1
  pos := by decide
  rd w S cs l := E.slice.rd w S cs l ∧ (l ≠ [] → ∃ b o n c, cs = [.slice (some ⟨b, o, none⟩) n c] ∧ S b ∧ b < w.heap.size ∧ ∃ cur t, w.heap[b]? = some (.cells cur t))
  len := by intro _ _ _ _ h; exact E.slice.len h.1
  one := by intro _ _ _ _ h; exact E.slice.one h.1
  keep := by
    intro w w' S cs l h hk
    refine ⟨E.slice.keep h.1 hk, fun hl => ?_⟩
    obtain ⟨b, o, n, c, h1, h2, h3, cur, t, h4⟩ := h.2 hl
    have h5 := (hk b h2 h3).trans h4
    exact ⟨b, o, n, c, h1, h2, (Array.getElem?_eq_some_iff.1 h5).1, cur, t, h5⟩
  mono := by
    intro w S S' cs l h hk
    refine ⟨E.slice.mono h.1 hk, fun hl => ?_⟩
    obtain ⟨b, o, n, c, h1, h2, h3, h4⟩ := h.2 hl
    exact ⟨b, o, n, c, h1, hk b h2 h3, h3, h4⟩

section
variable {α β : Type} {E : Ty α} {E' : Ty β} {w w' : World} {S S' : Blk} {v : Value} {l : List α}

/-- A slice read element by element in another way. -/
theorem Ty.slice_map {cs : List Value} (f : α → β) (hs : E.size = E'.size) (h : E.slice.rd w S cs l) (hf : ∀ cs a, E.rd w S cs a → E'.rd w S cs (f a)) : E'.slice.rd w S cs (l.map f) := by
  obtain ⟨ao, len, cap, hv, h1, h2, h3, h4, h5⟩ := h
  refine ⟨ao, len, cap, hv, by simpa using h1, h2, h3, h4, fun i b hi => ?_⟩
  rw [List.getElem?_map] at hi
  obtain ⟨a, ha, rfl⟩ := Option.map_eq_some_iff.1 hi
  obtain ⟨b, o, hb, hS, cs, hrd, hc⟩ := h5 i a ha
  exact ⟨b, o, hb, hS, cs, hf cs a hrd, fun j u hj => by rw [← hs]; exact hc j u hj⟩
theorem Ty.slice_conv {E' : Ty α} {cs : List Value} (hs : E.size = E'.size) (h : E.slice.rd w S cs l) (hf : ∀ cs a, E.rd w S cs a → E'.rd w S cs a) : E'.slice.rd w S cs l := by
  have := Ty.slice_map id hs h hf
  rwa [List.map_id] at this

/-- What a written int cell may turn. -/
def Near (c c' : Value) : Prop := c' = c ∨ ((∃ n, c = .int .i64 n) ∧ c' = .int .i64 9)
/-- Cells as they may be read behind a write of 9 into an int cell. -/
def NearL (cs cs' : List Value) : Prop := cs'.length = cs.length ∧ ∀ (j : Nat) c c', cs[j]? = some c → cs'[j]? = some c' → Near c c'
/-- What reads as x reads near it behind a write of 9 into an int cell. -/
def Pokes (E : Ty α) (R : α → α → Prop) : Prop := ∀ (w : World) (S : Blk) (cs cs' : List Value) (x : α) (a : Addr) (n : Int), E.rd w S cs x → w.cell? a = some (.int .i64 n) → NearL cs cs' → ∃ x', E.rd (w.setCell a (.int .i64 9)) S cs' x' ∧ R x x'

def nearRow (r r' : Int × Int) : Prop := (r'.1 = r.1 ∨ r'.1 = 9) ∧ (r'.2 = r.2 ∨ r'.2 = 9)
theorem pokes_row : Pokes tRow nearRow := by
  rintro w S cs cs' r a n ⟨rfl, ok1, ok2⟩ ha ⟨hl, hn⟩
  match cs', hl with
  | [c, d], _ =>
    have h0 := hn 0 _ c rfl rfl
    have h1 := hn 1 _ d rfl rfl
    have k0 : ∃ m, c = .int .i64 m ∧ i64ok m ∧ (m = r.1 ∨ m = 9) := by
      rcases h0 with rfl | ⟨_, rfl⟩
      · exact ⟨_, rfl, ok1, .inl rfl⟩
      · exact ⟨9, rfl, ⟨by decide, by decide⟩, .inr rfl⟩
    have k1 : ∃ m, d = .int .i64 m ∧ i64ok m ∧ (m = r.2 ∨ m = 9) := by
      rcases h1 with rfl | ⟨_, rfl⟩
      · exact ⟨_, rfl, ok2, .inl rfl⟩
      · exact ⟨9, rfl, ⟨by decide, by decide⟩, .inr rfl⟩
    obtain ⟨m0, rfl, o0, e0⟩ := k0
    obtain ⟨m1, rfl, o1, e1⟩ := k1
    exact ⟨(m0, m1), ⟨rfl, o0, o1⟩, e0, e1⟩

/-- Lists near one another. -/
def nearList (R : α → α → Prop) (l l' : List α) : Prop := l'.length = l.length ∧ ∀ (i : Nat) x x', l[i]? = some x → l'[i]? = some x' → R x x'
theorem pokes_slice {R : α → α → Prop} (h : Pokes E R) : Pokes E.slice (nearList R) := by
  rintro w S cs cs' l a n ⟨ao, len, cap, rfl, h1, h2, h3, h4, h5⟩ ha ⟨hl, hn⟩
  match cs', hl with
  | [c], _ =>
    have hc : c = .slice ao len cap := by
      rcases hn 0 _ c rfl rfl with rfl | ⟨⟨m, hm⟩, _⟩
      · rfl
      · cases hm
    subst hc
    have key : ∀ i x, l[i]? = some x → ∃ x', R x x' ∧ ∃ b o, ao = some ⟨b, o, none⟩ ∧ S b ∧ ∃ cs, E.rd (w.setCell a (.int .i64 9)) S cs x' ∧ ∀ j u, cs[j]? = some u → (w.setCell a (.int .i64 9)).cell? ⟨b, o + i * E.size + j, none⟩ = some u := by
      intro i x hi
      obtain ⟨b, o, hb, hS, cs, hrd, hc⟩ := h5 i x hi
      have hlen := E.len hrd
      have hget : ∀ j, j < cs.length → ∃ u', (w.setCell a (.int .i64 9)).cell? ⟨b, o + i * E.size + j, none⟩ = some u' ∧ ∀ u, cs[j]? = some u → Near u u' := by
        intro j hj
        have hw := hc j cs[j] (List.getElem?_eq_getElem hj)
        by_cases he : (⟨b, o + i * E.size + j, none⟩ : Addr) = a
        · refine ⟨.int .i64 9, ?_, fun u hu => .inr ⟨⟨n, ?_⟩, rfl⟩⟩
          · rw [he]; exact World.cell?_setCell_same _ _ _ ha
          · have := hc j u hu
            rw [he, ha] at this
            exact (Option.some.inj this).symm
        · refine ⟨cs[j], ?_, fun u hu => ?_⟩
          · exact (World.cell?_setCell_other w a _ _ (fun e => he e.symm)).trans hw
          · rw [List.getElem?_eq_getElem hj] at hu
            exact .inl (Option.some.inj hu)
      obtain ⟨cs'', hl'', hx''⟩ := exists_list (Q := fun j u' (_ : Value) => (w.setCell a (.int .i64 9)).cell? ⟨b, o + i * E.size + j, none⟩ = some u' ∧ ∀ u, cs[j]? = some u → Near u u') cs (fun j u hj => hget j (List.getElem?_eq_some_iff.1 hj).1)
      obtain ⟨x', hrd', hR⟩ := h w S cs cs'' x a n hrd ha ⟨hl'', fun j c c' hc1 hc2 => (hx'' j c' c hc2 hc1).2 c hc1⟩
      refine ⟨x', hR, b, o, hb, hS, cs'', hrd', fun j u hj => ?_⟩
      have hj' := (List.getElem?_eq_some_iff.1 hj).1
      exact (hx'' j u cs[j] hj (List.getElem?_eq_getElem (by omega))).1
    obtain ⟨l', hl', hx'⟩ := exists_list (Q := fun i x' x => R x x' ∧ ∃ b o, ao = some ⟨b, o, none⟩ ∧ S b ∧ ∃ cs, E.rd (w.setCell a (.int .i64 9)) S cs x' ∧ ∀ j u, cs[j]? = some u → (w.setCell a (.int .i64 9)).cell? ⟨b, o + i * E.size + j, none⟩ = some u) l key
    refine ⟨l', ⟨ao, len, cap, rfl, by omega, h2, h3, h4, fun i x' hi => ?_⟩, hl', fun i x x' hx1 hx2 => (hx' i x' x hx2 hx1).1⟩
    have hi' := (List.getElem?_eq_some_iff.1 hi).1
    exact (hx' i x' l[i] hi (List.getElem?_eq_getElem (by omega))).2

theorem Sl.poke {R : α → α → Prop} (hE : Pokes E R) (h : Sl E w S v l) {a : Addr} {n : Int} (ha : w.cell? a = some (.int .i64 n)) : ∃ l', Sl E (w.setCell a (.int .i64 9)) S v l' ∧ nearList R l l' :=
  pokes_slice hE w S [v] [v] l a n h ha ⟨rfl, fun _ _ _ h1 h2 => .inl (Option.some.inj (h2.symm.trans h1))⟩
end

end Go.Pch
