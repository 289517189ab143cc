/- From a row's data to what a value reads as; no program is named here. -/
import Derived.Test.YtklgejafblocjaaOwn
import Derived.ProofKit
import Derived.OpenShut
import Derived.Deep.Slices
import Derived.ChangeSame
namespace Go.Pch
open Go.RowKit Go.ChangeShapes Go.WideShapes

/-- Whatever reads as data of type t reads as E says. -/
def Opens (P : Program) {α : Type} (E : Ty α) (t : TypeId) : Prop :=
  ∀ (H : Type) (enc : TypeId × Value → H) (w : World) (base : Nat) (spare : Nat → Bool) (held : Bool) (fuel : Nat) (cs : List Value) (x : DataW H × List MemPlace),
    DataW.trod enc P w base spare held fuel t cs = some x → ∃ a, E.rd w (fun _ => True) cs a

theorem i64ok_of_wf {n : Int} (h : (Lit.int .i64 n).wf = true) : i64ok n := by
  simp only [Lit.wf, IntKind.min, IntKind.max, IntKind.signed, IntKind.bits, Bool.and_eq_true, decide_eq_true_eq, if_true] at h
  unfold i64ok
  omega

theorem Opens.int {P : Program} {t : TypeId} (ht : P.underlying t = some (.int .i64)) : Opens P tInt t := by
  intro H enc w base spare held fuel cs x h
  obtain ⟨n, rfl, _, hw⟩ := DataW.trod_int ht h
  exact ⟨n, rfl, i64ok_of_wf hw⟩

theorem Opens.row {P : Program} {t : TypeId} {f0 f1 : Field} (ht : P.underlying t = some (.struct #[f0, f1])) (hc : P.cellsOf t = 2) (o0 : f0.offset = 0) (o1 : f1.offset = 1) (c0 : P.cellsOf f0.type = 1) (c1 : P.cellsOf f1.type = 1)
    (t0 : P.underlying f0.type = some (.int .i64)) (t1 : P.underlying f1.type = some (.int .i64)) : Opens P tRow t := by
  intro H enc w base spare held fuel cs x h
  obtain ⟨y0, y1, n, _, hl, h0, h1⟩ := trod_struct2 ht h
  rw [hc] at hl
  match cs, hl with
  | [a, b], _ =>
    simp only [o0, o1, c0, c1, List.drop_zero, List.take_succ_cons, List.take_zero, List.drop_succ_cons] at h0 h1
    obtain ⟨p, e0, _, w0⟩ := DataW.trod_int t0 h0
    obtain ⟨q, e1, _, w1⟩ := DataW.trod_int t1 h1
    simp at e0 e1
    subst e0 e1
    exact ⟨(p, q), rfl, i64ok_of_wf w0, i64ok_of_wf w1⟩

theorem Opens.slice {P : Program} {α : Type} {E : Ty α} {t e : TypeId} (hE : Opens P E e) (ht : P.underlying t = some (.slice e)) (hc : P.cellsOf e = E.size) : Opens P E.slice t := by
  intro H enc w base spare held fuel cs x h
  rcases Deep.open_slice ht h with ⟨rfl, _⟩ | ⟨a, len, cap, m, n, D, Pl, rfl, hb, hl, hm, hmm, rfl, hx⟩
  · exact ⟨[], Sl.nil E w _⟩
  · have hlm : len ≤ m := by rw [hmm]; split <;> omega
    have each : ∀ i, i < len → ∃ q : List Value × α, E.rd w (fun _ => True) q.1 q.2 ∧ ∀ j u, q.1[j]? = some u → w.cell? (a.add (i * E.size + j)) = some u := by
      intro i hi
      obtain ⟨cs', h1, h2⟩ := hx i (by omega)
      rw [hc] at h1
      obtain ⟨_, hlen, hcell⟩ := World.cells?_some h1
      obtain ⟨b, hrd⟩ := hE H enc w base spare held n cs' _ h2
      refine ⟨(cs', b), hrd, fun j u hj => ?_⟩
      obtain ⟨hjl, rfl⟩ := List.getElem?_eq_some_iff.1 hj
      have hjl' : j < cs'.length := hjl
      have := hcell j (by omega)
      rw [Deep.add_add] at this
      rw [this]
      simp [hjl]
    by_cases h0 : len = 0
    · subst h0
      exact ⟨[], some a, 0, cap, rfl, rfl, Nat.zero_le _, hm, by simp, by simp⟩
    · obtain ⟨q0, hr0, hc0⟩ := each 0 (by omega)
      have hne : ∃ u, q0.1[0]? = some u := by
        have := E.len hr0; have := E.pos
        exact ⟨q0.1[0], List.getElem?_eq_getElem (by omega)⟩
      obtain ⟨u0, hu0⟩ := hne
      have hcell0 := hc0 0 u0 hu0
      obtain ⟨b, o, spot⟩ := a
      have hspot : spot = none := by simpa [Addr.add] using World.cell?_spot hcell0
      subst hspot
      have each' : ∀ i (x : Unit), (List.replicate len ())[i]? = some x → ∃ q : List Value × α, E.rd w (fun _ => True) q.1 q.2 ∧ ∀ j u, q.1[j]? = some u → w.cell? ⟨b, o + i * E.size + j, none⟩ = some u := by
        intro i x hi
        have hlt : i < len := by simpa using (List.getElem?_eq_some_iff.1 hi).1
        obtain ⟨q, h1, h2⟩ := each i hlt
        exact ⟨q, h1, fun j u hj => by have := h2 j u hj; rwa [Addr.add_lit, ← Nat.add_assoc] at this⟩
      obtain ⟨qs, hql, hq⟩ := exists_list (List.replicate len ()) each'
      rw [List.length_replicate] at hql
      refine ⟨qs.map (·.2), some ⟨b, o, none⟩, len, cap, rfl, by simp [hql], hl, hm, by simp, fun i x hi => ⟨b, o, rfl, trivial, ?_⟩⟩
      rw [List.getElem?_map] at hi
      obtain ⟨q, hqi, rfl⟩ := Option.map_eq_some_iff.1 hi
      have hlt : i < len := by have := (List.getElem?_eq_some_iff.1 hqi).1; omega
      have := hq i q () hqi (by simp [hlt])
      exact ⟨q.1, this.1, this.2⟩

end Go.Pch
