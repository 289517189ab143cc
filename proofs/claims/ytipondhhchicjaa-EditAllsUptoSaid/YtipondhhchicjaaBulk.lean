/- From a row's data of a bounded bulk to what a value reads as, and how much that is. -/
import Derived.Test.YtipondhhchicjaaRows
import Derived.Test.YtipondhhchicjaaOp
namespace Go.Pch
open Go.RowKit Go.ChangeShapes Go.WideShapes Go.Proofs
open Go.Proofs.Ytipondhhchicjaa.Rows (uptoBulk uptoBulkAll uptoSmall)

theorem bulk_one {H : Type} (d : DataW H) : 1 ≤ uptoBulk d := by
  cases d with
  | lit l => cases l <;> simp [uptoBulk]
  | nil => simp [uptoBulk]
  | ptr d => simp [uptoBulk]
  | slice elems spare => simp [uptoBulk]
  | agg parts => simp [uptoBulk]
  | iface t d => simp [uptoBulk]
  | map entries => simp [uptoBulk]
  | held h => simp [uptoBulk]
theorem bulk_part {H : Type} {d : DataW H} {l : List (DataW H)} (h : d ∈ l) : uptoBulk d ≤ uptoBulkAll l := by
  induction l with
  | nil => cases h
  | cons x r ih =>
    simp only [uptoBulkAll]
    cases List.mem_cons.1 h with
    | inl e => subst e; omega
    | inr e => have := ih e; omega
theorem bulk_bound {H : Type} {l : List (DataW H)} (hk : uptoSmall H l = true) : uptoBulkAll l ≤ 1048576 := of_decide_eq_true hk

/-- Whatever reads as data of type t reads as E says, and is of no more than its bulk. -/
def OpensM (P : Program) {α : Type} (E : Ty α) (m : α → Nat) (t : TypeId) : Prop :=
  ∀ (H : Type) (enc : TypeId × Value → H) (w : World) (base : Nat) (spare : Nat → Bool) (held : Bool) (fuel : Nat) (cs : List Value) (x : DataW H × List MemPlace),
    DataW.trod enc P w base spare held fuel t cs = some x → ∃ a, E.rd w (fun _ => True) cs a ∧ m a ≤ uptoBulk x.1

/-- How much a list's elements are. -/
def sumM {α : Type} (m : α → Nat) (l : List α) : Nat := (l.map m).sum

theorem Opens.one {P : Program} {α : Type} {E : Ty α} {t : TypeId} (h : Opens P E t) : OpensM P E (fun _ => 1) t := by
  intro H enc w base spare held fuel cs x hx
  obtain ⟨a, ha⟩ := h H enc w base spare held fuel cs x hx
  exact ⟨a, ha, bulk_one _⟩

theorem sum_le {α : Type} {H : Type} {m : α → Nat} {D : Nat → DataW H} : ∀ (l : List α) (k : Nat), (∀ (i : Nat) a, l[i]? = some a → m a ≤ uptoBulk (D (k + i))) → sumM m l ≤ uptoBulkAll ((List.range' k l.length).map D)
  | [], k, _ => by simp [sumM]
  | a :: l, k, h => by
    have h0 := h 0 a rfl
    have ih := sum_le l (k + 1) fun i b hb => by have := h (i + 1) b (by simpa using hb); rwa [show k + (i + 1) = k + 1 + i by omega] at this
    simp only [List.length_cons, List.range'_succ, List.map_cons, uptoBulkAll]
    simp only [sumM, List.map_cons, List.sum_cons, Nat.add_zero] at *
    omega

theorem OpensM.slice {P : Program} {α : Type} {E : Ty α} {m : α → Nat} {t e : TypeId} (hE : OpensM P E m e) (ht : P.underlying t = some (.slice e)) (hc : P.cellsOf e = E.size) : OpensM P E.slice (sumM m) t := by
  intro H enc w base spare held fuel cs x h
  rcases Deep.open_slice ht h with ⟨rfl, _⟩ | ⟨a, len, cap, mm, n, D, Pl, rfl, hb, hl, hm, hmm, rfl, hx⟩
  · exact ⟨[], Sl.nil E w _, by simp [sumM]⟩
  · have hlm : len ≤ mm := by rw [hmm]; split <;> omega
    have each : ∀ i, i < len → ∃ q : List Value × α, (E.rd w (fun _ => True) q.1 q.2 ∧ m q.2 ≤ uptoBulk (D i)) ∧ ∀ j u, q.1[j]? = some u → w.cell? (a.add (i * E.size + j)) = some u := by
      intro i hi
      obtain ⟨cs', h1, h2⟩ := hx i (by omega)
      rw [hc] at h1
      obtain ⟨_, hlen, hcell⟩ := World.cells?_some h1
      obtain ⟨b, hrd, hbm⟩ := hE H enc w base spare held n cs' _ h2
      refine ⟨(cs', b), ⟨hrd, hbm⟩, fun j u hj => ?_⟩
      obtain ⟨hjl, rfl⟩ := List.getElem?_eq_some_iff.1 hj
      have hjl' : j < cs'.length := hjl
      have := hcell j (by omega)
      rw [Deep.add_add] at this
      rw [this]
      simp [hjl]
    by_cases h0 : len = 0
    · subst h0
      exact ⟨[], ⟨some a, 0, cap, rfl, rfl, Nat.zero_le _, hm, by simp, by simp⟩, by simp [sumM]⟩
    · obtain ⟨q0, ⟨hr0, _⟩, hc0⟩ := each 0 (by omega)
      have hne : ∃ u, q0.1[0]? = some u := by
        have := E.len hr0; have := E.pos
        exact ⟨q0.1[0], List.getElem?_eq_getElem (by omega)⟩
      obtain ⟨u0, hu0⟩ := hne
      have hcell0 := hc0 0 u0 hu0
      obtain ⟨b, o, spot⟩ := a
      have hspot : spot = none := by simpa [Addr.add] using World.cell?_spot hcell0
      subst hspot
      have each' : ∀ i (x : Unit), (List.replicate len ())[i]? = some x → ∃ q : List Value × α, (E.rd w (fun _ => True) q.1 q.2 ∧ m q.2 ≤ uptoBulk (D i)) ∧ ∀ j u, q.1[j]? = some u → w.cell? ⟨b, o + i * E.size + j, none⟩ = some u := by
        intro i x hi
        have hlt : i < len := by simpa using (List.getElem?_eq_some_iff.1 hi).1
        obtain ⟨q, h1, h2⟩ := each i hlt
        exact ⟨q, h1, fun j u hj => by have := h2 j u hj; rwa [Addr.add_lit, ← Nat.add_assoc] at this⟩
      obtain ⟨qs, hql, hq⟩ := exists_list (List.replicate len ()) each'
      rw [List.length_replicate] at hql
      have hget : ∀ (i : Nat) q, qs[i]? = some q → (E.rd w (fun _ => True) q.1 q.2 ∧ m q.2 ≤ uptoBulk (D i)) ∧ ∀ j u, q.1[j]? = some u → w.cell? ⟨b, o + i * E.size + j, none⟩ = some u := fun i q hqi => by
        have hlt : i < len := by have := (List.getElem?_eq_some_iff.1 hqi).1; omega
        exact hq i q () hqi (by simp [hlt])
      refine ⟨qs.map (·.2), ⟨some ⟨b, o, none⟩, len, cap, rfl, by simp [hql], hl, hm, by simp, fun i x hi => ⟨b, o, rfl, trivial, ?_⟩⟩, ?_⟩
      · rw [List.getElem?_map] at hi
        obtain ⟨q, hqi, rfl⟩ := Option.map_eq_some_iff.1 hi
        exact ⟨q.1, (hget i q hqi).1.1, (hget i q hqi).2⟩
      · have hs := sum_le (m := m) (D := D) (qs.map (·.2)) 0 fun i a ha => by
          rw [List.getElem?_map] at ha
          obtain ⟨q, hqi, rfl⟩ := Option.map_eq_some_iff.1 ha
          rw [Nat.zero_add]
          exact (hget i q hqi).1.2
        rw [List.length_map, hql, ← List.range_eq_range'] at hs
        simp only [uptoBulk]
        omega

/-- How many rows a tree has. -/
def treeM (t : List (List (List Row))) : Nat := sumM (sumM (sumM fun _ => 1)) t
theorem opTreeM : OpensM Try.prog tRow.slice.slice.slice treeM 35 :=
  ((opRow.one.slice Try.underlying22 (by kernel_rfl)).slice Try.underlying58 (by kernel_rfl)).slice Try.underlying35 (by kernel_rfl)

theorem sumM_len {α : Type} (l : List α) : sumM (fun _ => 1) l = l.length := by
  induction l with
  | nil => rfl
  | cons x l ih => simp only [sumM, List.map_cons, List.sum_cons, List.length_cons] at *; omega
theorem sumM_flat {α : Type} (l : List (List α)) : sumM (sumM fun _ => 1) l = l.flatten.length := by
  induction l with
  | nil => rfl
  | cons x l ih =>
    rw [List.flatten_cons, List.length_append, ← ih, sumM, List.map_cons, List.sum_cons, sumM_len]; rfl

theorem flat_le (t : List (List (List (Int × Int)))) : (t.headD []).flatten.length ≤ treeM t := by
  cases t with
  | nil => simp
  | cons x t =>
    have h1 := sumM_flat x
    have h2 : treeM (x :: t) = sumM (sumM fun _ => 1) x + sumM (sumM (sumM fun _ => 1)) t := by rw [treeM, sumM, List.map_cons, List.sum_cons]; rfl
    rw [List.headD_cons]
    omega
theorem flat_small {H : Type} {t : List (List (List (Int × Int)))} {d : DataW H} {l : List (DataW H)} (hk : uptoSmall H l = true) (hd : d ∈ l) (hm : treeM t ≤ uptoBulk d) : (t.headD []).flatten.length ≤ 1048576 :=
  Nat.le_trans (flat_le t) (Nat.le_trans hm (Nat.le_trans (bulk_part hd) (bulk_bound hk)))

end Go.Pch
