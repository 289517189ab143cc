/- Slices that the call itself grows: what append leaves, said of lists; no program is named here. copy, append and clear inside a slice of the call's own, as runs on lists of cells; no program is named here. -/
import Derived.Test.YtdclpbdmdpakkaaGreatLb1
import Derived.Laws.CopyRow
import Derived.Laws.CopyOwn
import Derived.Lib.AppendZerosOnto
import Derived.Lib.SliceRun
import Derived.Deep.RegionLaw
section
namespace Go.Pch
open Go.RowKit

/-! ### Lists of cells -/
section
variable {β : Type}
theorem flatten_get {sz : Nat} (hz : 0 < sz) : ∀ (xs : List (List β)), (∀ c ∈ xs, c.length = sz) → ∀ j, xs.flatten[j]? = (xs[j / sz]?).bind (·[j % sz]?)
  | [], _, j => by simp
  | x :: xs, h, j => by
    have hx : x.length = sz := h x (by simp)
    have ih := flatten_get hz xs (fun c hc => h c (by simp [hc]))
    rw [List.flatten_cons]
    by_cases hj : j < sz
    · rw [List.getElem?_append_left (by omega), Nat.div_eq_of_lt hj, Nat.mod_eq_of_lt hj]
      simp
    · rw [List.getElem?_append_right (by omega), hx, ih]
      have e1 : j / sz = (j - sz) / sz + 1 := by
        conv => lhs; rw [show j = j - sz + sz by omega, Nat.add_div_right _ hz]
      have e2 : j % sz = (j - sz) % sz := by
        conv => lhs; rw [show j = j - sz + sz by omega, Nat.add_mod_right]
      rw [e1, e2, List.getElem?_cons_succ]
theorem flatten_len {sz : Nat} : ∀ (xs : List (List β)), (∀ c ∈ xs, c.length = sz) → xs.flatten.length = xs.length * sz
  | [], _ => by simp
  | x :: xs, h => by
    rw [List.flatten_cons, List.length_append, h x (by simp), flatten_len xs (fun c hc => h c (by simp [hc])), List.length_cons, Nat.add_mul]
    omega
theorem exists_list {α : Type} {Q : Nat → β → α → Prop} : ∀ (m : List α), (∀ i a, m[i]? = some a → ∃ c, Q i c a) → ∃ xs : List β, xs.length = m.length ∧ ∀ i c a, xs[i]? = some c → m[i]? = some a → Q i c a := by
  intro m
  induction m generalizing Q with
  | nil => intro _; exact ⟨[], rfl, by simp⟩
  | cons x m ih =>
    intro h
    obtain ⟨c, hc⟩ := h 0 x rfl
    obtain ⟨xs, h1, h2⟩ := ih (Q := fun i c a => Q (i + 1) c a) (fun i a hi => h (i + 1) a hi)
    refine ⟨c :: xs, by simp [h1], fun i c' a hc' ha => ?_⟩
    cases i with
    | zero => simp at hc' ha; subst hc'; subst ha; exact hc
    | succ i => exact h2 i c' a hc' ha
end

/-- Each of the cells' lists reads as the list's element. -/
def Each {α : Type} (E : Ty α) (w : World) (D : Blk) (xs : List (List Value)) (l : List α) : Prop :=
  xs.length = l.length ∧ ∀ (i : Nat) (cs : List Value) (a : α), xs[i]? = some cs → l[i]? = some a → E.rd w D cs a

section
variable {α : Type} {E : Ty α} {w w' : World} {C D : Blk} {xs ys : List (List Value)} {l m : List α}
theorem Each.lens (h : Each E w D xs l) : ∀ c ∈ xs, c.length = E.size := by
  intro c hc
  obtain ⟨i, hi, rfl⟩ := List.mem_iff_getElem.1 hc
  have := h.1
  exact E.len (h.2 i _ l[i] (List.getElem?_eq_getElem hi) (List.getElem?_eq_getElem (by omega)))
theorem Each.ones (h : Each E w D xs l) : ∀ u ∈ xs.flatten, u.oneCell' = true := by
  intro u hu
  obtain ⟨c, hc, hu⟩ := List.mem_flatten.1 hu
  obtain ⟨i, hi, rfl⟩ := List.mem_iff_getElem.1 hc
  have := h.1
  exact E.one (h.2 i _ l[i] (List.getElem?_eq_getElem hi) (List.getElem?_eq_getElem (by omega))) u hu
theorem Each.flatLen (h : Each E w D xs l) : xs.flatten.length = l.length * E.size := by rw [flatten_len xs h.lens, h.1]
theorem Each.nil : Each E w D [] [] := ⟨rfl, by simp⟩
theorem Each.app (h : Each E w D xs l) (g : Each E w D ys m) : Each E w D (xs ++ ys) (l ++ m) := by
  refine ⟨by simp [h.1, g.1], fun i cs a hc ha => ?_⟩
  have := h.1
  by_cases hi : i < xs.length
  · rw [List.getElem?_append_left hi] at hc
    rw [List.getElem?_append_left (by omega)] at ha
    exact h.2 i cs a hc ha
  · rw [List.getElem?_append_right (by omega)] at hc
    rw [List.getElem?_append_right (by omega)] at ha
    exact g.2 _ cs a hc (by rwa [this])
theorem Each.keep (h : Each E w D xs l) (hk : ∀ k, D k → k < w.heap.size → w'.heap[k]? = w.heap[k]?) : Each E w' D xs l := ⟨h.1, fun i cs a hc ha => E.keep (h.2 i cs a hc ha) hk⟩
theorem Each.mono (h : Each E w D xs l) (hk : ∀ k, D k → k < w.heap.size → C k) : Each E w C xs l := ⟨h.1, fun i cs a hc ha => E.mono (h.2 i cs a hc ha) hk⟩
theorem Each.one (cs : List Value) (a : α) (h : E.rd w D cs a) : Each E w D [cs] [a] := by
  refine ⟨rfl, fun i c b hc hb => ?_⟩
  cases i with
  | zero => simp at hc hb; subst hc; subst hb; exact h
  | succ i => simp at hc
end

/-- What is appended: at address 'ao' lie the elements of m. -/
def Src {α : Type} (E : Ty α) (w : World) (D : Blk) (ao : Option Addr) (m : List α) : Prop :=
  ∃ xs, Each E w D xs m ∧ (ao = none → m = []) ∧ ∀ ad, ao = some ad → ∀ j u, xs.flatten[j]? = some u → w.cell? (ad.add j) = some u

theorem Sl.src {α : Type} {E : Ty α} {w : World} {S : Blk} {ao : Option Addr} {len cap : Nat} {m : List α} (h : Sl E w S (.slice ao len cap) m) : Src E w S ao m := by
  obtain ⟨ao', len', cap', hv, h1, h2, h3, h4, h5⟩ := h
  simp at hv
  obtain ⟨rfl, rfl, rfl⟩ := hv
  have h5' : ∀ i a, m[i]? = some a → ∃ cs, (E.rd w S cs a ∧ ∃ b o, ao = some ⟨b, o, none⟩ ∧ S b ∧ ∀ j u, cs[j]? = some u → w.cell? ⟨b, o + i * E.size + j, none⟩ = some u) := by
    intro i a hi
    obtain ⟨b, o, hb, hS, cs, hrd, hc⟩ := h5 i a hi
    exact ⟨cs, hrd, b, o, hb, hS, hc⟩
  obtain ⟨xs, hl, hx⟩ := exists_list m h5'
  have hE : Each E w S xs m := ⟨hl, fun i cs a hc ha => (hx i cs a hc ha).1⟩
  refine ⟨xs, hE, ?_, ?_⟩
  · intro hn
    have := h4 hn
    exact List.eq_nil_of_length_eq_zero (by omega)
  · intro ad had j u hj
    rw [flatten_get E.pos xs hE.lens] at hj
    obtain ⟨cs, hcs, hu⟩ := Option.bind_eq_some_iff.1 hj
    have hi : j / E.size < m.length := by
      have := (List.getElem?_eq_some_iff.1 hcs).1
      omega
    obtain ⟨_, b, o, hb, _, hc⟩ := hx _ cs m[j / E.size] hcs (List.getElem?_eq_getElem hi)
    rw [hb] at had
    obtain rfl := Option.some.inj had
    have := hc _ u hu
    rw [Addr.add_lit]
    rwa [Nat.add_assoc, Nat.mul_comm, Nat.div_add_mod] at this

/-- Rows stand in the cells themselves. -/
theorem Src.row {w : World} {D D' : Blk} {ao : Option Addr} {m : List Row} (h : Src tRow w D ao m) : Src tRow w D' ao m := by
  obtain ⟨xs, h1, h2, h3⟩ := h
  exact ⟨xs, ⟨h1.1, h1.2⟩, h2, h3⟩

/-- v is a slice that the call itself grows: it reads as l, by way of blocks of C other than its own. -/
def Own {α : Type} (E : Ty α) (e : TypeId) (w : World) (B : Nat) (C : Blk) (v : Value) (l : List α) : Prop :=
  ∃ xs, w.ownsRow B e E.size v l.length xs.flatten ∧ Each E w (fun k => C k ∧ some k ≠ v.ownBlock) xs l

section
variable {α : Type} {E : Ty α} {e T : TypeId} {w w' : World} {B : Nat} {C D : Blk} {v v' : Value} {l m : List α} {P : Program}

theorem Own.nil : Own E e w B C (.slice none 0 0) [] := ⟨[], World.ownsRow_nil _ _ _ _, .nil⟩

theorem Own.shape (h : Own E e w B C v l) : ∃ ao cap, v = .slice ao l.length cap ∧ l.length ≤ cap ∧ cap ≤ maxLen := by
  obtain ⟨xs, hr, _⟩ := h
  rcases hr.2 with ⟨rfl, h0⟩ | ⟨g, cap, cur, rfl, _, _, h1, h2, _⟩
  · exact ⟨none, 0, by rw [h0], by omega, Nat.zero_le _⟩
  · exact ⟨_, cap, rfl, h1, h2⟩

/-- Where the own block lies. -/
theorem Own.block (h : Own E e w B C v l) : ∀ g, v.ownBlock = some g → B ≤ g ∧ g < w.heap.size := by
  obtain ⟨xs, hr, _⟩ := h
  exact hr.lt

/-- What is grown reads as a slice. -/
theorem Own.sl (h : Own E e w B C v l) (hC : ∀ k, C k → D k) (hB : ∀ k, B ≤ k → D k) : Sl E w D v l := by
  obtain ⟨xs, hr, hE⟩ := h
  rcases hr.2 with ⟨rfl, h0⟩ | ⟨g, cap, cur, rfl, hb, hg, h1, h2, h3, h4⟩
  · obtain rfl := List.eq_nil_of_length_eq_zero h0
    exact Sl.nil E w D
  · refine ⟨_, _, cap, rfl, rfl, h1, h2, by simp, fun i a hi => ⟨g, 0, rfl, hB g hb, ?_⟩⟩
    have hlt := (List.getElem?_eq_some_iff.1 hi).1
    have hlx : i < xs.length := by have := hE.1; omega
    refine ⟨xs[i], E.mono (hE.2 i _ a (List.getElem?_eq_getElem hlx) hi) (fun k hk _ => hC k hk.1), fun j u hj => ?_⟩
    have hcells := hr.cells (g := g) rfl
    have hj' := (List.getElem?_eq_some_iff.1 hj).1
    have hsz := hE.lens xs[i] (List.getElem_mem hlx)
    have := hcells (i * E.size + j) u (by
      rw [flatten_get E.pos xs hE.lens]
      have e1 : (i * E.size + j) / E.size = i := by
        rw [Nat.mul_comm, Nat.mul_add_div E.pos, Nat.div_eq_of_lt (by omega)]; rfl
      have e2 : (i * E.size + j) % E.size = j := by
        rw [Nat.mul_comm, Nat.mul_add_mod, Nat.mod_eq_of_lt (by omega)]
      rw [e1, e2, List.getElem?_eq_getElem hlx]
      exact hj)
    rwa [Addr.add_lit, ← Nat.add_assoc] at this

/-- What is grown stays so where its own block and the blocks that it reads by are let alone. -/
theorem Own.keep (h : Own E e w B C v l) (hk : ∀ k, (C k ∨ v.ownBlock = some k) → k < w.heap.size → w'.heap[k]? = w.heap[k]?) : Own E e w' B C v l := by
  obtain ⟨xs, hr, hE⟩ := h
  refine ⟨xs, ⟨hr.1, ?_⟩, hE.keep fun k hk' hlt => hk k (.inl hk'.1) hlt⟩
  rcases hr.2 with hn | ⟨g, cap, cur, rfl, hb, hg, rest⟩
  · exact .inl hn
  · exact .inr ⟨g, cap, cur, rfl, hb, (hk g (.inr rfl) (Array.getElem?_eq_some_iff.1 hg).1).trans hg, rest⟩
theorem Own.call (h : Own E e w B C v l) (hb : Below w.heap.size w w') : Own E e w' B C v l := h.keep fun k _ hk => hb.block k hk
theorem Own.alloc (h : Own E e w B C v l) (o : Obj) : Own E e (w.alloc o) B C v l := h.call ((Below.refl _ _).alloc (Nat.le_refl _) _)
theorem Own.mono (h : Own E e w B C v l) (hC : ∀ k, C k → k < w.heap.size → D k) : Own E e w B D v l := by
  obtain ⟨xs, hr, hE⟩ := h
  exact ⟨xs, hr, hE.mono fun k hk hlt => ⟨hC k hk.1 hlt, hk.2⟩⟩

/-- append: the run. -/
theorem Own.run (hA : At P E T e) (h : Own E e w B C v l) {ao : Option Addr} {c : Nat} (hs : Src E w D ao m) (hc : ao = none → c = 0) (ty : TypeId) (hD : ∀ k, D k → k < w.heap.size → C k ∧ some k ≠ v.ownBlock)
    (hn : l.length + m.length ≤ 1000000000000) (hB : B ≤ w.heap.size) :
    ∃ v' w', (Builtin.append_ #[T, T] ty #[v, .slice ao m.length c]).run P w = .ok v' w' ∧ Own E e w' B C v' (l ++ m) ∧ w.grownBy w' v.ownBlock ∧ (v'.ownBlock = v.ownBlock ∨ v'.ownBlock = some w.heap.size) := by
  obtain ⟨q, z, i1, i2, i3, i4, i5⟩ := hA.info
  obtain ⟨xs, hr, hE⟩ := h
  obtain ⟨ys, hY, hnone, hcells⟩ := hs
  cases ao with
  | none =>
    obtain rfl := hnone rfl
    obtain rfl := hc rfl
    refine ⟨v, w, run_append_owned_none w B T ty e q E.size hA.und i1 v _ _ hr, ?_, World.grownBy.refl _ _, .inl rfl⟩
    simp only [List.append_nil]
    exact ⟨xs, hr, hE⟩
  | some ad =>
    have hnews := hcells ad rfl
    have h63 : l.length + m.length ≤ maxLen := by unfold maxLen; omega
    have hbytes : (l.length + m.length) * q.bytes ≤ 140737488355328 := Nat.le_trans (Nat.mul_le_mul hn i5) (by decide)
    obtain ⟨v', w', hrun, hown, hgrow, hnil⟩ := run_append_own w B T ty e q z E.size q.bytes hA.und i1 i2 i3 rfl i4 E.pos v l.length xs.flatten hr ad m.length c ys.flatten hY.flatLen hnews hY.ones h63 hbytes hB
    have hblk : v'.ownBlock = v.ownBlock ∨ v'.ownBlock = some w.heap.size ∨ (v'.ownBlock = none) := by
      rcases hr.2 with ⟨rfl, h0⟩ | ⟨g, cap, cur, rfl, hb, hg, h1, h2, h3, h4⟩
      · obtain rfl := List.eq_nil_of_length_eq_zero h0
        by_cases hm : m.length = 0
        · obtain rfl := hnil.2 ⟨rfl, hm⟩
          exact .inl rfl
        · have hx0 : xs = [] := List.eq_nil_of_length_eq_zero (by have := hE.1; simpa using this)
          have hr2 := run_append_nil (P := P) w T ty e q z hA.und i1 i2 ad m.length c ys.flatten (by rw [hY.flatLen, i3]) hnews (by omega) (by unfold maxLen at h63; omega) (by simp only [List.length_nil, Nat.zero_add] at hbytes; omega)
          rw [hrun] at hr2
          simp only [Result.ok.injEq] at hr2
          rw [hr2.1]
          exact .inr (.inl rfl)
      · by_cases hroom : l.length + m.length ≤ cap
        · obtain ⟨w2, hr2, _⟩ := run_append_fits (P := P) w B T ty e q E.size hA.und i1 i3 g l.length cap xs.flatten hr ad m.length c ys.flatten hY.flatLen hnews hY.ones hroom
          rw [hrun] at hr2
          simp only [Result.ok.injEq] at hr2
          rw [hr2.1]
          exact .inl rfl
        · have holds := hr.cells (g := g) rfl
          have hr2 := run_append_grow (P := P) w T ty e q z hA.und i1 i2 ⟨g, 0, none⟩ l.length cap xs.flatten (by rw [hr.1, i3]) holds ad m.length c ys.flatten (by rw [hY.flatLen, i3]) hnews (by omega) (by unfold maxLen at h63; omega) (growslice_fits (by omega) hbytes)
          rw [hrun] at hr2
          simp only [Result.ok.injEq] at hr2
          rw [hr2.1]
          exact .inr (.inl rfl)
    have hblk' : v'.ownBlock = v.ownBlock ∨ v'.ownBlock = some w.heap.size := by
      rcases hblk with h | h | h
      · exact .inl h
      · exact .inr h
      · cases hv : v.ownBlock with
        | none => exact .inl h
        | some g =>
          exfalso
          rcases hown.2 with ⟨rfl, h0⟩ | ⟨g', cap', cur', rfl, _⟩
          · have := (hnil.1 rfl).1
            subst this
            simp [Value.ownBlock] at hv
          · simp [Value.ownBlock] at h
    refine ⟨v', w', hrun, ⟨xs ++ ys, by simpa using hown, ?_⟩, hgrow, hblk'⟩
    have hE' : Each E w (fun k => (C k ∧ some k ≠ v.ownBlock) ∧ k < w.heap.size) (xs ++ ys) (l ++ m) := (hE.mono fun k hk hlt => ⟨hk, hlt⟩).app (hY.mono fun k hk hlt => ⟨hD k hk hlt, hlt⟩)
    refine (hE'.keep fun k hk hlt => hgrow.block k hlt hk.1.2).mono fun k hk _ => ⟨hk.1.1, ?_⟩
    rcases hblk' with h | h
    · rw [h]; exact hk.1.2
    · rw [h]
      intro e
      have := Option.some.inj e
      omega

/-- append, as a law for the walk. -/
theorem wpList_grow {ops : Array Oper} {rest : List Oper} {o : Oper} {a : Go.Act} {Q : Exit → Go.Act → World → Prop} (hgd : o.guard = none) (s x : Operand)
    (ho : o.op = .call { callee := .builtin .append, args := #[s, x], argTypes := #[T, T] }) (hA : At P E T e) (hs : a.eval s = v) (h : Own E e w B C v l) {ao : Option Addr} {c n : Nat} (hx : a.eval x = .slice ao n c) (hnm : n = m.length) (hsrc : Src E w D ao m) (hc : ao = none → c = 0)
    (hD : ∀ k, D k → k < w.heap.size → C k ∧ some k ≠ v.ownBlock) (hn : l.length + m.length ≤ 1000000000000) (hB : B ≤ w.heap.size)
    (hK : ∀ v' w', Own E e w' B C v' (l ++ m) → w.grownBy w' v.ownBlock → wpList P ops Q rest (a.put o.dst v') w') : wpList P ops Q (o :: rest) a w := by
  refine wpList_plain hgd fun K hK' => ?_
  subst hnm
  obtain ⟨v', w', hrun, h1, h2, _⟩ := h.run hA hsrc hc o.type hD hn hB
  unfold Oper.wp
  simp [execOp, ho, resolve, invoke, builtin, hs, hx, hrun, Result.andThen]
  exact hK' _ _ (hK v' w' h1 h2)
end

/-! ### Elements that are slices; pieces of slices; what has just been laid -/
section
variable {α : Type} {E : Ty α} {e T : TypeId} {w w' : World} {B : Nat} {S C D : Blk} {v v' : Value} {l m : List α} {P : Program}

theorem Sl.idxSl {ll : List (List α)} (h : Sl E.slice w S v ll) (hA : At P E.slice T e) (n : Int) (i : Nat) (hn : n = (i : Int)) (hi : i < ll.length) :
    ∃ b o ao cap, (∀ W, Sem.run P (Instr.indexAt T v (.int .i64 n)) W = .ok (.pointer (some ⟨b, o, none⟩)) W) ∧ S b ∧ b < w.heap.size ∧ Sl E w S (.slice ao ll[i].length cap) ll[i] ∧ ll[i].length ≤ cap ∧ cap ≤ maxLen ∧
      w.cell? ⟨b, o, none⟩ = some (.slice ao ll[i].length cap) := by
  obtain ⟨b, o, cs, h1, h2, h3, h4, h5⟩ := h.idx hA n i hn hi
  obtain ⟨ao, len, cap, rfl, g1, g2, g3, _⟩ := id h4
  subst g1
  exact ⟨b, o, ao, cap, h1, h2, h3, h4, g2, g3, by simpa using h5 0 _ rfl⟩

theorem Sl.shapeAt (h : Sl E w S v l) (n : Nat) (hn : l.length = n) : ∃ ao cap, v = .slice ao n cap ∧ n ≤ cap ∧ cap ≤ maxLen ∧ (ao = none → cap = 0) := by
  subst hn; exact h.shape
theorem Sl.idxSlAt {ll : List (List α)} (h : Sl E.slice w S v ll) (hA : At P E.slice T e) (n : Int) (i : Nat) (x : List α) (m : Nat) (hn : n = (i : Int)) (hx : ll[i]? = some x) (hm : x.length = m) :
    ∃ b o ao cap, (∀ W, Sem.run P (Instr.indexAt T v (.int .i64 n)) W = .ok (.pointer (some ⟨b, o, none⟩)) W) ∧ S b ∧ b < w.heap.size ∧ Sl E w S (.slice ao m cap) x ∧ m ≤ cap ∧ cap ≤ maxLen ∧
      w.cell? ⟨b, o, none⟩ = some (.slice ao m cap) := by
  obtain ⟨hi, rfl⟩ := List.getElem?_eq_some_iff.1 hx
  subst hm
  exact h.idxSl hA n i hn hi

/-- The address of a piece. -/
def cutAddr (ao : Option Addr) (cap lo s : Nat) : Option Addr := if cap = lo then ao else ao.map (·.add (lo * s))

theorem Sl.piece {ao : Option Addr} {len cap : Nat} (h : Sl E w S (.slice ao len cap) l) (lo n : Nat) (hn : lo + n ≤ l.length) :
    Sl E w S (.slice (cutAddr ao cap lo E.size) n (cap - lo)) ((l.drop lo).take n) := by
  obtain ⟨ao', len', cap', hv, h1, h2, h3, h4, h5⟩ := h
  simp at hv
  obtain ⟨rfl, rfl, rfl⟩ := hv
  refine ⟨_, n, _, rfl, by simp; omega, by omega, by omega, ?_, fun i a hi => ?_⟩
  · intro hz
    unfold cutAddr at hz
    split at hz
    · omega
    · have := h4 (by simpa using hz)
      omega
  · have hlt := (List.getElem?_eq_some_iff.1 hi).1
    simp at hlt
    rw [List.getElem?_take, if_pos (by omega), List.getElem?_drop] at hi
    obtain ⟨b, o, hb, hS, cs, hrd, hc⟩ := h5 (lo + i) a hi
    refine ⟨b, o + lo * E.size, ?_, hS, cs, hrd, fun j u hj => ?_⟩
    · rw [cutAddr, if_neg (by omega), hb]
      simp [Addr.add_lit]
    · have := hc j u hj
      rwa [Nat.add_mul, ← Nat.add_assoc o] at this

theorem run_cut (hA : At P E T e) (ao : Option Addr) (len cap lo hi : Nat) (a b : Int) (ha : a = lo) (hb : b = hi) (h1 : lo ≤ hi) (h2 : hi ≤ cap) (W : World) :
    Sem.run P (Instr.slice T (.slice ao len cap) (some (.int .i64 a)) (some (.int .i64 b)) none) W = .ok (.slice (cutAddr ao cap lo E.size) (hi - lo) (cap - lo)) W := by
  obtain ⟨q, z, i1, i2, i3, i4, i5⟩ := hA.info
  subst ha hb
  have a1 : ¬ hi < lo := by omega
  have a2 : ¬ cap < hi := by omega
  simp [Instr.slice, run_underlying hA.und, Instr.sliceBounds, Instr.sliceBound, asIntOf, sizeOf, typeInfo, i1, i3, h1, h2, cutAddr]
theorem run_cutTo (hA : At P E T e) (ao : Option Addr) (len cap hi : Nat) (b : Int) (hb : b = hi) (h2 : hi ≤ cap) (W : World) :
    Sem.run P (Instr.slice T (.slice ao len cap) none (some (.int .i64 b)) none) W = .ok (.slice (cutAddr ao cap 0 E.size) hi cap) W := by
  obtain ⟨q, z, i1, i2, i3, i4, i5⟩ := hA.info
  subst hb
  simp [Instr.slice, run_underlying hA.und, Instr.sliceBounds, Instr.sliceBound, asIntOf, sizeOf, typeInfo, i1, h2, cutAddr]
theorem run_cutFrom (hA : At P E T e) (ao : Option Addr) (len cap lo : Nat) (a : Int) (ha : a = lo) (h1 : lo ≤ len) (W : World) :
    Sem.run P (Instr.slice T (.slice ao len cap) (some (.int .i64 a)) none none) W = .ok (.slice (cutAddr ao cap lo E.size) (len - lo) (cap - lo)) W := by
  obtain ⟨q, z, i1, i2, i3, i4, i5⟩ := hA.info
  subst ha
  simp [Instr.slice, run_underlying hA.und, Instr.sliceBounds, Instr.sliceBound, asIntOf, sizeOf, typeInfo, i1, i3, h1, cutAddr]
theorem run_at (hA : At P E T e) (x : Value) (lo hi mx : Option Value) (W : World) : Sem.run P (Instr.sliceAt T x lo hi mx) W = Sem.run P (Instr.slice T x lo hi mx) W := by
  simp [Instr.sliceAt, run_underlying hA.und]

/-- v[lo:hi]: the run, and what it reads as. -/
theorem Sl.cut (h : Sl E w S v l) (hA : At P E T e) (a b : Int) (lo hi : Nat) (ha : a = lo) (hb : b = hi) (h1 : lo ≤ hi) (h2 : hi ≤ l.length) :
    ∃ ao cap, (∀ W, Sem.run P (Instr.sliceAt T v (some (.int .i64 a)) (some (.int .i64 b)) none) W = .ok (.slice ao (hi - lo) cap) W) ∧
      (∀ W, Sem.run P (Instr.slice T v (some (.int .i64 a)) (some (.int .i64 b)) none) W = .ok (.slice ao (hi - lo) cap) W) ∧ Sl E w S (.slice ao (hi - lo) cap) ((l.drop lo).take (hi - lo)) ∧ (ao = none → cap = 0) := by
  obtain ⟨ao, cap, rfl, hcap, hmax, hnil⟩ := h.shape
  have hp := h.piece lo (hi - lo) (by omega)
  obtain ⟨ao', cap', hv, _, _, hn⟩ := hp.shape
  simp at hv
  refine ⟨_, _, fun W => (run_at hA _ _ _ _ W).trans (run_cut hA _ _ _ lo hi a b ha hb h1 (by omega) W), fun W => run_cut hA _ _ _ lo hi a b ha hb h1 (by omega) W, hp, ?_⟩
  rw [hv.1, hv.2.2]
  exact hn
/-- v[:hi] -/
theorem Sl.cutTo (h : Sl E w S v l) (hA : At P E T e) (b : Int) (hi : Nat) (hb : b = hi) (h2 : hi ≤ l.length) :
    ∃ ao cap, (∀ W, Sem.run P (Instr.sliceAt T v none (some (.int .i64 b)) none) W = .ok (.slice ao hi cap) W) ∧
      (∀ W, Sem.run P (Instr.slice T v none (some (.int .i64 b)) none) W = .ok (.slice ao hi cap) W) ∧ Sl E w S (.slice ao hi cap) (l.take hi) ∧ (ao = none → cap = 0) := by
  obtain ⟨ao, cap, rfl, hcap, hmax, hnil⟩ := h.shape
  have hp := h.piece 0 hi (by omega)
  simp only [List.drop_zero, Nat.sub_zero] at hp
  obtain ⟨ao', cap', hv, _, _, hn⟩ := hp.shape
  simp at hv
  refine ⟨_, _, fun W => (run_at hA _ _ _ _ W).trans (run_cutTo hA _ _ _ hi b hb (by omega) W), fun W => run_cutTo hA _ _ _ hi b hb (by omega) W, hp, ?_⟩
  rw [hv.1, hv.2.2]
  exact hn
/-- v[lo:] -/
theorem Sl.cutFrom (h : Sl E w S v l) (hA : At P E T e) (a : Int) (lo : Nat) (ha : a = lo) (h2 : lo ≤ l.length) :
    ∃ ao cap, (∀ W, Sem.run P (Instr.sliceAt T v (some (.int .i64 a)) none none) W = .ok (.slice ao (l.length - lo) cap) W) ∧
      (∀ W, Sem.run P (Instr.slice T v (some (.int .i64 a)) none none) W = .ok (.slice ao (l.length - lo) cap) W) ∧ Sl E w S (.slice ao (l.length - lo) cap) (l.drop lo) ∧ (ao = none → cap = 0) := by
  obtain ⟨ao, cap, rfl, hcap, hmax, hnil⟩ := h.shape
  have hp := h.piece lo (l.length - lo) (by omega)
  rw [List.take_of_length_le (by simp)] at hp
  obtain ⟨ao', cap', hv, _, _, hn⟩ := hp.shape
  simp at hv
  refine ⟨_, _, fun W => (run_at hA _ _ _ _ W).trans (run_cutFrom hA _ _ _ lo a ha (by omega) W), fun W => run_cutFrom hA _ _ _ lo a ha (by omega) W, hp, ?_⟩
  rw [hv.1, hv.2]
  exact hn

/-- What a literal's block holds. -/
theorem Src.lit {cs : List Value} {xs : List (List Value)} (h : Each E w D xs l) (hcs : cs = xs.flatten) (t : TypeId) : Src E (w.alloc (.cells cs.toArray t)) D (some ⟨w.heap.size, 0, none⟩) l := by
  subst hcs
  refine ⟨xs, h.keep fun k _ hk => Below.heap_alloc w _ k hk, by simp, fun ad had j u hj => ?_⟩
  obtain rfl := Option.some.inj had
  rw [Addr.add_lit, Nat.zero_add, World.cell?_alloc_new]
  simpa using hj
theorem Src.one {cs : List Value} {a : α} (h : E.rd w D cs a) (t : TypeId) : Src E (w.alloc (.cells cs.toArray t)) D (some ⟨w.heap.size, 0, none⟩) [a] :=
  Src.lit (Each.one cs a h) (by simp) t

/-- A literal slice is the call's own. -/
theorem Own.lit {cs : List Value} {xs : List (List Value)} (h : Each E w C xs l) (hcs : cs = xs.flatten) (hl : l.length ≤ maxLen) (hB : B ≤ w.heap.size) : Own E e (w.alloc (.cells cs.toArray e)) B C (.slice (some ⟨w.heap.size, 0, none⟩) l.length l.length) l := by
  subst hcs
  refine ⟨xs, ⟨h.flatLen, .inr ⟨w.heap.size, l.length, _, rfl, hB, heap_alloc_new w _, Nat.le_refl _, hl, ?_, ?_⟩⟩, ?_⟩
  · simp [h.flatLen]
  · rw [← h.flatLen]; exact List.take_length
  · refine ((h.mono (C := fun k => C k ∧ k < w.heap.size) fun k hk hlt => ⟨hk, hlt⟩).keep fun k _ hk => Below.heap_alloc w _ k hk).mono fun k hk _ => ⟨hk.1, ?_⟩
    simp [Value.ownBlock]
    omega
theorem Own.made (w : World) (hB : B ≤ w.heap.size) : Own E e (w.alloc (.cells #[] e)) B C (.slice (some ⟨w.heap.size, 0, none⟩) 0 0) [] :=
  Own.lit (l := []) (xs := []) .nil rfl (Nat.zero_le _) hB
end

end Go.Pch
end

section
namespace Go.Pch
open Go.RowKit

/-- Cells, some of which are written over. -/
def seg (cur : List Value) (o : Nat) (cs : List Value) : List Value := cur.take o ++ cs ++ cur.drop (o + cs.length)
theorem seg_len {cur cs : List Value} {o : Nat} (h : o + cs.length ≤ cur.length) : (seg cur o cs).length = cur.length := by
  simp [seg]; omega
theorem seg_take {cur : List Value} {o : Nat} (cs : List Value) (h : o ≤ cur.length) : (seg cur o cs).take o = cur.take o := by
  rw [seg, List.append_assoc, List.take_append_of_le_length (by simp; omega), List.take_take, Nat.min_self]
theorem seg_nil (cur : List Value) (o : Nat) : seg cur o [] = cur := by simp [seg]

section
variable {α : Type} {E : Ty α} {e T : TypeId} {P : Program} {w : World}

theorem run_copy_seg (hA : At P E T e) {g o dLen dCap : Nat} {a : Addr} {sLen sCap n : Nat} {cur : List Value} {t : TypeId} {cs : List Value} (hg : w.heap[g]? = some (.cells cur.toArray t)) (hn : Nat.min sLen dLen = n) (hl : cs.length = n * E.size)
    (hsrc : ∀ j v, cs[j]? = some v → w.cell? (a.add j) = some v) (hfit : o + cs.length ≤ cur.length) (h1 : ∀ v ∈ cs, v.oneCell' = true) (ty : TypeId) :
    (Builtin.copy_ #[T, T] ty #[.slice (some ⟨g, o, none⟩) dLen dCap, .slice (some a) sLen sCap]).run P w = .ok (goInt n) (w.setRow g (seg cur o cs).toArray) := by
  obtain ⟨q, z, i1, i2, i3, i4, i5⟩ := hA.info
  have hl' := run_loadCells_list (P := P) w a cs hsrc
  have hst := run_storeCells_at P g o t cs 0 cur.toArray w hg (by simpa using hfit) h1
  simp only [Nat.add_zero] at hst
  simp [Builtin.copy_, run_underlying hA.und, Builtin.lenOf, Builtin.firstCells, sizeOf, typeInfo, i1, i3, hn, ← hl, hl', hst, seg]

theorem run_append_seg (hA : At P E T e) {g i cap m c : Nat} {a : Addr} {cur : List Value} {t : TypeId} {cs : List Value} (hg : w.heap[g]? = some (.cells cur.toArray t)) (hl : cs.length = m * E.size)
    (hsrc : ∀ j v, cs[j]? = some v → w.cell? (a.add j) = some v) (hroom : i + m ≤ cap) (hfit : i * E.size + cs.length ≤ cur.length) (h1 : ∀ v ∈ cs, v.oneCell' = true) (ty : TypeId) :
    (Builtin.append_ #[T, T] ty #[.slice (some ⟨g, 0, none⟩) i cap, .slice (some a) m c]).run P w = .ok (.slice (some ⟨g, 0, none⟩) (i + m) cap) (w.setRow g (seg cur (i * E.size) cs).toArray) := by
  obtain ⟨q, z, i1, i2, i3, i4, i5⟩ := hA.info
  have hl' := run_loadCells_list (P := P) w a cs hsrc
  have hst := run_storeCells_at P g (i * E.size) t cs 0 cur.toArray w hg (by simpa using hfit) h1
  simp only [Nat.add_zero] at hst
  have hadd : (⟨g, 0, none⟩ : Addr).add (i * E.size) = ⟨g, i * E.size, none⟩ := by rw [Addr.add_lit, Nat.zero_add]
  simp [Builtin.append_, run_underlying hA.und, Builtin.lenOf, Builtin.firstCells, sizeOf, typeInfo, i1, i3, hroom, ← hl, hl', hadd, hst, seg]

theorem run_clear_seg (hA : At P E T e) {g o n c : Nat} {cur : List Value} {t : TypeId} (hg : w.heap[g]? = some (.cells cur.toArray t)) (hn : 0 < n) (hfit : o + n * E.size ≤ cur.length)
    (hz : ∃ z, (P.info? e).map (·.zero) = some (some z) ∧ ∀ u ∈ z.cells.toList, u.oneCell' = true) :
    ∃ zs : List Value, zs.length = n * E.size ∧ ∀ ty, (Builtin.clear_ #[T] ty #[.slice (some ⟨g, o, none⟩) n c]).run P w = .ok (.tuple #[]) (w.setRow g (seg cur o zs).toArray) := by
  obtain ⟨q, z, i1, i2, i3, i4, i5⟩ := hA.info
  obtain ⟨z', hz1, hz2⟩ := hz
  rw [i1] at hz1
  simp only [Option.map_some, Option.some.injEq, i2] at hz1
  subst hz1
  have hlen : (Builtin.zeroCells z.cells n).toList.length = n * E.size := by simp [Builtin.zeroCells, i4]
  have hpos := E.pos
  have hone : ∀ u ∈ (Builtin.zeroCells z.cells n).toList, u.oneCell' = true := by
    intro u hu
    simp only [Builtin.zeroCells, Array.toList_map, List.mem_map, Array.toList_range, List.mem_range] at hu
    obtain ⟨i, _, rfl⟩ := hu
    refine hz2 _ ?_
    rw [i4, getElem!_pos z.cells (i % E.size) (by rw [i4]; exact Nat.mod_lt _ hpos)]
    simp
  have hst := run_storeCells_at P g o t (Builtin.zeroCells z.cells n).toList 0 cur.toArray w hg (by rw [hlen]; simpa using hfit) hone
  simp only [Nat.add_zero] at hst
  refine ⟨_, hlen, fun ty => ?_⟩
  obtain ⟨m, rfl⟩ : ∃ m, n = m + 1 := ⟨n - 1, by omega⟩
  simp [Builtin.clear_, run_underlying hA.und, zeroValue, typeInfo, i1, i2, hst, seg]

/-- s[lo:hi:max]: the bounds fit. -/
theorem run_cut3 (hA : At P E T e) (ao : Option Addr) (len cap lo hi mx : Nat) (a b c : Int) (ha : a = lo) (hb : b = hi) (hc : c = mx) (h1 : lo ≤ hi) (h2 : hi ≤ mx) (h3 : mx ≤ cap) :
    ∃ v, ∀ W, Sem.run P (Instr.slice T (.slice ao len cap) (some (.int .i64 a)) (some (.int .i64 b)) (some (.int .i64 c))) W = .ok v W := by
  obtain ⟨q, z, i1, i2, i3, i4, i5⟩ := hA.info
  subst ha hb hc
  have a1 : ¬ hi < lo := by omega
  have a2 : ¬ mx < hi := by omega
  have a3 : ¬ cap < mx := by omega
  exact ⟨_, fun W => by simp [Instr.slice, run_underlying hA.und, Instr.sliceBounds, Instr.sliceBound, asIntOf, sizeOf, typeInfo, i1, i3, h1, h2, h3]; rfl⟩

theorem cutAddr_zero (g o cap s : Nat) : cutAddr (some ⟨g, o, none⟩) cap 0 s = some ⟨g, o, none⟩ := by
  unfold cutAddr
  split
  · rfl
  · simp [Addr.add_lit]
theorem cutAddr_on {g o cap lo s : Nat} (h : cap ≠ lo) : cutAddr (some ⟨g, o, none⟩) cap lo s = some ⟨g, o + lo * s, none⟩ := by
  unfold cutAddr
  rw [if_neg h]
  simp [Addr.add_lit]
/-- A piece's cells. -/
theorem cut_src {g cap lo s : Nat} {cur cs : List Value} {t : TypeId} (hg : w.heap[g]? = some (.cells cur.toArray t)) (hcs : ∀ j v, cs[j]? = some v → cur[lo * s + j]? = some v) (h0 : cap = lo → cs = []) :
    ∃ ad, cutAddr (some ⟨g, 0, none⟩) cap lo s = some ad ∧ ∀ j v, cs[j]? = some v → w.cell? (ad.add j) = some v := by
  by_cases h : cap = lo
  · refine ⟨⟨g, 0, none⟩, by unfold cutAddr; rw [if_pos h], fun j v hj => ?_⟩
    rw [h0 h] at hj
    simp at hj
  · refine ⟨⟨g, lo * s, none⟩, by rw [cutAddr_on h, Nat.zero_add], fun j v hj => ?_⟩
    rw [Addr.add_lit, World.cell?, hg]
    simpa using hcs j v hj

/-! ### Builtins whose run is known, as laws for the walk and for a drawn region -/
theorem wpList_copy_is {ops : Array Oper} {rest : List Oper} {o : Oper} {a : Go.Act} {Q : Exit → Go.Act → World → Prop} (hgd : o.guard = none) (d s : Operand) (t t' : TypeId)
    (ho : o.op = .call { callee := .builtin .copy, args := #[d, s], argTypes := #[t, t'] }) (v u : Value) (hd : a.eval d = v) (hs : a.eval s = u) {v' : Value} {w' : World}
    (hr : (Builtin.copy_ #[t, t'] o.type #[v, u]).run P w = .ok v' w') (h : wpList P ops Q rest (a.put o.dst v') w') : wpList P ops Q (o :: rest) a w :=
  wpList_plain hgd fun _ hK => by
    unfold Oper.wp execOp
    simp only [ho, resolve, invoke, builtin, Sem.run_bind, Sem.run_pure, Result.andThen_ok, List.map_toArray, List.map_cons, List.map_nil, hd, hs, hr]
    exact hK _ _ h
theorem step_copy_is {ops : Array Oper} {o : Oper} {a : Go.Act} {K : Go.Act → World → Prop} {Q : Exit → Go.Act → World → Prop} {X : Prop}
    (hg : o.guard = none) (d x : Operand) (dT sT : TypeId) (hop : o.op = Op.call { callee := Callee.builtin Builtin.copy, args := #[d, x], argTypes := #[dT, sT] })
    (v u : Value) (hd : a.eval d = v) (hx : a.eval x = u) {v' : Value} {w' : World} (hr : (Builtin.copy_ #[dT, sT] o.type #[v, u]).run P w = .ok v' w') (hK : K (a.put o.dst v') w') :
    if Region.wanted o (yielded ops a.tmps) = true then Oper.wp P o a w K Q else X := by
  have hw : Region.wanted o (yielded ops a.tmps) = true := by simp [Region.wanted, hg]
  rw [if_pos hw]
  unfold Oper.wp
  simp [execOp, hop, resolve, invoke, builtin, hd, hx, hr, Result.andThen]
  exact hK
theorem step_append_is {ops : Array Oper} {o : Oper} {a : Go.Act} {K : Go.Act → World → Prop} {Q : Exit → Go.Act → World → Prop} {X : Prop}
    (hg : o.guard = none) (d x : Operand) (dT sT : TypeId) (hop : o.op = Op.call { callee := Callee.builtin Builtin.append, args := #[d, x], argTypes := #[dT, sT] })
    (v u : Value) (hd : a.eval d = v) (hx : a.eval x = u) {v' : Value} {w' : World} (hr : (Builtin.append_ #[dT, sT] o.type #[v, u]).run P w = .ok v' w') (hK : K (a.put o.dst v') w') :
    if Region.wanted o (yielded ops a.tmps) = true then Oper.wp P o a w K Q else X := by
  have hw : Region.wanted o (yielded ops a.tmps) = true := by simp [Region.wanted, hg]
  rw [if_pos hw]
  unfold Oper.wp
  simp [execOp, hop, resolve, invoke, builtin, hd, hx, hr, Result.andThen]
  exact hK
theorem wpList_clear_is {ops : Array Oper} {rest : List Oper} {o : Oper} {a : Go.Act} {Q : Exit → Go.Act → World → Prop} (hgd : o.guard = none) (d : Operand) (t : TypeId)
    (ho : o.op = .call { callee := .builtin .clear, args := #[d], argTypes := #[t] }) (v : Value) (hd : a.eval d = v) {v' : Value} {w' : World}
    (hr : (Builtin.clear_ #[t] o.type #[v]).run P w = .ok v' w') (h : wpList P ops Q rest (a.put o.dst v') w') : wpList P ops Q (o :: rest) a w :=
  wpList_plain hgd fun _ hK => by
    unfold Oper.wp execOp
    simp only [ho, resolve, invoke, builtin, Sem.run_bind, Sem.run_pure, Result.andThen_ok, List.map_toArray, List.map_cons, List.map_nil, hd, hr]
    exact hK _ _ h
end

/-- append, as a law for the walk, at an operation that stands behind a guard. -/
theorem wpList_growG {α : Type} {E : Ty α} {e T : TypeId} {w : World} {B : Nat} {C D : Blk} {v : Value} {l m : List α} {P : Program} {ops : Array Oper} {rest : List Oper} {o : Oper} {a : Go.Act} {Q : Exit → Go.Act → World → Prop} (hw : Region.wanted o (yielded ops a.tmps) = true) (s x : Operand)
    (ho : o.op = .call { callee := .builtin .append, args := #[s, x], argTypes := #[T, T] }) (hA : At P E T e) (hs : a.eval s = v) (h : Own E e w B C v l) {ao : Option Addr} {c n : Nat} (hx : a.eval x = .slice ao n c) (hnm : n = m.length) (hsrc : Src E w D ao m) (hc : ao = none → c = 0)
    (hD : ∀ k, D k → k < w.heap.size → C k ∧ some k ≠ v.ownBlock) (hn : l.length + m.length ≤ 1000000000000) (hB : B ≤ w.heap.size)
    (hK : ∀ v' w', Own E e w' B C v' (l ++ m) → w.grownBy w' v.ownBlock → wpList P ops Q rest (a.put o.dst v') w') : wpList P ops Q (o :: rest) a w := by
  refine wpList_step fun K hK' => ?_
  rw [if_pos hw]
  subst hnm
  obtain ⟨v', w', hrun, h1, h2, _⟩ := h.run hA hsrc hc o.type hD hn hB
  unfold Oper.wp
  simp [execOp, ho, resolve, invoke, builtin, hs, hx, hrun, Result.andThen]
  exact hK' _ _ (hK v' w' h1 h2)

/-! ### What is grown, as cells -/
section
variable {α : Type} {E : Ty α} {e T : TypeId} {P : Program} {w w' : World} {B : Nat} {C : Blk} {v : Value} {l : List α}

theorem Own.cells (h : Own E e w B C v l) (hl : 0 < l.length) : ∃ g cap cur xs, v = .slice (some ⟨g, 0, none⟩) l.length cap ∧ B ≤ g ∧ g < w.heap.size ∧ w.heap[g]? = some (.cells (cur : List Value).toArray e) ∧ l.length ≤ cap ∧ cap ≤ maxLen ∧ cur.length = cap * E.size ∧
    cur.take (l.length * E.size) = xs.flatten ∧ Each E w (fun k => C k ∧ k ≠ g) xs l := by
  obtain ⟨xs, hr, hE⟩ := h
  rcases hr.2 with ⟨rfl, h0⟩ | ⟨g, cap, cur, rfl, hb, hg, h1, h2, h3, h4⟩
  · omega
  · refine ⟨g, cap, cur.toList, xs, rfl, hb, (Array.getElem?_eq_some_iff.1 hg).1, by simpa using hg, h1, h2, by simpa using h3, h4, ?_⟩
    exact hE.mono fun k hk _ => ⟨hk.1, fun e => hk.2 (by rw [e]; rfl)⟩
theorem Own.of_cells {g cap : Nat} {cur : List Value} {xs : List (List Value)} (hb : B ≤ g) (hg : w.heap[g]? = some (.cells cur.toArray e)) (h1 : l.length ≤ cap) (h2 : cap ≤ maxLen) (h3 : cur.length = cap * E.size)
    (h4 : cur.take (l.length * E.size) = xs.flatten) (hE : Each E w (fun k => C k ∧ k ≠ g) xs l) : Own E e w B C (.slice (some ⟨g, 0, none⟩) l.length cap) l := by
  refine ⟨xs, ⟨hE.flatLen, .inr ⟨g, cap, cur.toArray, rfl, hb, hg, h1, h2, by simpa using h3, by simpa using h4⟩⟩, hE.mono fun k hk _ => ⟨hk.1, ?_⟩⟩
  intro e
  exact hk.2 (Option.some.inj e)

theorem Each.take {xs : List (List Value)} {D : Blk} (h : Each E w D xs l) (n : Nat) : Each E w D (xs.take n) (l.take n) := by
  refine ⟨by simp [h.1], fun i cs a hc ha => ?_⟩
  rw [List.getElem?_take] at hc ha
  split at hc
  · rename_i hi
    rw [if_pos hi] at ha
    exact h.2 i cs a hc ha
  · cases hc
theorem Each.drop {xs : List (List Value)} {D : Blk} (h : Each E w D xs l) (n : Nat) : Each E w D (xs.drop n) (l.drop n) := by
  refine ⟨by simp [h.1], fun i cs a hc ha => ?_⟩
  rw [List.getElem?_drop] at hc ha
  exact h.2 _ cs a hc ha

theorem setRow_size (w : World) (g : Nat) (cs : Array Value) : (w.setRow g cs).heap.size = w.heap.size := by simp [World.setRow]
theorem setRow_grown (w : World) (g : Nat) (cs : Array Value) : w.grownBy (w.setRow g cs) (some g) := ⟨rfl, rfl, rfl, by rw [setRow_size]; exact Nat.le_refl _, fun k _ hk => setRow_other w g k cs (fun e => hk (by rw [e]))⟩
end

end Go.Pch
end
