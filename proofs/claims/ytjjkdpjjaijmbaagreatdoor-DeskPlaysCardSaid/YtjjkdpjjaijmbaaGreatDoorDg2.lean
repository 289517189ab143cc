/- Slices that the call itself grows: what append leaves, said of lists; no program is named here. Pairs of values; commits; the types of chapter 8. The walks of package rows. -/
import Derived.Test.YtjjkdpjjaijmbaaGreatDoorDg1
import Derived.Laws.MakeOwn
import Derived.Test.YtjjkdpjjaijmbaaGreatDoorChecked
section
namespace Go.Pch
open Go.RowKit
section
variable {β : Type}
theorem flatten_get {sz : Nat} (hz : 0 < sz) : ∀ (xs : List (List β)), (∀ c ∈ xs, c.length = sz) → ∀ j, xs.flatten[j]? = (xs[j / sz]?).bind (·[j % sz]?)
  | [], _, j => by simp
  | x :: xs, h, j => by
    have hx : x.length = sz := h x (by simp)
    have ih := flatten_get hz xs (fun c hc => h c (by simp [hc]))
    rw [List.flatten_cons]
    by_cases hj : j < sz
    · rw [List.getElem?_append_left (by omega), Nat.div_eq_of_lt hj, Nat.mod_eq_of_lt hj]
      simp
    · rw [List.getElem?_append_right (by omega), hx, ih]
      have e1 : j / sz = (j - sz) / sz + 1 := by
        conv => lhs; rw [show j = j - sz + sz by omega, Nat.add_div_right _ hz]
      have e2 : j % sz = (j - sz) % sz := by
        conv => lhs; rw [show j = j - sz + sz by omega, Nat.add_mod_right]
      rw [e1, e2, List.getElem?_cons_succ]
theorem flatten_len {sz : Nat} : ∀ (xs : List (List β)), (∀ c ∈ xs, c.length = sz) → xs.flatten.length = xs.length * sz
  | [], _ => by simp
  | x :: xs, h => by
    rw [List.flatten_cons, List.length_append, h x (by simp), flatten_len xs (fun c hc => h c (by simp [hc])), List.length_cons, Nat.add_mul]
    omega
theorem exists_list {α : Type} {Q : Nat → β → α → Prop} : ∀ (m : List α), (∀ i a, m[i]? = some a → ∃ c, Q i c a) → ∃ xs : List β, xs.length = m.length ∧ ∀ i c a, xs[i]? = some c → m[i]? = some a → Q i c a := by
  intro m
  induction m generalizing Q with
  | nil => intro _; exact ⟨[], rfl, by simp⟩
  | cons x m ih =>
    intro h
    obtain ⟨c, hc⟩ := h 0 x rfl
    obtain ⟨xs, h1, h2⟩ := ih (Q := fun i c a => Q (i + 1) c a) (fun i a hi => h (i + 1) a hi)
    refine ⟨c :: xs, by simp [h1], fun i c' a hc' ha => ?_⟩
    cases i with
    | zero => simp at hc' ha; subst hc'; subst ha; exact hc
    | succ i => exact h2 i c' a hc' ha
end
def Each {α : Type} (E : Ty α) (w : World) (D : Blk) (xs : List (List Value)) (l : List α) : Prop :=
  xs.length = l.length ∧ ∀ (i : Nat) (cs : List Value) (a : α), xs[i]? = some cs → l[i]? = some a → E.rd w D cs a
section
variable {α : Type} {E : Ty α} {w w' : World} {C D : Blk} {xs ys : List (List Value)} {l m : List α}
theorem Each.lens (h : Each E w D xs l) : ∀ c ∈ xs, c.length = E.size := by
  intro c hc
  obtain ⟨i, hi, rfl⟩ := List.mem_iff_getElem.1 hc
  have := h.1
  exact E.len (h.2 i _ l[i] (List.getElem?_eq_getElem hi) (List.getElem?_eq_getElem (by omega)))
theorem Each.ones (h : Each E w D xs l) : ∀ u ∈ xs.flatten, u.oneCell' = true := by
  intro u hu
  obtain ⟨c, hc, hu⟩ := List.mem_flatten.1 hu
  obtain ⟨i, hi, rfl⟩ := List.mem_iff_getElem.1 hc
  have := h.1
  exact E.one (h.2 i _ l[i] (List.getElem?_eq_getElem hi) (List.getElem?_eq_getElem (by omega))) u hu
theorem Each.flatLen (h : Each E w D xs l) : xs.flatten.length = l.length * E.size := by rw [flatten_len xs h.lens, h.1]
theorem Each.nil : Each E w D [] [] := ⟨rfl, by simp⟩
theorem Each.app (h : Each E w D xs l) (g : Each E w D ys m) : Each E w D (xs ++ ys) (l ++ m) := by
  refine ⟨by simp [h.1, g.1], fun i cs a hc ha => ?_⟩
  have := h.1
  by_cases hi : i < xs.length
  · rw [List.getElem?_append_left hi] at hc
    rw [List.getElem?_append_left (by omega)] at ha
    exact h.2 i cs a hc ha
  · rw [List.getElem?_append_right (by omega)] at hc
    rw [List.getElem?_append_right (by omega)] at ha
    exact g.2 _ cs a hc (by rwa [this])
theorem Each.keep (h : Each E w D xs l) (hk : ∀ k, D k → k < w.heap.size → w'.heap[k]? = w.heap[k]?) : Each E w' D xs l := ⟨h.1, fun i cs a hc ha => E.keep (h.2 i cs a hc ha) hk⟩
theorem Each.mono (h : Each E w D xs l) (hk : ∀ k, D k → k < w.heap.size → C k) : Each E w C xs l := ⟨h.1, fun i cs a hc ha => E.mono (h.2 i cs a hc ha) hk⟩
theorem Each.one (cs : List Value) (a : α) (h : E.rd w D cs a) : Each E w D [cs] [a] := by
  refine ⟨rfl, fun i c b hc hb => ?_⟩
  cases i with
  | zero => simp at hc hb; subst hc; subst hb; exact h
  | succ i => simp at hc
end
def Src {α : Type} (E : Ty α) (w : World) (D : Blk) (ao : Option Addr) (m : List α) : Prop :=
  ∃ xs, Each E w D xs m ∧ (ao = none → m = []) ∧ ∀ ad, ao = some ad → ∀ j u, xs.flatten[j]? = some u → w.cell? (ad.add j) = some u
theorem Sl.src {α : Type} {E : Ty α} {w : World} {S : Blk} {ao : Option Addr} {len cap : Nat} {m : List α} (h : Sl E w S (.slice ao len cap) m) : Src E w S ao m := by
  obtain ⟨ao', len', cap', hv, h1, h2, h3, h4, h5⟩ := h
  simp at hv
  obtain ⟨rfl, rfl, rfl⟩ := hv
  have h5' : ∀ i a, m[i]? = some a → ∃ cs, (E.rd w S cs a ∧ ∃ b o, ao = some ⟨b, o, none⟩ ∧ S b ∧ ∀ j u, cs[j]? = some u → w.cell? ⟨b, o + i * E.size + j, none⟩ = some u) := by
    intro i a hi
    obtain ⟨b, o, hb, hS, cs, hrd, hc⟩ := h5 i a hi
    exact ⟨cs, hrd, b, o, hb, hS, fun j u hj => (hc j u hj).1⟩
  obtain ⟨xs, hl, hx⟩ := exists_list m h5'
  have hE : Each E w S xs m := ⟨hl, fun i cs a hc ha => (hx i cs a hc ha).1⟩
  refine ⟨xs, hE, ?_, ?_⟩
  · intro hn
    have := h4 hn
    exact List.eq_nil_of_length_eq_zero (by omega)
  · intro ad had j u hj
    rw [flatten_get E.pos xs hE.lens] at hj
    obtain ⟨cs, hcs, hu⟩ := Option.bind_eq_some_iff.1 hj
    have hi : j / E.size < m.length := by
      have := (List.getElem?_eq_some_iff.1 hcs).1
      omega
    obtain ⟨_, b, o, hb, _, hc⟩ := hx _ cs m[j / E.size] hcs (List.getElem?_eq_getElem hi)
    rw [hb] at had
    obtain rfl := Option.some.inj had
    have := hc _ u hu
    rw [Addr.add_lit]
    rwa [Nat.add_assoc, Nat.mul_comm, Nat.div_add_mod] at this
theorem Src.row {w : World} {D D' : Blk} {ao : Option Addr} {m : List Row} (h : Src tRow w D ao m) : Src tRow w D' ao m := by
  obtain ⟨xs, h1, h2, h3⟩ := h
  exact ⟨xs, ⟨h1.1, h1.2⟩, h2, h3⟩
def Own {α : Type} (E : Ty α) (e : TypeId) (w : World) (B : Nat) (C : Blk) (v : Value) (l : List α) : Prop :=
  ∃ xs, w.ownsRow B e E.size v l.length xs.flatten ∧ Each E w (fun k => C k ∧ some k ≠ v.ownBlock) xs l
section
variable {α : Type} {E : Ty α} {e T : TypeId} {w w' : World} {B : Nat} {C D : Blk} {v v' : Value} {l m : List α} {P : Program}
theorem Own.nil : Own E e w B C (.slice none 0 0) [] := ⟨[], World.ownsRow_nil _ _ _ _, .nil⟩
theorem Own.shape (h : Own E e w B C v l) : ∃ ao cap, v = .slice ao l.length cap ∧ l.length ≤ cap ∧ cap ≤ maxLen := by
  obtain ⟨xs, hr, _⟩ := h
  rcases hr.2 with ⟨rfl, h0⟩ | ⟨g, cap, cur, rfl, _, _, h1, h2, _⟩
  · exact ⟨none, 0, by rw [h0], by omega, Nat.zero_le _⟩
  · exact ⟨_, cap, rfl, h1, h2⟩
theorem Own.block (h : Own E e w B C v l) : ∀ g, v.ownBlock = some g → B ≤ g ∧ g < w.heap.size := by
  obtain ⟨xs, hr, _⟩ := h
  exact hr.lt
theorem Own.sl (h : Own E e w B C v l) (hC : ∀ k, C k → D k) (hB : ∀ k, B ≤ k → D k) : Sl E w D v l := by
  obtain ⟨xs, hr, hE⟩ := h
  rcases hr.2 with ⟨rfl, h0⟩ | ⟨g, cap, cur, rfl, hb, hg, h1, h2, h3, h4⟩
  · obtain rfl := List.eq_nil_of_length_eq_zero h0
    exact Sl.nil E w D
  · refine ⟨_, _, cap, rfl, rfl, h1, h2, by simp, fun i a hi => ⟨g, 0, rfl, hB g hb, ?_⟩⟩
    have hlt := (List.getElem?_eq_some_iff.1 hi).1
    have hlx : i < xs.length := by have := hE.1; omega
    refine ⟨xs[i], E.mono (hE.2 i _ a (List.getElem?_eq_getElem hlx) hi) (fun k hk _ => hC k hk.1), fun j u hj => ?_⟩
    have hcells := hr.cells (g := g) rfl
    have hj' := (List.getElem?_eq_some_iff.1 hj).1
    have hsz := hE.lens xs[i] (List.getElem_mem hlx)
    have := hcells (i * E.size + j) u (by
      rw [flatten_get E.pos xs hE.lens]
      have e1 : (i * E.size + j) / E.size = i := by
        rw [Nat.mul_comm, Nat.mul_add_div E.pos, Nat.div_eq_of_lt (by omega)]; rfl
      have e2 : (i * E.size + j) % E.size = j := by
        rw [Nat.mul_comm, Nat.mul_add_mod, Nat.mod_eq_of_lt (by omega)]
      rw [e1, e2, List.getElem?_eq_getElem hlx]
      exact hj)
    rw [Addr.add_lit, ← Nat.add_assoc] at this
    exact ⟨this, frozen_of_row w g _ cur _ hg⟩
theorem Own.keep (h : Own E e w B C v l) (hk : ∀ k, (C k ∨ v.ownBlock = some k) → k < w.heap.size → w'.heap[k]? = w.heap[k]?) : Own E e w' B C v l := by
  obtain ⟨xs, hr, hE⟩ := h
  refine ⟨xs, ⟨hr.1, ?_⟩, hE.keep fun k hk' hlt => hk k (.inl hk'.1) hlt⟩
  rcases hr.2 with hn | ⟨g, cap, cur, rfl, hb, hg, rest⟩
  · exact .inl hn
  · exact .inr ⟨g, cap, cur, rfl, hb, (hk g (.inr rfl) (Array.getElem?_eq_some_iff.1 hg).1).trans hg, rest⟩
theorem Own.call (h : Own E e w B C v l) (hb : Below w.heap.size w w') : Own E e w' B C v l := h.keep fun k _ hk => hb.block k hk
theorem Own.alloc (h : Own E e w B C v l) (o : Obj) : Own E e (w.alloc o) B C v l := h.call ((Below.refl _ _).alloc (Nat.le_refl _) _)
theorem Own.mono (h : Own E e w B C v l) (hC : ∀ k, C k → k < w.heap.size → D k) : Own E e w B D v l := by
  obtain ⟨xs, hr, hE⟩ := h
  exact ⟨xs, hr, hE.mono fun k hk hlt => ⟨hC k hk.1 hlt, hk.2⟩⟩
theorem Own.run (hA : At P E T e) (h : Own E e w B C v l) {ao : Option Addr} {c : Nat} (hs : Src E w D ao m) (hc : ao = none → c = 0) (ty : TypeId) (hD : ∀ k, D k → k < w.heap.size → C k ∧ some k ≠ v.ownBlock)
    (hn : l.length + m.length ≤ 1000000000000) (hB : B ≤ w.heap.size) :
    ∃ v' w', (Builtin.append_ #[T, T] ty #[v, .slice ao m.length c]).run P w = .ok v' w' ∧ Own E e w' B C v' (l ++ m) ∧ w.grownBy w' v.ownBlock ∧ (v'.ownBlock = v.ownBlock ∨ v'.ownBlock = some w.heap.size) := by
  obtain ⟨q, z, i1, i2, i3, i4, i5⟩ := hA.info
  obtain ⟨xs, hr, hE⟩ := h
  obtain ⟨ys, hY, hnone, hcells⟩ := hs
  cases ao with
  | none =>
    obtain rfl := hnone rfl
    obtain rfl := hc rfl
    refine ⟨v, w, run_append_owned_none w B T ty e q E.size hA.und i1 v _ _ hr, ?_, World.grownBy.refl _ _, .inl rfl⟩
    simp only [List.append_nil]
    exact ⟨xs, hr, hE⟩
  | some ad =>
    have hnews := hcells ad rfl
    have h63 : l.length + m.length ≤ maxLen := by unfold maxLen; omega
    have hbytes : (l.length + m.length) * q.bytes ≤ 140737488355328 := Nat.le_trans (Nat.mul_le_mul hn i5) (by decide)
    obtain ⟨v', w', hrun, hown, hgrow, hnil⟩ := run_append_own w B T ty e q z E.size q.bytes hA.und i1 i2 i3 rfl i4 E.pos v l.length xs.flatten hr ad m.length c ys.flatten hY.flatLen hnews hY.ones h63 hbytes hB
    have hblk : v'.ownBlock = v.ownBlock ∨ v'.ownBlock = some w.heap.size ∨ (v'.ownBlock = none) := by
      rcases hr.2 with ⟨rfl, h0⟩ | ⟨g, cap, cur, rfl, hb, hg, h1, h2, h3, h4⟩
      · obtain rfl := List.eq_nil_of_length_eq_zero h0
        by_cases hm : m.length = 0
        · obtain rfl := hnil.2 ⟨rfl, hm⟩
          exact .inl rfl
        · have hx0 : xs = [] := List.eq_nil_of_length_eq_zero (by have := hE.1; simpa using this)
          have hr2 := run_append_nil (P := P) w T ty e q z hA.und i1 i2 ad m.length c ys.flatten (by rw [hY.flatLen, i3]) hnews (by omega) (by unfold maxLen at h63; omega) (by simp only [List.length_nil, Nat.zero_add] at hbytes; omega)
          rw [hrun] at hr2
          simp only [Result.ok.injEq] at hr2
          rw [hr2.1]
          exact .inr (.inl rfl)
      · by_cases hroom : l.length + m.length ≤ cap
        · obtain ⟨w2, hr2, _⟩ := run_append_fits (P := P) w B T ty e q E.size hA.und i1 i3 g l.length cap xs.flatten hr ad m.length c ys.flatten hY.flatLen hnews hY.ones hroom
          rw [hrun] at hr2
          simp only [Result.ok.injEq] at hr2
          rw [hr2.1]
          exact .inl rfl
        · have holds := hr.cells (g := g) rfl
          have hr2 := run_append_grow (P := P) w T ty e q z hA.und i1 i2 ⟨g, 0, none⟩ l.length cap xs.flatten (by rw [hr.1, i3]) holds ad m.length c ys.flatten (by rw [hY.flatLen, i3]) hnews (by omega) (by unfold maxLen at h63; omega) (growslice_fits (by omega) hbytes)
          rw [hrun] at hr2
          simp only [Result.ok.injEq] at hr2
          rw [hr2.1]
          exact .inr (.inl rfl)
    have hblk' : v'.ownBlock = v.ownBlock ∨ v'.ownBlock = some w.heap.size := by
      rcases hblk with h | h | h
      · exact .inl h
      · exact .inr h
      · cases hv : v.ownBlock with
        | none => exact .inl h
        | some g =>
          exfalso
          rcases hown.2 with ⟨rfl, h0⟩ | ⟨g', cap', cur', rfl, _⟩
          · have := (hnil.1 rfl).1
            subst this
            simp [Value.ownBlock] at hv
          · simp [Value.ownBlock] at h
    refine ⟨v', w', hrun, ⟨xs ++ ys, by simpa using hown, ?_⟩, hgrow, hblk'⟩
    have hE' : Each E w (fun k => (C k ∧ some k ≠ v.ownBlock) ∧ k < w.heap.size) (xs ++ ys) (l ++ m) := (hE.mono fun k hk hlt => ⟨hk, hlt⟩).app (hY.mono fun k hk hlt => ⟨hD k hk hlt, hlt⟩)
    refine (hE'.keep fun k hk hlt => hgrow.block k hlt hk.1.2).mono fun k hk _ => ⟨hk.1.1, ?_⟩
    rcases hblk' with h | h
    · rw [h]; exact hk.1.2
    · rw [h]
      intro e
      have := Option.some.inj e
      omega
theorem wpList_grow {ops : Array Oper} {rest : List Oper} {o : Oper} {a : Act} {Q : Exit → Act → World → Prop} (hgd : o.guard = none) (s x : Operand)
    (ho : o.op = .call { callee := .builtin .append, args := #[s, x], argTypes := #[T, T] }) (hA : At P E T e) (hs : a.eval s = v) (h : Own E e w B C v l) {ao : Option Addr} {c n : Nat} (hx : a.eval x = .slice ao n c) (hnm : n = m.length) (hsrc : Src E w D ao m) (hc : ao = none → c = 0)
    (hD : ∀ k, D k → k < w.heap.size → C k ∧ some k ≠ v.ownBlock) (hn : l.length + m.length ≤ 1000000000000) (hB : B ≤ w.heap.size)
    (hK : ∀ v' w', Own E e w' B C v' (l ++ m) → w.grownBy w' v.ownBlock → wpList P ops Q rest (a.put o.dst v') w') : wpList P ops Q (o :: rest) a w := by
  refine wpList_plain hgd fun K hK' => ?_
  subst hnm
  obtain ⟨v', w', hrun, h1, h2, _⟩ := h.run hA hsrc hc o.type hD hn hB
  unfold Oper.wp
  simp [execOp, ho, resolve, invoke, builtin, hs, hx, hrun, Result.andThen]
  exact hK' _ _ (hK v' w' h1 h2)
end
section
variable {α : Type} {E : Ty α} {e T : TypeId} {w w' : World} {B : Nat} {S C D : Blk} {v v' : Value} {l m : List α} {P : Program}
theorem Sl.idxSl {ll : List (List α)} (h : Sl E.slice w S v ll) (hA : At P E.slice T e) (n : Int) (i : Nat) (hn : n = (i : Int)) (hi : i < ll.length) :
    ∃ b o ao cap, (∀ W, Sem.run P (Instr.indexAt T v (.int .i64 n)) W = .ok (.pointer (some ⟨b, o, none⟩)) W) ∧ S b ∧ b < w.heap.size ∧ Sl E w S (.slice ao ll[i].length cap) ll[i] ∧ ll[i].length ≤ cap ∧ cap ≤ maxLen ∧
      w.cell? ⟨b, o, none⟩ = some (.slice ao ll[i].length cap) := by
  obtain ⟨b, o, cs, h1, h2, h3, h4, h5⟩ := h.idx hA n i hn hi
  obtain ⟨ao, len, cap, rfl, g1, g2, g3, _⟩ := id h4
  subst g1
  exact ⟨b, o, ao, cap, h1, h2, h3, h4, g2, g3, by simpa using h5 0 _ rfl⟩
theorem Sl.shapeAt (h : Sl E w S v l) (n : Nat) (hn : l.length = n) : ∃ ao cap, v = .slice ao n cap ∧ n ≤ cap ∧ cap ≤ maxLen ∧ (ao = none → cap = 0) := by
  subst hn; exact h.shape
theorem Sl.idxSlAt {ll : List (List α)} (h : Sl E.slice w S v ll) (hA : At P E.slice T e) (n : Int) (i : Nat) (x : List α) (m : Nat) (hn : n = (i : Int)) (hx : ll[i]? = some x) (hm : x.length = m) :
    ∃ b o ao cap, (∀ W, Sem.run P (Instr.indexAt T v (.int .i64 n)) W = .ok (.pointer (some ⟨b, o, none⟩)) W) ∧ S b ∧ b < w.heap.size ∧ Sl E w S (.slice ao m cap) x ∧ m ≤ cap ∧ cap ≤ maxLen ∧
      w.cell? ⟨b, o, none⟩ = some (.slice ao m cap) := by
  obtain ⟨hi, rfl⟩ := List.getElem?_eq_some_iff.1 hx
  subst hm
  exact h.idxSl hA n i hn hi
def cutAddr (ao : Option Addr) (cap lo s : Nat) : Option Addr := if cap = lo then ao else ao.map (·.add (lo * s))
theorem Sl.piece {ao : Option Addr} {len cap : Nat} (h : Sl E w S (.slice ao len cap) l) (lo n : Nat) (hn : lo + n ≤ l.length) :
    Sl E w S (.slice (cutAddr ao cap lo E.size) n (cap - lo)) ((l.drop lo).take n) := by
  obtain ⟨ao', len', cap', hv, h1, h2, h3, h4, h5⟩ := h
  simp at hv
  obtain ⟨rfl, rfl, rfl⟩ := hv
  refine ⟨_, n, _, rfl, by simp; omega, by omega, by omega, ?_, fun i a hi => ?_⟩
  · intro hz
    unfold cutAddr at hz
    split at hz
    · omega
    · have := h4 (by simpa using hz)
      omega
  · have hlt := (List.getElem?_eq_some_iff.1 hi).1
    simp at hlt
    rw [List.getElem?_take, if_pos (by omega), List.getElem?_drop] at hi
    obtain ⟨b, o, hb, hS, cs, hrd, hc⟩ := h5 (lo + i) a hi
    refine ⟨b, o + lo * E.size, ?_, hS, cs, hrd, fun j u hj => ?_⟩
    · rw [cutAddr, if_neg (by omega), hb]
      simp [Addr.add_lit]
    · have := hc j u hj
      rwa [Nat.add_mul, ← Nat.add_assoc o] at this
theorem run_cut (hA : At P E T e) (ao : Option Addr) (len cap lo hi : Nat) (a b : Int) (ha : a = lo) (hb : b = hi) (h1 : lo ≤ hi) (h2 : hi ≤ cap) (W : World) :
    Sem.run P (Instr.slice T (.slice ao len cap) (some (.int .i64 a)) (some (.int .i64 b)) none) W = .ok (.slice (cutAddr ao cap lo E.size) (hi - lo) (cap - lo)) W := by
  obtain ⟨q, z, i1, i2, i3, i4, i5⟩ := hA.info
  subst ha hb
  have a1 : ¬ hi < lo := by omega
  have a2 : ¬ cap < hi := by omega
  simp [Instr.slice, run_underlying hA.und, Instr.sliceBounds, Instr.sliceBound, asIntOf, sizeOf, typeInfo, i1, i3, h1, h2, cutAddr]
theorem run_cutTo (hA : At P E T e) (ao : Option Addr) (len cap hi : Nat) (b : Int) (hb : b = hi) (h2 : hi ≤ cap) (W : World) :
    Sem.run P (Instr.slice T (.slice ao len cap) none (some (.int .i64 b)) none) W = .ok (.slice (cutAddr ao cap 0 E.size) hi cap) W := by
  obtain ⟨q, z, i1, i2, i3, i4, i5⟩ := hA.info
  subst hb
  simp [Instr.slice, run_underlying hA.und, Instr.sliceBounds, Instr.sliceBound, asIntOf, sizeOf, typeInfo, i1, h2, cutAddr]
theorem run_cutFrom (hA : At P E T e) (ao : Option Addr) (len cap lo : Nat) (a : Int) (ha : a = lo) (h1 : lo ≤ len) (W : World) :
    Sem.run P (Instr.slice T (.slice ao len cap) (some (.int .i64 a)) none none) W = .ok (.slice (cutAddr ao cap lo E.size) (len - lo) (cap - lo)) W := by
  obtain ⟨q, z, i1, i2, i3, i4, i5⟩ := hA.info
  subst ha
  simp [Instr.slice, run_underlying hA.und, Instr.sliceBounds, Instr.sliceBound, asIntOf, sizeOf, typeInfo, i1, i3, h1, cutAddr]
theorem run_at (hA : At P E T e) (x : Value) (lo hi mx : Option Value) (W : World) : Sem.run P (Instr.sliceAt T x lo hi mx) W = Sem.run P (Instr.slice T x lo hi mx) W := by
  simp [Instr.sliceAt, run_underlying hA.und]
theorem Sl.cut (h : Sl E w S v l) (hA : At P E T e) (a b : Int) (lo hi : Nat) (ha : a = lo) (hb : b = hi) (h1 : lo ≤ hi) (h2 : hi ≤ l.length) :
    ∃ ao cap, (∀ W, Sem.run P (Instr.sliceAt T v (some (.int .i64 a)) (some (.int .i64 b)) none) W = .ok (.slice ao (hi - lo) cap) W) ∧
      (∀ W, Sem.run P (Instr.slice T v (some (.int .i64 a)) (some (.int .i64 b)) none) W = .ok (.slice ao (hi - lo) cap) W) ∧ Sl E w S (.slice ao (hi - lo) cap) ((l.drop lo).take (hi - lo)) ∧ (ao = none → cap = 0) := by
  obtain ⟨ao, cap, rfl, hcap, hmax, hnil⟩ := h.shape
  have hp := h.piece lo (hi - lo) (by omega)
  obtain ⟨ao', cap', hv, _, _, hn⟩ := hp.shape
  simp at hv
  refine ⟨_, _, fun W => (run_at hA _ _ _ _ W).trans (run_cut hA _ _ _ lo hi a b ha hb h1 (by omega) W), fun W => run_cut hA _ _ _ lo hi a b ha hb h1 (by omega) W, hp, ?_⟩
  rw [hv.1, hv.2.2]
  exact hn
theorem Sl.cutTo (h : Sl E w S v l) (hA : At P E T e) (b : Int) (hi : Nat) (hb : b = hi) (h2 : hi ≤ l.length) :
    ∃ ao cap, (∀ W, Sem.run P (Instr.sliceAt T v none (some (.int .i64 b)) none) W = .ok (.slice ao hi cap) W) ∧
      (∀ W, Sem.run P (Instr.slice T v none (some (.int .i64 b)) none) W = .ok (.slice ao hi cap) W) ∧ Sl E w S (.slice ao hi cap) (l.take hi) ∧ (ao = none → cap = 0) := by
  obtain ⟨ao, cap, rfl, hcap, hmax, hnil⟩ := h.shape
  have hp := h.piece 0 hi (by omega)
  simp only [List.drop_zero, Nat.sub_zero] at hp
  obtain ⟨ao', cap', hv, _, _, hn⟩ := hp.shape
  simp at hv
  refine ⟨_, _, fun W => (run_at hA _ _ _ _ W).trans (run_cutTo hA _ _ _ hi b hb (by omega) W), fun W => run_cutTo hA _ _ _ hi b hb (by omega) W, hp, ?_⟩
  rw [hv.1, hv.2.2]
  exact hn
theorem Sl.cutFrom (h : Sl E w S v l) (hA : At P E T e) (a : Int) (lo : Nat) (ha : a = lo) (h2 : lo ≤ l.length) :
    ∃ ao cap, (∀ W, Sem.run P (Instr.sliceAt T v (some (.int .i64 a)) none none) W = .ok (.slice ao (l.length - lo) cap) W) ∧
      (∀ W, Sem.run P (Instr.slice T v (some (.int .i64 a)) none none) W = .ok (.slice ao (l.length - lo) cap) W) ∧ Sl E w S (.slice ao (l.length - lo) cap) (l.drop lo) ∧ (ao = none → cap = 0) := by
  obtain ⟨ao, cap, rfl, hcap, hmax, hnil⟩ := h.shape
  have hp := h.piece lo (l.length - lo) (by omega)
  rw [List.take_of_length_le (by simp)] at hp
  obtain ⟨ao', cap', hv, _, _, hn⟩ := hp.shape
  simp at hv
  refine ⟨_, _, fun W => (run_at hA _ _ _ _ W).trans (run_cutFrom hA _ _ _ lo a ha (by omega) W), fun W => run_cutFrom hA _ _ _ lo a ha (by omega) W, hp, ?_⟩
  rw [hv.1, hv.2]
  exact hn
theorem Src.lit {cs : List Value} {xs : List (List Value)} (h : Each E w D xs l) (hcs : cs = xs.flatten) (t : TypeId) : Src E (w.alloc (.cells cs.toArray t)) D (some ⟨w.heap.size, 0, none⟩) l := by
  subst hcs
  refine ⟨xs, h.keep fun k _ hk => Below.heap_alloc w _ k hk, by simp, fun ad had j u hj => ?_⟩
  obtain rfl := Option.some.inj had
  rw [Addr.add_lit, Nat.zero_add, World.cell?_alloc_new]
  simpa using hj
theorem Src.one {cs : List Value} {a : α} (h : E.rd w D cs a) (t : TypeId) : Src E (w.alloc (.cells cs.toArray t)) D (some ⟨w.heap.size, 0, none⟩) [a] :=
  Src.lit (Each.one cs a h) (by simp) t
theorem Own.lit {cs : List Value} {xs : List (List Value)} (h : Each E w C xs l) (hcs : cs = xs.flatten) (hl : l.length ≤ maxLen) (hB : B ≤ w.heap.size) : Own E e (w.alloc (.cells cs.toArray e)) B C (.slice (some ⟨w.heap.size, 0, none⟩) l.length l.length) l := by
  subst hcs
  refine ⟨xs, ⟨h.flatLen, .inr ⟨w.heap.size, l.length, _, rfl, hB, heap_alloc_new w _, Nat.le_refl _, hl, ?_, ?_⟩⟩, ?_⟩
  · simp [h.flatLen]
  · rw [← h.flatLen]; exact List.take_length
  · refine ((h.mono (C := fun k => C k ∧ k < w.heap.size) fun k hk hlt => ⟨hk, hlt⟩).keep fun k _ hk => Below.heap_alloc w _ k hk).mono fun k hk _ => ⟨hk.1, ?_⟩
    simp [Value.ownBlock]
    omega
theorem Own.made (w : World) (hB : B ≤ w.heap.size) : Own E e (w.alloc (.cells #[] e)) B C (.slice (some ⟨w.heap.size, 0, none⟩) 0 0) [] :=
  Own.lit (l := []) (xs := []) .nil rfl (Nat.zero_le _) hB
end
end Go.Pch
end

section
namespace Go.Pch
open Go.RowKit
def Ty.pair {α β : Type} (E : Ty α) (F : Ty β) : Ty (α × β) where
  size := E.size + F.size
  pos := by have := E.pos; omega
  rd w S cs a := ∃ x y, cs = x ++ y ∧ E.rd w S x a.1 ∧ F.rd w S y a.2
  len := by rintro _ _ _ a ⟨x, y, rfl, h1, h2⟩; rw [List.length_append, E.len h1, F.len h2]
  one := by
    rintro _ _ _ a ⟨x, y, rfl, h1, h2⟩ u hu
    rcases List.mem_append.1 hu with hu | hu
    · exact E.one h1 u hu
    · exact F.one h2 u hu
  keep := by rintro _ _ _ _ a ⟨x, y, rfl, h1, h2⟩ hk; exact ⟨x, y, rfl, E.keep h1 hk, F.keep h2 hk⟩
  mono := by rintro _ _ _ _ a ⟨x, y, rfl, h1, h2⟩ hk; exact ⟨x, y, rfl, E.mono h1 hk, F.mono h2 hk⟩
def tCommit : Ty Commit := tRow.slice.pair tInt.slice
section
variable {w : World} {S : Blk} {v : Value} {P : Program} {T e : TypeId}
theorem rd_slice {α : Type} {E : Ty α} {cs : List Value} {l : List α} (h : E.slice.rd w S cs l) : ∃ x, cs = [x] ∧ Sl E w S x l := by
  obtain ⟨ao, len, cap, rfl, h'⟩ := h
  exact ⟨_, rfl, ao, len, cap, rfl, h'⟩
theorem rd_commit {cs : List Value} {c : Commit} (h : tCommit.rd w S cs c) : ∃ x y, cs = [x, y] ∧ Sl tRow w S x c.1 ∧ Sl tInt w S y c.2 := by
  obtain ⟨x, y, rfl, h1, h2⟩ := h
  obtain ⟨x, rfl, h1⟩ := rd_slice h1
  obtain ⟨y, rfl, h2⟩ := rd_slice h2
  exact ⟨x, y, rfl, h1, h2⟩
theorem Sl.idxInt {l : List Int} (h : Sl tInt w S v l) (hA : At P tInt T e) (n : Int) (i : Nat) (hn : n = (i : Int)) (hi : i < l.length) :
    ∃ b o, (∀ W, Sem.run P (Instr.indexAt T v (.int .i64 n)) W = .ok (.pointer (some ⟨b, o, none⟩)) W) ∧ S b ∧ b < w.heap.size ∧ i64ok l[i] ∧ w.cell? ⟨b, o, none⟩ = some (.int .i64 l[i]) := by
  obtain ⟨b, o, cs, h1, h2, h3, ⟨rfl, h5⟩, h7⟩ := h.idx hA n i hn hi
  exact ⟨b, o, h1, h2, h3, h5, by simpa using h7 0 _ rfl⟩
theorem Sl.idxCommit {l : List Commit} (h : Sl tCommit w S v l) (hA : At P tCommit T e) (n : Int) (i : Nat) (hn : n = (i : Int)) (hi : i < l.length) :
    ∃ b o x y, (∀ W, Sem.run P (Instr.indexAt T v (.int .i64 n)) W = .ok (.pointer (some ⟨b, o, none⟩)) W) ∧ S b ∧ b < w.heap.size ∧ Sl tRow w S x l[i].1 ∧ Sl tInt w S y l[i].2 ∧
      w.cell? ⟨b, o, none⟩ = some x ∧ w.cell? ⟨b, o + 1, none⟩ = some y := by
  obtain ⟨b, o, cs, h1, h2, h3, h5, h7⟩ := h.idx hA n i hn hi
  obtain ⟨x, y, rfl, hx, hy⟩ := rd_commit h5
  exact ⟨b, o, x, y, h1, h2, h3, hx, hy, by simpa using h7 0 _ rfl, h7 1 _ rfl⟩
theorem Sl.idxCommitAt {l : List Commit} (h : Sl tCommit w S v l) (hA : At P tCommit T e) (n : Int) (i : Nat) (hn : n = (i : Int)) (hi : i < l.length) (r : List Row) (p : List Int) (hr : l[i] = (r, p)) :
    ∃ b o a1 c1 a2 c2, (∀ W, Sem.run P (Instr.indexAt T v (.int .i64 n)) W = .ok (.pointer (some ⟨b, o, none⟩)) W) ∧ S b ∧ b < w.heap.size ∧ Sl tRow w S (.slice a1 r.length c1) r ∧ Sl tInt w S (.slice a2 p.length c2) p ∧
      r.length ≤ c1 ∧ c1 ≤ 9223372036854775807 ∧ p.length ≤ c2 ∧ c2 ≤ 9223372036854775807 ∧
      w.cell? ⟨b, o, none⟩ = some (.slice a1 r.length c1) ∧ w.cell? ⟨b, o + 1, none⟩ = some (.slice a2 p.length c2) := by
  obtain ⟨b, o, x, y, h1, h2, h3, hx, hy, hc1, hc2⟩ := h.idxCommit hA n i hn hi
  rw [hr] at hx hy
  obtain ⟨a1, c1, rfl, q1, q2, _⟩ := hx.shape
  obtain ⟨a2, c2, rfl, q3, q4, _⟩ := hy.shape
  unfold maxLen at q2 q4
  exact ⟨b, o, a1, c1, a2, c2, h1, h2, h3, hx, hy, q1, by omega, q3, by omega, hc1, hc2⟩
end
theorem boxed2 {w w1 : World} {a b : Value} {t : TypeId} (hb : Below (w.alloc (.cells #[a, b] t)).heap.size (w.alloc (.cells #[a, b] t)) w1) :
    w1.cell? ⟨w.heap.size, 0, none⟩ = some a ∧ w1.cell? ⟨w.heap.size, 1, none⟩ = some b ∧ Below w.heap.size w w1 := by
  refine ⟨(hb.cell (p := ⟨w.heap.size, 0, none⟩) (by simp)).trans ?_, (hb.cell (p := ⟨w.heap.size, 1, none⟩) (by simp)).trans ?_, ((Below.refl _ _).alloc (Nat.le_refl _) _).trans (hb.mono (by simp))⟩
  · rw [World.cell?_alloc_new]; rfl
  · rw [World.cell?_alloc_new]; rfl
def Bools (w : World) (g : Nat) (l : List Bool) : Prop := ∀ (i : Nat) (b : Bool), l[i]? = some b → w.cell? ⟨g, i, none⟩ = some (.bool b) ∧ w.frozen? ⟨g, i, none⟩ = false
section
variable {w w' : World} {g : Nat} {l : List Bool}
theorem Bools.call (h : Bools w g l) (hb : Below w.heap.size w w') : Bools w' g l := fun i b hi => by
  obtain ⟨h1, h2⟩ := h i b hi
  have hlt := World.block_lt_of_cell? w _ h1
  exact ⟨(hb.cell (p := ⟨g, i, none⟩) hlt).trans h1, (hb.frozen (p := ⟨g, i, none⟩) hlt).trans h2⟩
theorem Bools.set (h : Bools w g l) {i : Nat} (_hi : i < l.length) (b : Bool) : Bools (w.setCell ⟨g, i, none⟩ (.bool b)) g (l.set i b) := fun j c hj => by
  rw [List.getElem?_set] at hj
  split at hj
  · rename_i e
    subst e
    simp at hj
    subst hj
    obtain ⟨h1, h2⟩ := h i l[i] (List.getElem?_eq_getElem _hi)
    exact ⟨World.cell?_setCell_same (w := w) (a := ⟨g, i, none⟩) (v := .bool b) h1, by rw [World.frozen?_setCell]; exact h2⟩
  · rename_i e
    obtain ⟨h1, h2⟩ := h j c hj
    exact ⟨(World.cell?_setCell_other (w := w) (a := ⟨g, i, none⟩) (v := .bool b) (b := ⟨g, j, none⟩) (fun e' => e (congrArg Addr.off e'))).trans h1, by rw [World.frozen?_setCell]; exact h2⟩
theorem Bools.made (w : World) (n : Nat) (t : TypeId) : Bools (w.alloc (.cells (madeCells #[.bool false] n) t)) w.heap.size (List.replicate n false) := fun i b hi => by
  obtain ⟨h1, h2⟩ := List.getElem?_eq_some_iff.1 hi
  simp at h1 h2
  subst h2
  refine ⟨?_, World.frozen?_alloc_new _ _ _ _⟩
  rw [World.cell?_alloc_new]
  simp [madeCells, h1, Nat.mod_one]
end
section
variable {α : Type} {E : Ty α} {w w' : World} {g : Nat} {C S : Blk} {l : List α}
end
theorem tCommit_mk {w : World} {S : Blk} {x y : Value} {r : List Row} {p : List Int} (hx : Sl tRow w S x r) (hy : Sl tInt w S y p) : tCommit.rd w S [x, y] (r, p) := ⟨[x], [y], rfl, hx, hy⟩
end Go.Pch
end

section
namespace Go.Pch
open Go.RowKit Go.Proofs
theorem aRow : At Tryz.prog tRow 56 86 := At.mk' Tryz.underlying56 (z := .agg #[.int .i64 0, .int .i64 0]) (size := 2) (bytes := 16) (by kernel_rfl) rfl rfl (by decide)
theorem ret_bool {a b : Bool} (h : a = b) : Ending.returned (.bool a) = .returned (.bool b) := by rw [h]
theorem ret_no {p : Prop} [Decidable p] (h : ¬ p) : Ending.returned (.bool false) = .returned (.bool (decide p)) := by rw [decide_eq_false h]
theorem ret_yes {p : Prop} [Decidable p] (h : p) : Ending.returned (.bool true) = .returned (.bool (decide p)) := by rw [decide_eq_true h]
theorem refWithin (n a b : Int) (w : World) : Calls Tryz.prog 75 #[.int .i64 n, .int .i64 a, .int .i64 b] w fun e w' => e = .returned (.bool (decide (a ≤ n) && decide (n ≤ b))) ∧ w = w' := by
  go_enter Tryz.func75, Tryz.ntmps75
  go_wp2
  all_goals
    go_ret
    refine ⟨ret_bool ?_, rfl⟩
    rw [Bool.eq_iff_iff]; simp <;> omega
theorem refIsKey (k : Int) (w : World) : Calls Tryz.prog 76 #[.int .i64 k] w fun e w' => e = .returned (.bool (keyB k)) ∧ w = w' := by
  go_enter Tryz.func76, Tryz.ntmps76
  go_wp2_with (go_at_call 75; refine (refWithin _ _ _ _).mono ?_; rintro e w' ⟨rfl, rfl⟩)
  go_ret
  exact ⟨rfl, rfl⟩
theorem refIsKey_of (k : Int) (w : World) {c : Bool} (h : keyB k = c) : Calls Tryz.prog 76 #[.int .i64 k] w fun e w' => e = .returned (.bool c) ∧ w = w' := h ▸ refIsKey k w
theorem refWithin_of (n a b : Int) (w : World) {c : Bool} (h : (decide (a ≤ n) && decide (n ≤ b)) = c) : Calls Tryz.prog 75 #[.int .i64 n, .int .i64 a, .int .i64 b] w fun e w' => e = .returned (.bool c) ∧ w = w' := h ▸ refWithin n a b w
set_option maxHeartbeats 400000 in
theorem rowsCheck (v : Value) (l : List Row) (S : Blk) (w : World) (h : Sl tRow w S v l) :
    Calls Tryz.prog 165 #[v] w (Ret w fun r _ => r = .int .i64 (rowsErr l)) := by
  obtain ⟨ao, cap, rfl, hcap, hmax, hnil⟩ := h.shape
  unfold maxLen at hmax
  go_enter Tryz.func165, Tryz.ntmps165
  go_wp2
  · go_ret
    exact ⟨_, rfl, by rw [rowsErr_many (by omega)]; rfl, Below.refl _ _⟩
  · go_loopw [3, 11] (fun last i wr => ∃ (k : Nat) (m : Int), k ≤ l.length ∧ i = .int .i64 k ∧ last = .int .i64 m ∧ Below w.heap.size w wr ∧ Hid (riseB (-1) l = riseB m (l.drop k))) (fun _ i _ => l.length - (intOf i).toNat)
    case atStart => exact ⟨0, -1, Nat.zero_le _, rfl, rfl, Below.refl _ _, rfl⟩
    case round =>
      obtain ⟨k, m, hk, rfl, rfl, hb, hr⟩ := hrel
      by_cases hlt : k < l.length
      · obtain ⟨b, o, hix, _, hbs, ok1, ok2, hc0, hc1⟩ := (h.call hb).idxRow aRow k k rfl hlt
        go_wp2
        any_goals
          go_ret
          exact ⟨_, rfl, by rw [rowsErr_form (by omega) hr.out (rise_stop hlt (by omega))]; rfl, hb.alloc hb.size _⟩
        go_roundw
        case rel => exact ⟨k + 1, _, by omega, by go_num, rfl, hb.alloc hb.size _, hr.out.trans (rise_go hlt (by omega))⟩
        case measure => simp [intOf]; omega
      · go_wp2
        go_ret
        exact ⟨_, rfl, by rw [rowsErr_ok (by omega) hr.out (rise_end hlt)]; rfl, hb⟩
theorem key_not {k : Int} (h : keyB k = false) : k < 0 ∨ 99 < k := by
  simp [keyB] at h; omega
theorem key_yes {k : Int} (h : keyB k = true) : 0 ≤ k ∧ k ≤ 99 := by
  simp [keyB] at h; omega
set_option maxHeartbeats 400000 in
theorem refRowsError (v : Value) (l : List Row) (S : Blk) (w : World) (h : Sl tRow w S v l) :
    Calls Tryz.prog 117 #[v] w (Quiet w (.int .i64 (rowsErr l))) := by
  have hv := h
  obtain ⟨ao, cap, rfl, hcap, hmax, hnil⟩ := h.shape
  unfold maxLen at hmax
  go_enter Tryz.func117, Tryz.ntmps117
  go_wp2
  · go_ret
    exact ⟨by rw [rowsErr_many (by omega)]; rfl, .refl _⟩
  · go_loopw [3] (fun i wr => ∃ (k : Nat) (m : Int), k ≤ l.length ∧ -1 ≤ m ∧ i = .int .i64 k ∧ Drawn w wr ∧ Hid (riseB (-1) l = riseB m (l.drop k)) ∧ Hid (k = 0 ∧ m = -1 ∨ ∃ h : k - 1 < l.length, 0 < k ∧ m = l[k-1].1)) (fun i _ => l.length - (intOf i).toNat)
    case atStart => exact ⟨0, -1, Nat.zero_le _, by omega, rfl, .refl _, rfl, .inl ⟨rfl, rfl⟩⟩
    case round =>
      obtain ⟨k, m, hk, hm0, rfl, hd, hr, hm⟩ := hrel
      by_cases hlt : k < l.length
      · obtain ⟨b, o, hix, _, hbs, ok1, ok2, hc0, hc1⟩ := (hv.call hd.below).idxRow aRow k k rfl hlt
        go_wp2_with fail
        cases hkb : keyB l[k].1 with
        | false =>
          have hno := key_not hkb
          go_quiet ((go_at_call 76; exact quietEq (refIsKey_of _ _ hkb)))
          go_wp2
          go_ret
          exact ⟨by rw [rowsErr_form (by omega) hr.out (rise_stop hlt (by omega))]; rfl, hd.next _⟩
        | true =>
          cases hvb : (decide (0 ≤ l[k].2) && decide (l[k].2 ≤ 996)) with
          | false =>
            go_quiet ((first | (go_at_call 76; exact quietEq (refIsKey_of _ _ hkb)) | (go_at_call 75; exact quietEq (refWithin_of _ _ _ _ hvb))))
            go_wp2
            go_ret
            simp only [Bool.and_eq_false_iff, decide_eq_false_iff_not] at hvb
            exact ⟨by rw [rowsErr_form (by omega) hr.out (rise_stop hlt (by omega))]; rfl, hd.next _⟩
          | true =>
            have hyes := key_yes hkb
            have hvb' := hvb
            simp only [Bool.and_eq_true, decide_eq_true_eq] at hvb'
            by_cases hk0 : k = 0
            · have hk1 : decide (0 < k) = false := by simp; omega
              have hk2 : k ≤ 0 := by omega
              have hgo : riseB m (l.drop k) = riseB l[k].1 (l.drop (k + 1)) := rise_go hlt (by rcases hm.out with h | ⟨_, h, _⟩ <;> omega)
              have Hgo := keepBack hgo
              clear hk0 hgo
              go_quiet ((first | (go_at_call 76; exact quietEq (refIsKey_of _ _ hkb)) | (go_at_call 75; exact quietEq (refWithin_of _ _ _ _ hvb))))
              go_wp2
              go_roundw
              case rel => exact ⟨k + 1, _, by omega, by omega, by go_num, hd.next _, hr.out.trans Hgo.out, .inr ⟨by simpa using hlt, by omega, rfl⟩⟩
              case measure => simp [intOf]; omega
            · have hk1 : decide (0 < k) = true := by simp; omega
              have hm1 : m = l[k - 1].1 := by rcases hm.out with h | ⟨_, _, h⟩ <;> omega
              have Hm1 := keepBack hm1
              clear hm1
              obtain ⟨b', o', hix', _, hbs', ok1', ok2', hc0', hc1'⟩ := (hv.call hd.below).idxRow aRow (k - 1) (k - 1) (by omega) (by omega)
              go_quiet ((first | (go_at_call 76; exact quietEq (refIsKey_of _ _ hkb)) | (go_at_call 75; exact quietEq (refWithin_of _ _ _ _ hvb))))
              go_wp2
              · have hx : l[k].1 ≤ l[k - 1].1 := by assumption
                go_ret
                exact ⟨by rw [rowsErr_form (by omega) hr.out (rise_stop hlt (by rw [Hm1.out]; omega))]; rfl, hd.next _⟩
              · have hx : l[k - 1].1 < l[k].1 := by assumption
                go_roundw
                case rel => exact ⟨k + 1, _, by omega, by omega, by go_num, hd.next _, hr.out.trans (rise_go hlt (by rw [Hm1.out]; omega)), .inr ⟨by simpa using hlt, by omega, rfl⟩⟩
                case measure => simp [intOf]; omega
      · go_wp2
        go_ret
        exact ⟨by rw [rowsErr_ok (by omega) hr.out (rise_end hlt)]; rfl, hd⟩
end Go.Pch
end
