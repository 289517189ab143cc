/- Chapter 11: acts, their bytes, their log: plain words and laws. The walks of slices.Clone at rows, numbers, heads, commits (written by wip/gen_clone.py). A cell of an element of a slice that the call itself grows is written; no program is named here. -/
import Derived.Test.YtjjkdpjjaijmbaaGreatRg10
import Derived.Test.YtjjkdpjjaijmbaaGreatRg12
import Derived.Test.YtjjkdpjjaijmbaaGreatRg3
import Derived.Lib.SliceRun
import Derived.Test.YtjjkdpjjaijmbaaGreatRg4
section
namespace Go.Pch
open Go.RowKit Go.Proofs

/-- K2: an act that a text begins with, and what is behind. -/
def chgG (s : Bytes) : Option (Change × Bytes) := (num1 s).bind fun x => (num2 x.2).bind fun y => (num2 y.2).map fun z => ((x.1, y.1 - 1, z.1 - 1), z.2)
def actG (s : Bytes) : Option (Act × Bytes) := (num1 s).bind fun k => (textG k.2).bind fun a => (textG a.2).bind fun b => (listG chgG b.2).map fun d => ((k.1, a.1, b.1, d.1), d.2)
/-- Acts that a text begins with, n at most, and what is behind. -/
def replayF : Nat → Bytes → List Act × Bytes
  | 0, s => ([], s)
  | n + 1, s => match actG s with
    | none => ([], s)
    | some (x, t) => (x :: (replayF n t).1, (replayF n t).2)
/-- K2: Replay's answer. -/
def replayP (s : Bytes) : List Act × Int × Int := if 4096 < s.length then ([], 0, 2) else ((replayF 60 s).1, (s.length : Int) - (replayF 60 s).2.length, 0)
/-- K3: Recover's answer. -/
def recP (s : Bytes) : Repo × Int × Int := if 4096 < s.length then (noRepo, 0, 2) else (doneP (replayF 60 s).1, (replayF 60 s).1.length, 0)

/-! ### Bytes of an act -/
def chgBy (x : Change) : Bytes := enc1 x.1 ++ (enc2 (x.2.1 + 1) ++ enc2 (x.2.2 + 1))
def actBy (x : Act) : Bytes := enc1 x.1 ++ (enc1 x.2.1.size ++ (x.2.1.data.toList ++ (enc1 x.2.2.1.size ++ (x.2.2.1.data.toList ++ (enc1 x.2.2.2.length ++ x.2.2.2.flatMap chgBy)))))
/-- Has a number of the act no place? -/
def chgBad (x : Change) : Bool := outN 1 x.1 || (outN 2 (x.2.1 + 1) || outN 2 (x.2.2 + 1))
def actBad (x : Act) : Bool := (outN 1 x.1 || outN 1 x.2.1.size || outN 1 x.2.2.1.size || outN 1 x.2.2.2.length) || x.2.2.2.any chgBad
/-- K2: Write's answer. -/
def actWP (x : Act) : Bytes × Int := if actBad x = true then ([], 3) else (actBy x, 0)

theorem num1E {n : Int} (h0 : 0 ≤ n) (h1 : n < 256) (s : Bytes) : num1 (enc1 n ++ s) = some (n, s) := by
  show some (((byteOf n).toNat : Int), s) = _
  rw [byteOf_nat]
  congr 2
  omega
theorem num2E {n : Int} (h0 : 0 ≤ n) (h1 : n < 65536) (s : Bytes) : num2 (enc2 n ++ s) = some (n, s) := by
  show some (256 * ((byteOf (n / 256)).toNat : Int) + (byteOf n).toNat, s) = _
  rw [byteOf_nat, byteOf_nat]
  congr 2
  omega
theorem repE {α : Type} {p : Bytes → Option (α × Bytes)} {f : α → Bytes} : ∀ (l : List α) (s : Bytes), (∀ x ∈ l, ∀ s, p (f x ++ s) = some (x, s)) → repG p l.length (l.flatMap f ++ s) = some (l, s)
  | [], s, _ => rfl
  | a :: l, s, h => by
    rw [List.flatMap_cons, List.append_assoc, List.length_cons, repG, h a (by simp)]
    show (repG p l.length (l.flatMap f ++ s)).map _ = _
    rw [repE l s fun x hx => h x (by simp [hx])]
    rfl
theorem textE (b : ByteArray) (h : b.size < 256) (s : Bytes) : textG (enc1 b.size ++ (b.data.toList ++ s)) = some (b, s) := by
  have e : b.data.toList.length = b.size := Array.length_toList
  rw [textG, num1E (by omega) (by omega)]
  show (takeG (Int.toNat (b.size : Int)) (b.data.toList ++ s)).map _ = _
  rw [Int.toNat_natCast, takeG, if_pos (by rw [List.length_append, e]; omega), List.take_left' e, List.drop_left' e]
  show some (bl b.data.toList, s) = _
  rw [bl_data]
theorem out1 {n : Int} (h : outN 1 n = false) : 0 ≤ n ∧ n < 256 := by
  simp only [outN, Bool.or_eq_false_iff, decide_eq_false_iff_not, if_pos] at h
  omega
theorem out2 {n : Int} (h : outN 2 n = false) : 0 ≤ n ∧ n < 65536 := by
  simp only [outN, Bool.or_eq_false_iff, decide_eq_false_iff_not, show ¬ (2 : Nat) = 1 by decide, if_false] at h
  omega
theorem chgE {x : Change} (h : chgBad x = false) (s : Bytes) : chgG (chgBy x ++ s) = some (x, s) := by
  simp only [chgBad, Bool.or_eq_false_iff] at h
  have h1 := out1 h.1
  have h2 := out2 h.2.1
  have h3 := out2 h.2.2
  rw [chgBy, List.append_assoc, List.append_assoc, chgG, num1E h1.1 h1.2]
  simp only [Option.bind_some, num2E h2.1 h2.2, num2E h3.1 h3.2, Option.map_some, Int.add_sub_cancel]
/-- What is written is read. -/
theorem actE {x : Act} (h : actBad x = false) (s : Bytes) : actG (actBy x ++ s) = some (x, s) := by
  simp only [actBad, Bool.or_eq_false_iff] at h
  have h1 := out1 h.1.1.1.1
  have h2 := out1 h.1.1.1.2
  have h3 := out1 h.1.1.2
  have h4 := out1 h.1.2
  have h5 : ∀ y ∈ x.2.2.2, chgBad y = false := fun y hy => by
    have := h.2
    rw [List.any_eq_false] at this
    simpa using this y hy
  simp only [actBy, List.append_assoc]
  rw [actG, num1E h1.1 h1.2]
  simp only [Option.bind_some, textE _ (show x.2.1.size < 256 by omega), textE _ (show x.2.2.1.size < 256 by omega)]
  have e := repE (p := chgG) x.2.2.2 [] fun y hy s => chgE (h5 y hy) s
  have e2 : ∀ t, listG chgG (enc1 x.2.2.2.length ++ (x.2.2.2.flatMap chgBy ++ t)) = some (x.2.2.2, t) := fun t => by
    rw [listG, num1E h4.1 h4.2]
    simp only [Option.bind_some, Int.toNat_natCast, repE _ _ fun y hy s => chgE (h5 y hy) s]
  rw [e2]
  rfl

/-! ### More bytes behind -/
/-- A reader that is not misled by what stands behind. -/
def Ext {α : Type} (p : Bytes → Option (α × Bytes)) : Prop := ∀ (s t : Bytes) (a : α), p s = some (a, t) → (∀ q, p (s ++ q) = some (a, t ++ q)) ∧ t.length < s.length
def ExtL {α : Type} (p : Bytes → Option (α × Bytes)) : Prop := ∀ (s t : Bytes) (a : α), p s = some (a, t) → (∀ q, p (s ++ q) = some (a, t ++ q)) ∧ t.length ≤ s.length
theorem Ext.le {α : Type} {p : Bytes → Option (α × Bytes)} (h : Ext p) : ExtL p := fun s t a e => ⟨(h s t a e).1, Nat.le_of_lt (h s t a e).2⟩
theorem ext_num1 : Ext num1 := by
  intro s t a h
  cases s with
  | nil => simp [num1] at h
  | cons c s =>
    simp only [num1, Option.some.injEq, Prod.mk.injEq] at h
    obtain ⟨rfl, rfl⟩ := h
    exact ⟨fun q => rfl, by simp⟩
theorem ext_num2 : Ext num2 := by
  intro s t a h
  match s, h with
  | c :: d :: s, h =>
    simp only [num2, Option.some.injEq, Prod.mk.injEq] at h
    obtain ⟨rfl, rfl⟩ := h
    exact ⟨fun q => rfl, by simp; omega⟩
theorem ext_bind {α β γ : Type} {p : Bytes → Option (α × Bytes)} (f : α → Bytes → Option (β × Bytes)) (g : α → β → γ) (hp : Ext p) (hf : ∀ a, ExtL (f a)) :
    Ext fun s => (p s).bind fun x => (f x.1 x.2).map fun y => (g x.1 y.1, y.2) := by
  intro s t c h
  simp only at h
  cases h1 : p s with
  | none => rw [h1] at h; simp at h
  | some x =>
    obtain ⟨a, u⟩ := x
    rw [h1] at h
    cases h2 : f a u with
    | none => simp [h2] at h
    | some y =>
      obtain ⟨b, v⟩ := y
      simp [h2] at h
      obtain ⟨rfl, rfl⟩ := h
      obtain ⟨e1, l1⟩ := hp _ _ _ h1
      obtain ⟨e2, l2⟩ := hf a _ _ _ h2
      exact ⟨fun q => by simp [e1 q, e2 q], by omega⟩
theorem Ext.of {α : Type} {p q : Bytes → Option (α × Bytes)} (h : Ext p) (e : ∀ s, q s = p s) : Ext q := by
  rw [show q = p from funext e]; exact h
theorem ext_text : Ext textG := by
  refine ext_bind (fun a s => takeG a.toNat s) (fun _ b => bl b) ext_num1 fun a s t b h => ?_
  simp only [takeG] at h ⊢
  split at h
  · rename_i hl
    simp only [Option.some.injEq, Prod.mk.injEq] at h
    obtain ⟨rfl, rfl⟩ := h
    refine ⟨fun q => ?_, by simp⟩
    rw [if_pos (by simp; omega), List.take_append_of_le_length hl, List.drop_append_of_le_length hl]
  · cases h
theorem ext_rep {α : Type} {p : Bytes → Option (α × Bytes)} (hp : Ext p) : ∀ n : Nat, ExtL (repG p n)
  | 0 => fun s t l h => by
    simp only [repG, Option.some.injEq, Prod.mk.injEq] at h
    obtain ⟨rfl, rfl⟩ := h
    exact ⟨fun q => rfl, Nat.le_refl _⟩
  | n + 1 => (ext_bind (fun _ s => repG p n s) (fun (a : α) (b : List α) => a :: b) hp fun _ => ext_rep hp n).le
theorem ext_list {α : Type} {p : Bytes → Option (α × Bytes)} (hp : Ext p) : Ext (listG p) :=
  (ext_bind (fun (a : Int) s => repG p a.toNat s) (fun (_ : Int) (b : List α) => b) ext_num1 fun a => ext_rep hp a.toNat).of fun s => by
    rw [listG]; congr 1; funext x; cases repG p x.1.toNat x.2 <;> rfl
theorem ext_chg : Ext chgG :=
  (ext_bind (fun _ s => (num2 s).bind fun y => (num2 y.2).map fun z => ((y.1 - 1, z.1 - 1), z.2)) (fun (a : Int) (b : Int × Int) => ((a, b.1, b.2) : Change)) ext_num1 fun _ =>
    (ext_bind (fun _ s => num2 s) (fun (a b : Int) => (a - 1, b - 1)) ext_num2 fun _ => ext_num2.le).le).of fun s => by
      rw [chgG]; congr 1; funext x; cases num2 x.2 <;> simp
      rename_i y
      cases num2 y.2 <;> rfl
theorem ext_act : Ext actG :=
  (ext_bind (fun _ s => (textG s).bind fun a => ((textG a.2).bind fun b => (listG chgG b.2).map fun d => ((b.1, d.1), d.2)).map fun c => ((a.1, c.1), c.2)) (fun (k : Int) (d : ByteArray × ByteArray × List Change) => ((k, d) : Act)) ext_num1 fun _ =>
    (ext_bind (fun _ s => (textG s).bind fun b => (listG chgG b.2).map fun d => ((b.1, d.1), d.2)) (fun (a : ByteArray) (d : ByteArray × List Change) => (a, d)) ext_text fun _ =>
      (ext_bind (fun _ s => listG chgG s) (fun (a : ByteArray) (d : List Change) => (a, d)) ext_text fun _ => (ext_list ext_chg).le).le).le).of fun s => by
    rw [actG]; congr 1; funext k; cases textG k.2 <;> simp
    rename_i a
    cases textG a.2 <;> simp
    rename_i b
    cases listG chgG b.2 <;> rfl

/-! ### Logs that are cut, and that go on -/
/-- Of an act's bytes a part is no act. -/
theorem act_part {x : Act} (h : actBad x = false) {p q : Bytes} (hp : p ++ q = actBy x) (hq : q ≠ []) : actG p = none := by
  cases hc : actG p with
  | none => rfl
  | some y =>
    obtain ⟨y, t⟩ := y
    have h1 := (ext_act _ _ _ hc).1 q
    have h2 := actE h []
    rw [List.append_nil] at h2
    rw [hp, h2] at h1
    simp only [Option.some.injEq, Prod.mk.injEq] at h1
    have := h1.2
    have : q = [] := by
      have := congrArg List.length this
      simp at this
      exact List.eq_nil_of_length_eq_zero (by omega)
    exact absurd this hq
theorem replay_more : ∀ (n : Nat) {s b : Bytes}, (replayF n s).2 = [] → (replayF n s).1.length < n → replayF n (s ++ b) = ((replayF n s).1 ++ (replayF (n - (replayF n s).1.length) b).1, (replayF (n - (replayF n s).1.length) b).2)
  | 0, s, b, _, h => by omega
  | n + 1, s, b, h0, h1 => by
    cases hc : actG s with
    | none =>
      have e : replayF (n + 1) s = ([], s) := by rw [replayF, hc]
      rw [e] at h0
      simp only at h0
      subst h0
      rw [e]
      simp
    | some y =>
      obtain ⟨x, t⟩ := y
      have e : replayF (n + 1) s = (x :: (replayF n t).1, (replayF n t).2) := by rw [replayF, hc]
      have e2 : replayF (n + 1) (s ++ b) = (x :: (replayF n (t ++ b)).1, (replayF n (t ++ b)).2) := by rw [replayF, (ext_act _ _ _ hc).1 b]
      rw [e] at h0 h1
      simp only [List.length_cons] at h0 h1
      have ih := replay_more n (s := t) (b := b) h0 (by omega)
      rw [e, e2, ih]
      simp only [List.length_cons, List.cons_append]
      rw [show n + 1 - ((replayF n t).1.length + 1) = n - (replayF n t).1.length by omega]
/-- An act behind a log that is whole. -/
theorem replay_one {s : Bytes} {x : Act} (h0 : (replayF 60 s).2 = []) (h1 : (replayF 60 s).1.length < 60) (hx : actBad x = false) : replayF 60 (s ++ actBy x) = ((replayF 60 s).1 ++ [x], []) := by
  rw [replay_more 60 h0 h1]
  obtain ⟨m, hm⟩ : ∃ m, 60 - (replayF 60 s).1.length = m + 1 := ⟨60 - (replayF 60 s).1.length - 1, by omega⟩
  have hE := actE hx []
  rw [List.append_nil] at hE
  have : ∀ m, replayF m [] = ([], []) := fun m => by
    cases m with
    | zero => rfl
    | succ m => rfl
  rw [hm]
  generalize replayF 60 s = z
  rw [replayF, hE]
  simp [this]
/-- Acts that are written one behind the other. -/
theorem replay_acts : ∀ (l : List Act) (n : Nat) (s : Bytes), (∀ x ∈ l, actBad x = false) → l.length ≤ n → replayF n (l.flatMap actBy ++ s) = (l ++ (replayF (n - l.length) s).1, (replayF (n - l.length) s).2)
  | [], n, s, _, _ => by simp
  | x :: l, n, s, h, hn => by
    obtain ⟨m, rfl⟩ : ∃ m, n = m + 1 := ⟨n - 1, by simp at hn; omega⟩
    rw [List.flatMap_cons, List.append_assoc, replayF, actE (h x (by simp))]
    simp only
    rw [replay_acts l m s (fun y hy => h y (by simp [hy])) (by simpa using hn)]
    simp only [List.length_cons, List.cons_append]
    rw [show m + 1 - (l.length + 1) = m - l.length by omega]
/-- Where the k'th act ends. -/
def endAt (l : List Act) (k : Nat) : Nat := ((l.take k).flatMap actBy).length
theorem endAt_next {l : List Act} {k : Nat} {x : Act} (h : l[k]? = some x) : endAt l (k + 1) = endAt l k + (actBy x).length := by
  rw [endAt, List.take_add_one, h]; simp [endAt]
/-- A log that is cut: what is whole is told. -/
theorem replay_cut {l : List Act} (h : ∀ x ∈ l, actBad x = false) (hl : l.length ≤ 24) {k m : Nat} (hm : m ≤ l.length) (h1 : endAt l m ≤ k) (h2 : ∀ x, l[m]? = some x → k < endAt l m + (actBy x).length) : (replayF 60 ((l.flatMap actBy).take k)).1 = l.take m := by
  have hsplit : (l.flatMap actBy).take k = (l.take m).flatMap actBy ++ ((l.drop m).flatMap actBy).take (k - endAt l m) := by
    conv => lhs; rw [← List.take_append_drop m l, List.flatMap_append, List.take_append]
    rw [show ((l.take m).flatMap actBy).length = endAt l m from rfl, List.take_of_length_le (by exact h1)]
  rw [hsplit, replay_acts _ 60 _ (fun x hx => h x (List.mem_of_mem_take hx)) (by simp; omega)]
  have hrest : (replayF (60 - (l.take m).length) (((l.drop m).flatMap actBy).take (k - endAt l m))).1 = [] := by
    obtain ⟨j, hj⟩ : ∃ j, 60 - (l.take m).length = j + 1 := ⟨60 - (l.take m).length - 1, by simp; omega⟩
    rw [hj, replayF]
    have : actG (((l.drop m).flatMap actBy).take (k - endAt l m)) = none := by
      cases hx : l[m]? with
      | none =>
        rw [List.drop_eq_nil_of_le (by simpa using hx)]
        simp
        rfl
      | some x =>
        have hlt := h2 x hx
        obtain ⟨hml, hmx⟩ := List.getElem?_eq_some_iff.1 hx
        rw [List.drop_eq_getElem_cons hml, hmx, List.flatMap_cons, List.take_append_of_le_length (by omega)]
        refine act_part (q := (actBy x).drop (k - endAt l m)) (h x (List.mem_of_getElem? hx)) (List.take_append_drop _ _) fun e => ?_
        have := congrArg List.length e
        simp at this
        omega
    rw [this]
  rw [hrest, List.append_nil]

end Go.Pch
end

section
namespace Go.Pch
open Go.RowKit Go.Proofs
set_option maxRecDepth 100000

set_option maxHeartbeats 400000 in
theorem ownRow (v : Value) (l : List Row) (S : Blk) (w : World) (h0 : Sl tRow w S v l) (hl : l.length ≤ 1000000) :
    Calls Tryz.prog 74 #[v] w (Ret w fun r w' => Own tRow 44 w' w.heap.size (fun k => S k ∧ k < w.heap.size) r l) := by
  have h : Sl tRow w (fun k => S k ∧ k < w.heap.size) v l := h0.mono fun k hk hlt => ⟨hk, hlt⟩
  obtain ⟨ao, cap, rfl, hcap, hmax, hnil⟩ := h.shape
  cases ao with
  | none =>
    have hz := hnil rfl
    obtain rfl : l = [] := List.eq_nil_of_length_eq_zero (by omega)
    subst hz
    have hq := fun W => Lib.run_eql_slice_nil (P := Tryz.prog) W 29 44 none 0 0 0 0 Tryz.underlying29
    go_enter Tryz.func74, Tryz.ntmps74
    go_wp2
    go_ret
    exact ⟨_, rfl, .nil, Below.refl _ _⟩
  | some ad =>
    have hq := fun W => Lib.run_eql_slice_nil (P := Tryz.prog) W 29 44 (some ad) l.length cap 0 0 Tryz.underlying29
    have hs := fun W (hW : Below w.heap.size w W) => (h.call hW).src
    go_enter Tryz.func74, Tryz.ntmps74
    go_wp2_with (at_builtin; refine wpList_grow rfl (.tmp 5) (.tmp 6) rfl aRow rfl (Own.made (B := w.heap.size) (C := fun k => S k ∧ k < w.heap.size) _ (Nat.le_refl _)) rfl rfl (hs _ ((Below.refl _ _).alloc (Nat.le_refl _) _)) (by simp) (fun k hk _ => ⟨hk, fun e => absurd (Option.some.inj e) (Nat.ne_of_lt hk.2)⟩) (by simp; omega) (by simp) ?_)
    intro v1 w1 hown hgrow
    go_wp2
    go_ret
    exact ⟨_, rfl, hown, ((Below.refl _ _).alloc (Nat.le_refl _) _).grown hgrow (by simp) (by simp [Value.ownBlock])⟩

set_option maxHeartbeats 400000 in
theorem ownInt (v : Value) (l : List Int) (S : Blk) (w : World) (h0 : Sl tInt w S v l) (hl : l.length ≤ 1000000) :
    Calls Tryz.prog 98 #[v] w (Ret w fun r w' => Own tInt 3 w' w.heap.size (fun k => S k ∧ k < w.heap.size) r l) := by
  have h : Sl tInt w (fun k => S k ∧ k < w.heap.size) v l := h0.mono fun k hk hlt => ⟨hk, hlt⟩
  obtain ⟨ao, cap, rfl, hcap, hmax, hnil⟩ := h.shape
  cases ao with
  | none =>
    have hz := hnil rfl
    obtain rfl : l = [] := List.eq_nil_of_length_eq_zero (by omega)
    subst hz
    have hq := fun W => Lib.run_eql_slice_nil (P := Tryz.prog) W 40 3 none 0 0 0 0 Tryz.underlying40
    go_enter Tryz.func98, Tryz.ntmps98
    go_wp2
    go_ret
    exact ⟨_, rfl, .nil, Below.refl _ _⟩
  | some ad =>
    have hq := fun W => Lib.run_eql_slice_nil (P := Tryz.prog) W 40 3 (some ad) l.length cap 0 0 Tryz.underlying40
    have hs := fun W (hW : Below w.heap.size w W) => (h.call hW).src
    go_enter Tryz.func98, Tryz.ntmps98
    go_wp2_with (at_builtin; refine wpList_grow rfl (.tmp 5) (.tmp 6) rfl aInt rfl (Own.made (B := w.heap.size) (C := fun k => S k ∧ k < w.heap.size) _ (Nat.le_refl _)) rfl rfl (hs _ ((Below.refl _ _).alloc (Nat.le_refl _) _)) (by simp) (fun k hk _ => ⟨hk, fun e => absurd (Option.some.inj e) (Nat.ne_of_lt hk.2)⟩) (by simp; omega) (by simp) ?_)
    intro v1 w1 hown hgrow
    go_wp2
    go_ret
    exact ⟨_, rfl, hown, ((Below.refl _ _).alloc (Nat.le_refl _) _).grown hgrow (by simp) (by simp [Value.ownBlock])⟩

set_option maxHeartbeats 400000 in
theorem ownHead (v : Value) (l : List Head) (S : Blk) (w : World) (h0 : Sl tHead w S v l) (hl : l.length ≤ 1000000) :
    Calls Tryz.prog 96 #[v] w (Ret w fun r w' => Own tHead 46 w' w.heap.size (fun k => S k ∧ k < w.heap.size) r l) := by
  have h : Sl tHead w (fun k => S k ∧ k < w.heap.size) v l := h0.mono fun k hk hlt => ⟨hk, hlt⟩
  obtain ⟨ao, cap, rfl, hcap, hmax, hnil⟩ := h.shape
  cases ao with
  | none =>
    have hz := hnil rfl
    obtain rfl : l = [] := List.eq_nil_of_length_eq_zero (by omega)
    subst hz
    have hq := fun W => Lib.run_eql_slice_nil (P := Tryz.prog) W 23 46 none 0 0 0 0 Tryz.underlying23
    go_enter Tryz.func96, Tryz.ntmps96
    go_wp2
    go_ret
    exact ⟨_, rfl, .nil, Below.refl _ _⟩
  | some ad =>
    have hq := fun W => Lib.run_eql_slice_nil (P := Tryz.prog) W 23 46 (some ad) l.length cap 0 0 Tryz.underlying23
    have hs := fun W (hW : Below w.heap.size w W) => (h.call hW).src
    go_enter Tryz.func96, Tryz.ntmps96
    go_wp2_with (at_builtin; refine wpList_grow rfl (.tmp 5) (.tmp 6) rfl aHead rfl (Own.made (B := w.heap.size) (C := fun k => S k ∧ k < w.heap.size) _ (Nat.le_refl _)) rfl rfl (hs _ ((Below.refl _ _).alloc (Nat.le_refl _) _)) (by simp) (fun k hk _ => ⟨hk, fun e => absurd (Option.some.inj e) (Nat.ne_of_lt hk.2)⟩) (by simp; omega) (by simp) ?_)
    intro v1 w1 hown hgrow
    go_wp2
    go_ret
    exact ⟨_, rfl, hown, ((Below.refl _ _).alloc (Nat.le_refl _) _).grown hgrow (by simp) (by simp [Value.ownBlock])⟩

set_option maxHeartbeats 400000 in
theorem ownCom (v : Value) (l : List Commit) (S : Blk) (w : World) (h0 : Sl tCommit w S v l) (hl : l.length ≤ 1000000) :
    Calls Tryz.prog 97 #[v] w (Ret w fun r w' => Own tCommit 42 w' w.heap.size (fun k => S k ∧ k < w.heap.size) r l) := by
  have h : Sl tCommit w (fun k => S k ∧ k < w.heap.size) v l := h0.mono fun k hk hlt => ⟨hk, hlt⟩
  obtain ⟨ao, cap, rfl, hcap, hmax, hnil⟩ := h.shape
  cases ao with
  | none =>
    have hz := hnil rfl
    obtain rfl : l = [] := List.eq_nil_of_length_eq_zero (by omega)
    subst hz
    have hq := fun W => Lib.run_eql_slice_nil (P := Tryz.prog) W 22 42 none 0 0 0 0 Tryz.underlying22
    go_enter Tryz.func97, Tryz.ntmps97
    go_wp2
    go_ret
    exact ⟨_, rfl, .nil, Below.refl _ _⟩
  | some ad =>
    have hq := fun W => Lib.run_eql_slice_nil (P := Tryz.prog) W 22 42 (some ad) l.length cap 0 0 Tryz.underlying22
    have hs := fun W (hW : Below w.heap.size w W) => (h.call hW).src
    go_enter Tryz.func97, Tryz.ntmps97
    go_wp2_with (at_builtin; refine wpList_grow rfl (.tmp 5) (.tmp 6) rfl aCom rfl (Own.made (B := w.heap.size) (C := fun k => S k ∧ k < w.heap.size) _ (Nat.le_refl _)) rfl rfl (hs _ ((Below.refl _ _).alloc (Nat.le_refl _) _)) (by simp) (fun k hk _ => ⟨hk, fun e => absurd (Option.some.inj e) (Nat.ne_of_lt hk.2)⟩) (by simp; omega) (by simp) ?_)
    intro v1 w1 hown hgrow
    go_wp2
    go_ret
    exact ⟨_, rfl, hown, ((Below.refl _ _).alloc (Nat.le_refl _) _).grown hgrow (by simp) (by simp [Value.ownBlock])⟩

end Go.Pch
end

section
namespace Go.Pch
open Go.RowKit

theorem Own.setPart {α : Type} {E : Ty α} {e : TypeId} {w : World} {B : Nat} {C : Blk} {v : Value} {l : List α} (h : Own E e w B C v l) {i : Nat} {a : α} (hi : l[i]? = some a) :
    ∃ g cap cs, v = .slice (some ⟨g, 0, none⟩) l.length cap ∧ l.length ≤ cap ∧ cap ≤ maxLen ∧ B ≤ g ∧ g < w.heap.size ∧ E.rd w (fun k => C k ∧ k ≠ g) cs a ∧ (∀ j u, cs[j]? = some u → w.cell? ⟨g, i * E.size + j, none⟩ = some u) ∧ (∀ j, w.frozen? ⟨g, j, none⟩ = false) ∧
      ∀ j u' a', j < E.size → E.rd w (fun k => C k ∧ k ≠ g) (cs.set j u') a' → Own E e (w.setCell ⟨g, i * E.size + j, none⟩ u') B C v (l.set i a') := by
  have hil := (List.getElem?_eq_some_iff.1 hi).1
  obtain ⟨g, cap, cur, xs, rfl, hB, hg, hc, h1, h2, h3, h4, hX⟩ := h.cells (by omega)
  have hxl := hX.1
  obtain ⟨cs, hcs⟩ : ∃ cs, xs[i]? = some cs := ⟨xs[i]'(by omega), List.getElem?_eq_getElem _⟩
  have hrd := hX.2 i cs a hcs hi
  have hlen : cs.length = E.size := E.len hrd
  have hsz := E.pos
  have hcurget : ∀ m, m < l.length * E.size → cur[m]? = (xs[m / E.size]?).bind (·[m % E.size]?) := fun m hm => by
    have hf := flatten_get E.pos xs hX.lens m
    rw [← h4, List.getElem?_take_of_lt hm] at hf
    exact hf
  have hpos : ∀ j, j < E.size → i * E.size + j < l.length * E.size := fun j hj => by
    have : (i + 1) * E.size ≤ l.length * E.size := Nat.mul_le_mul_right _ hil
    rw [Nat.add_mul, Nat.one_mul] at this
    omega
  have hdm : ∀ j, j < E.size → (i * E.size + j) / E.size = i ∧ (i * E.size + j) % E.size = j := fun j hj =>
    ⟨by rw [Nat.mul_comm, Nat.mul_add_div E.pos, Nat.div_eq_of_lt hj]; rfl, by rw [Nat.mul_comm, Nat.mul_add_mod, Nat.mod_eq_of_lt hj]⟩
  have hcell : ∀ j u, cs[j]? = some u → w.cell? ⟨g, i * E.size + j, none⟩ = some u := fun j u hj => by
    have hjl := (List.getElem?_eq_some_iff.1 hj).1
    obtain ⟨d1, d2⟩ := hdm j (by omega)
    have := hcurget (i * E.size + j) (hpos j (by omega))
    rw [d1, d2, hcs] at this
    rw [World.cell?, hc]
    simpa using this.trans hj
  refine ⟨g, cap, cs, rfl, h1, h2, hB, hg, hrd, hcell, fun j => frozen_of_row w g j _ _ hc, fun j u' a' hj hu' => ?_⟩
  have hkeep : ∀ k, (fun k => C k ∧ k ≠ g) k → k < w.heap.size → (w.setCell ⟨g, i * E.size + j, none⟩ u').heap[k]? = w.heap[k]? := fun k hk _ => heap_setCell_other _ _ _ _ (by simpa using hk.2)
  have hnew : Own E e (w.setCell ⟨g, i * E.size + j, none⟩ u') B C (.slice (some ⟨g, 0, none⟩) (l.set i a').length cap) (l.set i a') := by
    refine Own.of_cells (cur := cur.set (i * E.size + j) u') (xs := xs.set i (cs.set j u')) hB ?_ (by simpa using h1) h2 (by rw [List.length_set]; exact h3) ?_ ⟨by simp [hX.1], fun m cs' a2 hj1 hj2 => ?_⟩
    · have := heap_setCell_same w g (i * E.size + j) _ e u' hc
      refine (show _ = _ from this).trans ?_
      simp
    · rw [List.length_set]
      refine List.ext_getElem? fun m => ?_
      have hf := flatten_get E.pos (xs.set i (cs.set j u')) (fun c hc => by
        rcases List.mem_or_eq_of_mem_set hc with h | rfl
        · exact hX.lens c h
        · rw [List.length_set]; exact hlen) m
      rw [hf, List.getElem?_take]
      by_cases hm : m < l.length * E.size
      · rw [if_pos hm]
        have hdiv : m / E.size * E.size + m % E.size = m := Nat.div_add_mod' m E.size
        have hmod : m % E.size < E.size := Nat.mod_lt _ E.pos
        by_cases hmi : i = m / E.size
        · have hset : (xs.set i (cs.set j u'))[m / E.size]? = some (cs.set j u') := by rw [← hmi]; exact List.getElem?_set_self (by omega)
          rw [hset]
          show _ = (cs.set j u')[m % E.size]?
          by_cases hmj : j = m % E.size
          · have hp : i * E.size + j = m := by rw [hmi, hmj]; exact hdiv
            rw [hp, List.getElem?_set_self (by rw [h3]; have := Nat.mul_le_mul_right E.size h1; omega), hmj, List.getElem?_set_self (by omega)]
          · have hp : i * E.size + j ≠ m := fun e => hmj (by rw [← e]; exact ((hdm j hj).2).symm)
            rw [List.getElem?_set_ne hp, List.getElem?_set_ne hmj, hcurget m hm, ← hmi, hcs]
            rfl
        · have hp : i * E.size + j ≠ m := fun e => hmi (by rw [← e]; exact ((hdm j hj).1).symm)
          rw [List.getElem?_set_ne hp, List.getElem?_set_ne hmi]
          exact hcurget m hm
      · rw [if_neg hm, List.getElem?_eq_none (by
          rw [List.length_set, hX.1]
          exact (Nat.le_div_iff_mul_le E.pos).2 (by omega))]
        rfl
    · by_cases hmi : i = m
      · subst hmi
        rw [List.getElem?_set_self (by rw [hX.1]; exact hil)] at hj1
        rw [List.getElem?_set_self hil] at hj2
        obtain rfl := Option.some.inj hj1
        obtain rfl := Option.some.inj hj2
        exact E.keep hu' hkeep
      · rw [List.getElem?_set_ne hmi] at hj1 hj2
        exact E.keep (hX.2 m cs' a2 hj1 hj2) hkeep
  rwa [List.length_set] at hnew

/-- The elements of a grown slice may read by way of other blocks than it was known. -/
theorem Own.regard {α : Type} {E : Ty α} {e : TypeId} {w : World} {B : Nat} {C D : Blk} {v : Value} {l : List α} (h : Own E e w B C v l)
    (hJ : ∀ g cap, v = .slice (some ⟨g, 0, none⟩) l.length cap → ∀ i a, l[i]? = some a → ∃ cs, cs.length = E.size ∧ (∀ j u, cs[j]? = some u → w.cell? ⟨g, i * E.size + j, none⟩ = some u) ∧ E.rd w (fun k => D k ∧ k ≠ g) cs a) : Own E e w B D v l := by
  obtain ⟨xs, hr, hE⟩ := h
  refine ⟨xs, hr, hE.1, fun i cs a h1 h2 => ?_⟩
  have hil := (List.getElem?_eq_some_iff.1 h2).1
  have hr0 := hr
  rcases hr.2 with ⟨rfl, h0⟩ | ⟨g, cap, cur, rfl, hb, hg, _, _, h3, h4⟩
  · have := List.eq_nil_of_length_eq_zero h0
    subst this
    simp at h2
  · obtain ⟨cs', hl', hc', hrd⟩ := hJ g cap rfl i a h2
    have hsz : cs.length = E.size := hE.lens cs (List.mem_of_getElem? h1)
    have he : cs' = cs := by
      refine List.ext_getElem? fun j => ?_
      by_cases hj : j < E.size
      · have hu : cs[j]? = some (cs[j]'(by omega)) := List.getElem?_eq_getElem _
        have := hr0.cells (g := g) rfl (i * E.size + j) (cs[j]'(by omega)) (by
          rw [flatten_get E.pos xs hE.lens]
          have e1 : (i * E.size + j) / E.size = i := by
            rw [Nat.mul_comm, Nat.mul_add_div E.pos, Nat.div_eq_of_lt (by omega)]; rfl
          have e2 : (i * E.size + j) % E.size = j := by
            rw [Nat.mul_comm, Nat.mul_add_mod, Nat.mod_eq_of_lt (by omega)]
          rw [e1, e2, h1]
          exact hu)
        have h2' := hc' j (cs'[j]'(by omega)) (List.getElem?_eq_getElem _)
        rw [Addr.add_lit, Nat.zero_add, h2'] at this
        rw [hu, List.getElem?_eq_getElem (by omega)]
        exact this
      · rw [List.getElem?_eq_none (by omega), List.getElem?_eq_none (by omega)]
    subst he
    exact E.mono hrd fun k hk _ => ⟨hk.1, by simpa [Value.ownBlock] using hk.2⟩

end Go.Pch
end
