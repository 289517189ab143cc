/- Plain laws of chapter 12: what is written is read as it was, and nothing else is; the document's ear hears what the glass reads. -/
import Derived.Test.YtklgejafblocjaaEarA
namespace Go.Pch
open Go.RowKit

/-! ### What is written is read -/
theorem byteOf_fit {n : Int} (h0 : 0 ≤ n) (h1 : n < 256) : ((byteOf n).toNat : Int) = n := by rw [byteOf_nat]; omega
theorem num1_enc {n : Int} (h0 : 0 ≤ n) (h1 : n < 256) (s : Bytes) : num1 (enc1 n ++ s) = some (n, s) := by
  show some (((byteOf n).toNat : Int), s) = _
  rw [byteOf_fit h0 h1]
theorem num2_enc {n : Int} (h0 : 0 ≤ n) (h1 : n < 65536) (s : Bytes) : num2 (enc2 n ++ s) = some (n, s) := by
  show some (256 * ((byteOf (n / 256)).toNat : Int) + (byteOf n).toNat, s) = _
  rw [byteOf_fit (by omega) (by omega), byteOf_nat]
  congr 2
  omega
def rowFit (x : Row) : Prop := (0 ≤ x.1 ∧ x.1 < 256) ∧ 0 ≤ x.2 ∧ x.2 < 65536
theorem rowG_enc {x : Row} (h : rowFit x) (s : Bytes) : rowG (rowBy x ++ s) = some (x, s) := by
  rw [rowBy, List.append_assoc, rowG, num1_enc h.1.1 h.1.2]
  simp only [Option.bind_some, num2_enc h.2.1 h.2.2, Option.map_some]
theorem repG_enc {α : Type} {p : Bytes → Option (α × Bytes)} {f : α → Bytes} : ∀ (l : List α) (s : Bytes), (∀ x ∈ l, ∀ s, p (f x ++ s) = some (x, s)) → repG p l.length (l.flatMap f ++ s) = some (l, s)
  | [], s, _ => rfl
  | a :: l, s, h => by
    rw [List.flatMap_cons, List.append_assoc, List.length_cons, repG, h a (by simp)]
    show (repG p l.length (l.flatMap f ++ s)).map _ = _
    rw [repG_enc l s fun x hx => h x (by simp [hx])]
    rfl
theorem listG_enc {α : Type} {p : Bytes → Option (α × Bytes)} {f : α → Bytes} (l : List α) (hl : l.length < 256) (s : Bytes) (h : ∀ x ∈ l, ∀ s, p (f x ++ s) = some (x, s)) : listG p (enc1 l.length ++ (l.flatMap f ++ s)) = some (l, s) := by
  rw [listG, num1_enc (by omega) (by omega)]
  show repG p (Int.toNat (l.length : Int)) _ = _
  rw [Int.toNat_natCast]
  exact repG_enc l s h
def comFit (c : Commit) : Prop := (c.1.length < 256 ∧ ∀ x ∈ c.1, rowFit x) ∧ c.2.length < 256 ∧ ∀ n ∈ c.2, 0 ≤ n ∧ n < 256
theorem comG_enc {c : Commit} (h : comFit c) (s : Bytes) : comG (comBy c ++ s) = some (c, s) := by
  rw [comBy, List.append_assoc, List.append_assoc, List.append_assoc, comG, listG_enc c.1 h.1.1 _ fun x hx s => rowG_enc (h.1.2 x hx) s]
  show (listG num1 (enc1 c.2.length ++ (c.2.flatMap enc1 ++ s))).map _ = _
  rw [listG_enc c.2 h.2.1 s fun n hn s => num1_enc (h.2.2 n hn).1 (h.2.2 n hn).2 s]
  rfl
def headFit (h : Head) : Prop := h.1.size < 256 ∧ 0 ≤ h.2 ∧ h.2 < 256
theorem textG_enc (b : ByteArray) (h : b.size < 256) (s : Bytes) : textG (enc1 b.size ++ (b.data.toList ++ s)) = some (b, s) := by
  have e : b.data.toList.length = b.size := Array.length_toList
  rw [textG, num1_enc (by omega) (by omega)]
  show (takeG (Int.toNat (b.size : Int)) (b.data.toList ++ s)).map _ = _
  rw [Int.toNat_natCast, takeG, if_pos (by rw [List.length_append, e]; omega), List.take_left' e, List.drop_left' e]
  show some (bl b.data.toList, s) = _
  rw [bl_data]
theorem headG_enc {h : Head} (hf : headFit h) (s : Bytes) : headG (headBy h ++ s) = some (h, s) := by
  rw [headBy, List.append_assoc, List.append_assoc, headG, textG_enc h.1 hf.1]
  simp only [Option.bind_some, num1_enc hf.2.1 hf.2.2, Option.map_some]
def repoFit (r : Repo) : Prop := (r.1.length < 256 ∧ ∀ c ∈ r.1, comFit c) ∧ r.2.length < 256 ∧ ∀ h ∈ r.2, headFit h
theorem repoG_enc {r : Repo} (h : repoFit r) : repoG (repoBy r) = some (r, []) := by
  have e : repoBy r = enc1 r.1.length ++ (r.1.flatMap comBy ++ (enc1 r.2.length ++ (r.2.flatMap headBy ++ []))) := by simp [repoBy]
  rw [e, repoG, listG_enc r.1 h.1.1 _ fun c hc s => comG_enc (h.1.2 c hc) s]
  show (listG headG _).map _ = _
  rw [listG_enc r.2 h.2.1 [] fun x hx s => headG_enc (h.2.2 x hx) s]
  rfl
theorem rise_fit : ∀ {l : List Row} {last : Int}, -1 ≤ last → riseB last l = true → ∀ x ∈ l, rowFit x
  | [], _, _, _ => by simp
  | a :: l, last, h0, h => by
    rw [riseB_cons] at h
    intro x hx
    rcases List.mem_cons.1 hx with rfl | hx
    · unfold rowFit; omega
    · exact rise_fit (last := a.1) (by omega) h.2 x hx
theorem riseP_fit {n : Int} (hn : n ≤ 14) : ∀ {l : List Int} {last : Int}, -1 ≤ last → risePB n last l = true → ∀ x ∈ l, 0 ≤ x ∧ x < 256
  | [], _, _, _ => by simp
  | a :: l, last, h0, h => by
    rw [risePB_cons] at h
    intro x hx
    rcases List.mem_cons.1 hx with rfl | hx
    · omega
    · exact riseP_fit hn (last := a) (by omega) h.2 x hx
theorem heads_fit {n : Nat} (hn : n ≤ 14) : ∀ {l : List Head} {last : List UInt8}, headsRise n last l = true → ∀ x ∈ l, 0 ≤ x.2 ∧ x.2 < 256
  | [], _, _ => by simp
  | a :: l, last, h => by
    simp only [headsRise, Bool.and_eq_true, decide_eq_true_eq] at h
    intro x hx
    rcases List.mem_cons.1 hx with rfl | hx
    · omega
    · exact heads_fit hn h.2 x hx
theorem repo_fit {r : Repo} (h : repoErr r = 0) : repoFit r := by
  obtain ⟨s1, s2, s3, s4⟩ := repo_small h
  obtain ⟨h1, _, _, h4⟩ := repo_ok h
  obtain ⟨g1, g2⟩ := dag_ok h1
  refine ⟨⟨by omega, fun c hc => ?_⟩, by omega, fun x hx => ⟨by have := s4 x hx; omega, heads_fit s1 h4 x hx⟩⟩
  obtain ⟨n, hn⟩ := List.mem_iff_getElem?.1 hc
  have hnl := (List.getElem?_eq_some_iff.1 hn).1
  obtain ⟨k1, k2, k3⟩ := g2 n c hn
  have := s2 c hc
  exact ⟨⟨by omega, rise_fit (by decide) (ok_rise k1).2⟩, by omega, riseP_fit (by omega) (by decide) k3⟩

/-! ### What is read was so written -/
theorem byteOf_toNat (c : UInt8) : byteOf (c.toNat : Int) = c := by
  apply UInt8.toNat.inj
  have := byte_lt c
  have := byteOf_nat (c.toNat : Int)
  omega
theorem enc1_num {s t : Bytes} {n : Int} (h : num1 s = some (n, t)) : enc1 n ++ t = s := by
  cases s with
  | nil => simp [num1] at h
  | cons c s =>
    simp only [num1, Option.some.injEq, Prod.mk.injEq] at h
    obtain ⟨rfl, rfl⟩ := h
    simp [enc1, byteOf_toNat]
theorem enc2_num {s t : Bytes} {n : Int} (h : num2 s = some (n, t)) : enc2 n ++ t = s := by
  match s, h with
  | c :: d :: s, h =>
    simp only [num2, Option.some.injEq, Prod.mk.injEq] at h
    obtain ⟨rfl, rfl⟩ := h
    have hc := byte_lt c
    have hd := byte_lt d
    have e1 : (256 * (c.toNat : Int) + d.toNat) / 256 = c.toNat := by omega
    have e2 : byteOf (256 * (c.toNat : Int) + d.toNat) = d := by
      apply UInt8.toNat.inj
      have := byteOf_nat (256 * (c.toNat : Int) + d.toNat)
      omega
    simp [enc2, e1, e2, byteOf_toNat]
theorem both {α β γ : Type} {o : Option (α × Bytes)} {f : Bytes → Option (β × Bytes)} {g : α → β → γ} {c : γ} {s : Bytes} (h : (o.bind fun x => (f x.2).map fun y => (g x.1 y.1, y.2)) = some (c, s)) :
    ∃ a t b, o = some (a, t) ∧ f t = some (b, s) ∧ c = g a b := by
  cases o with
  | none => simp at h
  | some x =>
    obtain ⟨a, t⟩ := x
    cases h2 : f t with
    | none => simp [h2] at h
    | some y =>
      obtain ⟨b, u⟩ := y
      simp [h2] at h
      exact ⟨a, t, b, rfl, by rw [h2, h.2], h.1.symm⟩
theorem rowBy_row {s t : Bytes} {x : Row} (h : rowG s = some (x, t)) : rowBy x ++ t = s := by
  obtain ⟨a, u, b, h1, h2, rfl⟩ := both (g := fun a b => ((a, b) : Row)) h
  rw [rowBy, List.append_assoc, enc2_num h2, enc1_num h1]
theorem rep_by {α : Type} {p : Bytes → Option (α × Bytes)} {f : α → Bytes} (hp : ∀ s x t, p s = some (x, t) → f x ++ t = s) : ∀ (n : Nat) {s t : Bytes} {l : List α}, repG p n s = some (l, t) → l.flatMap f ++ t = s ∧ l.length = n
  | 0, s, t, l, h => by
    simp only [repG, Option.some.injEq, Prod.mk.injEq] at h
    obtain ⟨rfl, rfl⟩ := h
    exact ⟨rfl, rfl⟩
  | n + 1, s, t, l, h => by
    obtain ⟨a, u, m, h1, h2, rfl⟩ := both (g := fun a b => a :: b) h
    obtain ⟨g1, g2⟩ := rep_by hp n h2
    rw [List.flatMap_cons, List.append_assoc, g1]
    exact ⟨hp s a u h1, by simp [g2]⟩
theorem list_by {α : Type} {p : Bytes → Option (α × Bytes)} {f : α → Bytes} (hp : ∀ s x t, p s = some (x, t) → f x ++ t = s) {s t : Bytes} {l : List α} (h : listG p s = some (l, t)) : enc1 l.length ++ (l.flatMap f ++ t) = s := by
  unfold listG at h
  cases h1 : num1 s with
  | none => rw [h1] at h; simp at h
  | some x =>
    obtain ⟨n, u⟩ := x
    rw [h1] at h
    have hf := num1_fit h1
    obtain ⟨g1, g2⟩ := rep_by hp n.toNat (show repG p n.toNat u = some (l, t) from h)
    rw [g1, show (l.length : Int) = n by omega]
    exact enc1_num h1
theorem comBy_com {s t : Bytes} {c : Commit} (h : comG s = some (c, t)) : comBy c ++ t = s := by
  obtain ⟨a, u, b, h1, h2, rfl⟩ := both (g := fun a b => ((a, b) : Commit)) h
  have e1 := list_by (f := rowBy) (fun s x t h => rowBy_row h) h1
  have e2 := list_by (f := enc1) (fun s x t h => enc1_num h) h2
  rw [comBy, List.append_assoc, List.append_assoc, List.append_assoc, e2, e1]
theorem text_by {s t : Bytes} {b : ByteArray} (h : textG s = some (b, t)) : enc1 b.size ++ (b.data.toList ++ t) = s := by
  unfold textG at h
  cases h1 : num1 s with
  | none => rw [h1] at h; simp at h
  | some x =>
    obtain ⟨n, u⟩ := x
    rw [h1] at h
    have hf := num1_fit h1
    have h' : (takeG n.toNat u).map (fun y => (bl y.1, y.2)) = some (b, t) := h
    unfold takeG at h'
    split at h'
    · rename_i hle
      simp only [Option.map_some, Option.some.injEq, Prod.mk.injEq] at h'
      obtain ⟨rfl, rfl⟩ := h'
      rw [bl_size, List.length_take, show (bl (u.take n.toNat)).data.toList = u.take n.toNat by simp [bl], List.take_append_drop, show ((min n.toNat u.length : Nat) : Int) = n by omega]
      exact enc1_num h1
    · simp at h'
theorem headBy_head {s t : Bytes} {x : Head} (h : headG s = some (x, t)) : headBy x ++ t = s := by
  obtain ⟨a, u, b, h1, h2, rfl⟩ := both (g := fun a b => ((a, b) : Head)) h
  rw [headBy, List.append_assoc, List.append_assoc, enc1_num h2, text_by h1]
theorem repoBy_repo {s : Bytes} {r : Repo} (h : repoG s = some (r, [])) : repoBy r = s := by
  obtain ⟨a, u, b, h1, h2, rfl⟩ := both (g := fun a b => ((a, b) : Repo)) h
  have e1 := list_by (f := comBy) (fun s x t h => comBy_com h) h1
  have e2 := list_by (f := headBy) (fun s x t h => headBy_head h) h2
  rw [List.append_nil] at e2
  rw [repoBy, List.append_assoc, List.append_assoc, e2, e1]

/-! ### The ear hears what the glass reads -/
theorem byteE_num {s : Bytes} {x : Int × Bytes} (h : num1 s = some x) : byteE s = x := by
  cases s with
  | nil => simp [num1] at h
  | cons c s => simpa [num1, byteE] using h
theorem twoE_num {s : Bytes} {x : Int × Bytes} (h : num2 s = some x) : twoE s = x := by
  match s, h with
  | c :: d :: s, h => simpa [num2, twoE, byteE] using h
theorem rowE_row {s : Bytes} {x : Row × Bytes} (h : rowG s = some x) : rowE s = x := by
  obtain ⟨a, u, b, h1, h2, e⟩ := both (g := fun a b => ((a, b) : Row)) (c := x.1) (s := x.2) h
  rw [rowE, byteE_num h1, twoE_num h2, ← e]
theorem repE_rep {α : Type} {p : Bytes → Option (α × Bytes)} {q : Bytes → α × Bytes} (hp : ∀ s x, p s = some x → q s = x) : ∀ (n : Nat) {s : Bytes} {x : List α × Bytes}, repG p n s = some x → repE q n s = x
  | 0, s, x, h => by simpa [repG, repE] using h
  | n + 1, s, x, h => by
    obtain ⟨a, u, m, h1, h2, e⟩ := both (g := fun a b => a :: b) (c := x.1) (s := x.2) h
    rw [repE, hp s _ h1, repE_rep hp n h2, ← e]
theorem listE_list {α : Type} {p : Bytes → Option (α × Bytes)} {q : Bytes → α × Bytes} (hp : ∀ s x, p s = some x → q s = x) {s : Bytes} {x : List α × Bytes} (h : listG p s = some x) : listE q s = x := by
  unfold listG at h
  cases h1 : num1 s with
  | none => rw [h1] at h; simp at h
  | some y =>
    rw [h1] at h
    rw [listE, byteE_num h1]
    exact repE_rep hp _ h
theorem comE_com {s : Bytes} {x : Commit × Bytes} (h : comG s = some x) : comE s = x := by
  obtain ⟨a, u, b, h1, h2, e⟩ := both (g := fun a b => ((a, b) : Commit)) (c := x.1) (s := x.2) h
  rw [comE, listE_list (q := rowE) (fun s x h => rowE_row h) h1, listE_list (q := byteE) (fun s x h => byteE_num h) h2, ← e]
theorem headE_head {s : Bytes} {x : Head × Bytes} (h : headG s = some x) : headE s = x := by
  obtain ⟨a, u, b, h1, h2, e⟩ := both (g := fun a b => ((a, b) : Head)) (c := x.1) (s := x.2) h
  unfold textG at h1
  cases hn : num1 s with
  | none => rw [hn] at h1; simp at h1
  | some y =>
    obtain ⟨n, t⟩ := y
    rw [hn] at h1
    have hb := byteE_num hn
    have h' : (takeG n.toNat t).map (fun y => (bl y.1, y.2)) = some (a, u) := h1
    unfold takeG at h'
    split at h'
    · rename_i hle
      simp only [Option.map_some, Option.some.injEq, Prod.mk.injEq] at h'
      obtain ⟨rfl, rfl⟩ := h'
      have hm : nameE s = n.toNat := by
        show min (byteE s).1.toNat (byteE s).2.length = _
        rw [hb]
        show min n.toNat t.length = _
        omega
      rw [headE, hm, hb]
      show ((bl (t.take n.toNat), (byteE (t.drop n.toNat)).1), (byteE (t.drop n.toNat)).2) = x
      rw [byteE_num h2, ← e]
    · simp at h'
theorem repoE_repo {s : Bytes} {x : Repo × Bytes} (h : repoG s = some x) : repoE s = x.1 := by
  obtain ⟨a, u, b, h1, h2, e⟩ := both (g := fun a b => ((a, b) : Repo)) (c := x.1) (s := x.2) h
  rw [repoE, listE_list (q := comE) (fun s x h => comE_com h) h1, listE_list (q := headE) (fun s x h => headE_head h) h2, ← e]

/-! ### The laws -/
theorem read_written {r : Repo} (h : repoErr r = 0) (hl : ¬ 4096 < (repoBy r).length) : readP (repoBy r) = (r, 0) := by
  rw [readP, if_neg hl, repoG_enc (repo_fit h)]
  exact if_pos h
theorem readP_cases {b : Bytes} (hl : ¬ 4096 < b.length) : (repoErr (readP b).1 = 0 ∧ repoG b = some ((readP b).1, []) ∧ (readP b).2 = 0) ∨ readP b = (([], []), 1) := by
  unfold readP
  rw [if_neg hl]
  split
  · rename_i r h
    split
    · rename_i he
      exact .inl ⟨he, h, rfl⟩
    · exact .inr rfl
  · exact .inr rfl
/-- The document's answer is Read's. -/
theorem read_from {b : Bytes} (hl : ¬ 4096 < b.length) : readP b = ((fromP b).1, if (fromP b).2 = true then 0 else 1) := by
  by_cases hc : repoErr (repoE b) = 0 ∧ repoBy (repoE b) = b
  · have hf : fromP b = (repoE b, true) := by rw [fromP, if_pos hc]
    rw [hf]
    have := read_written hc.1 (by rw [hc.2]; exact hl)
    rw [hc.2] at this
    exact this
  · have hf : fromP b = (([], []), false) := by rw [fromP, if_neg hc]
    rw [hf]
    rcases readP_cases hl with ⟨h1, h2, h3⟩ | h
    · exfalso
      have e := repoE_repo h2
      exact hc ⟨by rw [e]; exact h1, by rw [e]; exact repoBy_repo h2⟩
    · exact h
/-- What is read is written as it was. -/
theorem write_read {b : Bytes} (h : (readP b).2 = 0) : writeP (readP b).1 = (b, 0) := by
  by_cases hl : 4096 < b.length
  · rw [readP, if_pos hl] at h; simp at h
  · rcases readP_cases hl with ⟨h1, h2, h3⟩ | h'
    · rw [writeP, if_pos h1, repoBy_repo h2]
    · rw [h'] at h; simp at h

end Go.Pch
