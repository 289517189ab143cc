/- The walks of what the document says of commits. -/
import Derived.Test.YtklgejafblocjaaDagX
namespace Go.Pch
open Go.RowKit Go.Proofs

/-- A row of bools that says f. -/
def FillBy (bl : List Bool) (n : Nat) (f : Nat → Bool) : Prop := bl.length = n ∧ ∀ i, i < n → bl[i]? = some (f i)
theorem FillBy.none (n : Nat) : FillBy (List.replicate n false) n (fun _ => false) := ⟨by simp, fun i hi => by simp [hi]⟩
theorem FillBy.set {bl : List Bool} {n p : Nat} {f : Nat → Bool} (h : FillBy bl n f) (hp : p < n) : FillBy (bl.set p true) n (fun i => f i || i == p) := by
  refine ⟨by simp [h.1], fun i hi => ?_⟩
  rw [List.getElem?_set]
  split
  · rename_i e
    subst e
    simp [h.1, hp]
  · rename_i e
    rw [h.2 i hi]
    have : (i == p) = false := by simp; omega
    simp [this]
theorem FillBy.eq {bl : List Bool} {n : Nat} {f g : Nat → Bool} (h : FillBy bl n f) (hg : ∀ i, i < n → f i = g i) : FillBy bl n g := ⟨h.1, fun i hi => by rw [h.2 i hi, hg i hi]⟩
theorem FillBy.all {bl : List Bool} {n : Nat} {f : Nat → Bool} (h : FillBy bl n f) : bl = (List.range n).map f := by
  apply List.ext_getElem?
  intro i
  by_cases hi : i < n
  · rw [h.2 i hi]; simp [hi]
  · rw [List.getElem?_eq_none (by rw [h.1]; omega), List.getElem?_eq_none (by simp; omega)]

/-- Marked when all ahead of k have been looked at (k: one more than the next). -/
def mark (l : List Commit) (q k i : Nat) : Bool := i == q || (List.range l.length).any fun j => decide (k ≤ j) && ab l q j && (pars l j).contains (i : Int)
theorem mark_iff {l : List Commit} {q k i : Nat} : mark l q k i = true ↔ i = q ∨ ∃ j, j < l.length ∧ k ≤ j ∧ ab l q j = true ∧ (i : Int) ∈ pars l j := by
  simp [mark, and_assoc]
theorem mark_top {l : List Commit} (h : DagOk l) (q i : Nat) : mark l q (q + 1) i = (i == q) := by
  rw [Bool.eq_iff_iff, mark_iff, beq_iff_eq]
  constructor
  · rintro (h1 | ⟨j, _, h2, h3, _⟩)
    · exact h1
    · have := ab_le h q j h3; omega
  · exact .inl
theorem mark_self {l : List Commit} (h : DagOk l) {q k : Nat} (_hk : k < l.length) : mark l q (k + 1) k = ab l q k := by
  rw [Bool.eq_iff_iff, mark_iff]
  constructor
  · rintro (rfl | ⟨j, _, h2, h3, h4⟩)
    · exact ab_self h _
    · exact ab_step h h3 h4
  · intro hk
    rcases ab_last h q k hk with h1 | ⟨j, h2, h3⟩
    · exact .inl h1
    · have := pars_lt h h3
      exact .inr ⟨j, this.2.2, by omega, h2, h3⟩
theorem mark_zero {l : List Commit} (h : DagOk l) {q i : Nat} : mark l q 0 i = ab l q i := by
  rw [Bool.eq_iff_iff, mark_iff]
  constructor
  · rintro (rfl | ⟨j, _, h2, h3, h4⟩)
    · exact ab_self h _
    · exact ab_step h h3 h4
  · intro hk
    rcases ab_last h q i hk with h1 | ⟨j, h2, h3⟩
    · exact .inl h1
    · have := pars_lt h h3
      exact .inr ⟨j, this.2.2, by omega, h2, h3⟩
theorem mark_next {l : List Commit} {q k i : Nat} (hk : k < l.length) : mark l q k i = (mark l q (k + 1) i || (ab l q k && (pars l k).contains (i : Int))) := by
  rw [Bool.eq_iff_iff, Bool.or_eq_true, Bool.and_eq_true, mark_iff, mark_iff, List.contains_iff_mem]
  constructor
  · rintro (h1 | ⟨j, h1, h2, h3, h4⟩)
    · exact .inl (.inl h1)
    · by_cases e : j = k
      · subst e; exact .inr ⟨h3, h4⟩
      · exact .inl (.inr ⟨j, h1, by omega, h3, h4⟩)
  · rintro ((h1 | ⟨j, h1, h2, h3, h4⟩) | ⟨h3, h4⟩)
    · exact .inl h1
    · exact .inr ⟨j, h1, by omega, h3, h4⟩
    · exact .inr ⟨k, hk, Nat.le_refl _, h3, h4⟩
theorem contains_take {ps : List Int} {j p : Nat} {i : Nat} (hj : j < ps.length) (hp : ps[j] = p) : (ps.take (j + 1)).contains (i : Int) = ((ps.take j).contains (i : Int) || i == p) := by
  rw [List.take_succ_eq_append_getElem hj, Bool.eq_iff_iff, Bool.or_eq_true, List.contains_iff_mem, List.contains_iff_mem, List.mem_append, beq_iff_eq, hp]
  simp only [List.mem_singleton, Int.natCast_inj]

set_option maxRecDepth 100000 in
set_option maxHeartbeats 1000000 in
theorem refAboveOf {l : List Commit} (hok : DagOk l) (q : Nat) (hq : q < l.length) (v : Value) (S : Blk) (w : World) (h : Sl tCommit w S v l) :
    Calls Try.prog 11 #[v, .int .i64 q] w (Ret w fun r w' => ∃ g, w.heap.size ≤ g ∧ g < w'.heap.size ∧ r = .slice (some ⟨g, 0, none⟩) l.length l.length ∧ ∃ bl, Bools w' g bl ∧ FillBy bl l.length (ab l q)) := by
  have hv := h
  have h14 := hok.1
  obtain ⟨ao, cap, rfl, hcap, hmax, hnil⟩ := h.shape
  unfold maxLen at hmax
  have hmk := runMakeBools l.length (by omega)
  have hb0 := (Below.refl w.heap.size w).alloc (Nat.le_refl _) (.cells (madeCells #[.bool false] l.length) 4)
  have hB0 := Bools.made w l.length 4
  have hf0 := FillBy.none l.length
  have hix := idxBools w.heap.size l.length q hq
  obtain ⟨hcell, hfroz⟩ := hB0 q _ (hf0.2 q hq)
  have hb1 := hb0.setCell (p := ⟨w.heap.size, q, none⟩) (Nat.le_refl _) (.bool true)
  have hB1 := hB0.set (i := q) (by simpa using hq) true
  rw [World.setCell_alloc_new] at hb1 hB1
  go_enter Try.func11, Try.ntmps11
  go_wp2_with fail
  go_loopw [6] (fun i wr => ∃ (k : Nat) (bl : List Bool), k ≤ q + 1 ∧ i = .int .i64 ((k : Int) - 1) ∧ Below w.heap.size w wr ∧ w.heap.size < wr.heap.size ∧ Bools wr w.heap.size bl ∧ Hid (FillBy bl l.length (mark l q k))) (fun i _ => (intOf i + 1).toNat)
  case atStart => exact ⟨q + 1, _, Nat.le_refl _, by go_num, hb1, by simp, hB1, (hf0.set hq).eq fun i _ => by rw [mark_top hok, Bool.false_or]⟩
  case round =>
    obtain ⟨k', bl, hk, rfl, hb, hsz, hbl, hf⟩ := hrel
    cases k' with
    | zero =>
      go_wp2
      go_ret
      exact ⟨_, rfl, ⟨_, Nat.le_refl _, hsz, rfl, _, hbl, hf.out.eq fun i _ => mark_zero hok⟩, hb⟩
    | succ k =>
      have hkl : k < l.length := by omega
      have e1 : (((k + 1 : Nat) : Int) - 1) = (k : Int) := by omega
      rw [e1]
      clear e1
      obtain ⟨rs, ps, hck⟩ : ∃ r p, l[k] = (r, p) := ⟨_, _, rfl⟩
      have hmem : ∀ j (hj : j < ps.length), 0 ≤ ps[j] ∧ ps[j] < k := fun j hj => by
        have := pars_lt hok (n := k) (p := ps[j]) (by rw [pars_some hkl hck]; exact List.getElem_mem hj)
        omega
      have HM := keepBack hmem
      have HN := keepBack (fun i => mark_next (q := q) (i := i) hkl)
      rw [pars_some hkl hck] at HN
      clear hmem
      obtain ⟨b, o, a1, c1, a2, c2, hix, _, hbs, h1, h2, z1, z2, z3, z4, hc0, hc1⟩ := hv.idxCommitAt aCom k k rfl hkl rs ps hck
      have hixk := idxBools w.heap.size l.length k hkl
      cases hab : ab l q k with
      | false =>
        have hF : FillBy bl l.length (mark l q k) := hf.out.eq fun i _ => by rw [HN.out i, hab]; simp
        have HF := keepBack hF
        obtain ⟨hcell, hfroz⟩ := hbl k _ (hf.out.2 k hkl)
        rw [mark_self hok hkl, hab] at hcell
        clear hF
        have hc1r := (hb.cell (p := ⟨b, o + 1, none⟩) hbs).trans hc1
        go_wp2_with fail
        go_loopw [7] (fun i wr' => i = .int .i64 0 ∧ wr' = wr) (fun i _ => 0)
        case atStart => exact ⟨rfl, rfl⟩
        case round =>
          obtain ⟨rfl, rfl⟩ := hrel
          go_wp2_with fail
          all_goals
            go_roundw
            case rel => exact ⟨k, bl, by omega, rfl, hb, hsz, hbl, HF.out⟩
            case measure => simp [intOf]
      | true =>
        have hFk := hf.out
        go_wp2_with fail
        go_loopw [7] (fun i wr' => ∃ (j : Nat) (bl' : List Bool), j ≤ ps.length ∧ i = .int .i64 j ∧ Below w.heap.size w wr' ∧ w.heap.size < wr'.heap.size ∧ Bools wr' w.heap.size bl' ∧ Hid (FillBy bl' l.length (fun i => mark l q (k + 1) i || (ps.take j).contains (i : Int)))) (fun i _ => ps.length - (intOf i).toNat)
        case atStart => exact ⟨0, bl, Nat.zero_le _, rfl, hb, hsz, hbl, hf.out.eq fun i _ => by simp⟩
        case round =>
          obtain ⟨j, bl', hj, rfl, hb', hsz', hbl', hf'⟩ := hrel
          have hc1r := (hb'.cell (p := ⟨b, o + 1, none⟩) hbs).trans hc1
          have hkk : wr.cell? ⟨w.heap.size, k, none⟩ = some (.bool true) := by
            rw [(hbl' k _ (hf'.out.2 k hkl)).1]
            show some (Value.bool (mark l q (k + 1) k || _)) = _
            rw [mark_self hok hkl, hab, Bool.true_or]
          by_cases hlt2 : j < ps.length
          · obtain ⟨b', o', hix', _, hbs', ok1, hc'⟩ := (h2.call hb').idxInt aInt j j rfl hlt2
            have hpj := HM.out j hlt2
            obtain ⟨p, hp⟩ : ∃ p : Nat, ps[j] = p := ⟨ps[j].toNat, by omega⟩
            have HT := keepBack (fun i => contains_take (i := i) hlt2 hp)
            rw [hp] at hc' hpj
            clear hp ok1
            have hpl : p < l.length := by omega
            have hixp := idxBools w.heap.size l.length p hpl
            obtain ⟨hcp, hfp⟩ := hbl' p _ (hf'.out.2 p hpl)
            go_wp2_with fail
            go_roundw
            case rel => exact ⟨j + 1, _, by omega, by go_num, hb'.setCell (Nat.le_refl _) _, by simpa using hsz', hbl'.set (by rw [hf'.out.1]; exact hpl) true, (hf'.out.set hpl).eq fun i _ => by rw [HT.out i, Bool.or_assoc]⟩
            case measure => simp [intOf]; omega
          · obtain rfl : j = ps.length := by omega
            go_wp2_with fail
            go_roundw
            case rel => exact ⟨k, bl', by omega, rfl, hb', hsz', hbl', hf'.out.eq fun i _ => by rw [List.take_length, HN.out i, hab, Bool.true_and]⟩
            case measure => simp [intOf]

set_option maxHeartbeats 400000 in
theorem refSameInts (v u : Value) (l m : List Int) (S S' : Blk) (w : World) (h : Sl tInt w S v l) (g : Sl tInt w S' u m) :
    Calls Try.prog 18 #[v, u] w (Quiet w (.bool (decide (l = m)))) := by
  obtain ⟨ao, cap, rfl, hcap, hmax, hnil⟩ := h.shape
  obtain ⟨ao', cap', rfl, hcap', hmax', hnil'⟩ := g.shape
  unfold maxLen at hmax hmax'
  by_cases he : l.length = m.length
  · have hne : (((l.length : Nat) : Int) != (m.length : Int)) = false := by simp [he]
    have hl1 : l.length ≤ m.length := by omega
    have hl2 : m.length ≤ l.length := by omega
    clear he
    go_enter Try.func18, Try.ntmps18
    go_wp2
    go_loopw [5] (fun i wr => ∃ (k : Nat), k ≤ l.length ∧ i = .int .i64 k ∧ Drawn w wr ∧ Hid (l.take k = m.take k)) (fun i _ => l.length - (intOf i).toNat)
    case atStart => exact ⟨0, Nat.zero_le _, rfl, .refl _, rfl⟩
    case round =>
      obtain ⟨k, hk, rfl, hd, hm⟩ := hrel
      by_cases hlt : k < l.length
      · obtain ⟨b, o, hix, _, hbs, ok, hc0⟩ := (h.call hd.below).idxInt aInt k k rfl hlt
        obtain ⟨b', o', hix', _, hbs', ok_, hc0'⟩ := (g.call hd.below).idxInt aInt k k rfl (by omega)
        by_cases hx : l[k] = m[k]
        · have Hx := keepBack hx
          have hq : (l[k] != m[k]) = false := by simp [hx]
          clear hx
          go_wp2_with fail
          go_quiet (fail)
          go_wp2
          go_roundw
          case rel => exact ⟨k + 1, by omega, by go_num, hd.next _, take_more hlt (by omega) hm.out Hx.out⟩
          case measure => simp [intOf]; omega
        · have Hx := keepBack hx
          have hq : (l[k] != m[k]) = true := by simp [hx]
          clear hx
          go_wp2_with fail
          go_quiet (fail)
          go_wp2
          go_ret
          refine ⟨ret_no fun e => ?_, hd.next _⟩
          subst e
          exact Hx.out rfl
      · go_wp2
        go_ret
        exact ⟨ret_yes (take_all hlt hl1 hl2 hm.out), hd⟩
  · have hne : (((l.length : Nat) : Int) != (m.length : Int)) = true := by simp; omega
    go_enter Try.func18, Try.ntmps18
    go_wp2
    go_ret
    exact ⟨ret_no fun e => he (by rw [e]), .refl _⟩
theorem refSameInts_of {c : Bool} (v u : Value) (l m : List Int) (S S' : Blk) (w : World) (h : Sl tInt w S v l) (g : Sl tInt w S' u m) (hc : decide (l = m) = c) :
    Calls Try.prog 18 #[v, u] w (Quiet w (.bool c)) := hc ▸ refSameInts v u l m S S' w h g

set_option maxHeartbeats 400000 in
theorem refSameBools (v u : Value) (l m : List Bool) (S S' : Blk) (w : World) (h : Sl tBool w S v l) (g : Sl tBool w S' u m) :
    Calls Try.prog 15 #[v, u] w (Quiet w (.bool (decide (l = m)))) := by
  obtain ⟨ao, cap, rfl, hcap, hmax, hnil⟩ := h.shape
  obtain ⟨ao', cap', rfl, hcap', hmax', hnil'⟩ := g.shape
  unfold maxLen at hmax hmax'
  by_cases he : l.length = m.length
  · have hne : (((l.length : Nat) : Int) != (m.length : Int)) = false := by simp [he]
    have hl1 : l.length ≤ m.length := by omega
    have hl2 : m.length ≤ l.length := by omega
    clear he
    go_enter Try.func15, Try.ntmps15
    go_wp2
    go_loopw [5] (fun i wr => ∃ (k : Nat), k ≤ l.length ∧ i = .int .i64 k ∧ Drawn w wr ∧ Hid (l.take k = m.take k)) (fun i _ => l.length - (intOf i).toNat)
    case atStart => exact ⟨0, Nat.zero_le _, rfl, .refl _, rfl⟩
    case round =>
      obtain ⟨k, hk, rfl, hd, hm⟩ := hrel
      by_cases hlt : k < l.length
      · obtain ⟨b, o, hix, _, hbs, hc0⟩ := (h.call hd.below).idxBool aBool k k rfl hlt
        obtain ⟨b', o', hix', _, hbs', hc0'⟩ := (g.call hd.below).idxBool aBool k k rfl (by omega)
        by_cases hx : l[k] = m[k]
        · have Hx := keepBack hx
          have hq : (l[k] == m[k]) = true := by simp [hx]
          clear hx
          go_wp2_with fail
          go_quiet (fail)
          go_wp2
          go_roundw
          case rel => exact ⟨k + 1, by omega, by go_num, hd.next _, take_more hlt (by omega) hm.out Hx.out⟩
          case measure => simp [intOf]; omega
        · have Hx := keepBack hx
          have hq : (l[k] == m[k]) = false := by simp [hx]
          clear hx
          go_wp2_with fail
          go_quiet (fail)
          go_wp2
          go_ret
          refine ⟨ret_no fun e => ?_, hd.next _⟩
          subst e
          exact Hx.out rfl
      · go_wp2
        go_ret
        exact ⟨ret_yes (take_all hlt hl1 hl2 hm.out), hd⟩
  · have hne : (((l.length : Nat) : Int) != (m.length : Int)) = true := by simp; omega
    go_enter Try.func15, Try.ntmps15
    go_wp2
    go_ret
    exact ⟨ret_no fun e => he (by rw [e]), .refl _⟩
theorem refSameBools_of {c : Bool} (v u : Value) (l m : List Bool) (S S' : Blk) (w : World) (h : Sl tBool w S v l) (g : Sl tBool w S' u m) (hc : decide (l = m) = c) :
    Calls Try.prog 15 #[v, u] w (Quiet w (.bool c)) := hc ▸ refSameBools v u l m S S' w h g

end Go.Pch
