/- The walks of what the document says of commits. The walks of package dag: bases. -/
import Derived.Test.YtjjkdpjjaijmbaaGreatDoorDg4
import Derived.Deep.RegionHeld3
section
namespace Go.Pch
open Go.RowKit Go.Proofs
def FillBy (bl : List Bool) (n : Nat) (f : Nat → Bool) : Prop := bl.length = n ∧ ∀ i, i < n → bl[i]? = some (f i)
theorem FillBy.none (n : Nat) : FillBy (List.replicate n false) n (fun _ => false) := ⟨by simp, fun i hi => by simp [hi]⟩
theorem FillBy.set {bl : List Bool} {n p : Nat} {f : Nat → Bool} (h : FillBy bl n f) (hp : p < n) : FillBy (bl.set p true) n (fun i => f i || i == p) := by
  refine ⟨by simp [h.1], fun i hi => ?_⟩
  rw [List.getElem?_set]
  split
  · rename_i e
    subst e
    simp [h.1, hp]
  · rename_i e
    rw [h.2 i hi]
    have : (i == p) = false := by simp; omega
    simp [this]
theorem FillBy.eq {bl : List Bool} {n : Nat} {f g : Nat → Bool} (h : FillBy bl n f) (hg : ∀ i, i < n → f i = g i) : FillBy bl n g := ⟨h.1, fun i hi => by rw [h.2 i hi, hg i hi]⟩
def mark (l : List Commit) (q k i : Nat) : Bool := i == q || (List.range l.length).any fun j => decide (k ≤ j) && ab l q j && (pars l j).contains (i : Int)
theorem mark_iff {l : List Commit} {q k i : Nat} : mark l q k i = true ↔ i = q ∨ ∃ j, j < l.length ∧ k ≤ j ∧ ab l q j = true ∧ (i : Int) ∈ pars l j := by
  simp [mark, and_assoc]
theorem mark_top {l : List Commit} (h : DagOk l) (q i : Nat) : mark l q (q + 1) i = (i == q) := by
  rw [Bool.eq_iff_iff, mark_iff, beq_iff_eq]
  constructor
  · rintro (h1 | ⟨j, _, h2, h3, _⟩)
    · exact h1
    · have := ab_le h q j h3; omega
  · exact .inl
theorem mark_self {l : List Commit} (h : DagOk l) {q k : Nat} (_hk : k < l.length) : mark l q (k + 1) k = ab l q k := by
  rw [Bool.eq_iff_iff, mark_iff]
  constructor
  · rintro (rfl | ⟨j, _, h2, h3, h4⟩)
    · exact ab_self h _
    · exact ab_step h h3 h4
  · intro hk
    rcases ab_last h q k hk with h1 | ⟨j, h2, h3⟩
    · exact .inl h1
    · have := pars_lt h h3
      exact .inr ⟨j, this.2.2, by omega, h2, h3⟩
theorem mark_zero {l : List Commit} (h : DagOk l) {q i : Nat} : mark l q 0 i = ab l q i := by
  rw [Bool.eq_iff_iff, mark_iff]
  constructor
  · rintro (rfl | ⟨j, _, h2, h3, h4⟩)
    · exact ab_self h _
    · exact ab_step h h3 h4
  · intro hk
    rcases ab_last h q i hk with h1 | ⟨j, h2, h3⟩
    · exact .inl h1
    · have := pars_lt h h3
      exact .inr ⟨j, this.2.2, by omega, h2, h3⟩
theorem mark_next {l : List Commit} {q k i : Nat} (hk : k < l.length) : mark l q k i = (mark l q (k + 1) i || (ab l q k && (pars l k).contains (i : Int))) := by
  rw [Bool.eq_iff_iff, Bool.or_eq_true, Bool.and_eq_true, mark_iff, mark_iff, List.contains_iff_mem]
  constructor
  · rintro (h1 | ⟨j, h1, h2, h3, h4⟩)
    · exact .inl (.inl h1)
    · by_cases e : j = k
      · subst e; exact .inr ⟨h3, h4⟩
      · exact .inl (.inr ⟨j, h1, by omega, h3, h4⟩)
  · rintro ((h1 | ⟨j, h1, h2, h3, h4⟩) | ⟨h3, h4⟩)
    · exact .inl h1
    · exact .inr ⟨j, h1, by omega, h3, h4⟩
    · exact .inr ⟨k, hk, Nat.le_refl _, h3, h4⟩
theorem contains_take {ps : List Int} {j p : Nat} {i : Nat} (hj : j < ps.length) (hp : ps[j] = p) : (ps.take (j + 1)).contains (i : Int) = ((ps.take j).contains (i : Int) || i == p) := by
  rw [List.take_succ_eq_append_getElem hj, Bool.eq_iff_iff, Bool.or_eq_true, List.contains_iff_mem, List.contains_iff_mem, List.mem_append, beq_iff_eq, hp]
  simp only [List.mem_singleton, Int.natCast_inj]
set_option maxRecDepth 100000 in
set_option maxHeartbeats 1000000 in
theorem refAboveOf {l : List Commit} (hok : DagOk l) (q : Nat) (hq : q < l.length) (v : Value) (S : Blk) (w : World) (h : Sl tCommit w S v l) :
    Calls Tryz.prog 83 #[v, .int .i64 q] w (Ret w fun r w' => ∃ g, w.heap.size ≤ g ∧ g < w'.heap.size ∧ r = .slice (some ⟨g, 0, none⟩) l.length l.length ∧ ∃ bl, Bools w' g bl ∧ FillBy bl l.length (ab l q)) := by
  have hv := h
  have h14 := hok.1
  obtain ⟨ao, cap, rfl, hcap, hmax, hnil⟩ := h.shape
  unfold maxLen at hmax
  have hmk := runMakeBools l.length (by omega)
  have hb0 := (Below.refl w.heap.size w).alloc (Nat.le_refl _) (.cells (madeCells #[.bool false] l.length) 4)
  have hB0 := Bools.made w l.length 4
  have hf0 := FillBy.none l.length
  have hix := idxBools w.heap.size l.length q hq
  obtain ⟨hcell, hfroz⟩ := hB0 q _ (hf0.2 q hq)
  have hb1 := hb0.setCell (p := ⟨w.heap.size, q, none⟩) (Nat.le_refl _) (.bool true)
  have hB1 := hB0.set (i := q) (by simpa using hq) true
  rw [World.setCell_alloc_new] at hb1 hB1
  go_enter Tryz.func83, Tryz.ntmps83
  go_wp2_with fail
  go_loopw [6] (fun i wr => ∃ (k : Nat) (bl : List Bool), k ≤ q + 1 ∧ i = .int .i64 ((k : Int) - 1) ∧ Below w.heap.size w wr ∧ w.heap.size < wr.heap.size ∧ Bools wr w.heap.size bl ∧ Hid (FillBy bl l.length (mark l q k))) (fun i _ => (intOf i + 1).toNat)
  case atStart => exact ⟨q + 1, _, Nat.le_refl _, by go_num, hb1, by simp, hB1, (hf0.set hq).eq fun i _ => by rw [mark_top hok, Bool.false_or]⟩
  case round =>
    obtain ⟨k', bl, hk, rfl, hb, hsz, hbl, hf⟩ := hrel
    cases k' with
    | zero =>
      go_wp2
      go_ret
      exact ⟨_, rfl, ⟨_, Nat.le_refl _, hsz, rfl, _, hbl, hf.out.eq fun i _ => mark_zero hok⟩, hb⟩
    | succ k =>
      have hkl : k < l.length := by omega
      have e1 : (((k + 1 : Nat) : Int) - 1) = (k : Int) := by omega
      rw [e1]
      clear e1
      obtain ⟨rs, ps, hck⟩ : ∃ r p, l[k] = (r, p) := ⟨_, _, rfl⟩
      have hmem : ∀ j (hj : j < ps.length), 0 ≤ ps[j] ∧ ps[j] < k := fun j hj => by
        have := pars_lt hok (n := k) (p := ps[j]) (by rw [pars_some hkl hck]; exact List.getElem_mem hj)
        omega
      have HM := keepBack hmem
      have HN := keepBack (fun i => mark_next (q := q) (i := i) hkl)
      rw [pars_some hkl hck] at HN
      clear hmem
      obtain ⟨b, o, a1, c1, a2, c2, hix, _, hbs, h1, h2, z1, z2, z3, z4, hc0, hc1⟩ := hv.idxCommitAt aCom k k rfl hkl rs ps hck
      have hixk := idxBools w.heap.size l.length k hkl
      cases hab : ab l q k with
      | false =>
        have hF : FillBy bl l.length (mark l q k) := hf.out.eq fun i _ => by rw [HN.out i, hab]; simp
        have HF := keepBack hF
        obtain ⟨hcell, hfroz⟩ := hbl k _ (hf.out.2 k hkl)
        rw [mark_self hok hkl, hab] at hcell
        clear hF
        have hc1r := (hb.cell (p := ⟨b, o + 1, none⟩) hbs).trans hc1
        go_wp2_with fail
        go_loopw [7] (fun i wr' => i = .int .i64 0 ∧ wr' = wr) (fun i _ => 0)
        case atStart => exact ⟨rfl, rfl⟩
        case round =>
          obtain ⟨rfl, rfl⟩ := hrel
          go_wp2_with fail
          all_goals
            go_roundw
            case rel => exact ⟨k, bl, by omega, rfl, hb, hsz, hbl, HF.out⟩
            case measure => simp [intOf]
      | true =>
        have hFk := hf.out
        go_wp2_with fail
        go_loopw [7] (fun i wr' => ∃ (j : Nat) (bl' : List Bool), j ≤ ps.length ∧ i = .int .i64 j ∧ Below w.heap.size w wr' ∧ w.heap.size < wr'.heap.size ∧ Bools wr' w.heap.size bl' ∧ Hid (FillBy bl' l.length (fun i => mark l q (k + 1) i || (ps.take j).contains (i : Int)))) (fun i _ => ps.length - (intOf i).toNat)
        case atStart => exact ⟨0, bl, Nat.zero_le _, rfl, hb, hsz, hbl, hf.out.eq fun i _ => by simp⟩
        case round =>
          obtain ⟨j, bl', hj, rfl, hb', hsz', hbl', hf'⟩ := hrel
          have hc1r := (hb'.cell (p := ⟨b, o + 1, none⟩) hbs).trans hc1
          have hkk : wr.cell? ⟨w.heap.size, k, none⟩ = some (.bool true) := by
            rw [(hbl' k _ (hf'.out.2 k hkl)).1]
            show some (Value.bool (mark l q (k + 1) k || _)) = _
            rw [mark_self hok hkl, hab, Bool.true_or]
          by_cases hlt2 : j < ps.length
          · obtain ⟨b', o', hix', _, hbs', ok1, hc'⟩ := (h2.call hb').idxInt aInt j j rfl hlt2
            have hpj := HM.out j hlt2
            obtain ⟨p, hp⟩ : ∃ p : Nat, ps[j] = p := ⟨ps[j].toNat, by omega⟩
            have HT := keepBack (fun i => contains_take (i := i) hlt2 hp)
            rw [hp] at hc' hpj
            clear hp ok1
            have hpl : p < l.length := by omega
            have hixp := idxBools w.heap.size l.length p hpl
            obtain ⟨hcp, hfp⟩ := hbl' p _ (hf'.out.2 p hpl)
            go_wp2_with fail
            go_roundw
            case rel => exact ⟨j + 1, _, by omega, by go_num, hb'.setCell (Nat.le_refl _) _, by simpa using hsz', hbl'.set (by rw [hf'.out.1]; exact hpl) true, (hf'.out.set hpl).eq fun i _ => by rw [HT.out i, Bool.or_assoc]⟩
            case measure => simp [intOf]; omega
          · obtain rfl : j = ps.length := by omega
            go_wp2_with fail
            go_roundw
            case rel => exact ⟨k, bl', by omega, rfl, hb', hsz', hbl', hf'.out.eq fun i _ => by rw [List.take_length, HN.out i, hab, Bool.true_and]⟩
            case measure => simp [intOf]
end Go.Pch
end

section
namespace Go.Pch
open Go.RowKit Go.Proofs
def BitsBy (m : Nat) (f : Nat → Bool) : Prop := m < 16384 ∧ ∀ i, m.testBit i = f i
theorem BitsBy.of {l : List Commit} (h : DagOk l) {n : Nat} (hn : n < l.length) : BitsBy (ofL l n) (ab l n) := ⟨ofL_lt h hn, ofL_bit l n⟩
theorem BitsBy.and {a b : Nat} {f g : Nat → Bool} (h : BitsBy a f) (k : BitsBy b g) : BitsBy (a &&& b) (fun i => f i && g i) :=
  ⟨Nat.and_lt_two_pow (n := 14) _ k.1, fun i => by rw [Nat.testBit_and, h.2, k.2]⟩
theorem BitsBy.or {a b : Nat} {f g : Nat → Bool} (h : BitsBy a f) (k : BitsBy b g) : BitsBy (a ||| b) (fun i => f i || g i) :=
  ⟨Nat.or_lt_two_pow (n := 14) h.1 k.1, fun i => by rw [Nat.testBit_or, h.2, k.2]⟩
theorem BitsBy.not {a b : Nat} {f g : Nat → Bool} (h : BitsBy a f) (k : BitsBy b g) : BitsBy (a &&& (18446744073709551615 - b)) (fun i => f i && !g i) := by
  have hb := k.1
  refine ⟨Nat.lt_of_le_of_lt Nat.and_le_left h.1, fun i => ?_⟩
  rw [Nat.testBit_and, h.2, show 18446744073709551615 - b = 2 ^ 64 - (b + 1) by omega, Nat.testBit_two_pow_sub_succ (by omega), k.2]
  cases hf : f i with
  | false => simp [hf]
  | true =>
    have : i < 64 := by
      apply Decidable.byContradiction
      intro hi
      have h1 := h.1
      have := Nat.testBit_lt_two_pow (x := a) (i := i) (Nat.lt_of_lt_of_le (show a < 2 ^ 64 by omega) (Nat.pow_le_pow_right (by decide) (by omega)))
      rw [h.2, hf] at this
      cases this
    simp [this, hf]
theorem BitsBy.one {k : Nat} (hk : k < 14) : BitsBy (2 ^ k) (fun i => i == k) := ⟨pow_small hk, fun i => by rw [Nat.testBit_two_pow, Bool.eq_iff_iff, decide_eq_true_eq, beq_iff_eq]; exact eq_comm⟩
theorem BitsBy.zero : BitsBy 0 (fun _ => false) := ⟨by decide, fun i => Nat.zero_testBit i⟩
theorem BitsBy.eq {a : Nat} {f g : Nat → Bool} (h : BitsBy a f) (hg : ∀ i, f i = g i) : BitsBy a g := ⟨h.1, fun i => by rw [h.2, hg]⟩
def beyB (l : List Commit) (a b k i : Nat) : Bool := (List.range k).any fun j => ab l a j && ab l b j && ab l j i && !(i == j)
theorem beyB_next (l : List Commit) (a b k i : Nat) : beyB l a b (k + 1) i = (beyB l a b k i || (ab l a k && ab l b k && (ab l k i && !(i == k)))) := by
  rw [beyB, List.range_succ, List.any_append, ← beyB]
  simp [Bool.and_assoc]
theorem baseB_eq {l : List Commit} (h : DagOk l) (a b k : Nat) : baseB l a b k = (ab l a k && ab l b k && !beyB l a b l.length k) := by
  rw [baseB]
  congr 2
  rw [beyB, Bool.eq_iff_iff]
  simp only [List.any_eq_true, Bool.and_eq_true, decide_eq_true_eq, Bool.not_eq_true', beq_eq_false_iff_ne]
  constructor
  · rintro ⟨i, h1, ⟨h2, h3⟩, h4⟩; exact ⟨i, h1, ⟨h3, h4⟩, by omega⟩
  · rintro ⟨i, h1, ⟨h3, h4⟩, h2⟩
    have := ab_le h i k h4
    exact ⟨i, h1, ⟨by omega, h3⟩, h4⟩
def basesTo (l : List Commit) (a b k : Nat) : List Int := ((List.range k).filter (baseB l a b)).map Int.ofNat
theorem basesTo_next (l : List Commit) (a b k : Nat) : basesTo l a b (k + 1) = basesTo l a b k ++ (if baseB l a b k then [(k : Int)] else []) := by
  rw [basesTo, List.range_succ, List.filter_append, List.map_append, ← basesTo]
  cases h : baseB l a b k <;> simp [h]
theorem basesTo_length (l : List Commit) (a b k : Nat) : (basesTo l a b k).length ≤ k := by
  rw [basesTo, List.length_map]
  exact Nat.le_trans (List.length_filter_le _ _) (by simp)
set_option maxRecDepth 100000 in
set_option maxHeartbeats 1000000 in
theorem dagBest {l : List Commit} (hok : DagOk l) (a b : Nat) (ha : a < l.length) (hb : b < l.length) (v : Value) (S : Blk) (w : World) (h : Sl tCommit w S v l) :
    Calls Tryz.prog 141 #[v, .int .i64 a, .int .i64 b] w (Ret w fun r w' => Sl tInt w' (fun k => w.heap.size ≤ k) r (basesL l a b)) := by
  have hv := h
  have h14 := hok.1
  obtain ⟨ao, cap, rfl, hcap, hmax, hnil⟩ := h.shape
  unfold maxLen at hmax
  go_enter Tryz.func141, Tryz.ntmps141
  go_wp2_with fail
  refine (dagOf hok a ha _ _ _ hv).mono ?_; rintro e w1 ⟨rfl, d1⟩
  have hA := BitsBy.of hok ha
  go_wp2_with fail
  refine (dagOf hok b hb _ _ _ (hv.call d1.below)).mono ?_; rintro e w2 ⟨rfl, d2⟩
  have hAB := hA.and (BitsBy.of hok hb)
  have hq := u64_and_nat (ofL l a) (ofL l b) (by have := hA.1; omega) (by have := ofL_lt hok hb; omega)
  have d02 := d1.trans d2
  obtain ⟨bo, hbo⟩ : ∃ m, m = ofL l a &&& ofL l b := ⟨_, rfl⟩
  rw [← hbo] at hAB hq
  clear hbo
  go_wp2_with fail
  go_loopw [8, 21] (fun s i wr => ∃ (k m : Nat), k ≤ l.length ∧ i = .int .i64 k ∧ s = .int .u64 m ∧ Drawn w wr ∧ Hid (BitsBy m (beyB l a b k))) (fun _ i _ => l.length - (intOf i).toNat)
  case atStart => exact ⟨0, 0, Nat.zero_le _, rfl, rfl, d02, BitsBy.zero.eq fun _ => rfl⟩
  case round =>
    obtain ⟨k, m, hk, rfl, rfl, hd, hm⟩ := hrel
    have hm1 := hm.out.1
    by_cases hlt : k < l.length
    · have HN := keepBack (fun i => beyB_next l a b k i)
      cases hbk : (ab l a k && ab l b k) with
      | true =>
        have hbit : bo.testBit k = true := (hAB.2 k).trans hbk
        have hw : IntKind.u64.wrap ((2 : Int) ^ k) = ((2 ^ k : Nat) : Int) := wrap_pow (by omega)
        have hO := BitsBy.of hok hlt
        have hN := hO.not (BitsBy.one (k := k) (by omega))
        have e1 := u64_andNot_nat (ofL l k) (2 ^ k) (by have := hO.1; omega) (by have := pow_small (n := k) (by omega); omega)
        have e2 := u64_or_nat m (ofL l k &&& (18446744073709551615 - 2 ^ k)) (by omega) (by have := hN.1; omega)
        have HR := keepBack (hm.out.or hN)
        generalize hx : ofL l k &&& (18446744073709551615 - 2 ^ k) = x at e1 e2 HR
        clear hN hO hx
        generalize hy : m ||| x = y at e2 HR
        clear hy
        have e1' : bits BinOp.andNot IntKind.u64 (ofL l k : Int) (2 ^ k) = (x : Int) := by rw [← e1]; simp
        go_wp2_with fail
        refine (dagHas bo k hAB.1 (by omega) _).mono ?_; rintro e w' ⟨rfl, rfl⟩
        rw [hbit]
        go_wp2_with fail
        go_quiet ((go_at_call 148; exact quietOf (dagOf_of hok k hlt _ _ _ ((hv.call hd.below).keep fun _ _ _ => rfl))))
        go_wp2
        go_roundw
        case rel => exact ⟨k + 1, y, by omega, by go_num, rfl, hd.next _, HR.out.eq fun i => by rw [HN.out i, hbk, Bool.true_and]⟩
        case measure => simp [intOf]; omega
      | false =>
        have hbit : bo.testBit k = false := (hAB.2 k).trans hbk
        go_wp2_with fail
        refine (dagHas bo k hAB.1 (by omega) _).mono ?_; rintro e w' ⟨rfl, rfl⟩
        rw [hbit]
        go_wp2_with fail
        go_roundw
        case rel => exact ⟨k + 1, m, by omega, by go_num, rfl, hd, hm.out.eq fun i => by rw [HN.out i, hbk, Bool.false_and, Bool.or_false]⟩
        case measure => simp [intOf]; omega
    · obtain rfl : k = l.length := by omega
      have hN := hAB.not hm.out
      have e1 := u64_andNot_nat bo m (by have := hAB.1; omega) (by omega)
      generalize hx : bo &&& (18446744073709551615 - m) = x at e1 hN
      clear hx
      have HB := keepBack (fun k => (hN.2 k).trans (baseB_eq hok a b k).symm)
      have hx1 := hN.1
      clear hN
      go_wp2_with fail
      go_loopw [10, 38] (fun out i wr' => ∃ (k : Nat), k ≤ l.length ∧ i = .int .i64 k ∧ Below w.heap.size w wr' ∧ Own tInt 3 wr' w.heap.size (fun _ => False) out (basesTo l a b k)) (fun _ i _ => l.length - (intOf i).toNat)
      case atStart => exact ⟨0, Nat.zero_le _, rfl, hd.below, .nil⟩
      case round =>
        obtain ⟨k, hk2, rfl, hb2, ho⟩ := hrel
        have hs := hb2.size
        have HL := keepBack (basesTo_length l a b k)
        have HX := keepBack (basesTo_next l a b k)
        generalize hG : basesTo l a b k = G at ho HL HX
        have HG := keepBack hG
        clear hG
        by_cases hlt2 : k < l.length
        · cases hbk : baseB l a b k with
          | true =>
            have hbit : x.testBit k = true := (HB.out k).trans hbk
            have hgl := HL.out
            have hone : tInt.rd wr (fun _ => False) [.int .i64 (k : Int)] (k : Int) := ⟨rfl, by constructor <;> omega⟩
            have hsrc := fun t => Src.one (w := wr) (D := fun _ => False) hone t
            go_wp2_with fail
            refine (dagHas x k hx1 (by omega) _).mono ?_; rintro e w' ⟨rfl, rfl⟩
            rw [hbit]
            go_wp2_with (at_builtin; refine wpList_grow rfl (.tmp 46) (.tmp 48) rfl aInt rfl (ho.alloc _) rfl (by simp) (hsrc _) (by simp) (fun _ h => h.elim) (by simp; omega) (by simp; omega) ?_)
            intro v2 w2 ho2 hg2
            have hb3 : Below w.heap.size w w2 := (hb2.alloc hs _).grown hg2 (by simp; omega) (fun g hg => (ho.block g hg).1)
            go_wp2
            go_roundw
            case rel => exact ⟨k + 1, by omega, by go_num, hb3, by rw [HX.out, hbk]; exact ho2⟩
            case measure => simp [intOf]; omega
          | false =>
            have hbit : x.testBit k = false := (HB.out k).trans hbk
            go_wp2_with fail
            refine (dagHas x k hx1 (by omega) _).mono ?_; rintro e w' ⟨rfl, rfl⟩
            rw [hbit]
            go_wp2
            go_roundw
            case rel => exact ⟨k + 1, by omega, by go_num, hb2, by rw [HX.out, hbk]; simpa using ho⟩
            case measure => simp [intOf]; omega
        · obtain rfl : k = l.length := by omega
          go_wp2
          go_ret
          have hsl := ho.sl (D := fun k => w.heap.size ≤ k) (fun _ h => h.elim) (fun _ h => h)
          rw [← HG.out] at hsl
          exact ⟨_, rfl, hsl, hb2⟩
end Go.Pch
end
