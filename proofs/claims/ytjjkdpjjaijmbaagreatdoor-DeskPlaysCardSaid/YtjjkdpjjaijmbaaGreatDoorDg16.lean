/- The walks of slices.Reverse and slices.Clone at levels: a row of slices in an own block, turned round in place. The walks of diff.Fine, and of the document's ChangesFine and SameChanges. Plain words on patches that are fine; no program is named here. The walks of rows.Set and rows.Put. -/
import Derived.Test.YtjjkdpjjaijmbaaGreatDoorDg13
import Derived.Test.YtjjkdpjjaijmbaaGreatDoorDg5
import Derived.Laws.Rows
import Derived.IntWalk
import Derived.Test.YtjjkdpjjaijmbaaGreatDoorDg12
import Derived.Test.YtjjkdpjjaijmbaaGreatDoorDg6
import Derived.Test.YtjjkdpjjaijmbaaGreatDoorDg14
section
namespace Go.Pch
open Go.RowKit Go.Proofs
set_option maxRecDepth 100000
end Go.Pch
end

section
namespace Go.Pch
open Go.RowKit Go.Proofs
set_option maxRecDepth 100000
set_option maxHeartbeats 4000000 in
theorem diffFine (v : Value) (l : List Change) (S : Blk) (w : World) (h : Sl tChange w S v l) :
    Calls Tryz.prog 129 #[v] w (Ret w fun r _ => r = .bool (fineC (-1) l)) := by
  obtain ⟨ao, cap, rfl, hcap, hmax, hnil⟩ := h.shape
  unfold maxLen at hmax
  go_enter Tryz.func129, Tryz.ntmps129
  go_wp2_with fail
  go_loopw [3, 8] (fun last i wr => ∃ (k : Nat) (m : Int), k ≤ l.length ∧ i = .int .i64 k ∧ last = .int .i64 m ∧ Below w.heap.size w wr ∧ Hid (fineC (-1) l = fineC m (l.drop k))) (fun _ i _ => l.length - (intOf i).toNat)
  case atStart => exact ⟨0, -1, Nat.zero_le _, rfl, rfl, Below.refl _ _, rfl⟩
  case round =>
    obtain ⟨k, m, hk, rfl, rfl, hb, hr⟩ := hrel
    by_cases hlt : k < l.length
    · obtain ⟨b, o, hix, _, hbs, ok1, ok2, ok3, hc0, hc1, hc2⟩ := (h.call hb).idxChg aChg k k rfl hlt
      clear hnil
      by_cases q1 : l[k].1 ≤ m
      · have H : Hid (l[k].1 ≤ m ∨ 99 < l[k].1 ∨ valB l[k].2.1 = false ∨ valB l[k].2.2 = false ∨ l[k].2.1 = l[k].2.2) := keepBack (.inl q1)
        have b1 : decide (l[k].1 ≤ m) = true := by simpa using q1
        clear q1
        go_wp2
        go_ret
        exact ⟨_, rfl, by rw [hr.out, fineC_stop hlt H.out]; rfl, hb.alloc hb.size _⟩
      · have b1 : decide (l[k].1 ≤ m) = false := by simpa using q1
        have Q1 := keepBack q1
        clear q1
        by_cases q2 : 99 < l[k].1
        · have H : Hid (l[k].1 ≤ m ∨ 99 < l[k].1 ∨ valB l[k].2.1 = false ∨ valB l[k].2.2 = false ∨ l[k].2.1 = l[k].2.2) := keepBack (.inr (.inl q2))
          have b2 : decide (99 < l[k].1) = true := by simpa using q2
          clear q2
          go_wp2
          go_ret
          exact ⟨_, rfl, by rw [hr.out, fineC_stop hlt H.out]; rfl, hb.alloc hb.size _⟩
        · have b2 : decide (99 < l[k].1) = false := by simpa using q2
          have Q2 := keepBack q2
          clear q2
          cases hv1 : valB l[k].2.1 with
          | false =>
            have H : Hid (l[k].1 ≤ m ∨ 99 < l[k].1 ∨ valB l[k].2.1 = false ∨ valB l[k].2.2 = false ∨ l[k].2.1 = l[k].2.2) := keepBack (.inr (.inr (.inl hv1)))
            go_wp2_with (go_at_call 98; refine (rowsVal_of _ _ hv1).mono ?_; rintro e w' ⟨rfl, rfl⟩)
            go_ret
            exact ⟨_, rfl, by rw [hr.out, fineC_stop hlt H.out]; rfl, hb.alloc hb.size _⟩
          | true =>
            cases hv2 : valB l[k].2.2 with
            | false =>
              have H : Hid (l[k].1 ≤ m ∨ 99 < l[k].1 ∨ valB l[k].2.1 = false ∨ valB l[k].2.2 = false ∨ l[k].2.1 = l[k].2.2) := keepBack (.inr (.inr (.inr (.inl hv2))))
              go_wp2_with (first | (go_at_call 98; refine (rowsVal_of _ _ hv1).mono ?_; rintro e w' ⟨rfl, rfl⟩) | (go_at_call 98; refine (rowsVal_of _ _ hv2).mono ?_; rintro e w' ⟨rfl, rfl⟩))
              go_ret
              exact ⟨_, rfl, by rw [hr.out, fineC_stop hlt H.out]; rfl, hb.alloc hb.size _⟩
            | true =>
              by_cases q3 : l[k].2.1 = l[k].2.2
              · have H : Hid (l[k].1 ≤ m ∨ 99 < l[k].1 ∨ valB l[k].2.1 = false ∨ valB l[k].2.2 = false ∨ l[k].2.1 = l[k].2.2) := keepBack (.inr (.inr (.inr (.inr q3))))
                have b3 : (l[k].2.1 == l[k].2.2) = true := by simpa using q3
                clear q3
                go_wp2_with (first | (go_at_call 98; refine (rowsVal_of _ _ hv1).mono ?_; rintro e w' ⟨rfl, rfl⟩) | (go_at_call 98; refine (rowsVal_of _ _ hv2).mono ?_; rintro e w' ⟨rfl, rfl⟩))
                go_ret
                exact ⟨_, rfl, by rw [hr.out, fineC_stop hlt H.out]; rfl, hb.alloc hb.size _⟩
              · have b3 : (l[k].2.1 == l[k].2.2) = false := by simpa using q3
                have H := keepBack (fineC_go (m := m) hlt ⟨⟨by have := Q1.out; omega, by have := Q2.out; omega⟩, hv1, hv2, q3⟩)
                clear q3
                go_wp2_with (first | (go_at_call 98; refine (rowsVal_of _ _ hv1).mono ?_; rintro e w' ⟨rfl, rfl⟩) | (go_at_call 98; refine (rowsVal_of _ _ hv2).mono ?_; rintro e w' ⟨rfl, rfl⟩))
                go_roundw
                case rel => exact ⟨k + 1, _, by omega, by go_num, rfl, hb.alloc hb.size _, hr.out.trans H.out⟩
                case measure => simp [intOf]; omega
    · go_wp2
      go_ret
      exact ⟨_, rfl, by rw [hr.out, fineC_end hlt]; rfl, hb⟩
end Go.Pch
end

section
namespace Go.Pch
theorem fineC_parts {m : Int} : ∀ {p q : List Change}, fineC m (p ++ q) = true → fineC m p = true ∧ ∀ x ∈ p, ∀ y ∈ q, x.1 < y.1
  | [], _, _ => ⟨rfl, by simp⟩
  | x :: p, q, h => by
    rw [List.cons_append, fineC_cons] at h
    obtain ⟨h1, h2⟩ := fineC_parts h.2
    refine ⟨by rw [fineC_cons]; exact ⟨h.1, h1⟩, fun y hy z hz => ?_⟩
    rcases List.mem_cons.1 hy with rfl | hy
    · exact (fineC_all h.2 z (by simp [hz])).1
    · exact h2 y hy z hz
theorem fineC_take {m : Int} {d : List Change} (h : fineC m d = true) (k : Nat) : fineC m (d.take k) = true := by
  rw [← List.take_append_drop k d] at h
  exact (fineC_parts h).1
theorem setAll_ahead {l : List Row} {d : List Change} (hl : riseB (-1) l = true) (h : fineC (-1) d = true) {k : Nat} (hk : k < d.length) : valueOf (setAll l (d.take k)) d[k].1 = valueOf l d[k].1 := by
  have hp := h
  rw [← List.take_append_drop k d] at hp
  have h2 := (fineC_parts hp).2
  rw [setAll_value (by omega) hl (fineC_take h k)]
  have : (d.take k).find? (fun x => decide (x.1 = d[k].1)) = none := by
    refine List.find?_eq_none.2 fun x hx => ?_
    have := h2 x hx d[k] (by rw [List.drop_eq_getElem_cons hk]; exact List.mem_cons_self)
    simpa using fun e : x.1 = d[k].1 => by omega
  rw [this]
theorem setAll_step (l : List Row) (d : List Change) {k : Nat} (hk : k < d.length) : setAll l (d.take (k + 1)) = setL (setAll l (d.take k)) d[k].1 d[k].2.2 := by
  rw [List.take_succ_eq_append_getElem hk, setAll_snoc]
theorem match_go {l : List Row} {d : List Change} {k : Nat} (hk : k < d.length) (h : valueOf l d[k].1 = d[k].2.1) : matchB l (d.drop k) = matchB l (d.drop (k + 1)) := by
  rw [List.drop_eq_getElem_cons hk, matchB, List.all_cons, show decide (valueOf l d[k].1 = d[k].2.1) = true by simpa using h, Bool.true_and, matchB]
theorem match_stop {l : List Row} {d : List Change} {k : Nat} (hk : k < d.length) (h : valueOf l d[k].1 ≠ d[k].2.1) : matchB l (d.drop k) = false := by
  rw [List.drop_eq_getElem_cons hk, matchB, List.all_cons, show decide (valueOf l d[k].1 = d[k].2.1) = false by simpa using h, Bool.false_and]
theorem match_end {l : List Row} {d : List Change} {k : Nat} (hk : ¬ k < d.length) : matchB l (d.drop k) = true := by
  rw [List.drop_of_length_le (by omega)]; rfl
theorem patchP_err {l : List Row} {d : List Change} (h : rowsErr l ≠ 0) : patchP l d = ([], rowsErr l) := by rw [patchP, if_neg h]
theorem patchP_form {l : List Row} {d : List Change} (h : rowsErr l = 0) (hf : fineC (-1) d = false) : patchP l d = ([], 1) := by rw [patchP, if_pos h, hf]; rfl
theorem patchP_clash {l : List Row} {d : List Change} (h : rowsErr l = 0) (hf : fineC (-1) d = true) (hm : matchB l d = false) : patchP l d = ([], 7) := by rw [patchP, if_pos h, if_pos hf, hm]; rfl
theorem patchP_many {l : List Row} {d : List Change} (h : rowsErr l = 0) (hf : fineC (-1) d = true) (hm : matchB l d = true) (h4 : 40 < (setAll l d).length) : patchP l d = ([], 2) := by rw [patchP, if_pos h, if_pos hf, if_pos hm, if_pos h4]
theorem patchP_ok {l : List Row} {d : List Change} (h : rowsErr l = 0) (hf : fineC (-1) d = true) (hm : matchB l d = true) (h4 : ¬ 40 < (setAll l d).length) : patchP l d = (setAll l d, 0) := by rw [patchP, if_pos h, if_pos hf, if_pos hm, if_neg h4]
end Go.Pch
end

section
namespace Go.Pch
open Go.RowKit Go.Proofs
theorem insertRow (v : Value) (l : List Row) (r : Row) (i B : Nat) (C : Blk) (w : World) (vb : Nat) (h : Own tRow 86 w B C v l) (hi : i ≤ l.length) (hl : l.length ≤ 1000000) (hB : B ≤ w.heap.size) (ok : i64ok r.1 ∧ i64ok r.2)
    (hne : v.ownBlock ≠ some vb) (hv : w.heap[vb]? = some (.cells #[.int .i64 r.1, .int .i64 r.2] 86)) :
    Calls Tryz.prog 186 #[v, .int .i64 i, .slice (some ⟨vb, 0, none⟩) 1 1] w (fun e w' => ∃ v', e = .returned v' ∧ Own tRow 86 w' B C v' (l.take i ++ r :: l.drop i) ∧ Below B w w') := by
  have hvlt : vb < w.heap.size := (Array.getElem?_eq_some_iff.1 hv).1
  have hob := h.block
  rcases Nat.lt_or_ge i l.length with hlt | hge
  · obtain ⟨g, cap, cur, xs, rfl, hBg, hgs, hg, hlc, hcm, _⟩ := h.cells (by omega)
    have hng : vb ≠ g := fun e => hne (by rw [e]; rfl)
    by_cases hc : l.length + 1 ≤ cap
    · exact (insertRoom l r i g cap B C w vb h hlt hl hc ok hng hv).mono fun e w' ⟨v', h1, h2, h3⟩ => ⟨v', h1, h2, (Below.refl B w).grown h3 hB (fun g' hg' => by obtain rfl := Option.some.inj hg'; exact hBg)⟩
    · exact (insertGrow l r i g cap B C w vb h hlt hl hB (by omega) ok hvlt (by rw [World.cell?, hv]; rfl) (by rw [World.cell?, hv]; rfl)).mono fun e w' ⟨v', h1, h2, h3⟩ => ⟨v', h1, h2, h3.mono hB⟩
  · obtain rfl : i = l.length := by omega
    have hsrc : Src tRow w (fun _ => False) (some ⟨vb, 0, none⟩) [r] := by
      refine ⟨[[.int .i64 r.1, .int .i64 r.2]], Each.one _ _ (show tRow.rd w _ _ r from ⟨rfl, ok⟩), by simp, fun ad had j u hj => ?_⟩
      obtain rfl := Option.some.inj had
      rw [Addr.add_lit, Nat.zero_add, World.cell?, hv]
      simpa using hj
    refine (insertEnd v _ l r B C w h hl hB ⟨vb, rfl, hsrc⟩).mono fun e w' ⟨v', h1, h2, h3⟩ => ⟨v', h1, ?_, (Below.refl B w).grown h3 hB (fun g hg => (hob g hg).1)⟩
    rw [List.take_of_length_le (Nat.le_refl _), List.drop_of_length_le (Nat.le_refl _)]
    exact h2
set_option maxHeartbeats 400000 in
theorem cloneOwn (v : Value) (l : List Row) (S : Blk) (w : World) (h : Sl tRow w S v l) (hl : l.length ≤ 1000000) :
    Calls Tryz.prog 147 #[v] w (Ret w fun r w' => Own tRow 86 w' w.heap.size (fun _ => False) r l) := by
  obtain ⟨ao, cap, rfl, hcap, hmax, hnil⟩ := h.shape
  cases ao with
  | none =>
    have h0 := hnil rfl
    obtain rfl : l = [] := List.eq_nil_of_length_eq_zero (by omega)
    subst h0
    have hq := fun W => Lib.run_eql_slice_nil (P := Tryz.prog) W 56 86 none 0 0 0 0 Tryz.underlying56
    go_enter Tryz.func147, Tryz.ntmps147
    go_wp2
    go_ret
    exact ⟨_, rfl, .nil, Below.refl _ _⟩
  | some ad =>
    have hq := fun W => Lib.run_eql_slice_nil (P := Tryz.prog) W 56 86 (some ad) l.length cap 0 0 Tryz.underlying56
    have hs := fun W (hW : Below w.heap.size w W) => Src.row (D' := fun _ => False) (h.call hW).src
    go_enter Tryz.func147, Tryz.ntmps147
    go_wp2_with (at_builtin; refine wpList_grow rfl (.tmp 5) (.tmp 6) rfl aRow rfl (Own.made (B := w.heap.size) (C := fun _ => False) _ (Nat.le_refl _)) rfl rfl (hs _ ((Below.refl _ _).alloc (Nat.le_refl _) _)) (by simp) (fun _ h => h.elim) (by simp; omega) (by simp) ?_)
    intro v1 w1 hown hgrow
    go_wp2
    go_ret
    exact ⟨_, rfl, hown, ((Below.refl _ _).alloc (Nat.le_refl _) _).grown hgrow (by simp) (by simp [Value.ownBlock])⟩
set_option maxHeartbeats 1000000 in
theorem rowsSet (v : Value) (l : List Row) (key val : Int) (S : Blk) (w : World) (h : Sl tRow w S v l) (hr : riseB (-1) l = true) (hl : l.length ≤ 999999) (ok : i64ok key ∧ i64ok val) :
    Calls Tryz.prog 166 #[v, .int .i64 key, .int .i64 val] w (Ret w fun r w' => Own tRow 86 w' w.heap.size (fun _ => False) r (setL l key val)) := by
  have hsk := rowsSeek v l key S w h hr (by omega)
  have hn := seekN_le l key
  obtain ⟨n, hn'⟩ : ∃ n, seekN l key = n := ⟨_, rfl⟩
  rw [hn'] at hsk hn
  cases hk : hasB l key with
  | true =>
    rw [hk] at hsk
    have hnl : n < l.length := by
      obtain ⟨r, hr1, _⟩ := valueOf_has hr hk
      rw [hn'] at hr1
      exact (List.getElem?_eq_some_iff.1 hr1).1
    have HSET := keepBack (show setL l key val = l.take n ++ ((if val = -1 then [] else [(key, val)]) ++ l.drop (n + 1)) by rw [setL, hn', hk, if_pos rfl])
    clear hn' hk hr
    go_enter Tryz.func166, Tryz.ntmps166
    go_wp2_with fail
    refine hsk.mono ?_; rintro e w1 ⟨_, rfl, rfl, b1⟩
    have s1 := b1.size
    go_wp2_with fail
    refine (cloneOwn v l S w1 (h.call b1) (by omega)).mono ?_; rintro e w2 ⟨v2, rfl, ho2, b2⟩
    have s2 := b2.size
    have b02 := b1.trans (b2.mono s1)
    have hb2 := ho2.block
    go_wp2_with fail
    refine (deleteRow v2 l n _ _ w2 ho2 hnl (by omega)).mono ?_; rintro e w3 ⟨v3, rfl, ho3, hg3, hbk⟩
    have b03 : Below w.heap.size w w3 := b02.grown hg3 (by omega) (fun g hg => by have := hb2 g hg; omega)
    have s3 := b03.size
    have ho3' : Own tRow 86 w3 w.heap.size (fun _ => False) v3 (l.take n ++ l.drop (n + 1)) := by
      obtain ⟨xs, ⟨e1, e2⟩, hE⟩ := ho3
      refine ⟨xs, ⟨e1, ?_⟩, hE⟩
      rcases e2 with e2 | ⟨g, cap, cur, a1, a2, a3⟩
      · exact .inl e2
      · exact .inr ⟨g, cap, cur, a1, by omega, a3⟩
    clear ho3 ho2 hg3
    by_cases hv : val = -1
    · rw [if_pos hv, List.nil_append] at HSET
      have hq : (val != -1) = false := by simp [hv]
      clear hv
      go_wp2
      go_ret
      exact ⟨_, rfl, by rw [HSET.out]; exact ho3', b03⟩
    · rw [if_neg hv, List.singleton_append] at HSET
      have hq : (val != -1) = true := by simp [hv]
      clear hv
      have hll : (l.take n ++ l.drop (n + 1)).length = l.length - 1 := by simp; omega
      have hlt : n ≤ (l.take n ++ l.drop (n + 1)).length := by omega
      have hlm : (l.take n ++ l.drop (n + 1)).length ≤ 1000000 := by omega
      have e1 : (l.take n ++ l.drop (n + 1)).take n = l.take n := by rw [List.take_append_of_le_length (by simp; omega), List.take_take, Nat.min_self]
      have e2 : (l.take n ++ l.drop (n + 1)).drop n = l.drop (n + 1) := by rw [List.drop_append_of_le_length (by simp; omega), List.drop_eq_nil_of_le (by simp; omega), List.nil_append]
      have HE := keepBack (And.intro e1 e2)
      clear e1 e2 hll
      generalize l.take n ++ l.drop (n + 1) = m at *
      have hob := ho3'.block
      go_wp2_with fail
      refine (insertRow v3 m (key, val) n w.heap.size _ _ w3.heap.size (ho3'.alloc _) hlt hlm (by simp; omega) ok (fun e => by have := hob _ e; omega) (heap_alloc_new w3 _)).mono ?_; rintro e w4 ⟨v4, rfl, ho4, b4⟩
      rw [HE.out.1, HE.out.2] at ho4
      go_wp2
      go_ret
      exact ⟨_, rfl, by rw [HSET.out]; exact ho4, (b03.alloc s3 _).trans b4⟩
  | false =>
    rw [hk] at hsk
    have HSET := keepBack (show setL l key val = l.take n ++ ((if val = -1 then [] else [(key, val)]) ++ l.drop n) by rw [setL, hn', hk]; simp)
    clear hn' hk hr
    go_enter Tryz.func166, Tryz.ntmps166
    go_wp2_with fail
    refine hsk.mono ?_; rintro e w1 ⟨_, rfl, rfl, b1⟩
    have s1 := b1.size
    go_wp2_with fail
    refine (cloneOwn v l S w1 (h.call b1) (by omega)).mono ?_; rintro e w2 ⟨v2, rfl, ho2, b2⟩
    have s2 := b2.size
    have b03 := b1.trans (b2.mono s1)
    have s3 := b03.size
    have ho3' : Own tRow 86 w2 w.heap.size (fun _ => False) v2 l := by
      obtain ⟨xs, ⟨e1, e2⟩, hE⟩ := ho2
      refine ⟨xs, ⟨e1, ?_⟩, hE⟩
      rcases e2 with e2 | ⟨g, cap, cur, a1, a2, a3⟩
      · exact .inl e2
      · exact .inr ⟨g, cap, cur, a1, by omega, a3⟩
    clear ho2
    by_cases hv : val = -1
    · rw [if_pos hv, List.nil_append, List.take_append_drop] at HSET
      have hq : (val != -1) = false := by simp [hv]
      clear hv
      go_wp2
      go_ret
      exact ⟨_, rfl, by rw [HSET.out]; exact ho3', b03⟩
    · rw [if_neg hv, List.singleton_append] at HSET
      have hq : (val != -1) = true := by simp [hv]
      clear hv
      have hob := ho3'.block
      go_wp2_with fail
      refine (insertRow v2 l (key, val) n w.heap.size _ _ w2.heap.size (ho3'.alloc _) hn (by omega) (by simp; omega) ok (fun e => by have := hob _ e; omega) (heap_alloc_new w2 _)).mono ?_; rintro e w4 ⟨v4, rfl, ho4, b4⟩
      go_wp2
      go_ret
      exact ⟨_, rfl, by rw [HSET.out]; exact ho4, (b03.alloc s3 _).trans b4⟩
end Go.Pch
end
