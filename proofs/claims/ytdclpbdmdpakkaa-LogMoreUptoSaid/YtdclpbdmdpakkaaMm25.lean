/- The walks of diff.Patch and diff.Back. -/
import Derived.Test.YtdclpbdmdpakkaaMm22
import Derived.Test.YtdclpbdmdpakkaaMm23
import Derived.Test.YtdclpbdmdpakkaaMm24
section
namespace Go.Pch
open Go.RowKit Go.Proofs
set_option maxRecDepth 100000


theorem diffFine_of {c : Bool} (v : Value) (l : List Change) (S : Blk) (w : World) (h : Sl tChange w S v l) (hc : fineC (-1) l = c) :
    Calls Try.prog 29 #[v] w (Ret w fun r _ => r = .bool c) := hc ▸ diffFine v l S w h
theorem rowsCheckOf {c : Int} (v : Value) (l : List Row) (S : Blk) (w : World) (h : Sl tRow w S v l) (hc : rowsErr l = c) :
    Calls Try.prog 62 #[v] w (Ret w fun r _ => r = .int .i64 c) := hc ▸ rowsCheck v l S w h
theorem rowsOfIs {c : Int} (v : Value) (l : List Row) (key : Int) (S : Blk) (w : World) (h : Sl tRow w S v l) (hr : riseB (-1) l = true) (hl : l.length ≤ 1000000) (hc : valueOf l key = c) :
    Calls Try.prog 64 #[v, .int .i64 key] w (Ret w fun r _ => r = .int .i64 c) := hc ▸ rowsOf v l key S w h hr hl

set_option maxHeartbeats 4000000 in
theorem diffPatch (v u : Value) (l : List Row) (d : List Change) (S S' : Blk) (w : World) (h : Sl tRow w S v l) (g : Sl tChange w S' u d) :
    Calls Try.prog 30 #[v, u] w (Ret w fun r w' => ∃ x, r = .tuple #[x, .int .i64 (patchP l d).2] ∧ Sl tRow w' (fun k => w.heap.size ≤ k) x (patchP l d).1) := by
  have gv := g
  obtain ⟨ao, cap, rfl, hcap, hmax, hnil⟩ := g.shape
  unfold maxLen at hmax
  by_cases he : rowsErr l = 0
  · obtain ⟨h40, hrs⟩ := ok_rise he
    cases hf : fineC (-1) d with
    | false =>
      have HP := keepBack (patchP_form he hf)
      go_enter Try.func30, Try.ntmps30
      go_wp2_with fail
      refine (rowsCheckOf v l S w h he).mono ?_; rintro e w1 ⟨_, rfl, rfl, b1⟩
      have s1 := b1.size
      go_wp2_with fail
      refine (diffFine_of _ d S' w1 (gv.call b1) hf).mono ?_; rintro e w2 ⟨_, rfl, rfl, b2⟩
      go_wp2
      go_ret2
      exact ⟨_, rfl, ⟨_, by rw [HP.out]; rfl, by rw [HP.out]; exact Sl.nil _ _ _⟩, b1.trans (b2.mono s1)⟩
    | true =>
      have HPC := keepBack (patchP_clash (l := l) (d := d) he hf)
      have HPM := keepBack (patchP_many (l := l) (d := d) he hf)
      have HPO := keepBack (patchP_ok (l := l) (d := d) he hf)
      have hdl := fineC_len hf (by omega)
      have HF := keepBack hf
      go_enter Try.func30, Try.ntmps30
      go_wp2_with fail
      refine (rowsCheckOf v l S w h he).mono ?_; rintro e w1 ⟨_, rfl, rfl, b1⟩
      have s1 := b1.size
      go_wp2_with fail
      refine (diffFine_of _ d S' w1 (gv.call b1) hf).mono ?_; rintro e w2 ⟨_, rfl, rfl, b2⟩
      have b02 := b1.trans (b2.mono s1)
      have s2 := b02.size
      go_wp2_with fail
      refine (cloneOwn v l S w2 (h.call b02) (by omega)).mono ?_; rintro e w3 ⟨x3, rfl, ho3, b3⟩
      have b03 := b02.trans (b3.mono s2)
      have s3 := b03.size
      have hx3 := ho3.sl (D := fun k => w.heap.size ≤ k) (fun _ h => h.elim) (fun k hk => by omega)
      clear ho3 he hf
      go_wp2_with fail
      go_loopw [7, 22] (fun out i wr => ∃ (k : Nat), k ≤ d.length ∧ i = .int .i64 k ∧ Below w.heap.size w wr ∧ Sl tRow wr (fun k => w.heap.size ≤ k) out (setAll l (d.take k)) ∧ Hid (matchB l d = matchB l (d.drop k))) (fun _ i _ => d.length - (intOf i).toNat)
      case atStart => exact ⟨0, Nat.zero_le _, rfl, b03, hx3, keepBack rfl⟩
      case round =>
        obtain ⟨k, hk, rfl, hbr, hout, HM⟩ := hrel
        have hs := hbr.size
        by_cases hlt : k < d.length
        · obtain ⟨b, o, hix, _, hbs, ok1, ok2, ok3, hc0, hc1, hc2⟩ := (gv.call hbr).idxChg aChg k k rfl hlt
          have HSTEP := keepBack (setAll_step l d hlt)
          have HGO := keepBack (match_go (l := l) hlt)
          have HST := keepBack (match_stop (l := l) hlt)
          have hor : riseB (-1) (setAll l (d.take k)) = true := setAll_rise (by omega) hrs (fineC_take HF.out k)
          have hol := setAll_len l (d.take k)
          rw [List.length_take] at hol
          generalize d[k] = x at *
          generalize setAll l (d.take k) = M at *
          have T := Cell3.alloc wr 76 x.1 x.2.1 x.2.2
          by_cases hm : valueOf l x.1 = x.2.1
          · have HGO' := keepBack (HGO.out hm)
            go_wp2_with fail
            generalize wr.alloc (Obj.cells #[Value.int IntKind.i64 x.1, Value.int IntKind.i64 x.2.1, Value.int IntKind.i64 x.2.2] 76) = W1 at *
            have t0 := T.cell0
            have t1 := T.cell1
            have t2 := T.cell2
            have tl := T.lt
            have hb1 := hbr.trans (T.low.mono hs)
            have hs1 := hb1.size
            have hl1 := h.call hb1
            have hout1 := hout.call T.low
            have KS : ∀ W, Below W1.heap.size W1 W → Below W1.heap.size W1 W ∧ W.cell? ⟨wr.heap.size, 0, none⟩ = some (.int .i64 x.1) ∧ W.cell? ⟨wr.heap.size, 1, none⟩ = some (.int .i64 x.2.1) ∧ W.cell? ⟨wr.heap.size, 2, none⟩ = some (.int .i64 x.2.2) := fun W hW => ⟨hW, (hW.cell (p := ⟨wr.heap.size, 0, none⟩) tl).trans t0, (hW.cell (p := ⟨wr.heap.size, 1, none⟩) tl).trans t1, (hW.cell (p := ⟨wr.heap.size, 2, none⟩) tl).trans t2⟩
            clear hc0 hc1 hc2
            go_wp2_with fail
            go_region_held3 (fun w' => Below W1.heap.size W1 w' ∧ w'.cell? ⟨wr.heap.size, 0, none⟩ = some (.int .i64 x.1) ∧ w'.cell? ⟨wr.heap.size, 1, none⟩ = some (.int .i64 x.2.1) ∧ w'.cell? ⟨wr.heap.size, 2, none⟩ = some (.int .i64 x.2.2))
              (first
                | exact KS _ (Below.refl _ _).drew
                | exact KS _ (Below.refl _ _)
                | exact KS _ (by assumption)
                | fail)
              (first
                | (go_at_call 64; refine (rowsOfIs v l x.1 S W1.drew (hl1.keep fun _ _ _ => rfl) hrs (by omega) hm).mono ?_; rintro e W2 ⟨_, rfl, rfl, b2⟩; have b12 : Below W1.heap.size W1 W2 := ((Below.refl W1.heap.size W1).drew).trans b2)
                | fail)
            have hbw2 := hb1.trans (b12.mono hs1)
            have hs2' := hbw2.size
            have u0 := (b12.cell (p := ⟨wr.heap.size, 0, none⟩) tl).trans t0
            have u2 := (b12.cell (p := ⟨wr.heap.size, 2, none⟩) tl).trans t2
            have hout2 := hout1.call b12
            clear hm t0 t1 t2 KS
            go_wp2_with fail
            refine (rowsSet _ M x.1 x.2.2 _ W2 hout2 hor (by omega) ⟨ok1, ok3⟩).mono ?_; rintro e W3 ⟨x4, rfl, ho4, b4⟩
            have hx4 := ho4.sl (D := fun k => w.heap.size ≤ k) (fun _ h => h.elim) (fun k hk => by omega)
            go_wp2
            go_roundw
            case rel => exact ⟨k + 1, by omega, by go_num, hbw2.trans (b4.mono hs2'), by rw [HSTEP.out]; exact hx4, keepBack (by rw [HM.out, HGO'.out])⟩
            case measure => simp [intOf]; omega
          · have hq : (valueOf l x.1 != x.2.1) = true := by simp [hm]
            have HP := keepBack (HPC.out (by rw [HM.out]; exact HST.out hm))
            clear hm
            go_wp2_with fail
            generalize wr.alloc (Obj.cells #[Value.int IntKind.i64 x.1, Value.int IntKind.i64 x.2.1, Value.int IntKind.i64 x.2.2] 76) = W1 at *
            have t0 := T.cell0
            have t1 := T.cell1
            have t2 := T.cell2
            have tl := T.lt
            have hb1 := hbr.trans (T.low.mono hs)
            have hs1 := hb1.size
            have hl1 := h.call hb1
            have hout1 := hout.call T.low
            have KS : ∀ W, Below W1.heap.size W1 W → Below W1.heap.size W1 W ∧ W.cell? ⟨wr.heap.size, 0, none⟩ = some (.int .i64 x.1) ∧ W.cell? ⟨wr.heap.size, 1, none⟩ = some (.int .i64 x.2.1) ∧ W.cell? ⟨wr.heap.size, 2, none⟩ = some (.int .i64 x.2.2) := fun W hW => ⟨hW, (hW.cell (p := ⟨wr.heap.size, 0, none⟩) tl).trans t0, (hW.cell (p := ⟨wr.heap.size, 1, none⟩) tl).trans t1, (hW.cell (p := ⟨wr.heap.size, 2, none⟩) tl).trans t2⟩
            clear hc0 hc1 hc2
            go_wp2_with fail
            go_region_held3 (fun w' => Below W1.heap.size W1 w' ∧ w'.cell? ⟨wr.heap.size, 0, none⟩ = some (.int .i64 x.1) ∧ w'.cell? ⟨wr.heap.size, 1, none⟩ = some (.int .i64 x.2.1) ∧ w'.cell? ⟨wr.heap.size, 2, none⟩ = some (.int .i64 x.2.2))
              (first
                | exact KS _ (Below.refl _ _).drew
                | exact KS _ (Below.refl _ _)
                | exact KS _ (by assumption)
                | fail)
              (first
                | (go_at_call 64; refine (rowsOf v l x.1 S W1.drew (hl1.keep fun _ _ _ => rfl) hrs (by omega)).mono ?_; rintro e W2 ⟨_, rfl, rfl, b2⟩; have b12 : Below W1.heap.size W1 W2 := ((Below.refl W1.heap.size W1).drew).trans b2)
                | fail)
            go_wp2
            go_ret2
            exact ⟨_, rfl, ⟨_, by rw [HP.out]; rfl, by rw [HP.out]; exact Sl.nil _ _ _⟩, hb1.trans (b12.mono hs1)⟩
        · have HE : Hid (setAll l (d.take k) = setAll l d) := keepBack (by rw [List.take_of_length_le (by omega)])
          have hmt : matchB l d = true := by rw [HM.out]; exact match_end hlt
          have HPM' := keepBack (HPM.out hmt)
          have HPO' := keepBack (HPO.out hmt)
          rw [HE.out] at hout
          clear hmt
          generalize setAll l d = M at *
          obtain ⟨ax, cx, rfl, _, _, _⟩ := hout.shape
          by_cases h4 : 40 < M.length
          · have HP := keepBack (HPM'.out h4)
            go_wp2
            go_ret2
            exact ⟨_, rfl, ⟨_, by rw [HP.out]; rfl, by rw [HP.out]; exact Sl.nil _ _ _⟩, hbr⟩
          · have HP := keepBack (HPO'.out h4)
            go_wp2
            go_ret2
            exact ⟨_, rfl, ⟨_, by rw [HP.out]; rfl, by rw [HP.out]; exact hout⟩, hbr⟩
  · have hq : (rowsErr l != 0) = true := by simp [he]
    have HP := keepBack (patchP_err (d := d) he)
    go_enter Try.func30, Try.ntmps30
    go_wp2_with fail
    refine (rowsCheck v l S w h).mono ?_; rintro e w1 ⟨_, rfl, rfl, b1⟩
    go_wp2
    go_ret2
    exact ⟨_, rfl, ⟨_, by rw [HP.out]; rfl, by rw [HP.out]; exact Sl.nil _ _ _⟩, b1⟩

/-! ### Back -/
def chgV (x : Change) : List Value := [.int .i64 x.1, .int .i64 x.2.1, .int .i64 x.2.2]
def okC (x : Change) : Prop := i64ok x.1 ∧ i64ok x.2.1 ∧ i64ok x.2.2
theorem each_chg {w : World} {D : Blk} {xs : List (List Value)} {l : List Change} (h : Each tChange w D xs l) : xs = l.map chgV ∧ ∀ x ∈ l, okC x := by
  constructor
  · refine List.ext_getElem? fun i => ?_
    rw [List.getElem?_map]
    cases hl : l[i]? with
    | none =>
      rw [List.getElem?_eq_none (by rw [h.1]; exact List.getElem?_eq_none_iff.1 hl)]; rfl
    | some x =>
      have hi := (List.getElem?_eq_some_iff.1 hl).1
      have hx : xs[i]? = some (xs[i]'(by rw [h.1]; exact hi)) := List.getElem?_eq_getElem _
      rw [hx]
      exact congrArg some (h.2 i _ x hx hl).1
  · intro x hx
    obtain ⟨i, hi, rfl⟩ := List.mem_iff_getElem.1 hx
    have hxx : xs[i]? = some (xs[i]'(by rw [h.1]; exact hi)) := List.getElem?_eq_getElem _
    exact (h.2 i _ _ hxx (List.getElem?_eq_getElem hi)).2
theorem each_of {w : World} {D : Blk} {l : List Change} (h : ∀ x ∈ l, okC x) : Each tChange w D (l.map chgV) l := by
  refine ⟨by simp, fun i cs x h1 h2 => ?_⟩
  rw [List.getElem?_map, h2] at h1
  obtain rfl := Option.some.inj h1
  exact ⟨rfl, h x (List.mem_of_getElem? h2)⟩
theorem chgV_len (l : List Change) : (l.map chgV).flatten.length = l.length * 3 := by
  induction l with
  | nil => rfl
  | cons x l ih => rw [List.map_cons, List.flatten_cons, List.length_append, ih, List.length_cons]; simp [chgV]; omega
theorem set_two (P Q : List Value) (a b c : Value) (n : Nat) (hn : P.length = n) : ((P ++ (a :: b :: c :: Q)).set (n + 1) c).set (n + 2) b = P ++ (a :: c :: b :: Q) := by
  subst hn
  rw [List.set_append_right _ _ (by omega), List.set_append_right _ _ (by omega)]
  simp
def mixC (k : Nat) (d : List Change) : List Change := (d.take k).map swapC ++ d.drop k
theorem mix_at {d : List Change} {k : Nat} (hk : k < d.length) : mixC k d = (d.take k).map swapC ++ (d[k] :: d.drop (k + 1)) ∧ mixC (k + 1) d = (d.take k).map swapC ++ (swapC d[k] :: d.drop (k + 1)) := by
  constructor
  · rw [mixC, List.drop_eq_getElem_cons hk]
  · rw [mixC, List.take_succ_eq_append_getElem hk, List.map_append, List.append_assoc]; rfl
theorem Src.chg {w : World} {D D' : Blk} {ao : Option Addr} {m : List Change} (h : Src tChange w D ao m) : Src tChange w D' ao m := by
  obtain ⟨xs, h1, h2, h3⟩ := h
  exact ⟨xs, ⟨h1.1, h1.2⟩, h2, h3⟩

set_option maxHeartbeats 400000 in
theorem cloneChg (v : Value) (l : List Change) (S : Blk) (w : World) (h : Sl tChange w S v l) (hl : l.length ≤ 1000000) :
    Calls Try.prog 45 #[v] w (Ret w fun r w' => Own tChange 76 w' w.heap.size (fun _ => False) r l) := by
  obtain ⟨ao, cap, rfl, hcap, hmax, hnil⟩ := h.shape
  cases ao with
  | none =>
    have h0 := hnil rfl
    obtain rfl : l = [] := List.eq_nil_of_length_eq_zero (by omega)
    subst h0
    have hq := fun W => Lib.run_eql_slice_nil (P := Try.prog) W 26 76 none 0 0 0 0 Try.underlying26
    go_enter Try.func45, Try.ntmps45
    go_wp2
    go_ret
    exact ⟨_, rfl, .nil, Below.refl _ _⟩
  | some ad =>
    have hq := fun W => Lib.run_eql_slice_nil (P := Try.prog) W 26 76 (some ad) l.length cap 0 0 Try.underlying26
    have hs := fun W (hW : Below w.heap.size w W) => Src.chg (D' := fun _ => False) (h.call hW).src
    go_enter Try.func45, Try.ntmps45
    go_wp2_with (at_builtin; refine wpList_grow rfl (.tmp 5) (.tmp 6) rfl aChg rfl (Own.made (B := w.heap.size) (C := fun _ => False) _ (Nat.le_refl _)) rfl rfl (hs _ ((Below.refl _ _).alloc (Nat.le_refl _) _)) (by simp) (fun _ h => h.elim) (by simp; omega) (by simp) ?_)
    intro v1 w1 hown hgrow
    go_wp2
    go_ret
    exact ⟨_, rfl, hown, ((Below.refl _ _).alloc (Nat.le_refl _) _).grown hgrow (by simp) (by simp [Value.ownBlock])⟩

theorem backP_bad' {d : List Change} (h : fineC (-1) d = false) : backP d = ([], 1) := by rw [backP, h]; rfl
theorem backP_ok' {d : List Change} (h : fineC (-1) d = true) : backP d = (d.map swapC, 0) := by rw [backP, if_pos h]

set_option maxHeartbeats 4000000 in
theorem diffBack (v : Value) (d : List Change) (S : Blk) (w : World) (h : Sl tChange w S v d) :
    Calls Try.prog 18 #[v] w (Ret w fun r w' => ∃ x, r = .tuple #[x, .int .i64 (backP d).2] ∧ Sl tChange w' (fun k => w.heap.size ≤ k) x (backP d).1) := by
  cases hf : fineC (-1) d with
  | false =>
    have HP := keepBack (backP_bad' hf)
    go_enter Try.func18, Try.ntmps18
    go_wp2_with fail
    refine (diffFine_of v d S w h hf).mono ?_; rintro e w1 ⟨_, rfl, rfl, b1⟩
    go_wp2
    go_ret2
    exact ⟨_, rfl, ⟨_, by rw [HP.out]; rfl, by rw [HP.out]; exact Sl.nil _ _ _⟩, b1⟩
  | true =>
    have HP := keepBack (backP_ok' hf)
    have hdl := fineC_len hf (by omega)
    go_enter Try.func18, Try.ntmps18
    go_wp2_with fail
    refine (diffFine_of v d S w h hf).mono ?_; rintro e w1 ⟨_, rfl, rfl, b1⟩
    have s1 := b1.size
    go_wp2_with fail
    refine (cloneChg v d S w1 (h.call b1) (by omega)).mono ?_; rintro e w2 ⟨x, rfl, ho, b2⟩
    have b02 := b1.trans (b2.mono s1)
    have s2 := b02.size
    clear hf
    by_cases hd0 : d = []
    · subst hd0
      obtain ⟨ax, cx, rfl, _, _⟩ := ho.shape
      go_wp2_with fail
      go_loopw [13] (fun i wr => i = .int .i64 0 ∧ w2 = wr) (fun _ _ => 0)
      case atStart => exact ⟨rfl, rfl⟩
      case round =>
        obtain ⟨rfl, rfl⟩ := hrel
        go_wp2
        go_ret2
        exact ⟨_, rfl, ⟨_, by rw [HP.out]; rfl, by rw [HP.out]; exact ho.sl (fun _ h => h.elim) (fun k hk => by omega)⟩, b02⟩
    · obtain ⟨g, cap, cur, xs, rfl, hBg, hgs, hg, hlc, hcm, hcur, htk, hE⟩ := ho.cells (List.length_pos_iff.2 hd0)
      obtain ⟨rfl, hok⟩ := each_chg hE
      have HOK := keepBack hok
      have hrest : cur = (d.map chgV).flatten ++ cur.drop (d.length * 3) := by
        have e3 : tChange.size = 3 := rfl
        rw [← htk, e3, List.take_append_drop]
      have HCL : Hid (cur.length = cap * 3) := keepBack hcur
      generalize cur.drop (d.length * 3) = rest at hrest
      have HREST := keepBack hrest
      have hg0 : w2.heap[g]? = some (.cells (((mixC 0 d).map chgV).flatten ++ rest).toArray 76) := by rw [hg, hrest]; rfl
      unfold maxLen at hcm
      clear hE htk hok hcur hrest hg ho
      go_wp2_with fail
      go_loopw [13] (fun i wr => ∃ (k : Nat), k ≤ d.length ∧ i = .int .i64 k ∧ wr.heap[g]? = some (.cells (((mixC k d).map chgV).flatten ++ rest).toArray 76) ∧ Hid (w2.grownBy wr (some g))) (fun i _ => d.length - (intOf i).toNat)
      case atStart => exact ⟨0, Nat.zero_le _, rfl, hg0, keepBack (World.grownBy.refl _ _)⟩
      case round =>
        clear hg0
        obtain ⟨k, hk, rfl, hgr, hgrow⟩ := hrel
        by_cases hlt : k < d.length
        · obtain ⟨m1, m2⟩ := mix_at hlt
          have hP : ((((d.take k).map swapC).map chgV).flatten).length = k * 3 := by rw [chgV_len]; simp; omega
          have e1 : ((mixC k d).map chgV).flatten ++ rest = (((d.take k).map swapC).map chgV).flatten ++ (.int .i64 d[k].1 :: .int .i64 d[k].2.1 :: .int .i64 d[k].2.2 :: (((d.drop (k + 1)).map chgV).flatten ++ rest)) := by
            rw [m1, List.map_append, List.flatten_append, List.map_cons, List.flatten_cons, List.append_assoc, List.append_assoc]; rfl
          have e2 : ((mixC (k + 1) d).map chgV).flatten ++ rest = (((d.take k).map swapC).map chgV).flatten ++ (.int .i64 d[k].1 :: .int .i64 d[k].2.2 :: .int .i64 d[k].2.1 :: (((d.drop (k + 1)).map chgV).flatten ++ rest)) := by
            rw [m2, List.map_append, List.flatten_append, List.map_cons, List.flatten_cons, List.append_assoc, List.append_assoc]; rfl
          have HE2 := keepBack e2
          rw [e1] at hgr
          clear e1 e2 m1 m2
          generalize (((d.take k).map swapC).map chgV).flatten = P at *
          generalize ((d.drop (k + 1)).map chgV).flatten ++ rest = Q at *
          generalize d[k] = x at *
          have c1 := cells_cell (p := k * 3 + 1) hgr (v := .int .i64 x.2.1) (by rw [List.getElem?_append_right (by omega), hP, Nat.add_sub_cancel_left]; rfl)
          have c2 := cells_cell (p := k * 3 + 2) hgr (v := .int .i64 x.2.2) (by rw [List.getElem?_append_right (by omega), hP, Nat.add_sub_cancel_left]; rfl)
          have f1 : wr.frozen? ⟨g, k * 3 + 1, none⟩ = false := frozen_of_row wr g _ _ _ hgr
          have f2 : wr.frozen? ⟨g, k * 3 + 2, none⟩ = false := frozen_of_row wr g _ _ _ hgr
          have hi1 := fun W => run_idx aChg (b := g) (o := 0) (len := d.length) (cap := cap) (k : Int) k rfl hlt W
          rw [show tChange.size = 3 from rfl, Nat.zero_add] at hi1
          have HST := keepBack (set_two P Q (.int .i64 x.1) (.int .i64 x.2.1) (.int .i64 x.2.2) (k * 3) hP)
          have HG := keepBack hgr
          clear hgr hP
          go_wp2_with fail
          go_region
          go_wp2
          go_roundw
          case rel =>
            refine ⟨k + 1, by omega, by go_num, ?_, ?_⟩
            · have e1 := heap_setCell_same wr g (k * 3 + 1) _ 76 (.int .i64 x.2.2) HG.out
              have e2 := heap_setCell_same _ g (k * 3 + 2) _ 76 (.int .i64 x.2.1) e1
              refine (show _ = _ from e2).trans ?_
              rw [HE2.out, ← HST.out]
              simp
            · have G := (hgrow.out.trans (grown_setCell wr ⟨g, k * 3 + 1, none⟩ (.int .i64 x.2.2))).trans (grown_setCell _ ⟨g, k * 3 + 2, none⟩ (.int .i64 x.2.1))
              exact keepBack ⟨G.1, G.2, G.3, G.4, G.5⟩
          case measure => simp [intOf]; omega
        · have HE : Hid (mixC k d = d.map swapC) := keepBack (by rw [mixC, List.take_of_length_le (by omega), List.drop_of_length_le (by omega), List.append_nil])
          rw [HE.out] at hgr
          have hb2 : Below w.heap.size w wr := b02.grown hgrow.out s2 (fun g' hg' => by obtain rfl := Option.some.inj hg'; omega)
          have hown : Own tChange 76 wr w.heap.size (fun _ => False) (.slice (some ⟨g, 0, none⟩) (d.map swapC).length cap) (d.map swapC) := by
            refine Own.of_cells (xs := (d.map swapC).map chgV) (by omega) hgr (by simpa using hlc) hcm ?_ ?_ (each_of fun x hx => ?_)
            · have := HCL.out
              rw [HREST.out, List.length_append, chgV_len] at this
              rw [List.length_append, chgV_len, List.length_map]
              exact this
            · rw [show tChange.size = 3 from rfl, ← chgV_len, List.take_left]
            · obtain ⟨y, hy, rfl⟩ := List.mem_map.1 hx
              have := HOK.out y hy
              exact ⟨this.1, this.2.2, this.2.1⟩
          rw [List.length_map] at hown
          go_wp2
          go_ret2
          exact ⟨_, rfl, ⟨_, by rw [HP.out]; rfl, by rw [HP.out]; exact hown.sl (fun _ h => h.elim) (fun k hk => hk)⟩, hb2⟩

end Go.Pch
end
