/- The walks of diff.ahead and diff.Of. -/
import Derived.Test.YtipondhhchicjaaDiffP
import Derived.Test.YtipondhhchicjaaBetw
import Derived.Test.YtipondhhchicjaaRev
import Derived.Test.YtipondhhchicjaaTreeG
import Derived.Test.YtipondhhchicjaaEq
namespace Go.Pch
open Go.RowKit Go.Proofs
set_option maxRecDepth 100000

theorem eqRows_of {c : Bool} (v u : Value) (l m : List Row) (S S' : Blk) (w : World) (h : Sl tRow w S v l) (g : Sl tRow w S' u m) (hc : decide (l = m) = c) :
    Calls Try.prog 77 #[v, u] w (Quiet w (.bool c)) := hc ▸ eqRows v u l m S S' w h g

set_option maxHeartbeats 1000000 in
theorem diffAhead (v u : Value) (a b : List (List Row)) (S S' : Blk) (w : World) (h : Sl tRow.slice w S v a) (g : Sl tRow.slice w S' u b) :
    Calls Try.prog 50 #[v, u] w (Quiet w (.int .i64 (aheadN a b : Nat))) := by
  have hv := h
  have gv := g
  obtain ⟨ao, cap, rfl, hcap, hmax, hnil⟩ := h.shape
  obtain ⟨ao', cap', rfl, hcap', hmax', hnil'⟩ := g.shape
  unfold maxLen at hmax hmax'
  go_enter Try.func50, Try.ntmps50
  go_wp2_with fail
  go_loopw [5] (fun n wr => ∃ (k : Nat), k ≤ a.length ∧ k ≤ b.length ∧ n = .int .i64 k ∧ Drawn w wr ∧ Hid (aheadN a b = k + aheadN (a.drop k) (b.drop k))) (fun n _ => a.length - (intOf n).toNat)
  case atStart => exact ⟨0, Nat.zero_le _, Nat.zero_le _, rfl, .refl _, keepBack (by simp)⟩
  case round =>
    obtain ⟨k, hk1, hk2, rfl, hd, HA⟩ := hrel
    obtain ⟨M, hM⟩ : ∃ M : Int, (if b.length < a.length then (b.length : Int) else (a.length : Int)) = M := ⟨_, rfl⟩
    by_cases hlt : k < a.length ∧ k < b.length
    · obtain ⟨h1, h2⟩ := hlt
      have hkm : decide ((k : Int) < M) = true := by rw [← hM]; split <;> simp <;> omega
      obtain ⟨c, hc⟩ : ∃ c, a[k]? = some c := ⟨a[k], List.getElem?_eq_getElem h1⟩
      obtain ⟨d, hd'⟩ : ∃ d, b[k]? = some d := ⟨b[k], List.getElem?_eq_getElem h2⟩
      obtain ⟨b1, o1, a2, c2, hix, _, hbs, hsx, hc2, hcm2, hc0⟩ := (hv.call hd.below).idxSlAt aLev k k c c.length rfl hc rfl
      obtain ⟨b2, o2, a3, c3, hiy, _, hbs2, hsy, hc3, hcm3, hd0⟩ := (gv.call hd.below).idxSlAt aLev k k d d.length rfl hd' rfl
      cases hcd : decide (c = d) with
      | true =>
        go_wp2_with fail
        go_quiet ((go_at_call 77; exact quietOf (eqRows_of _ _ c d S S' _ (hsx.keep fun _ _ _ => rfl) (hsy.keep fun _ _ _ => rfl) hcd)))
        go_wp2
        go_roundw
        case rel => exact ⟨k + 1, by omega, by omega, by go_num, hd.next _, keepBack (by rw [HA.out, ahead_go hc hd' (by simpa using hcd)]; omega)⟩
        case measure => simp [intOf]; omega
      | false =>
        go_wp2_with fail
        go_quiet ((go_at_call 77; exact quietOf (eqRows_of _ _ c d S S' _ (hsx.keep fun _ _ _ => rfl) (hsy.keep fun _ _ _ => rfl) hcd)))
        go_wp2
        go_ret
        exact ⟨by rw [HA.out, ahead_stop hc hd' (by simpa using hcd)]; rfl, hd.next _⟩
    · have hkm : decide ((k : Int) < M) = false := by rw [← hM]; split <;> simp <;> omega
      go_wp2_with fail
      go_quiet (fail)
      go_wp2
      go_ret
      exact ⟨by rw [HA.out, ahead_end (by omega)]; rfl, hd.next _⟩

theorem aForest : At Try.prog tRow.slice.slice.slice 74 35 := At.mk' Try.underlying74 (z := .slice none 0 0) (size := 1) (bytes := 24) (by kernel_rfl) rfl rfl (by decide)
theorem fine_mid {p u q : List Row} (h : fineB (p ++ (u ++ q)) = true) : fineB u = true := by
  unfold fineB at h ⊢
  rw [List.all_append, List.all_append] at h
  simp only [Bool.and_eq_true] at h
  exact h.2.1
theorem trim_fine {t u : List (List (List Row))} (ht : treeErr t = 0) (hu : treeErr u = 0) :
    (fineB (trimL (t.headD []) (u.headD [])).1.flatten = true ∧ (trimL (t.headD []) (u.headD [])).1.flatten.length ≤ 40) ∧ fineB (trimL (t.headD []) (u.headD [])).2.flatten = true ∧ (trimL (t.headD []) (u.headD [])).2.flatten.length ≤ 40 := by
  have h1 := (treeErr_ok ht).1
  have h2 := (treeErr_ok hu).1
  obtain ⟨p, q, e1, e2⟩ := trim_parts (t.headD []) (u.headD [])
  have f1 : flatL t = p.flatten ++ ((trimL (t.headD []) (u.headD [])).1.flatten ++ q.flatten) := by
    conv => lhs; rw [flatL, e1, List.flatten_append, List.flatten_append]
  have f2 : flatL u = p.flatten ++ ((trimL (t.headD []) (u.headD [])).2.flatten ++ q.flatten) := by
    conv => lhs; rw [flatL, e2, List.flatten_append, List.flatten_append]
  have g1 := ok_fine h1
  have g2 := ok_fine h2
  have l1 := (ok_rise h1).1
  have l2 := (ok_rise h2).1
  rw [f1] at g1 l1
  rw [f2] at g2 l2
  simp only [List.length_append] at l1 l2
  exact ⟨⟨fine_mid g1, by omega⟩, fine_mid g2, by omega⟩

theorem head_len {t : List (List (List Row))} {X : List (List Row)} (h : treeErr t = 0) (hX : t[0]? = some X) : X.length ≤ 40 := by
  obtain ⟨h1, h2⟩ := treeErr_ok h
  by_cases hl : flatL t = []
  · rw [hl, treeL_nil] at h2
    rw [← h2] at hX
    simp at hX
  · obtain ⟨more, hm⟩ := treeL_cons hl
    rw [← h2, hm] at hX
    obtain rfl : chunks 0 (flatL t) = X := by simpa using hX
    have := chunks_length 0 (flatL t)
    have := (ok_rise h1).1
    omega
theorem betweenR (v u : Value) (a b : List Row) (S S' : Blk) (w : World) (h : Sl tRow w S v a) (g : Sl tRow w S' u b) (ha : fineB a = true) (hb : fineB b = true) (hl : a.length + b.length ≤ 1000000) :
    Calls Try.prog 39 #[v, u] w (Ret w fun r w' => Sl tChange w' (fun k => w.heap.size ≤ k) r (betw a b)) :=
  (between v u a b S S' w h g ha hb hl).mono fun _ _ ⟨r, he, ho, hb⟩ => ⟨r, he, ho.sl (fun _ h => h.elim) (fun _ h => h), hb⟩
theorem diffP_ok {t u : List (List (List Row))} (ht : treeErr t = 0) (hu : treeErr u = 0) : diffP t u = (diffL (valueOf (flatL t)) (valueOf (flatL u)), 0) := by rw [diffP, if_pos ht, if_pos hu]

/-- The errors of two trees, the first one first. -/
def treeErrs (t u : List (List (List Row))) : Int := if treeErr t = 0 then treeErr u else treeErr t
theorem diffP_bad {t u : List (List (List Row))} (h : treeErrs t u ≠ 0) : diffP t u = ([], treeErrs t u) := by
  unfold treeErrs at h ⊢
  unfold diffP
  by_cases h1 : treeErr t = 0
  · rw [if_pos h1] at h
    rw [if_pos h1, if_pos h1, if_neg h]
  · rw [if_neg h1, if_neg h1]
theorem treeCheck_of {c : Int} (v : Value) (t : List (List (List Row))) (S : Blk) (w : World) (h : Sl tRow.slice.slice w S v t) (hl : (flatL t).length ≤ 2000000) (hc : treeErr t = c) :
    Calls Try.prog 37 #[v] w (Ret w fun r _ => r = .int .i64 c) := hc ▸ treeCheck v t S w h hl
theorem lit2_cell0 (w : World) (a b : Value) (t : TypeId) : (w.alloc (.cells #[a, b] t)).cell? ⟨w.heap.size, 0, none⟩ = some a := by
  rw [World.cell?, heap_alloc_new]; rfl
theorem lit2_cell1 (w : World) (a b : Value) (t : TypeId) : (w.alloc (.cells #[a, b] t)).cell? ⟨w.heap.size, 1, none⟩ = some b := by
  rw [World.cell?, heap_alloc_new]; rfl
theorem two_idx (g : Nat) (k : Nat) (hk : k < 2) (W : World) : Sem.run Try.prog (Instr.indexAt 74 (.slice (some ⟨g, 0, none⟩) 2 2) (.int .i64 (k : Nat))) W = .ok (.pointer (some ⟨g, k, none⟩)) W := by
  have := run_idx aForest (b := g) (o := 0) (len := 2) (cap := 2) (k : Int) k rfl hk W
  rwa [show tRow.slice.slice.slice.size = 1 from rfl, Nat.mul_one, Nat.zero_add] at this

set_option maxHeartbeats 4000000 in
theorem diffOf (v u : Value) (a b : List (List (List Row))) (w : World) (h : Sl tRow.slice.slice w (fun k => k < w.heap.size) v a) (g : Sl tRow.slice.slice w (fun k => k < w.heap.size) u b) (hla : (flatL a).length ≤ 2000000) (hlb : (flatL b).length ≤ 2000000) :
    Calls Try.prog 22 #[v, u] w (Ret w fun r w' => ∃ x, r = .tuple #[x, .int .i64 (diffP a b).2] ∧ Sl tChange w' (fun k => w.heap.size ≤ k) x (diffP a b).1) := by
  have hv := h
  have gv := g
  obtain ⟨ao, cap, rfl, hcap, hmax, hnil⟩ := h.shape
  obtain ⟨ao', cap', rfl, hcap', hmax', hnil'⟩ := g.shape
  unfold maxLen at hmax hmax'
  have hwl := lit2_cell0 w (.slice ao a.length cap) (.slice ao' b.length cap') 35
  have hwl1 := lit2_cell1 w (.slice ao a.length cap) (.slice ao' b.length cap') 35
  go_enter Try.func22, Try.ntmps22
  go_wp2_with fail
  go_loopw [16] (fun i wr => ∃ (k : Nat), k ≤ 2 ∧ i = .int .i64 k ∧ Below w.heap.size w wr ∧ wr.cell? ⟨w.heap.size, 0, none⟩ = some (.slice ao a.length cap) ∧ wr.cell? ⟨w.heap.size, 1, none⟩ = some (.slice ao' b.length cap') ∧ Hid ((0 < k → treeErr a = 0) ∧ (1 < k → treeErr b = 0))) (fun i _ => 2 - (intOf i).toNat)
  case atStart => exact ⟨0, by omega, rfl, (Below.refl _ _).alloc (Nat.le_refl _) _, hwl, hwl1, keepBack ⟨fun h => absurd h (by omega), fun h => absurd h (by omega)⟩⟩
  case round =>
    obtain ⟨k, hk, rfl, hb, hc0, hc1, HE⟩ := hrel
    have hs := hb.size
    clear hwl hwl1
    have hcases : k = 0 ∨ k = 1 ∨ k = 2 := by omega
    rcases hcases with rfl | rfl | rfl
    · have hi := two_idx w.heap.size 0 (by omega)
      by_cases he : treeErr a = 0
      · have HE' := keepBack he
        go_wp2_with fail
        refine (treeCheck_of _ a _ wr (hv.call hb) hla he).mono ?_; rintro e w1 ⟨_, rfl, rfl, b1⟩
        clear he
        go_wp2
        go_roundw
        case rel => exact ⟨1, by omega, rfl, hb.trans (b1.mono hs), (b1.cell (p := ⟨w.heap.size, 0, none⟩) (World.block_lt_of_cell? _ _ hc0)).trans hc0, (b1.cell (p := ⟨w.heap.size, 1, none⟩) (World.block_lt_of_cell? _ _ hc1)).trans hc1, keepBack ⟨fun _ => HE'.out, fun h => absurd h (by omega)⟩⟩
        case measure => simp [intOf]
      · have hq : (treeErr a != 0) = true := by simp [he]
        have HP := keepBack (diffP_bad (t := a) (u := b) (by rw [treeErrs, if_neg he]; exact he))
        have HP2 := keepBack (show treeErrs a b = treeErr a by rw [treeErrs, if_neg he])
        go_wp2_with fail
        refine (treeCheck _ a _ wr (hv.call hb) hla).mono ?_; rintro e w1 ⟨_, rfl, rfl, b1⟩
        clear he
        go_wp2
        go_ret2
        exact ⟨_, rfl, ⟨_, by rw [HP.out, HP2.out]; rfl, by rw [HP.out]; exact Sl.nil _ _ _⟩, hb.trans (b1.mono hs)⟩
    · have hi := two_idx w.heap.size 1 (by omega)
      by_cases he : treeErr b = 0
      · have HE' := keepBack he
        go_wp2_with fail
        refine (treeCheck_of _ b _ wr (gv.call hb) hlb he).mono ?_; rintro e w1 ⟨_, rfl, rfl, b1⟩
        clear he
        go_wp2
        go_roundw
        case rel => exact ⟨2, by omega, rfl, hb.trans (b1.mono hs), (b1.cell (p := ⟨w.heap.size, 0, none⟩) (World.block_lt_of_cell? _ _ hc0)).trans hc0, (b1.cell (p := ⟨w.heap.size, 1, none⟩) (World.block_lt_of_cell? _ _ hc1)).trans hc1, keepBack ⟨fun _ => HE.out.1 (by omega), fun _ => HE'.out⟩⟩
        case measure => simp [intOf]
      · have hq : (treeErr b != 0) = true := by simp [he]
        have ha0 := HE.out.1 (by omega)
        have HP := keepBack (diffP_bad (t := a) (u := b) (by rw [treeErrs, if_pos ha0]; exact he))
        have HP2 := keepBack (show treeErrs a b = treeErr b by rw [treeErrs, if_pos ha0])
        clear ha0
        go_wp2_with fail
        refine (treeCheck _ b _ wr (gv.call hb) hlb).mono ?_; rintro e w1 ⟨_, rfl, rfl, b1⟩
        clear he
        go_wp2
        go_ret2
        exact ⟨_, rfl, ⟨_, by rw [HP.out, HP2.out]; rfl, by rw [HP.out]; exact Sl.nil _ _ _⟩, hb.trans (b1.mono hs)⟩
    · have ha0 := HE.out.1 (by omega)
      have hb0 := HE.out.2 (by omega)
      have HP := keepBack (diffP_ok ha0 hb0)
      have HT := keepBack (diff_trim ha0 hb0)
      have HF := keepBack (trim_fine ha0 hb0)
      have HN := keepBack (diff_none ha0 hb0)
      have HA := keepBack ha0
      have HB := keepBack hb0
      clear ha0 hb0 hc0 hc1
      have hvr := hv.below hb
      have gvr := gv.below hb
      by_cases hz : a = [] ∨ b = []
      · have F1 : fineB (flatL a) = true ∧ (flatL a).length ≤ 40 := ⟨ok_fine (treeErr_ok HA.out).1, (ok_rise (treeErr_ok HA.out).1).1⟩
        have F2 : fineB (flatL b) = true ∧ (flatL b).length ≤ 40 := ⟨ok_fine (treeErr_ok HB.out).1, (ok_rise (treeErr_ok HB.out).1).1⟩
        have F3 : (flatL a).length + (flatL b).length ≤ 1000000 := by omega
        by_cases ha : a = []
        · have q1 : ((a.length : Int) == 0) = true := by rw [ha]; rfl
          clear hz ha
          go_wp2_with fail
          refine (treeFlat _ a _ wr hvr hla).mono ?_; rintro e W2 ⟨va, rfl, hfa, ba⟩
          have hs2 := ba.size
          go_wp2_with fail
          refine (treeFlat _ b _ W2 (gvr.call ba) hlb).mono ?_; rintro e W3 ⟨vb, rfl, hfb, bb⟩
          have hs3 := bb.size
          go_wp2_with fail
          refine (betweenR va vb (flatL a) (flatL b) _ _ W3 (hfa.call bb) hfb F1.1 F2.1 F3).mono ?_; rintro e W4 ⟨vd, rfl, hd, bd⟩
          have bd' : Below wr.heap.size wr W4 := ba.trans ((bb.trans (bd.mono hs3)).mono hs2)
          go_wp2
          go_ret2
          exact ⟨_, rfl, ⟨_, by rw [HP.out]; rfl, by rw [HP.out, ← HN.out]; exact hd.mono fun k hk _ => by omega⟩, hb.trans (bd'.mono hs)⟩
        · have q1 : ((a.length : Int) == 0) = false := by rw [beq_eq_false_iff_ne]; have := List.length_pos_iff.2 ha; omega
          have hbe : b = [] := by rcases hz with h | h; exact absurd h ha; exact h
          have q2 : ((b.length : Int) == 0) = true := by rw [hbe]; rfl
          clear hz ha hbe
          go_wp2_with fail
          refine (treeFlat _ a _ wr hvr hla).mono ?_; rintro e W2 ⟨va, rfl, hfa, ba⟩
          have hs2 := ba.size
          go_wp2_with fail
          refine (treeFlat _ b _ W2 (gvr.call ba) hlb).mono ?_; rintro e W3 ⟨vb, rfl, hfb, bb⟩
          have hs3 := bb.size
          go_wp2_with fail
          refine (betweenR va vb (flatL a) (flatL b) _ _ W3 (hfa.call bb) hfb F1.1 F2.1 F3).mono ?_; rintro e W4 ⟨vd, rfl, hd, bd⟩
          have bd' : Below wr.heap.size wr W4 := ba.trans ((bb.trans (bd.mono hs3)).mono hs2)
          go_wp2
          go_ret2
          exact ⟨_, rfl, ⟨_, by rw [HP.out]; rfl, by rw [HP.out, ← HN.out]; exact hd.mono fun k hk _ => by omega⟩, hb.trans (bd'.mono hs)⟩
      · obtain ⟨X, hX, hX0⟩ := head_of (t := a) (fun e => hz (.inl e))
        obtain ⟨Y, hY, hY0⟩ := head_of (t := b) (fun e => hz (.inr e))
        have q1 : ((a.length : Int) == 0) = false := by rw [beq_eq_false_iff_ne]; omega
        have q2 : ((b.length : Int) == 0) = false := by rw [beq_eq_false_iff_ne]; omega
        clear hz
        obtain ⟨b1, o1, a2, c2, hix, _, hbs, hsx, hc2, hcm2, hc0⟩ := hvr.idxSlAt aTree 0 0 X X.length rfl hX rfl
        obtain ⟨b2, o2, a3, c3, hiy, _, hbs2, hsy, hc3, hcm3, hd0⟩ := gvr.idxSlAt aTree 0 0 Y Y.length rfl hY rfl
        go_wp2_with fail
        go_quiet (fail)
        have hD : Below wr.heap.size wr (wr.drewN nq) := ((Drawn.refl wr).next nq).below
        generalize wr.drewN nq = W0 at *
        have hb0 := hb.trans (hD.mono hs)
        have hs0 := hb0.size
        have hsx0 := hsx.call hD
        have hsy0 := hsy.call hD
        clear hsx hsy hc0 hd0 hix hiy
        have hal := ahead_le X Y
        have HTR := keepBack (show trimL (a.headD []) (b.headD []) = trimL X Y by
          rw [show a.headD [] = X by cases a with
            | nil => simp at hX
            | cons x t => simpa using hX, show b.headD [] = Y by cases b with
            | nil => simp at hY
            | cons x t => simpa using hY])
        go_wp2_with fail
        refine (diffAhead _ _ X Y _ _ W0 hsx0 hsy0).mono ?_; rintro e W1 ⟨rfl, d1⟩
        have HTD := keepBack (show trimL X Y = (((X.drop (aheadN X Y)).reverse.drop (aheadN (X.drop (aheadN X Y)).reverse (Y.drop (aheadN X Y)).reverse)).reverse, ((Y.drop (aheadN X Y)).reverse.drop (aheadN (X.drop (aheadN X Y)).reverse (Y.drop (aheadN X Y)).reverse)).reverse) from rfl)
        generalize aheadN X Y = n at *
        have hsx1 := hsx0.call d1.below
        have hsy1 := hsy0.call d1.below
        obtain ⟨e1, f1, hcx, hcx', hpx, _⟩ := hsx1.cutFrom aLev (n : Int) n rfl hal.1
        obtain ⟨e2, f2, hcy, hcy', hpy, _⟩ := hsy1.cutFrom aLev (n : Int) n rfl hal.2
        go_wp2_with fail
        have hs1 : w.heap.size ≤ W1.heap.size := Nat.le_trans hs0 d1.below.size
        have hbw1 := hb0.trans (d1.below.mono hs0)
        have hlx : (X.drop n).length ≤ 40 := by have := head_len HA.out hX; simp; omega
        have hly : (Y.drop n).length ≤ 40 := by have := head_len HB.out hY; simp; omega
        clear hX hY hX0 hY0 hsx0 hsy0 hsx1 hsy1
        go_region_held3 (fun w' => Below W1.heap.size W1 w')
          (first
            | exact (Below.refl _ _).drew
            | assumption
            | fail)
          (first
            | (go_at_call 51; refine (cloneLev (.slice e1 (X.length - n) f1) (X.drop n) w.heap.size W1.drew (hpx.keep fun _ _ _ => rfl) hs1 (Nat.le_trans hlx (by decide))).mono ?_; rintro e W2 ⟨vx, rfl, hox, bx⟩; have bx' : Below W1.heap.size W1 W2 := ((Below.refl W1.heap.size W1).drew).trans bx; have hs2 : W1.heap.size ≤ W2.heap.size := bx'.size)
            | (go_at_call 51; refine (cloneLev (.slice e2 (Y.length - n) f2) (Y.drop n) w.heap.size W2 (hpy.call bx') (Nat.le_trans hs1 hs2) (Nat.le_trans hly (by decide))).mono ?_; rintro e W3 ⟨vy, rfl, hoy, by'⟩; have by2 : Below W1.heap.size W1 W3 := bx'.trans (by'.mono hs2)))
        have hxb := hox.block
        have hyb := hoy.block
        have hx2 := (LvV.of_own hox hs1).call by'
        have hy2 := LvV.of_own hoy (Nat.le_trans hs1 hs2)
        have hb3 : Below w.heap.size w W3 := hbw1.trans (by2.mono hs1)
        have hs3 := hb3.size
        have hlx3 : W1.heap.size = W1.drew.heap.size := rfl
        rw [← hlx3] at hxb
        clear hox hoy bx by' hpx hpy hcx hcx' hcy hcy' by2 bx'
        generalize X.drop n = X1 at *
        generalize Y.drop n = Y1 at *
        go_wp2_with fail
        refine (hx2.rev (Nat.le_trans hlx (by decide))).mono ?_; rintro e W4 ⟨rfl, hx4, gx4⟩
        have hy4 := hy2.other gx4 fun g hg => ⟨by have := hxb g hg; omega, fun e => by have := hxb g hg; have := hyb g e; omega⟩
        have hb4 : Below w.heap.size w W4 := hb3.grown gx4 hs3 (fun g hg => by have := hxb g hg; omega)
        have hs4 := hb4.size
        clear hx2 hy2
        go_wp2_with fail
        refine (hy4.rev (Nat.le_trans hly (by decide))).mono ?_; rintro e W5 ⟨rfl, hy5, gy5⟩
        have hx5 := hx4.other gy5 fun g hg => ⟨by have := hyb g hg; omega, fun e => by have := hyb g hg; have := hxb g e; omega⟩
        have hb5 : Below w.heap.size w W5 := hb4.grown gy5 hs4 (fun g hg => by have := hyb g hg; omega)
        have hs5 := hb5.size
        clear hx4 hy4
        go_wp2_with fail
        refine (diffAhead vx vy X1.reverse Y1.reverse _ _ W5 hx5.sl hy5.sl).mono ?_; rintro e W6 ⟨rfl, d6⟩
        have hal2 := ahead_le X1.reverse Y1.reverse
        generalize aheadN X1.reverse Y1.reverse = m at *
        have hx6 := hx5.call d6.below
        have hy6 := hy5.call d6.below
        have hb6 := hb5.trans (d6.below.mono hs5)
        have hs6 := hb6.size
        obtain ⟨vx', hcx, hcx', hx7, ox7, ax, cx, hvx⟩ := hx6.cutFrom (m : Int) m rfl hal2.1
        obtain ⟨vy', hcy, hcy', hy7, oy7, ay, cy, hvy⟩ := hy6.cutFrom (m : Int) m rfl hal2.2
        have hlx7 : (X1.reverse.drop m).length ≤ 40 := by simp; omega
        have hly7 : (Y1.reverse.drop m).length ≤ 40 := by simp; omega
        clear hx5 hy5 hx6 hy6 hvx hvy hal hal2
        generalize X1.reverse.drop m = X2 at *
        generalize Y1.reverse.drop m = Y2 at *
        go_wp2_with fail
        go_quiet (fail)
        have hD7 : Below W6.heap.size W6 (W6.drewN nq) := ((Drawn.refl W6).next nq).below
        generalize W6.drewN nq = W7 at *
        replace hx7 := hx7.call hD7
        replace hy7 := hy7.call hD7
        have hb7 := hb6.trans (hD7.mono hs6)
        have hs7 := hb7.size
        rw [← ox7] at hxb
        rw [← oy7] at hyb
        go_wp2_with fail
        refine (hx7.rev (Nat.le_trans hlx7 (by decide))).mono ?_; rintro e W8 ⟨rfl, hx8, gx8⟩
        have hy8 := hy7.other gx8 fun g hg => ⟨by have := hxb g hg; omega, fun e => by have := hxb g hg; have := hyb g e; omega⟩
        have hb8 : Below w.heap.size w W8 := hb7.grown gx8 hs7 (fun g hg => by have := hxb g hg; omega)
        have hs8 := hb8.size
        clear hx7 hy7
        go_wp2_with fail
        refine (hy8.rev (Nat.le_trans hly7 (by decide))).mono ?_; rintro e W9 ⟨rfl, hy9, gy9⟩
        have hx9 := hx8.other gy9 fun g hg => ⟨by have := hyb g hg; omega, fun e => by have := hyb g hg; have := hxb g e; omega⟩
        have hb9 : Below w.heap.size w W9 := hb8.grown gy9 hs8 (fun g hg => by have := hyb g hg; omega)
        have hs9 := hb9.size
        clear hx8 hy8
        have hsx9 := hx9.sl
        have hsy9 := hy9.sl
        have HF2 := HF.out
        rw [HTR.out, HTD.out] at HF2
        have HT2 := HT.out
        rw [HTR.out, HTD.out, ← HN.out, HN.out] at HT2
        have HT3 := keepBack HT2
        obtain ⟨⟨hf1, hl1⟩, hf2, hl2⟩ := HF2
        clear HT2
        go_wp2_with fail
        refine (catRows vx' X2.reverse _ W9 hsx9 (by omega)).mono ?_; rintro e W10 ⟨va, rfl, hfa, b10⟩
        have hs10 := b10.size
        go_wp2_with fail
        refine (catRows vy' Y2.reverse _ W10 (hsy9.call b10) (by omega)).mono ?_; rintro e W11 ⟨vb, rfl, hfb, b11⟩
        have hs11 := b11.size
        go_wp2_with fail
        refine (betweenR va vb _ _ _ _ W11 (hfa.call b11) hfb hf1 hf2 (by omega)).mono ?_; rintro e W12 ⟨vd, rfl, hd, b12⟩
        rw [HT3.out] at hd
        go_wp2
        go_ret2
        exact ⟨_, rfl, ⟨_, by rw [HP.out]; rfl, by rw [HP.out]; exact hd.mono fun k hk _ => by omega⟩, hb9.trans ((b10.trans ((b11.trans (b12.mono hs11)).mono hs10)).mono hs9)⟩

end Go.Pch
