/- The walk of work.Put. The walks of slices.Delete and slices.Insert at heads, on a slice of the call's own. -/
import Derived.Test.YtjjkdpjjaijmbaaGreatDoorDg10
import Derived.Test.YtjjkdpjjaijmbaaGreatDoorDg11
import Derived.Test.YtjjkdpjjaijmbaaGreatDoorDg12
import Derived.Test.YtjjkdpjjaijmbaaGreatDoorDg17
import Derived.Test.YtjjkdpjjaijmbaaGreatDoorDg19
import Derived.Test.YtjjkdpjjaijmbaaGreatDoorDg14
import Derived.Test.YtjjkdpjjaijmbaaGreatDoorDg3
section
namespace Go.Pch
open Go.RowKit Go.Proofs
set_option maxRecDepth 100000
theorem oneStr (w : World) (s : ByteArray) : Sl tStr (w.alloc (.cells #[.string s] 9)) (fun k => w.heap.size ≤ k) (.slice (some ⟨w.heap.size, 0, none⟩) 1 1) [s] :=
  (Own.lit (E := tStr) (B := w.heap.size) (C := fun _ => False) (l := [s]) (xs := [[.string s]]) (Each.one _ _ ⟨rfl, trivial⟩) rfl (by simp [maxLen]) (Nat.le_refl _)).sl (fun _ h => h.elim) (fun _ h => h)
theorem openBad (v vn : Value) (r : Repo) (s : ByteArray) (S S' : Blk) (w : World) (h : Rp w S v r) (hn : Sl tStr w S' vn [s]) :
    Calls Tryz.prog 101 #[v, vn] w (Ret w fun x _ => ∃ p q, x = .tuple #[p, q, .int .i64 (headP r s).2]) :=
  (workOpen v vn r [s] S S' w h hn (by simp) (by simp)).mono fun _ _ ⟨x, h1, ⟨p, q, h2, _⟩, h4⟩ => ⟨x, h1, ⟨p, q, by rw [h2, openE_one]⟩, h4⟩
theorem openOk (v vn : Value) (r : Repo) (s : ByteArray) (n : Nat) (S S' : Blk) (w : World) (h : Rp w S v r) (hn : Sl tStr w S' vn [s]) (he : headP r s = ((n : Int), 0)) :
    Calls Tryz.prog 101 #[v, vn] w (Ret w fun x w' => ∃ db vc vh q, x = .tuple #[.pointer (some ⟨db, 0, none⟩), q, .int .i64 0] ∧ DeskAt w' w.heap.size db vc vh r ∧ Sl tInt w' (fun k => w.heap.size ≤ k) q [(n : Int)]) :=
  (workOpen v vn r [s] S S' w h hn (by simp) (by simp)).mono fun _ _ ⟨x, h1, ⟨p, q, h2, h3⟩, h4⟩ => by
    have e0 : openE r [s] = 0 := by rw [openE_one, he]
    obtain ⟨db, vc, vh, hp, hD, hq⟩ := h3 e0
    rw [List.map_cons, List.map_nil, he] at hq
    exact ⟨x, h1, ⟨db, vc, vh, q, by rw [h2, hp, e0], hD, hq⟩, h4⟩
def RepoRet (B : Nat) (p : Repo × Int) (x : Value) (w' : World) : Prop := ∃ y, x = .tuple #[y, .int .i64 p.2] ∧ Rp w' (fun k => B ≤ k) y p.1
theorem noRepo_rp (w : World) (S : Blk) : Rp w S (.agg #[.slice none 0 0, .slice none 0 0]) noRepo := ⟨_, _, rfl, Sl.nil _ _ _, Sl.nil _ _ _⟩
theorem RepoRet.no {B : Nat} {p : Repo × Int} {w : World} {e : Int} (hp : p = (noRepo, e)) : RepoRet B p (.tuple #[.agg #[.slice none 0 0, .slice none 0 0], .int .i64 e]) w := by
  subst hp
  exact ⟨_, rfl, noRepo_rp _ _⟩
structure BoxAt (w wB : World) (x0 x1 : Value) : Prop where
  size : wB.heap.size = w.heap.size + 2
  low : Below w.heap.size w wB
  arg : wB.heap[w.heap.size]? = some (.cells #[x0, x1] 33)
  res : wB.heap[w.heap.size + 1]? = some (.cells #[.slice none 0 0, .slice none 0 0] 33)
theorem boxAt (w : World) (x0 x1 : Value) : BoxAt w ((w.alloc (.cells #[x0, x1] 33)).alloc (.cells #[.slice none 0 0, .slice none 0 0] 33)) x0 x1 :=
  ⟨by simp, ((Below.refl _ _).alloc (Nat.le_refl _) _).alloc (by simp) _, (Below.heap_alloc _ _ _ (by simp)).trans (heap_alloc_new _ _), by
    have := heap_alloc_new (w.alloc (.cells #[x0, x1] 33)) (.cells #[.slice none 0 0, .slice none 0 0] 33)
    rwa [show (w.alloc (.cells #[x0, x1] 33)).heap.size = w.heap.size + 1 by simp] at this⟩
theorem BoxAt.on {w wB W : World} {x0 x1 : Value} (h : BoxAt w wB x0 x1) (b : Below wB.heap.size wB W) : W.cell? ⟨w.heap.size, 0, none⟩ = some x0 ∧ W.cell? ⟨w.heap.size, 1, none⟩ = some x1 ∧
    W.cell? ⟨w.heap.size + 1, 0, none⟩ = some (.slice none 0 0) ∧ W.cell? ⟨w.heap.size + 1, 1, none⟩ = some (.slice none 0 0) ∧ ∀ i, W.frozen? ⟨w.heap.size + 1, i, none⟩ = false := by
  have hz := h.size
  have e1 := (b.block w.heap.size (by omega)).trans h.arg
  have e2 := (b.block (w.heap.size + 1) (by omega)).trans h.res
  exact ⟨by rw [World.cell?, e1]; rfl, by rw [World.cell?, e1]; rfl, by rw [World.cell?, e2]; rfl, by rw [World.cell?, e2]; rfl, fun i => frozen_of_row W _ i _ _ e2⟩
theorem BoxAt.fin {w wB W : World} {x0 x1 : Value} (h : BoxAt w wB x0 x1) (b : Below wB.heap.size wB W) (x y : Value) : ((W.setCell ⟨w.heap.size + 1, 0, none⟩ x).setCell ⟨w.heap.size + 1, 1, none⟩ y).heap[w.heap.size + 1]? = some (.cells #[x, y] 33) ∧
    Below w.heap.size w ((W.setCell ⟨w.heap.size + 1, 0, none⟩ x).setCell ⟨w.heap.size + 1, 1, none⟩ y) := by
  have hz := h.size
  have e2 := (b.block (w.heap.size + 1) (by omega)).trans h.res
  exact ⟨heap_setCell_same _ _ 1 _ _ y (heap_setCell_same W _ 0 _ _ x e2), ((h.low.trans (b.mono (by omega))).setCell (by simp) _).setCell (by simp) _⟩
theorem BoxAt.rp {w wB W : World} {x0 x1 : Value} (h : BoxAt w wB x0 x1) {x y : Value} {r : Repo} (g : Rp W (fun k => wB.heap.size ≤ k) (.agg #[x, y]) r) : Rp ((W.setCell ⟨w.heap.size + 1, 0, none⟩ x).setCell ⟨w.heap.size + 1, 1, none⟩ y) (fun k => w.heap.size ≤ k) (.agg #[x, y]) r := by
  have hz := h.size
  obtain ⟨_, _, hv, x1, x2⟩ := g.keep (w' := (W.setCell ⟨w.heap.size + 1, 0, none⟩ x).setCell ⟨w.heap.size + 1, 1, none⟩ y) fun k hk _ => (heap_setCell_other _ _ _ _ (by simp; omega)).trans (heap_setCell_other _ _ _ _ (by simp; omega))
  exact ⟨_, _, hv, x1.mono fun k hk _ => by omega, x2.mono fun k hk _ => by omega⟩
theorem repoResults {fn : Func} {p q : Tmp} (h : fn.results = #[.cell p 33, .tmp q]) (tmps : Array Value) (W : World) (g : Nat) (x y v : Value) (t : TypeId) (hp : tmps.getD p undef = .pointer (some ⟨g, 0, none⟩)) (hv : tmps.getD q undef = v) (hr : W.heap[g]? = some (.cells #[x, y] t)) :
    (results fn tmps).run Tryz.prog W = .ok (.tuple #[.agg #[x, y], v]) W := by
  have hp' : tmps[p]?.getD undef = .pointer (some ⟨g, 0, none⟩) := by simpa using hp
  have hv' : tmps[q]?.getD undef = v := by simpa using hv
  have r0 : W.cell? ⟨g, 0, none⟩ = some x := by rw [World.cell?, hr]; rfl
  have r1 : W.cell? ⟨g, 1, none⟩ = some y := by rw [World.cell?, hr]; rfl
  simp [results, h, hp', hv', asAddr, go_sem, r0, r1, Result.andThen]
theorem putN_form {r : Repo} {s : ByteArray} {d : List Change} {n : Nat} (h : fineC (-1) d = false) : putN r s d n = (noRepo, 1) := by rw [putN, h]; rfl
theorem putN_same {r : Repo} {s : ByteArray} {d : List Change} {n : Nat} (h : fineC (-1) d = true) (h1 : d.length = 0) : putN r s d n = (noRepo, 9) := by rw [putN, if_pos h, if_pos h1]
theorem putN_many {r : Repo} {s : ByteArray} {d : List Change} {n : Nat} (h : fineC (-1) d = true) (h1 : d.length ≠ 0) (h2 : r.1.length = 14) : putN r s d n = (noRepo, 2) := by rw [putN, if_pos h, if_neg h1, if_pos h2]
theorem putN_bad {r : Repo} {s : ByteArray} {d : List Change} {n : Nat} (h : fineC (-1) d = true) (h1 : d.length ≠ 0) (h2 : r.1.length ≠ 14) (h3 : (patchP (rowsN r.1 n) d).2 ≠ 0) : putN r s d n = (noRepo, (patchP (rowsN r.1 n) d).2) := by rw [putN, if_pos h, if_neg h1, if_neg h2, if_neg h3]
theorem putN_ok {r : Repo} {s : ByteArray} {d : List Change} {n : Nat} (h : fineC (-1) d = true) (h1 : d.length ≠ 0) (h2 : r.1.length ≠ 14) (h3 : (patchP (rowsN r.1 n) d).2 = 0) : putN r s d n = (grown r (hdN r.2 s) (patchP (rowsN r.1 n) d).1 [(n : Int)], 0) := by rw [putN, if_pos h, if_neg h1, if_neg h2, if_pos h3]
set_option maxHeartbeats 400000 in
theorem workPut (v u : Value) (r : Repo) (s : ByteArray) (d : List Change) (S S' : Blk) (w : World) (h : Rp w S v r) (g : Sl tChange w S' u d) :
    Calls Tryz.prog 100 #[v, .string s, u] w (Ret w (RepoRet w.heap.size (jPut r s d))) := by
  have hR := h
  obtain ⟨cs, hs⟩ := r
  obtain ⟨vc, vh, rfl, hc, hh⟩ := h
  obtain ⟨ac, cc, rfl, _, _, _⟩ := hc.shape
  obtain ⟨ah, ch, rfl, _, _, _⟩ := hh.shape
  obtain ⟨ad, cd, rfl, _, _, _⟩ := g.shape
  simp only at hc hh
  have hX := boxAt w (.slice ac cs.length cc) (.slice ah hs.length ch)
  obtain ⟨wB, hwB⟩ : ∃ wB, wB = (w.alloc (.cells #[.slice ac cs.length cc, .slice ah hs.length ch] 33)).alloc (.cells #[.slice none 0 0, .slice none 0 0] 33) := ⟨_, rfl⟩
  rw [← hwB] at hX
  have HWB := keepBack hwB
  clear hwB
  have zB := hX.size
  obtain ⟨wN, hwN⟩ : ∃ wN, wN = wB.alloc (.cells #[.string s] 9) := ⟨_, rfl⟩
  have bN : Below wB.heap.size wB wN := by rw [hwN]; exact (Below.refl _ _).alloc (Nat.le_refl _) _
  have zN : wN.heap.size = w.heap.size + 3 := by rw [hwN]; simp; omega
  have hnm : Sl tStr wN (fun k => wB.heap.size ≤ k) (.slice (some ⟨wB.heap.size, 0, none⟩) 1 1) [s] := by rw [hwN]; exact oneStr wB s
  rw [show wB.heap.size = w.heap.size + 1 + 1 by omega] at hnm
  have HWN := keepBack hwN
  clear hwN
  have hRN := (hR.call hX.low).call (bN.mono (Nat.le_refl _))
  by_cases he : (headP (cs, hs) s).2 = 0
  · obtain ⟨he0, n, hn, hP, x, hx, hxs, hxn⟩ := head_there he
    have HJ := keepBack (jPut_at (d := d) hP)
    have hrk := (repo_ok he0).2.2.2
    have hs4 := (repo_ok he0).2.1
    have hc14 := (dag_ok (repo_ok he0).1).1
    simp only at hrk hs4 hc14 hn hx
    have hhd : hdHas hs s = true := by unfold hdHas; rw [hx]; simpa using hxs
    cases hf : fineC (-1) d with
    | false =>
      have HP := keepBack (HJ.out.trans (putN_form hf))
      go_enter Tryz.func100, Tryz.ntmps100
      go_wp2_with fail
      rw [← HWB.out, ← HWN.out]
      refine (openOk _ _ (cs, hs) s n _ _ wN hRN hnm hP).mono ?_; rintro e w1 ⟨_, rfl, ⟨db, vc1, vh1, q, rfl, hD, hq⟩, b1⟩
      have bB1 := bN.trans (b1.mono (by omega))
      go_wp2_with fail
      refine (diffFine_of _ d _ w1 (g.call (hX.low.trans (bB1.mono (by omega)))) hf).mono ?_; rintro e w2 ⟨_, rfl, rfl, b2⟩
      have bB2 := bB1.trans (b2.mono bB1.size)
      obtain ⟨y0, y1, y2, y3, yf⟩ := hX.on bB2
      go_wp2_with fail
      exact bodyPost_ret (repoResults rfl _ _ _ _ _ _ _ rfl rfl (hX.fin bB2 _ _).1) rfl ⟨_, rfl, RepoRet.no HP.out, (hX.fin bB2 _ _).2⟩
    | true =>
      by_cases hl0 : d.length = 0
      · have HP := keepBack (HJ.out.trans (putN_same hf hl0))
        obtain rfl : d = [] := List.eq_nil_of_length_eq_zero hl0
        simp only [List.length_nil] at g
        clear hl0
        go_enter Tryz.func100, Tryz.ntmps100
        go_wp2_with fail
        rw [← HWB.out, ← HWN.out]
        refine (openOk _ _ (cs, hs) s n _ _ wN hRN hnm hP).mono ?_; rintro e w1 ⟨_, rfl, ⟨db, vc1, vh1, q, rfl, hD, hq⟩, b1⟩
        have bB1 := bN.trans (b1.mono (by omega))
        go_wp2_with fail
        refine (diffFine_of _ [] _ w1 (g.call (hX.low.trans (bB1.mono (by omega)))) hf).mono ?_; rintro e w2 ⟨_, rfl, rfl, b2⟩
        have bB2 := bB1.trans (b2.mono bB1.size)
        obtain ⟨y0, y1, y2, y3, yf⟩ := hX.on bB2
        go_wp2_with fail
        exact bodyPost_ret (repoResults rfl _ _ _ _ _ _ _ rfl rfl (hX.fin bB2 _ _).1) rfl ⟨_, rfl, RepoRet.no HP.out, (hX.fin bB2 _ _).2⟩
      · have hl0' : (d.length : Int) ≠ 0 := by omega
        by_cases h14 : cs.length = 14
        · have HP := keepBack (HJ.out.trans (putN_many hf hl0 h14))
          rw [h14] at hX HWB hRN
          have H14 := keepBack h14
          clear h14
          go_enter Tryz.func100, Tryz.ntmps100
          rw [H14.out]
          go_wp2_with fail
          rw [← HWB.out, ← HWN.out]
          refine (openOk _ _ (cs, hs) s n _ _ wN hRN hnm hP).mono ?_; rintro e w1 ⟨_, rfl, ⟨db, vc1, vh1, q, rfl, hD, hq⟩, b1⟩
          have bB1 := bN.trans (b1.mono (by omega))
          go_wp2_with fail
          refine (diffFine_of _ d _ w1 (g.call (hX.low.trans (bB1.mono (by omega)))) hf).mono ?_; rintro e w2 ⟨_, rfl, rfl, b2⟩
          have bB2 := bB1.trans (b2.mono bB1.size)
          obtain ⟨y0, y1, y2, y3, yf⟩ := hX.on bB2
          go_wp2_with fail
          exact bodyPost_ret (repoResults rfl _ _ _ _ _ _ _ rfl rfl (hX.fin bB2 _ _).1) rfl ⟨_, rfl, RepoRet.no HP.out, (hX.fin bB2 _ _).2⟩
        · have h14' : ((cs.length : Nat) : Int) ≠ 14 := by omega
          obtain ⟨c, hcn⟩ : ∃ c, cs[n]? = some c := ⟨cs[n], List.getElem?_eq_getElem hn⟩
          have hrn : rowsN cs n = c.1 := rowsN_is hcn
          have HBAD := keepBack fun h3 => HJ.out.trans (putN_bad (r := (cs, hs)) (s := s) (n := n) hf hl0 (by exact h14) h3)
          have HOK := keepBack fun h3 => HJ.out.trans (putN_ok (r := (cs, hs)) (s := s) (n := n) hf hl0 (by exact h14) h3)
          simp only [hrn] at HBAD HOK
          obtain ⟨rs, ps⟩ := c
          have HH := keepBack hcn
          clear hcn hrn HJ
          simp only at HBAD HOK
          have hnl : (n : Int) < cs.length := by omega
          go_enter Tryz.func100, Tryz.ntmps100
          go_wp2_with fail
          rw [← HWB.out, ← HWN.out]
          refine (openOk _ _ (cs, hs) s n _ _ wN hRN hnm hP).mono ?_; rintro e w1 ⟨_, rfl, ⟨db, vc1, vh1, q, rfl, hD, hq⟩, b1⟩
          have bB1 := bN.trans (b1.mono (by omega))
          go_wp2_with fail
          refine (diffFine_of _ d _ w1 (g.call (hX.low.trans (bB1.mono (by omega)))) hf).mono ?_; rintro e w2 ⟨_, rfl, rfl, b2⟩
          have bB2 := bB1.trans (b2.mono bB1.size)
          obtain ⟨y0, y1, y2, y3, yf⟩ := hX.on bB2
          have b02 := hX.low.trans (bB2.mono (by omega))
          have hq2 := hq.call b2
          obtain ⟨aq, cq, rfl, _, _, _⟩ := hq2.shape
          simp only [List.length_cons, List.length_nil, Nat.zero_add] at hq2
          obtain ⟨bq, oq, hixq, _, hbq, _, hcq⟩ := hq2.idxInt aInt 0 0 rfl (by simp)
          obtain ⟨bc, oc, cr, cp, dr, dp, hixc, _, hbc, hrr, hpp, _, _, _, _, hc0, hc1⟩ := (hc.call b02).idxCommitAt aCom n n rfl hn rs ps (by have := List.getElem?_eq_some_iff.1 HH.out; exact this.2)
          go_wp2_with fail
          have KS : ∀ W, Below w2.heap.size w2 W → Below w2.heap.size w2 W ∧ W.cell? ⟨w.heap.size, 0, none⟩ = some (.slice ac cs.length cc) ∧ W.cell? ⟨bq, oq, none⟩ = some (.int .i64 n) ∧ W.cell? ⟨bc, oc, none⟩ = some (.slice cr rs.length cp) := fun W hW =>
            ⟨hW, (hX.on (bB2.trans (hW.mono bB2.size))).1, (hW.cell (p := ⟨bq, oq, none⟩) hbq).trans hcq, (hW.cell (p := ⟨bc, oc, none⟩) hbc).trans hc0⟩
          have HCQ := keepBack hcq
          clear y0 y1 y2 y3 yf hcq hc0 hc1
          go_region_held3 (fun W => Below w2.heap.size w2 W ∧ W.cell? ⟨w.heap.size, 0, none⟩ = some (.slice ac cs.length cc) ∧ W.cell? ⟨bq, oq, none⟩ = some (.int .i64 n) ∧ W.cell? ⟨bc, oc, none⟩ = some (.slice cr rs.length cp))
            (first
              | exact KS _ (Below.refl _ _).drew
              | exact KS _ (Below.refl _ _)
              | exact KS _ (by assumption)
              | fail)
            (first
              | (go_at_call 130; refine (diffPatch _ _ rs d _ _ w2.drew (hrr.keep fun _ _ _ => rfl) ((g.call b02).keep fun _ _ _ => rfl)).mono ?_; rintro e w3 ⟨_, rfl, ⟨x3, rfl, hx3⟩, b3⟩; have b23 : Below w2.heap.size w2 w3 := ((Below.refl w2.heap.size w2).drew).trans b3)
              | fail)
          have bB3 := bB2.trans (b23.mono bB2.size)
          have b13 := b2.trans (b23.mono b2.size)
          clear KS
          by_cases h3 : (patchP rs d).2 = 0
          · have HP := keepBack (HOK.out h3)
            rw [h3]
            have H3 := keepBack h3
            clear h3 HBAD HOK
            obtain ⟨ax, cx, rfl, _, _, _⟩ := hx3.shape
            have hcq3 := (b23.cell (p := ⟨bq, oq, none⟩) hbq).trans HCQ.out
            obtain ⟨y0, y1, y2, y3, yf⟩ := hX.on bB3
            go_wp2_with fail
            have b34 := (Below.refl w3.heap.size w3).alloc (Nat.le_refl _) (.cells #[.int .i64 n] 3)
            have b14 := b13.trans (b34.mono b13.size)
            have z3 := b13.size
            have hrow4 : Sl tRow (w3.alloc (.cells #[.int .i64 n] 3)) (fun k => w1.heap.size ≤ k ∧ k ≠ w3.heap.size) (.slice ax (patchP rs d).1.length cx) (patchP rs d).1 := (hx3.mono fun k hk hlt => ⟨by have := b2.size; simp at hk; omega, by omega⟩).call b34
            have hlit := (litOne w3 n (by unfold i64ok; omega)).mono (S' := fun k => k = w3.heap.size) fun k hk hlt => by simp at hlt; omega
            have hG := deskGrow wN.heap.size db w3.heap.size 1 vc1 vh1 _ (cs, hs) s (patchP rs d).1 [(n : Int)] w1 (w3.alloc (.cells #[.int .i64 n] 3)) hD (Step.of_below b14 |>.mono fun k hk h => h) b1.size z3
              ((sortOne _ _).mono fun e w' ⟨h1, h2⟩ => by subst h2; exact ⟨h1, World.grownBy.refl _ _, hlit⟩) hrow4 hrk (by show cs.length ≤ 1000; omega) (by show hs.length ≤ 1000; omega) hhd
            refine hG.mono ?_; rintro e w5 ⟨rfl, ⟨vc5, hD5⟩, b5⟩
            clear hG
            have bB5 : Below wB.heap.size wB w5 := (bB3.trans (b34.mono bB3.size)).trans (b5.mono (by omega))
            clear y0 y1 y2 y3 yf
            obtain ⟨y0, y1, y2, y3, yf⟩ := hX.on bB5
            obtain ⟨a5, c5, hv5, _, _⟩ := hD5.coms.shape
            obtain ⟨a6, c6, hv6, _, _⟩ := hD5.heads.shape
            generalize (grown (cs, hs) (hdN (cs, hs).2 s) (patchP rs d).1 [(n : Int)]).1.length = m5 at hv5
            generalize (grown (cs, hs) (hdN (cs, hs).2 s) (patchP rs d).1 [(n : Int)]).2.length = m6 at hv6
            subst hv5 hv6
            have d0 := hD5.cell0
            have d1 := hD5.cell1
            have hR5 : Rp w5 (fun k => wB.heap.size ≤ k) (.agg #[.slice a5 m5 c5, .slice a6 m6 c6]) (grown (cs, hs) (hdN hs s) (patchP rs d).1 [(n : Int)]) := by
              obtain ⟨_, _, e1, e2, e3⟩ := hD5.own.rp
              exact ⟨_, _, e1, e2.mono fun k hk _ => by omega, e3.mono fun k hk _ => by omega⟩
            go_wp2_with fail
            exact bodyPost_ret (repoResults rfl _ _ _ _ _ _ _ rfl rfl (hX.fin bB5 _ _).1) rfl ⟨_, rfl, ⟨_, by rw [HP.out]; rfl, by rw [HP.out]; exact hX.rp hR5⟩, (hX.fin bB5 _ _).2⟩
          · have HP := keepBack (HBAD.out h3)
            have hq3 : ((patchP rs d).2 != 0) = true := by simp [h3]
            obtain ⟨y0, y1, y2, y3, yf⟩ := hX.on bB3
            clear h3
            go_wp2_with fail
            exact bodyPost_ret (repoResults rfl _ _ _ _ _ _ _ rfl rfl (hX.fin bB3 _ _).1) rfl ⟨_, rfl, RepoRet.no HP.out, (hX.fin bB3 _ _).2⟩
  · have HP := keepBack (jPut_bad (d := d) he)
    have hq : ((headP (cs, hs) s).2 != 0) = true := by simp [he]
    go_enter Tryz.func100, Tryz.ntmps100
    go_wp2_with fail
    rw [← HWB.out, ← HWN.out]
    refine (openBad _ _ (cs, hs) s _ _ wN hRN hnm).mono ?_; rintro e w1 ⟨_, rfl, ⟨p, q, rfl⟩, b1⟩
    have bB1 := bN.trans (b1.mono (by omega))
    obtain ⟨y0, y1, y2, y3, yf⟩ := hX.on bB1
    go_wp2_with fail
    exact bodyPost_ret (repoResults rfl _ _ _ _ _ _ _ rfl rfl (hX.fin bB1 _ _).1) rfl ⟨_, rfl, RepoRet.no HP.out, (hX.fin bB1 _ _).2⟩
end Go.Pch
end

section
namespace Go.Pch
open Go.RowKit Go.Proofs
theorem zeroHead : ∃ z, (Tryz.prog.info? 61).map (·.zero) = some (some z) ∧ ∀ u ∈ z.cells.toList, u.oneCell' = true :=
  ⟨.agg #[.string ByteArray.empty, .int .i64 0], by kernel_rfl, by intro u hu; simp [Value.cells] at hu; rcases hu with rfl | rfl <;> rfl⟩
set_option maxRecDepth 100000 in
set_option maxHeartbeats 1000000 in
theorem deleteHead (v : Value) (l : List Head) (i B : Nat) (C : Blk) (w : World) (h : Own tHead 61 w B C v l) (hi : i < l.length) (hl : l.length ≤ 1000000) :
    Calls Tryz.prog 105 #[v, .int .i64 i, .int .i64 ((i : Int) + 1)] w (fun e w' => ∃ v', e = .returned v' ∧ Own tHead 61 w' B C v' (l.take i ++ l.drop (i + 1)) ∧ w.grownBy w' v.ownBlock ∧ v'.ownBlock = v.ownBlock) := by
  obtain ⟨g, cap, cur, xs, rfl, hBg, hgs, hg, hlc, hcm, hcl, hcx, hE⟩ := h.cells (by omega)
  have hxl : xs.length = l.length := hE.1
  have hxs := hE.lens
  unfold maxLen at hcm
  have hsz : tHead.size = 2 := rfl
  rw [hsz] at hcx hcl hxs
  obtain ⟨c0, c1⟩ := take_all_flat hcx hxs i (by omega)
  obtain ⟨_, c3⟩ := take_all_flat hcx hxs (i + 1) (by omega)
  have hnl : (xs.drop (i + 1)).flatten.length = (l.length - (i + 1)) * 2 := by rw [flatten_len (sz := 2) _ (fun c hc => hxs c (List.mem_of_mem_drop hc)), List.length_drop, hxl]
  have hone : ∀ u ∈ (xs.drop (i + 1)).flatten, u.oneCell' = true := (hE.drop (i + 1)).ones
  obtain ⟨ad, had, hsrc⟩ := cut_src (cap := cap) (lo := i + 1) (s := 2) hg (c3 hxl) (fun e => List.eq_nil_of_length_eq_zero (by omega))
  have hsrc' : ∀ j v, (xs.drop (i + 1)).flatten[j]? = some v → w.drew.cell? (ad.add j) = some v := hsrc
  obtain ⟨u3, q3⟩ := run_cut3 aHead (some ⟨g, 0, none⟩) l.length cap i (i + 1) l.length i ((i : Int) + 1) l.length rfl (by omega) rfl (by omega) (by omega) hlc
  have qT := run_cutTo aHead (some ⟨g, 0, none⟩) l.length cap i (i : Int) rfl (by omega)
  rw [cutAddr_zero] at qT
  have qF := run_cutFrom aHead (some ⟨g, 0, none⟩) l.length cap (i + 1) ((i : Int) + 1) (by omega) (by omega)
  rw [hsz, had] at qF
  obtain ⟨m, hm⟩ : ∃ m, l.length = m + 1 := ⟨l.length - 1, by omega⟩
  have hap := fun ty => run_append_seg (w := w.drew) (c := cap - (i + 1)) aHead (i := i) (cap := cap) (m := l.length - (i + 1)) hg hnl hsrc' (by omega) (by rw [hsz, hnl, hcl]; omega) hone ty
  rw [hsz, show i + (l.length - (i + 1)) = m by omega] at hap
  have hcur1 := seg_len (cur := cur) (cs := (xs.drop (i + 1)).flatten) (o := i * 2) (by rw [hnl, hcl]; omega)
  have hsg : (seg cur (i * 2) (xs.drop (i + 1)).flatten).take (m * 2) = (xs.take i ++ xs.drop (i + 1)).flatten := by
    rw [seg, c0, List.flatten_append]
    have e : ((xs.take i).flatten ++ (xs.drop (i + 1)).flatten).length = m * 2 := by
      rw [List.length_append, hnl, flatten_len (sz := 2) _ (fun c hc => hxs c (List.mem_of_mem_take hc)), List.length_take, Nat.min_eq_left (by omega)]
      omega
    rw [← e, List.take_left]
  generalize seg cur (i * 2) (xs.drop (i + 1)).flatten = cur1 at hap hcur1 hsg
  rw [hcl] at hcur1
  have hg1 : (w.drew.setRow g cur1.toArray).heap[g]? = some (.cells cur1.toArray 61) := setRow_heap w.drew g _ _ _ _ hg
  obtain ⟨zs, hzl, hzr⟩ := run_clear_seg (o := m * 2) (n := 1) (c := cap - m) aHead hg1 (by omega) (by rw [hsz, hcur1]; omega) zeroHead
  rw [hsz] at hzl
  have hsl := seg_len (cur := cur1) (cs := zs) (o := m * 2) (by omega)
  have hst : (seg cur1 (m * 2) zs).take (m * 2) = (xs.take i ++ xs.drop (i + 1)).flatten := by
    rw [← hsg, seg_take zs (by omega)]
  generalize seg cur1 (m * 2) zs = cur2 at hzr hsl hst
  have q6 := run_cut aHead (some ⟨g, 0, none⟩) m cap m l.length (m : Int) (l.length : Int) rfl rfl (by omega) hlc
  rw [cutAddr_on (by omega), show l.length - m = 1 by omega, hsz, Nat.zero_add] at q6
  have hw1 : IntKind.i64.wrap ((i : Int) + 1) = (i : Int) + 1 := by rw [IntKind.wrap_i64]; omega
  have hne : ((i : Int) == (i : Int) + 1) = false := by simp; omega
  obtain ⟨W1, hW1⟩ : ∃ W1, W1 = w.drew.setRow g cur1.toArray := ⟨_, rfl⟩
  rw [← hW1] at hap hzr
  have FIN : Hid (Own tHead 61 (W1.setRow g cur2.toArray) B C (.slice (some ⟨g, 0, none⟩) m cap) (l.take i ++ l.drop (i + 1)) ∧ w.grownBy (W1.setRow g cur2.toArray) (some g)) := keepBack (by
    have hgr : w.grownBy (W1.setRow g cur2.toArray) (some g) := by
      rw [hW1, setRow_setRow]
      exact ⟨rfl, rfl, rfl, by rw [setRow_size]; exact Nat.le_refl _, fun k _ hk => setRow_other w.drew g k _ (fun e => hk (by rw [e]))⟩
    refine ⟨?_, hgr⟩
    have hll : (l.take i ++ l.drop (i + 1)).length = m := by simp; omega
    have hE2 : Each tHead (W1.setRow g cur2.toArray) (fun k => C k ∧ k ≠ g) (xs.take i ++ xs.drop (i + 1)) (l.take i ++ l.drop (i + 1)) :=
      ((hE.take i).app (hE.drop (i + 1))).keep fun k hk hlt => hgr.block k hlt (fun e => hk.2 (Option.some.inj e))
    have := Own.of_cells (B := B) (C := C) (cap := cap) hBg (setRow_heap W1 g _ _ _ _ (by rw [hW1]; exact hg1)) (by omega) (by unfold maxLen; omega) (by rw [hsl, hcur1, hsz]) (by rw [hll, hsz]; exact hst) hE2
    rwa [hll] at this)
  have hmi : ((m : Nat) : Int) ≤ (l.length : Int) := by omega
  clear hW1 hg1 hst hsl hsg hcur1 hsrc hsrc' hone hnl c0 c3 c1 hE hxs hcx hxl hg hcl had h hzl hm
  go_enter Tryz.func105, Tryz.ntmps105
  go_wp2
  go_region_law (refine step_append_is rfl (.tmp 22) (.tmp 25) 31 31 rfl _ _ (by simp [Act.eval, Act.put]) (by simp [Act.eval, Act.put]) (hap _) ?_)
  go_wp2_with (at_builtin; refine wpList_clear_is rfl _ 31 rfl _ rfl (hzr _) ?_)
  go_ret
  exact ⟨_, rfl, FIN.out.1, FIN.out.2, rfl⟩
end Go.Pch
end
