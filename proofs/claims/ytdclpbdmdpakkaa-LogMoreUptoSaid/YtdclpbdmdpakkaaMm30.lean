/- slices.Insert and slices.Delete at a desk's heads; what the desk reads as behind it. A map of ints that the call has made: what it says, read, written. -/
import Derived.Test.YtdclpbdmdpakkaaMm28
import Derived.Test.YtdclpbdmdpakkaaMm29
import Derived.Deep.RegionLaw
import Derived.Test.YtdclpbdmdpakkaaMm4
import Derived.Maps.OwnSet
import Derived.Maps.Views
section
namespace Go.Pch
open Go.RowKit Go.Proofs
set_option maxRecDepth 100000

theorem grownBy_of {w w' : World} (h : Below w.heap.size w w') (row : Option Nat) : w.grownBy w' row := ⟨h.os, h.tape, h.output, h.size, fun k hk _ => h.block k hk⟩

theorem insertHead (v : Value) (l : List Head) (x : Head) (i B : Nat) (C : Blk) (w : World) (vb : Nat) (h : Own tHead 78 w B C v l) (hi : i ≤ l.length) (h0 : 0 < l.length) (hl : l.length ≤ 1000) (hB : B ≤ w.heap.size)
    (ok : i64ok x.2 ∧ x.1.size ≤ maxLen) (hne : v.ownBlock ≠ some vb) (hv : w.heap[vb]? = some (.cells #[.string x.1, .int .i64 x.2] 78)) :
    Calls Try.prog 41 #[v, .int .i64 i, .slice (some ⟨vb, 0, none⟩) 1 1] w (fun e w' => ∃ v', e = .returned v' ∧ Own tHead 78 w' B C v' (l.take i ++ x :: l.drop i) ∧ w.grownBy w' v.ownBlock) := by
  have hvb : vb < w.heap.size := (Array.getElem?_eq_some_iff.1 hv).1
  have c0 : w.cell? ⟨vb, 0, none⟩ = some (.string x.1) := by rw [World.cell?, hv]; rfl
  have c1 : w.cell? ⟨vb, 1, none⟩ = some (.int .i64 x.2) := by rw [World.cell?, hv]; rfl
  by_cases he : i = l.length
  · subst he
    refine (insertEndH v _ l x B C w h (by omega) hB ⟨vb, rfl, [[.string x.1, .int .i64 x.2]], Each.one _ _ ⟨rfl, ok⟩, (fun e => by cases e), fun ad had j u hj => ?_⟩).mono fun e w' ⟨v', h1, h2, h3⟩ => ⟨v', h1, by simpa using h2, h3⟩
    obtain rfl := Option.some.inj had
    rw [Addr.add_lit, Nat.zero_add, World.cell?, hv]
    simpa using hj
  · obtain ⟨g, cap, cur, xs, rfl, _, hgs, _, hlc, _⟩ := h.cells h0
    by_cases hr : l.length + 1 ≤ cap
    · exact insertRoomH l x i g cap B C w vb h (by omega) (by omega) hr ok (fun e => hne (by rw [e]; rfl)) hv
    · exact (insertGrowH l x i g cap B C w vb h (by omega) (by omega) hB (by omega) ok hvb c0 c1).mono fun e w' ⟨v', h1, h2, h3⟩ => ⟨v', h1, h2, grownBy_of h3 _⟩

/-- The heads are written anew. -/
theorem DeskAt.setHeads {w w' : World} {B db : Nat} {vc vh vh' : Value} {r : Repo} {l : List Head} (h : DeskAt w B db vc vh r) (ho : Own tHead 78 w' B (fun _ => False) vh' l) (hg : w.grownBy w' vh.ownBlock) :
    w'.heap[db]? = some (.cells #[vc, vh] 71) ∧ (w'.setCell ⟨db, 1, none⟩ vh').heap[db]? = some (.cells #[vc, vh'] 71) ∧ Rp (w'.setCell ⟨db, 1, none⟩ vh') (fun k => B ≤ k) (.agg #[vc, vh']) (r.1, l) := by
  have hap := h.apart
  have hrow : w'.heap[db]? = some (.cells #[vc, vh] 71) := (hg.block db h.lt fun e => hap.2.1 e.symm).trans h.row
  have hn : vh'.ownBlock ≠ some db := fun e => by
    obtain ⟨cur, hc⟩ := ho.rowAt _ e
    rw [hrow] at hc
    simp at hc
  have hc : Own tCommit 44 (w'.setCell ⟨db, 1, none⟩ vh') B (fun k => (B ≤ k ∧ some k ≠ vh.ownBlock) ∧ k ≠ db) vc r.1 := (h.coms.keep (w' := w') fun k hk hlt => hg.block k hlt (by
      rcases hk with hk | hk
      · exact hk.1.2
      · intro e; exact hap.2.2 k hk e.symm)).keep fun k hk _ => heap_setCell_other _ _ _ _ (by
      rcases hk with hk | hk
      · exact hk.2
      · intro e; exact hap.1 (by rw [hk, e]))
  have hh := ho.keep (w' := w'.setCell ⟨db, 1, none⟩ vh') fun k hk _ => heap_setCell_other _ _ _ _ (by
      rcases hk with hk | hk
      · exact hk.elim
      · intro e; exact hn (by rw [hk, e]))
  exact ⟨hrow, heap_setCell_same w' db 1 _ _ vh' hrow, _, _, rfl, hc.sl (fun _ hk => hk.1.1) (fun _ h => h), hh.sl (fun _ hk => hk.elim) (fun _ h => h)⟩

theorem branchN_name {r : Repo} {s : ByteArray} {n : Int} (h : nameB s = false) : branchN r s n = (noRepo, 4) := by rw [branchN, h]; rfl
theorem branchN_there {r : Repo} {s : ByteArray} {n : Int} (h : nameB s = true) (h1 : hdHas r.2 s = true) : branchN r s n = (noRepo, 6) := by rw [branchN, if_pos h, if_pos h1]
theorem branchN_many {r : Repo} {s : ByteArray} {n : Int} (h : nameB s = true) (h1 : hdHas r.2 s = false) (h2 : r.2.length = 4) : branchN r s n = (noRepo, 2) := by rw [branchN, if_pos h, h1, if_pos h2]; rfl
theorem branchN_ok {r : Repo} {s : ByteArray} {n : Int} (h : nameB s = true) (h1 : hdHas r.2 s = false) (h2 : r.2.length ≠ 4) : branchN r s n = ((r.1, r.2.take (hdN r.2 s) ++ (s, n) :: r.2.drop (hdN r.2 s)), 0) := by rw [branchN, if_pos h, h1, if_neg h2]; rfl
theorem repoName_of {c : Bool} (s : ByteArray) (w : World) (h : nameB s = c) : Calls Try.prog 39 #[.string s] w (Ret w fun r _ => r = .bool c) := h ▸ repoName s w
theorem repoWhere_of {k : Nat} {c : Bool} (v : Value) (r : Repo) (key : ByteArray) (S : Blk) (w : World) (h : Rp w S v r) (hr : headsRise r.1.length [] r.2 = true) (hl : r.2.length ≤ 1000000) (hk : hdN r.2 key = k) (hc : hdHas r.2 key = c) :
    Calls Try.prog 40 #[v, .string key] w (Ret w fun x _ => x = .tuple #[.int .i64 (k : Nat), .bool c]) := hk ▸ hc ▸ repoWhere v r key S w h hr hl
theorem hdN_le : ∀ (hs : List Head) (s : ByteArray), hdN hs s ≤ hs.length
  | [], _ => Nat.le_refl _
  | h :: hs, s => by
    rw [hdN]
    split
    · have := hdN_le hs s; simp; omega
    · simp
theorem name_few {s : ByteArray} (h : nameB s = true) : s.size ≤ 8 := by
  rw [nameB, Bool.and_eq_true, Bool.and_eq_true, decide_eq_true_eq, decide_eq_true_eq] at h
  exact h.1.2

set_option maxHeartbeats 1000000 in
theorem workBranch (v : Value) (r : Repo) (s f : ByteArray) (S : Blk) (w : World) (h : Rp w S v r) :
    Calls Try.prog 13 #[v, .string s, .string f] w (Ret w (RepoRet w.heap.size (jBranch r s f))) := by
  have hR := h
  obtain ⟨cs, hs⟩ := r
  obtain ⟨vc, vh, rfl, hc, hh⟩ := h
  obtain ⟨ac, cc, rfl, _, _, _⟩ := hc.shape
  obtain ⟨ah, ch, rfl, _, _, _⟩ := hh.shape
  simp only at hc hh
  have hX := boxAt w (.slice ac cs.length cc) (.slice ah hs.length ch)
  obtain ⟨wB, hwB⟩ : ∃ wB, wB = (w.alloc (.cells #[.slice ac cs.length cc, .slice ah hs.length ch] 25)).alloc (.cells #[.slice none 0 0, .slice none 0 0] 25) := ⟨_, rfl⟩
  rw [← hwB] at hX
  have HWB := keepBack hwB
  clear hwB
  have zB := hX.size
  obtain ⟨wN, hwN⟩ : ∃ wN, wN = wB.alloc (.cells #[.string f] 9) := ⟨_, rfl⟩
  have bN : Below wB.heap.size wB wN := by rw [hwN]; exact (Below.refl _ _).alloc (Nat.le_refl _) _
  have zN : wN.heap.size = w.heap.size + 3 := by rw [hwN]; simp; omega
  have hnm : Sl tStr wN (fun k => wB.heap.size ≤ k) (.slice (some ⟨wB.heap.size, 0, none⟩) 1 1) [f] := by rw [hwN]; exact oneStr wB f
  rw [show wB.heap.size = w.heap.size + 1 + 1 by omega] at hnm
  have HWN := keepBack hwN
  clear hwN
  have hRN := (hR.call hX.low).call (bN.mono (Nat.le_refl _))
  by_cases he : (headP (cs, hs) f).2 = 0
  · obtain ⟨he0, n, hn, hP, x, hx, hxs, hxn⟩ := head_there he
    have HJ := keepBack (jBranch_at (s := s) hP)
    have hrk := (repo_ok he0).2.2.2
    have hs4 := (repo_ok he0).2.1
    have hc14 := (dag_ok (repo_ok he0).1).1
    simp only at hrk hs4 hc14 hn hx
    cases hnb : nameB s with
    | false =>
      have HP := keepBack (HJ.out.trans (branchN_name hnb))
      go_enter Try.func13, Try.ntmps13
      go_wp2_with fail
      rw [← HWB.out, ← HWN.out]
      refine (openOk _ _ (cs, hs) f n _ _ wN hRN hnm hP).mono ?_; rintro e w1 ⟨_, rfl, ⟨db, vc1, vh1, q, rfl, hD, hq⟩, b1⟩
      have bB1 := bN.trans (b1.mono (by omega))
      go_wp2_with fail
      refine (repoName_of _ w1 hnb).mono ?_; rintro e w2 ⟨_, rfl, rfl, b2⟩
      have bB2 := bB1.trans (b2.mono bB1.size)
      obtain ⟨y0, y1, y2, y3, yf⟩ := hX.on bB2
      go_wp2_with fail
      exact bodyPost_ret (repoResults rfl _ _ _ _ _ _ _ rfl rfl (hX.fin bB2 _ _).1) rfl ⟨_, rfl, RepoRet.no HP.out, (hX.fin bB2 _ _).2⟩
    | true =>
      obtain ⟨k, hk⟩ : ∃ k, hdN hs s = k := ⟨_, rfl⟩
      cases hhb : hdHas hs s with
      | true =>
        have HP := keepBack (HJ.out.trans (branchN_there hnb hhb))
        go_enter Try.func13, Try.ntmps13
        go_wp2_with fail
        rw [← HWB.out, ← HWN.out]
        refine (openOk _ _ (cs, hs) f n _ _ wN hRN hnm hP).mono ?_; rintro e w1 ⟨_, rfl, ⟨db, vc1, vh1, q, rfl, hD, hq⟩, b1⟩
        have bB1 := bN.trans (b1.mono (by omega))
        go_wp2_with fail
        refine (repoName_of _ w1 hnb).mono ?_; rintro e w2 ⟨_, rfl, rfl, b2⟩
        have bB2 := bB1.trans (b2.mono bB1.size)
        obtain ⟨y0, y1, y2, y3, yf⟩ := hX.on bB2
        go_wp2_with fail
        refine (repoWhere_of _ (cs, hs) s S w2 (hR.call (hX.low.trans (bB2.mono (by omega)))) hrk (by show hs.length ≤ 1000000; omega) hk hhb).mono ?_; rintro e w3 ⟨_, rfl, rfl, b3⟩
        have bB3 := bB2.trans (b3.mono bB2.size)
        clear y0 y1 y2 y3 yf
        obtain ⟨y0, y1, y2, y3, yf⟩ := hX.on bB3
        go_wp2_with fail
        exact bodyPost_ret (repoResults rfl _ _ _ _ _ _ _ rfl rfl (hX.fin bB3 _ _).1) rfl ⟨_, rfl, RepoRet.no HP.out, (hX.fin bB3 _ _).2⟩
      | false =>
        by_cases h4 : hs.length = 4
        · have HP := keepBack (HJ.out.trans (branchN_many hnb hhb h4))
          rw [h4] at hX HWB hRN
          have H4 := keepBack h4
          clear h4
          go_enter Try.func13, Try.ntmps13
          rw [H4.out]
          go_wp2_with fail
          rw [← HWB.out, ← HWN.out]
          refine (openOk _ _ (cs, hs) f n _ _ wN hRN hnm hP).mono ?_; rintro e w1 ⟨_, rfl, ⟨db, vc1, vh1, q, rfl, hD, hq⟩, b1⟩
          have bB1 := bN.trans (b1.mono (by omega))
          go_wp2_with fail
          refine (repoName_of _ w1 hnb).mono ?_; rintro e w2 ⟨_, rfl, rfl, b2⟩
          have bB2 := bB1.trans (b2.mono bB1.size)
          obtain ⟨y0, y1, y2, y3, yf⟩ := hX.on bB2
          go_wp2_with fail
          have hR2 := hR.call (hX.low.trans (bB2.mono (by omega)))
          rw [H4.out] at hR2
          refine (repoWhere_of _ (cs, hs) s S w2 hR2 hrk (by show hs.length ≤ 1000000; omega) hk hhb).mono ?_; rintro e w3 ⟨_, rfl, rfl, b3⟩
          have bB3 := bB2.trans (b3.mono bB2.size)
          clear y0 y1 y2 y3 yf
          obtain ⟨y0, y1, y2, y3, yf⟩ := hX.on bB3
          go_wp2_with fail
          exact bodyPost_ret (repoResults rfl _ _ _ _ _ _ _ rfl rfl (hX.fin bB3 _ _).1) rfl ⟨_, rfl, RepoRet.no HP.out, (hX.fin bB3 _ _).2⟩
        · have HP := keepBack (HJ.out.trans (branchN_ok hnb hhb (by exact h4)))
          have h4' : ((hs.length : Nat) : Int) ≠ 4 := by omega
          have hkl := hdN_le hs s
          have hl0 : 0 < hs.length := by have := (List.getElem?_eq_some_iff.1 hx).1; omega
          have hnf := name_few hnb
          simp only [hk] at HP hkl
          clear hx
          go_enter Try.func13, Try.ntmps13
          go_wp2_with fail
          rw [← HWB.out, ← HWN.out]
          refine (openOk _ _ (cs, hs) f n _ _ wN hRN hnm hP).mono ?_; rintro e w1 ⟨_, rfl, ⟨db, vc1, vh1, q, rfl, hD, hq⟩, b1⟩
          have bB1 := bN.trans (b1.mono (by omega))
          go_wp2_with fail
          refine (repoName_of _ w1 hnb).mono ?_; rintro e w2 ⟨_, rfl, rfl, b2⟩
          have bB2 := bB1.trans (b2.mono bB1.size)
          obtain ⟨y0, y1, y2, y3, yf⟩ := hX.on bB2
          go_wp2_with fail
          refine (repoWhere_of _ (cs, hs) s S w2 (hR.call (hX.low.trans (bB2.mono (by omega)))) hrk (by show hs.length ≤ 1000000; omega) hk hhb).mono ?_; rintro e w3 ⟨_, rfl, rfl, b3⟩
          have bB3 := bB2.trans (b3.mono bB2.size)
          have b13 := b2.trans (b3.mono b2.size)
          have hD3 := hD.call b13
          have hq3 := hq.call b13
          obtain ⟨aq, cq, rfl, _, _, _⟩ := hq3.shape
          simp only [List.length_cons, List.length_nil, Nat.zero_add] at hq3
          obtain ⟨bq, oq, hixq, _, hbq, _, hcq⟩ := hq3.idxInt aInt 0 0 rfl (by simp)
          clear y0 y1 y2 y3 yf
          obtain ⟨y0, y1, y2, y3, yf⟩ := hX.on bB3
          have d0 := hD3.cell0
          have d1 := hD3.cell1
          obtain ⟨g1, c1, cur, xs, rfl, hg1N, _, _, _, _, _, _, _⟩ := hD3.heads.cells hl0
          obtain ⟨av, cv, rfl, _, _⟩ := hD3.coms.shape
          have bL : Below w3.heap.size w3 (w3.alloc (.cells #[.string s, .int .i64 n] 78)).drew := ((Below.refl _ _).alloc (Nat.le_refl _) _).drew
          have hDX := hD3.call bL
          have zN3 := bB3.size
          have z13 := b1.size
          have z13' := b13.size
          have hap := hD3.apart
          have T := insertHead (.slice (some ⟨g1, 0, none⟩) hs.length c1) hs (s, (n : Int)) k wN.heap.size _ _ w3.heap.size hDX.heads hkl hl0 (by omega) (by have := bL.size; omega) ⟨by unfold i64ok; simp only; omega, by unfold maxLen; simp only; omega⟩ (fun e => by have := (hD3.heads.block _ e).2; omega) (heap_alloc_new w3 _)
          have hDB := hD3.low
          generalize hs.take k ++ (s, (n : Int)) :: hs.drop k = L at T HP
          have d0X := hDX.cell0
          have d1X := hDX.cell1
          go_wp2_with fail
          go_region_law (first
            | (go_simp; go_at_call 41; refine T.mono ?_; rintro e w4 ⟨v4, rfl, ho4, hg4⟩; obtain ⟨row4, row5, hR5⟩ := hDX.setHeads ho4 hg4; obtain ⟨a4, c4, hv4, _, _⟩ := ho4.shape; generalize L.length = m4 at hv4; subst hv4; have e1 : w4.cell? ⟨db, 1, none⟩ = some (.slice (some ⟨g1, 0, none⟩) hs.length c1) := (by rw [World.cell?, row4]; rfl); have ef := frozen_of_row w4 db 1 _ _ row4)
            | fail)
          all_goals
            have bB5 : Below wB.heap.size wB (w4.setCell ⟨db, 1, none⟩ (.slice a4 m4 c4)) := ((bB3.trans (bL.mono bB3.size)).grown hg4 (by have := bL.size; omega) (fun g hg => by simp [Value.ownBlock] at hg; omega)).setCell (by simp; omega) _
            have e50 : (w4.setCell ⟨db, 1, none⟩ (.slice a4 m4 c4)).cell? ⟨db, 0, none⟩ = some (.slice av cs.length cv) := by rw [World.cell?, row5]; rfl
            have e51 : (w4.setCell ⟨db, 1, none⟩ (.slice a4 m4 c4)).cell? ⟨db, 1, none⟩ = some (.slice a4 m4 c4) := by rw [World.cell?, row5]; rfl
            clear y0 y1 y2 y3 yf e1 ef row4 row5 hg4 ho4 d0X d1X d0 d1 T
            obtain ⟨y0, y1, y2, y3, yf⟩ := hX.on bB5
            have hR5' : Rp (w4.setCell ⟨db, 1, none⟩ (.slice a4 m4 c4)) (fun k => wB.heap.size ≤ k) (.agg #[.slice av cs.length cv, .slice a4 m4 c4]) (cs, L) := by
              obtain ⟨_, _, e1, e2, e3⟩ := hR5
              exact ⟨_, _, e1, e2.mono fun k hk _ => by omega, e3.mono fun k hk _ => by omega⟩
            generalize w4.setCell ⟨db, 1, none⟩ (.slice a4 m4 c4) = w5 at *
            go_wp2_with fail
            exact bodyPost_ret (repoResults rfl _ _ _ _ _ _ _ rfl rfl (hX.fin bB5 _ _).1) rfl ⟨_, rfl, ⟨_, by rw [HP.out]; rfl, by rw [HP.out]; exact hX.rp hR5'⟩, (hX.fin bB5 _ _).2⟩
  · have HP := keepBack (jBranch_bad (s := s) he)
    have hq : ((headP (cs, hs) f).2 != 0) = true := by simp [he]
    go_enter Try.func13, Try.ntmps13
    go_wp2_with fail
    rw [← HWB.out, ← HWN.out]
    refine (openBad _ _ (cs, hs) f _ _ wN hRN hnm).mono ?_; rintro e w1 ⟨_, rfl, ⟨p, q, rfl⟩, b1⟩
    have bB1 := bN.trans (b1.mono (by omega))
    obtain ⟨y0, y1, y2, y3, yf⟩ := hX.on bB1
    go_wp2_with fail
    exact bodyPost_ret (repoResults rfl _ _ _ _ _ _ _ rfl rfl (hX.fin bB1 _ _).1) rfl ⟨_, rfl, RepoRet.no HP.out, (hX.fin bB1 _ _).2⟩

end Go.Pch
end

section
namespace Go.Pch
open Go.RowKit Go.Proofs Go.Maps

theorem intKeyed : Keyed Try.prog 3 := int_keyed Try.underlying3
theorem intZero (w : World) : (zeroValue 3).run Try.prog w = .ok (.int .i64 0) w := by kernel_rfl
theorem i64wf {n : Int} (h : i64ok n) : (Lit.int .i64 n).wf = true := by
  unfold i64ok at h
  simp only [Lit.wf, IntKind.min, IntKind.max, IntKind.signed, IntKind.bits, Bool.and_eq_true, decide_eq_true_eq, if_true]
  omega
/-- Block b is a map of at most n entries that says f. -/
def MapI (w : World) (b n : Nat) (f : Int → Option Int) : Prop :=
  ∃ D : DataW Unit, w.ownsMap Try.prog 3 (plainElem Try.prog 3) b n D ∧ ∀ k, Maps.has D (.int .i64 k) = (f k).isSome ∧ D.atKey (.int .i64 k) (.lit (.int .i64 0)) = .lit (.int .i64 ((f k).getD 0))
theorem MapI.made (w : World) : MapI (w.alloc (.map #[] 0)) w.heap.size 0 (fun _ => none) :=
  ⟨.map [], World.ownsMap_made _ _ _ _, fun _ => ⟨rfl, rfl⟩⟩
theorem MapI.kept {w w' : World} {b n : Nat} {f : Int → Option Int} {row : Option Nat} (h : MapI w b n f) (hg : w.grownBy w' row) (hne : some b ≠ row) : MapI w' b n f := by
  obtain ⟨D, h1, h2⟩ := h
  exact ⟨D, h1.kept hg hne, h2⟩
theorem MapI.lt {w : World} {b n : Nat} {f : Int → Option Int} (h : MapI w b n f) : b < w.heap.size := by obtain ⟨D, h1, _⟩ := h; exact h1.lt
theorem MapI.keep {w w' : World} {b n : Nat} {f : Int → Option Int} (h : MapI w b n f) (hk : w'.heap[b]? = w.heap[b]?) : MapI w' b n f := by
  obtain ⟨D, ⟨es, clock, hb, r⟩, h2⟩ := h
  exact ⟨D, ⟨es, clock, hk.trans hb, r⟩, h2⟩
theorem MapI.look {w : World} {b n : Nat} {f : Int → Option Int} (h : MapI w b n f) {k : Int} (hk : i64ok k) :
    (Instr.lookup 132 (.map (some b)) (.int .i64 k) false).run Try.prog w = .ok (.int .i64 ((f k).getD 0)) w := by
  obtain ⟨D, h1, h2⟩ := h
  obtain ⟨c, e1, e2, _⟩ := h1.lookup_int intKeyed Try.underlying132 Try.underlying3 (intZero w) (keyOf_int_mk Try.underlying3 (i64wf hk))
  rw [(h2 k).2] at e2
  simp at e2
  rw [e1, e2]
theorem MapI.lookOk {w : World} {b n : Nat} {f : Int → Option Int} (h : MapI w b n f) {k : Int} (hk : i64ok k) :
    (Instr.lookup 132 (.map (some b)) (.int .i64 k) true).run Try.prog w = .ok (.tuple #[.int .i64 ((f k).getD 0), .bool (f k).isSome]) w := by
  obtain ⟨D, h1, h2⟩ := h
  obtain ⟨v, ps, e1, e2⟩ := h1.look_ok intKeyed Try.underlying132 (intZero w) (plainElem_int Try.underlying3 (a := 0) (by decide)) (keyOf_int_mk Try.underlying3 (i64wf hk))
  rw [(h2 k).2] at e2
  obtain ⟨c, rfl, hc, _⟩ := plainElem_int_inv Try.underlying3 e2
  simp at hc
  rw [e1, (h2 k).1, hc.1]
/-- m[k] = v, as a law for the walk. -/
theorem wpList_mapI {w : World} {ops : Array Oper} {rest : List Oper} {o : Oper} {a : Go.Act} {Q : Exit → Go.Act → World → Prop} (hg : o.guard = none) (m x v : Operand) (hop : o.op = Op.mapUpdate 132 m x v)
    {b n : Nat} {f : Int → Option Int} (hm : a.eval m = .map (some b)) (h : MapI w b n f) (hn : n < 1000000000) {k c : Int} (hx : a.eval x = .int .i64 k) (hv : a.eval v = .int .i64 c) (hk : i64ok k) (hc : i64ok c)
    (hK : ∀ w', MapI w' b (n + 1) (fun j => if j = k then some c else f j) → w.grownBy w' (some b) → wpList Try.prog ops Q rest (a.put o.dst undef) w') :
    wpList Try.prog ops Q (o :: rest) a w := by
  obtain ⟨D, h1, h2⟩ := h
  refine wpList_mapUpdate_own w hg m x v 132 hop 3 3 intKeyed Try.underlying132 (plainElem Try.prog 3) b n D hm h1 (by unfold maxLen; omega) _ _ _ hx hv (keyOf_int_mk Try.underlying3 (i64wf hk)) _ [] (plainElem_int Try.underlying3 (i64wf hc)) ?_
  intro w' h3 h4
  refine hK w' ⟨_, h3, fun j => ?_⟩ h4
  by_cases hj : j = k
  · have e : (fun j => if j = k then some c else f j) j = some c := if_pos hj
    rw [e, hj]
    exact ⟨has_put_same h1.isMap (by trivial) _, atKey_put_same h1.isMap (by trivial) _ _⟩
  · have e : (fun j => if j = k then some c else f j) j = f j := if_neg hj
    have hne : Lit.int IntKind.i64 j ≠ Lit.int .i64 k := by simpa using hj
    rw [e]
    exact ⟨(has_put_other hne _).trans (h2 j).1, (atKey_put_other hne _ _).trans (h2 j).2⟩

end Go.Pch
end
