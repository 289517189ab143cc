/- The walk of the document's JoinOf. The walk of SameRows (as in the text of chapter 2's walks). -/
import Derived.Test.YtjjkdpjjaijmbaaGreatDoorDg28
import Derived.Test.YtjjkdpjjaijmbaaGreatDoorDg23
import Derived.Test.YtjjkdpjjaijmbaaGreatDoorDg29
import Derived.Test.YtjjkdpjjaijmbaaGreatDoorDg19
import Derived.Test.YtjjkdpjjaijmbaaGreatDoorDg2
import Derived.Test.YtjjkdpjjaijmbaaGreatDoorDg11
section
namespace Go.Pch
open Go.RowKit Go.Proofs
set_option maxRecDepth 100000
def RefJoin (B : Nat) (p : Repo × List Int × Int) (x : Value) (w' : World) : Prop := ∃ y z, x = .tuple #[y, z, .int .i64 p.2.2] ∧ Rp w' (fun k => B ≤ k) y p.1 ∧ Sl tInt w' (fun _ => True) z p.2.1
theorem RefJoin.no {B : Nat} {p : Repo × List Int × Int} {w : World} {e : Int} (hp : p = (noRepo, [], e)) : RefJoin B p (.tuple #[.agg #[.slice none 0 0, .slice none 0 0], .slice none 0 0, .int .i64 e]) w := by
  subst hp
  exact ⟨_, _, rfl, noRepo_rp _ _, Sl.nil _ _ _⟩
theorem OwnR.setH {w : World} {B g n c k : Nat} {vc : Value} {r : Repo} {x : Head} {m : Int} (h : OwnR w B vc (.slice (some ⟨g, 0, none⟩) n c) r) (hx : r.2[k]? = some x) (hm : i64ok m) :
    OwnR (w.setCell ⟨g, k * 2 + 1, none⟩ (.int .i64 m)) B vc (.slice (some ⟨g, 0, none⟩) n c) (r.1, r.2.set k (x.1, m)) := by
  obtain ⟨g', cap, cs, hv, h1, h2, h3, h4, hrd, hcell, hf, hset⟩ := h.heads.setPart hx
  simp only [Value.slice.injEq, Option.some.injEq, Addr.mk.injEq, and_true] at hv
  obtain ⟨rfl, hn, rfl⟩ := hv
  obtain ⟨rfl, hok⟩ := hrd
  refine ⟨h.coms.keep fun k hk _ => heap_setCell_other _ _ _ _ ?_, hset 1 (.int .i64 m) (x.1, m) (by decide) ⟨rfl, hm, hok.2⟩⟩
  rcases hk with hk | hk
  · intro e; exact hk.2 (by rw [e]; rfl)
  · intro e
    obtain ⟨cur, hc⟩ := h.coms.rowAt _ hk
    obtain ⟨cur', hc'⟩ := h.heads.rowAt g rfl
    rw [e] at hc
    rw [hc] at hc'
    simp at hc'
set_option maxHeartbeats 1000000 in
theorem refJoinOf (v : Value) (r : Repo) (s f : ByteArray) (S : Blk) (w : World) (h : Rp w S v r) :
    Calls Tryz.prog 36 #[v, .string s, .string f] w (Ret w (RefJoin w.heap.size (jJoin r s f))) := by
  have hR := h
  obtain ⟨cs, hs⟩ := r
  obtain ⟨vc, vh, rfl, hc, hh⟩ := h
  obtain ⟨ac, cc, rfl, _, _, _⟩ := hc.shape
  obtain ⟨ah, ch, rfl, _, _, _⟩ := hh.shape
  simp only at hc hh
  have hX := boxAt w (.slice ac cs.length cc) (.slice ah hs.length ch)
  obtain ⟨wB, hwB⟩ : ∃ wB, wB = (w.alloc (.cells #[.slice ac cs.length cc, .slice ah hs.length ch] 33)).alloc (.cells #[.slice none 0 0, .slice none 0 0] 33) := ⟨_, rfl⟩
  rw [← hwB] at hX
  have HWB := keepBack hwB
  clear hwB
  have zB := hX.size
  have hRB := hR.call hX.low
  by_cases hes : (headP (cs, hs) s).2 = 0
  · obtain ⟨he0, a, ha, hPa, x, hx, hxs, hxn⟩ := head_there hes
    by_cases hef : (headP (cs, hs) f).2 = 0
    · obtain ⟨_, b, hb, hPb, _⟩ := head_there hef
      have HJ := keepBack (jJoin_at hPa hPb)
      have hrk := (repo_ok he0).2.2.2
      have hs4 := (repo_ok he0).2.1
      have hdag := dag_ok (repo_ok he0).1
      have hc14 := hdag.1
      have hfew := repo_few he0
      simp only at hrk hs4 hc14 ha hb hx hdag hfew
      have hhb : hdHas hs s = true := by unfold hdHas; rw [hx]; simpa using hxs
      have hHK := keepBack (headK_at hrk hhb)
      have hkl := (List.getElem?_eq_some_iff.1 hx).1
      have HX := keepBack hx
      clear hx hes hef hxs hxn
      go_enter Tryz.func36, Tryz.ntmps36
      go_wp2_with fail
      rw [← HWB.out]
      refine (refHeadOf_of _ (cs, hs) s S wB hRB hPa).mono ?_; rintro e w1 ⟨_, rfl, rfl, b1⟩
      obtain ⟨y0, y1, y2, y3, yf⟩ := hX.on b1
      go_wp2_with fail
      refine (refHeadOf_of _ (cs, hs) f S w1 (hRB.call b1) hPb).mono ?_; rintro e w2 ⟨_, rfl, rfl, b2⟩
      have bB2 := b1.trans (b2.mono b1.size)
      clear y0 y1 y2 y3 yf
      obtain ⟨y0, y1, y2, y3, yf⟩ := hX.on bB2
      have hc2 := hc.call (hX.low.trans (bB2.mono (by omega)))
      go_wp2_with fail
      refine (refAboveOf hdag a ha _ S w2 hc2).mono ?_; rintro e w3 ⟨_, rfl, ⟨gx, x1, x2, rfl, X, hX3, fX⟩, b3⟩
      have bB3 := bB2.trans (b3.mono bB2.size)
      clear y0 y1 y2 y3 yf
      obtain ⟨y0, y1, y2, y3, yf⟩ := hX.on bB3
      have hixx := idxBools gx cs.length b hb
      have hcx := (hX3 b _ (fX.2 b hb)).1
      have hbI : (b : Int) < cs.length := by omega
      have haI : (a : Int) < cs.length := by omega
      cases h1 : ab cs a b with
      | true =>
        have HP := keepBack (HJ.out.trans (joinN_same (by exact h1)))
        rw [h1] at hcx
        clear fX
        go_wp2_with fail
        refine bodyPost_ret (joinResults rfl _ _ _ _ _ _ _ _ rfl rfl rfl (hX.fin bB3 _ _).1) rfl ?_
        exact ⟨_, rfl, RefJoin.no HP.out, (hX.fin bB3 _ _).2⟩
      | false =>
        have HON := keepBack fun h2 => HJ.out.trans (joinN_on (r := (cs, hs)) (s := s) (by exact h1) h2)
        have HMANY := keepBack fun h2 h3 => HJ.out.trans (joinN_many (r := (cs, hs)) (s := s) (by exact h1) h2 h3)
        have H1 := keepBack h1
        rw [h1] at hcx
        clear fX h1
        go_wp2_with fail
        refine (refHeadAt_of (c := some (hdN hs s)) _ (cs, hs) s S w3 (hRB.call bB3) hHK.out).mono ?_; rintro e w4 ⟨_, rfl, rfl, b4⟩
        rw [show atI (some (hdN hs s)) = ((hdN hs s : Nat) : Int) from rfl]
        have bB4 := bB3.trans (b4.mono bB3.size)
        have hc4 := hc.call (hX.low.trans (bB4.mono (by omega)))
        clear y0 y1 y2 y3 yf hixx hcx
        obtain ⟨y0, y1, y2, y3, yf⟩ := hX.on bB4
        go_wp2_with fail
        refine (refAboveOf hdag b hb _ S w4 hc4).mono ?_; rintro e w5 ⟨_, rfl, ⟨gy, x1', x2', rfl, Y, hY5, fY⟩, b5⟩
        have bB5 := bB4.trans (b5.mono bB4.size)
        have hc5 := hc4.call b5
        clear y0 y1 y2 y3 yf
        obtain ⟨y0, y1, y2, y3, yf⟩ := hX.on bB5
        have hixy := idxBools gy cs.length a ha
        have hcy := (hY5 a _ (fY.2 a ha)).1
        cases h2 : ab cs b a with
        | true =>
          have HP := keepBack (HON.out h2)
          rw [h2] at hcy
          clear fY h2
          have HMV : Hid (moved hs (hdN hs s) b = hs.set (hdN hs s) (x.1, (b : Int))) := keepBack (moved_is HX.out b)
          go_wp2_with fail
          refine (refOwn _ (cs, hs) S w5 (hRB.call bB5) (by show cs.length ≤ 1000; omega) (by show hs.length ≤ 1000; omega) hfew.2.2).mono ?_; rintro e w6 ⟨_, rfl, ⟨vc1, vh1, rfl, hO⟩, b6⟩
          have z5 := bB5.size
          have bB6 := bB5.trans (b6.mono z5)
          generalize hdN hs s = k at *
          obtain ⟨av, cv, rfl, _, _⟩ := hO.coms.shape
          obtain ⟨g1, c1, cur, xs, rfl, hg1, _, _, _, _, _, _, _⟩ := hO.heads.cells (l := hs) (by omega)
          have hF := hO.setH HX.out (m := (b : Int)) (by unfold i64ok; omega)
          obtain ⟨g', cap, csx, hv, _, _, _, _, ⟨rfl, _⟩, hcell, hfz, _⟩ := hO.heads.setPart HX.out
          simp only [Value.slice.injEq, Option.some.injEq, Addr.mk.injEq, and_true] at hv
          have c61 : w6.cell? ⟨g1, k * 2 + 1, none⟩ = some (.int .i64 x.2) := by rw [hv.1]; exact hcell 1 _ rfl
          have f61 : w6.frozen? ⟨g1, k * 2 + 1, none⟩ = false := by rw [hv.1]; exact hfz _
          have bB7 : Below wB.heap.size wB (w6.setCell ⟨g1, k * 2 + 1, none⟩ (.int .i64 b)) := bB6.setCell (by simp; omega) _
          have hix : ∀ W, Sem.run Tryz.prog (Instr.indexAt 31 (.slice (some ⟨g1, 0, none⟩) hs.length c1) (.int .i64 k)) W = .ok (.pointer (some ⟨g1, k * 2, none⟩)) W := fun W => by
            have := run_idx (T := 31) aHead (b := g1) (o := 0) (len := hs.length) (cap := c1) (k : Int) k rfl hkl W
            rwa [Nat.zero_add] at this
          have hkI : (k : Int) < hs.length := by omega
          have hR7 : Rp (w6.setCell ⟨g1, k * 2 + 1, none⟩ (.int .i64 b)) (fun k => w.heap.size ≤ k ∧ k ≠ w.heap.size + 1) (.agg #[.slice av cs.length cv, .slice (some ⟨g1, 0, none⟩) hs.length c1]) (cs, moved hs k b) := by
            obtain ⟨_, _, e1, e2, e3⟩ := hF.rp
            rw [HMV.out]
            exact ⟨_, _, e1, e2.mono fun k hk _ => by omega, e3.mono fun k hk _ => by omega⟩
          have bB8 : Below wB.heap.size wB ((w6.setCell ⟨g1, k * 2 + 1, none⟩ (.int .i64 b)).alloc (.cells #[.slice av cs.length cv, .slice (some ⟨g1, 0, none⟩) hs.length c1] 33)) := bB7.alloc bB7.size _
          have hR8 := hR7.call ((Below.refl _ (w6.setCell ⟨g1, k * 2 + 1, none⟩ (.int .i64 b))).alloc (Nat.le_refl _) (.cells #[.slice av cs.length cv, .slice (some ⟨g1, 0, none⟩) hs.length c1] 33))
          have hfin := hX.fin bB8 (.slice av cs.length cv) (.slice (some ⟨g1, 0, none⟩) hs.length c1)
          clear y0 y1 y2 y3 yf hcell hfz hO hF hv
          obtain ⟨y0, y1, y2, y3, yf⟩ := hX.on bB8
          go_wp2_with fail
          refine bodyPost_ret (joinResults rfl _ _ _ _ _ _ _ _ rfl rfl rfl hfin.1) rfl ?_
          exact ⟨_, rfl, ⟨_, _, by rw [HP.out]; rfl, by rw [HP.out]; exact rpAny hR8, by rw [HP.out]; exact Sl.nil _ _ _⟩, hfin.2⟩
        | false =>
          rw [h2] at hcy
          clear fY
          by_cases h14 : cs.length = 14
          · have HP := keepBack (HMANY.out h2 (by exact h14))
            have h14i : ((cs.length : Nat) : Int) = 14 := by omega
            clear h14 h2
            go_wp2_with fail
            refine bodyPost_ret (joinResults rfl _ _ _ _ _ _ _ _ rfl rfl rfl (hX.fin bB5 _ _).1) rfl ?_
            exact ⟨_, rfl, RefJoin.no HP.out, (hX.fin bB5 _ _).2⟩
          · have h14i : ((cs.length : Nat) : Int) ≠ 14 := by omega
            have HM1 := keepBack fun M => joinN_bad (r := (cs, hs)) (s := s) (a := a) (b := b) (M := M) (by exact H1.out) (by exact h2) (by exact h14)
            have HM2 := keepBack fun M => joinN_clash (r := (cs, hs)) (s := s) (a := a) (b := b) (M := M) (by exact H1.out) (by exact h2) (by exact h14)
            have HM3 := keepBack fun M => joinN_ok (r := (cs, hs)) (s := s) (a := a) (b := b) (M := M) (by exact H1.out) (by exact h2) (by exact h14)
            clear h2
            go_wp2_with fail
            refine (refBasesOf hdag a b ha hb _ S w5 hc5).mono ?_; rintro e w6 ⟨_, rfl, hL, b6⟩
            have bB6 := bB5.trans (b6.mono bB5.size)
            have hc6 := hc5.call b6
            obtain ⟨aL, cL, rfl, _, _, _⟩ := hL.shape
            obtain ⟨L, hLL⟩ : ∃ L, L = basesL cs a b := ⟨_, rfl⟩
            rw [← hLL] at hL ⊢
            have HL := keepBack hLL
            have hLl : L.length ≤ 14 := by rw [hLL]; exact Nat.le_trans (basesTo_length cs a b cs.length) hc14
            clear hLL
            clear y0 y1 y2 y3 yf
            obtain ⟨y0, y1, y2, y3, yf⟩ := hX.on bB6
            have z6 := bB6.size
            have hall := baseTo_all cs a b
            rw [← HL.out] at hall
            by_cases hl0 : L.length = 0
            focus
              have hbase : Sl tRow w6 (fun _ => True) (.slice none 0 0) (baseN cs a b) := by
                rw [← hall, List.eq_nil_of_length_eq_zero hl0]
                exact Sl.nil _ _ _
              have hlI : ¬ ((0 : Int) < (L.length : Nat)) := by omega
              clear hall hl0
              obtain ⟨bo, hbo⟩ : ∃ bo : Option Addr, bo = none := ⟨_, rfl⟩
              obtain ⟨bn, hbn⟩ : ∃ bn : Nat, bn = 0 := ⟨_, rfl⟩
              go_wp2_with fail
              obtain ⟨w7, hw7⟩ : ∃ w7, w7 = w6 := ⟨_, rfl⟩
              have b67 : Below w6.heap.size w6 w7 := by rw [hw7]; exact Below.refl _ _
              have z67 : w7.heap.size = w6.heap.size := by rw [hw7]
              rw [← hw7]
              clear hw7
            rotate_left
            focus
              have hlI : (0 : Int) < (L.length : Nat) := by omega
              obtain ⟨j, hj⟩ : ∃ j, L.length = j + 1 := ⟨L.length - 1, by omega⟩
              obtain ⟨bl, ol, hixl, _, hbl, hokl, hcl⟩ := hL.idxInt aInt ((L.length : Nat) - 1 : Int) j (by omega) (by omega)
              have hLk : L[j]? = some L[j] := List.getElem?_eq_getElem (by omega)
              obtain ⟨m, hm, hml⟩ := bases_in (l := cs) (a := a) (b := b) (j := j) (k := L[j]) (by rw [← HL.out]; exact hLk)
              rw [hm] at hcl
              have hnx := baseTo_next (l := cs) hLk
              rw [hm, Int.toNat_natCast, ← hj, hall] at hnx
              obtain ⟨rs, ps, hcm⟩ : ∃ rs ps, cs[m] = (rs, ps) := ⟨_, _, rfl⟩
              rw [rowsN_is (c := (rs, ps)) (by rw [List.getElem?_eq_getElem hml, hcm])] at hnx
              obtain ⟨bc2, oc2, cr2, cp2, dr2, dp2, hixc, _, hbc2, hrr, hpp, _, _, _, _, hc0, hc1⟩ := hc6.idxCommitAt aCom m m rfl hml rs ps hcm
              have hbase : Sl tRow w6 (fun _ => True) (.slice cr2 rs.length cp2) (baseN cs a b) := by rw [hnx]; exact hrr.any
              have hmI : (m : Int) < cs.length := by omega
              have hwl : IntKind.i64.wrap ((L.length : Int) - 1) = (L.length : Int) - 1 := by rw [IntKind.wrap_i64]; omega
              clear hnx hLk hm hcm hall hl0 hokl hj
              go_wp2_with fail
              go_quiet (fail)
              have b67 : Below w6.heap.size w6 (w6.drewN nq) := ((Drawn.refl w6).next nq).below
              have z67 : (w6.drewN nq).heap.size = w6.heap.size := rfl
              clear hixl hcl hixc hc0 hc1
              go_wp2_with fail
              generalize w6.drewN nq = w7 at *
            all_goals
              have bB7 := bB6.trans (b67.mono z6)
              have hc7 := hc6.call b67
              have hbase7 := hbase.call b67
              clear y0 y1 y2 y3 yf hlI
              obtain ⟨ra, pa, hra⟩ : ∃ rs ps, cs[a] = (rs, ps) := ⟨_, _, rfl⟩
              obtain ⟨rb, pb, hrb⟩ : ∃ rs ps, cs[b] = (rs, ps) := ⟨_, _, rfl⟩
              have hrna : rowsN cs a = ra := rowsN_is (c := (ra, pa)) (by rw [List.getElem?_eq_getElem ha, hra])
              have hrnb : rowsN cs b = rb := rowsN_is (c := (rb, pb)) (by rw [List.getElem?_eq_getElem hb, hrb])
              obtain ⟨M, hM⟩ : ∃ M, mergeP (baseN cs a b) ra rb = M := ⟨_, rfl⟩
              have HE1 := keepBack (HM1.out M (by rw [hrna, hrnb]; exact hM))
              have HE2 := keepBack (HM2.out M (by rw [hrna, hrnb]; exact hM))
              have HE3 := keepBack (HM3.out M (by rw [hrna, hrnb]; exact hM))
              obtain ⟨b1', o1', a1', c1', _, _, hixa, _, hbA, hra', _, _, _, _, _, hca, _⟩ := hc7.idxCommitAt aCom a a rfl ha ra pa hra
              obtain ⟨b2', o2', a2', c2', _, _, hixb, _, hbB, hrb', _, _, _, _, _, hcb, _⟩ := hc7.idxCommitAt aCom b b rfl hb rb pb hrb
              have T := refMergeOf _ _ _ (baseN cs a b) ra rb (fun _ => True) w7.drew (hbase7.keep fun _ _ _ => rfl) (hra'.any.keep fun _ _ _ => rfl) (hrb'.any.keep fun _ _ _ => rfl)
              rw [hM] at T
              clear hM hra hrb hrna hrnb HM1 HM2 HM3 hbase
              have KS : ∀ W, Below w7.heap.size w7 W → Below w7.heap.size w7 W ∧ W.cell? ⟨w.heap.size, 0, none⟩ = some (.slice ac cs.length cc) ∧ W.cell? ⟨b1', o1', none⟩ = some (.slice a1' ra.length c1') ∧ W.cell? ⟨b2', o2', none⟩ = some (.slice a2' rb.length c2') := fun W hW =>
                ⟨hW, (hX.on (bB7.trans (hW.mono bB7.size))).1, (hW.cell (p := ⟨b1', o1', none⟩) hbA).trans hca, (hW.cell (p := ⟨b2', o2', none⟩) hbB).trans hcb⟩
              clear hca hcb
              go_region_held3 (fun W => Below w7.heap.size w7 W ∧ W.cell? ⟨w.heap.size, 0, none⟩ = some (.slice ac cs.length cc) ∧ W.cell? ⟨b1', o1', none⟩ = some (.slice a1' ra.length c1') ∧ W.cell? ⟨b2', o2', none⟩ = some (.slice a2' rb.length c2'))
                (first
                  | exact KS _ (Below.refl _ _).drew
                  | exact KS _ (Below.refl _ _)
                  | exact KS _ (by assumption)
                  | fail)
                (first
                  | (go_at_call 85; refine T.mono ?_; rintro e w8 ⟨_, rfl, ⟨x8, y8, rfl, hx8, hy8⟩, b8⟩; have b78 : Below w7.heap.size w7 w8 := ((Below.refl w7.heap.size w7).drew).trans b8)
                  | fail)
              have bB8 := bB7.trans (b78.mono bB7.size)
              clear KS T
              obtain ⟨y0, y1, y2, y3, yf⟩ := hX.on bB8
              obtain ⟨ax, cx, rfl, _, _, _⟩ := hx8.shape
              obtain ⟨ay, cy, rfl, _, _, _⟩ := hy8.shape
              have z7 := bB7.size
              have z8 := b78.size
              by_cases h3 : M.2.2 = 0
              · rw [h3]
                by_cases h4 : M.2.1.length = 0
                · have HP := keepBack (HJ.out.trans (HE3.out h3 h4))
                  have H4 : ¬ (0 : Int) < ((M.2.1.length : Nat) : Int) := by omega
                  clear h3 h4 HE1 HE2 HE3
                  have GR : ∀ (W : World) (p q : Int), Below w8.heap.size w8 W → Sl tInt W (fun k => w8.heap.size ≤ k) (.slice (some ⟨w8.heap.size, 0, none⟩) 2 2) [p, q] → Calls Tryz.prog 86 #[.agg #[.slice ac cs.length cc, .slice ah hs.length ch], .int .i64 (hdN hs s : Nat), .slice ax M.1.length cx, .slice (some ⟨w8.heap.size, 0, none⟩) 2 2] W (Ret W fun x W' => Rp W' (fun k => w.heap.size ≤ k ∧ k ≠ w.heap.size + 1) x (grown (cs, hs) (hdN hs s) M.1 [p, q])) := fun W p q hW hL =>
                    have zW := hW.size
                    refGrown _ _ _ (cs, hs) (hdN hs s) x M.1 [p, q] S _ _ (fun k => w.heap.size ≤ k ∧ k ≠ w.heap.size + 1) W (fun k hk => by omega) (fun k hk _ => by simp at hk; omega) (fun k hk _ => by omega) (hRB.call (bB8.trans (hW.mono bB8.size))) (by show cs.length ≤ 1000; omega) (by show hs.length ≤ 1000; omega) hfew.2.2 HX.out (hx8.call hW) hL
                  rcases Nat.lt_trichotomy a b with hab | hab | hab
                  · have i1 : (a : Int) < b := by omega
                    have i2 : ¬ (b : Int) < a := by omega
                    have i3 : (a : Int) ≤ b := by omega
                    have i4 : ¬ (b : Int) ≤ a := by omega
                    have HMN := keepBack (show min (a : Int) b = a ∧ max (a : Int) b = b by omega)
                    rw [HMN.out.1, HMN.out.2] at HP
                    have bA := (Below.refl w8.heap.size w8).alloc (Nat.le_refl _) (.cells #[.int .i64 a, .int .i64 b] 3)
                    go_wp2_with fail
                    refine (GR _ a b bA ((twoSl (heap_alloc_new w8 _) (by unfold i64ok; omega) (by unfold i64ok; omega)).mono fun k hk _ => by omega)).mono ?_; rintro e w9 ⟨_, rfl, hR9, b9⟩
                    have bB9 := (bB8.trans (bA.mono bB8.size)).trans (b9.mono (by have := bA.size; omega))
                    obtain ⟨vx, vy, rfl, hx9, hy9⟩ := hR9
                    obtain ⟨ax9, cx9, rfl, _, _, _⟩ := hx9.shape
                    obtain ⟨ay9, cy9, rfl, _, _, _⟩ := hy9.shape
                    generalize (grown (cs, hs) (hdN hs s) M.1 [(a : Int), b]).1.length = nx at *
                    generalize (grown (cs, hs) (hdN hs s) M.1 [(a : Int), b]).2.length = ny at *
                    have hfin := hX.fin bB9 (.slice ax9 nx cx9) (.slice ay9 ny cy9)
                    clear y0 y1 y2 y3 yf GR
                    obtain ⟨y0, y1, y2, y3, yf⟩ := hX.on bB9
                    go_wp2_with fail
                    refine bodyPost_ret (joinResults rfl _ _ _ _ _ _ _ _ rfl rfl rfl hfin.1) rfl ?_
                    exact ⟨_, rfl, ⟨_, _, by rw [HP.out]; rfl, by rw [HP.out]; exact rpAny ⟨_, _, rfl, hx9, hy9⟩, by rw [HP.out]; exact Sl.nil _ _ _⟩, hfin.2⟩
                  · subst hab
                    have := H1.out
                    rw [ab_self hdag] at this
                    cases this
                  · have i1 : (b : Int) < a := by omega
                    have i2 : ¬ (a : Int) < b := by omega
                    have i3 : (b : Int) ≤ a := by omega
                    have i4 : ¬ (a : Int) ≤ b := by omega
                    have HMN := keepBack (show min (a : Int) b = b ∧ max (a : Int) b = a by omega)
                    rw [HMN.out.1, HMN.out.2] at HP
                    have bA := (Below.refl w8.heap.size w8).alloc (Nat.le_refl _) (.cells #[.int .i64 b, .int .i64 a] 3)
                    go_wp2_with fail
                    refine (GR _ b a bA ((twoSl (heap_alloc_new w8 _) (by unfold i64ok; omega) (by unfold i64ok; omega)).mono fun k hk _ => by omega)).mono ?_; rintro e w9 ⟨_, rfl, hR9, b9⟩
                    have bB9 := (bB8.trans (bA.mono bB8.size)).trans (b9.mono (by have := bA.size; omega))
                    obtain ⟨vx, vy, rfl, hx9, hy9⟩ := hR9
                    obtain ⟨ax9, cx9, rfl, _, _, _⟩ := hx9.shape
                    obtain ⟨ay9, cy9, rfl, _, _, _⟩ := hy9.shape
                    generalize (grown (cs, hs) (hdN hs s) M.1 [(b : Int), a]).1.length = nx at *
                    generalize (grown (cs, hs) (hdN hs s) M.1 [(b : Int), a]).2.length = ny at *
                    have hfin := hX.fin bB9 (.slice ax9 nx cx9) (.slice ay9 ny cy9)
                    clear y0 y1 y2 y3 yf GR
                    obtain ⟨y0, y1, y2, y3, yf⟩ := hX.on bB9
                    go_wp2_with fail
                    refine bodyPost_ret (joinResults rfl _ _ _ _ _ _ _ _ rfl rfl rfl hfin.1) rfl ?_
                    exact ⟨_, rfl, ⟨_, _, by rw [HP.out]; rfl, by rw [HP.out]; exact rpAny ⟨_, _, rfl, hx9, hy9⟩, by rw [HP.out]; exact Sl.nil _ _ _⟩, hfin.2⟩
                · have HP := keepBack (HJ.out.trans (HE2.out h3 h4))
                  have H4 : (0 : Int) < ((M.2.1.length : Nat) : Int) := by omega
                  have hy8' : Sl tInt ((w8.setCell ⟨w.heap.size + 1, 0, none⟩ (.slice none 0 0)).setCell ⟨w.heap.size + 1, 1, none⟩ (.slice none 0 0)) (fun _ => True) (.slice ay M.2.1.length cy) M.2.1 := ((hy8.mono fun k hk _ => (by simp at hk; omega : wB.heap.size ≤ k)).keep fun k hk _ => (heap_setCell_other _ _ _ _ (by simp; omega)).trans (heap_setCell_other _ _ _ _ (by simp; omega))).any
                  clear h3 h4 HE1 HE2 HE3
                  go_wp2_with fail
                  refine bodyPost_ret (joinResults rfl _ _ _ _ _ _ _ _ rfl rfl rfl (hX.fin bB8 _ _).1) rfl ?_
                  exact ⟨_, rfl, ⟨_, _, by rw [HP.out]; rfl, by rw [HP.out]; exact noRepo_rp _ _, by rw [HP.out]; exact hy8'⟩, (hX.fin bB8 _ _).2⟩
              · have HP := keepBack (HJ.out.trans (HE1.out h3))
                have hq3 : (M.2.2 != 0) = true := by simp [h3]
                clear h3 HE1 HE2 HE3
                go_wp2_with fail
                refine bodyPost_ret (joinResults rfl _ _ _ _ _ _ _ _ rfl rfl rfl (hX.fin bB8 _ _).1) rfl ?_
                exact ⟨_, rfl, RefJoin.no HP.out, (hX.fin bB8 _ _).2⟩
    · obtain ⟨e0, hE⟩ : ∃ e0, (headP (cs, hs) f).2 = e0 := ⟨_, rfl⟩
      have HP := keepBack (jJoin_bad2 hPa hef)
      rw [hE] at hef HP
      have hq : (e0 != 0) = true := by simp [hef]
      go_enter Tryz.func36, Tryz.ntmps36
      go_wp2_with fail
      rw [← HWB.out]
      refine (refHeadOf_of _ (cs, hs) s S wB hRB hPa).mono ?_; rintro e w1 ⟨_, rfl, rfl, b1⟩
      obtain ⟨y0, y1, y2, y3, yf⟩ := hX.on b1
      go_wp2_with fail
      refine (refHeadOf _ (cs, hs) f S w1 (hRB.call b1)).mono ?_; rintro e w2 ⟨_, rfl, rfl, b2⟩
      rw [hE]
      have bB2 := b1.trans (b2.mono b1.size)
      clear y0 y1 y2 y3 yf
      obtain ⟨y0, y1, y2, y3, yf⟩ := hX.on bB2
      go_wp2_with fail
      refine bodyPost_ret (joinResults rfl _ _ _ _ _ _ _ _ rfl rfl rfl (hX.fin bB2 _ _).1) rfl ?_
      exact ⟨_, rfl, RefJoin.no HP.out, (hX.fin bB2 _ _).2⟩
  · have HP := keepBack (jJoin_bad (f := f) hes)
    have hq : ((headP (cs, hs) s).2 != 0) = true := by simp [hes]
    go_enter Tryz.func36, Tryz.ntmps36
    go_wp2_with fail
    rw [← HWB.out]
    refine (refHeadOf _ (cs, hs) s S wB hRB).mono ?_; rintro e w1 ⟨_, rfl, rfl, b1⟩
    obtain ⟨y0, y1, y2, y3, yf⟩ := hX.on b1
    go_wp2_with fail
    refine bodyPost_ret (joinResults rfl _ _ _ _ _ _ _ _ rfl rfl rfl (hX.fin b1 _ _).1) rfl ?_
    exact ⟨_, rfl, RefJoin.no HP.out, (hX.fin b1 _ _).2⟩
end Go.Pch
end

section
namespace Go.Pch
open Go.RowKit Go.Proofs
end Go.Pch
end
