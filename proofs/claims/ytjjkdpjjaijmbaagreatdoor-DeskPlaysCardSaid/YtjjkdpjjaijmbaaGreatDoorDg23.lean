/- The walk of work.Merge. The walks of the document's IsName, RepoError, HeadOf, LogOf. -/
import Derived.Test.YtjjkdpjjaijmbaaGreatDoorDg21
import Derived.Test.YtjjkdpjjaijmbaaGreatDoorDg22
import Derived.Test.YtjjkdpjjaijmbaaGreatDoorDg6
import Derived.Test.YtjjkdpjjaijmbaaGreatDoorDg18
section
namespace Go.Pch
open Go.RowKit Go.Proofs
set_option maxRecDepth 100000
theorem twoStr (w : World) (s f : ByteArray) : Sl tStr (w.alloc (.cells #[.string s, .string f] 9)) (fun k => w.heap.size ≤ k) (.slice (some ⟨w.heap.size, 0, none⟩) 2 2) [s, f] :=
  (Own.lit (E := tStr) (B := w.heap.size) (C := fun _ => False) (l := [s, f]) (xs := [[.string s], [.string f]]) ((Each.one (E := tStr) _ _ ⟨rfl, trivial⟩).app (Each.one (E := tStr) _ _ ⟨rfl, trivial⟩)) rfl (by simp [maxLen]) (Nat.le_refl _)).sl (fun _ h => h.elim) (fun _ h => h)
theorem open2Bad (v vn : Value) (r : Repo) (s f : ByteArray) (e : Int) (S S' : Blk) (w : World) (h : Rp w S v r) (hn : Sl tStr w S' vn [s, f]) (he : openE r [s, f] = e) :
    Calls Tryz.prog 101 #[v, vn] w (Ret w fun x _ => ∃ p q, x = .tuple #[p, q, .int .i64 e]) :=
  (workOpen v vn r [s, f] S S' w h hn (by simp) (by simp)).mono fun _ _ ⟨x, h1, ⟨p, q, h2, _⟩, h4⟩ => ⟨x, h1, ⟨p, q, by rw [h2, he]⟩, h4⟩
theorem open2Ok (v vn : Value) (r : Repo) (s f : ByteArray) (a b : Nat) (S S' : Blk) (w : World) (h : Rp w S v r) (hn : Sl tStr w S' vn [s, f]) (he : headP r s = ((a : Int), 0)) (hf : headP r f = ((b : Int), 0)) :
    Calls Tryz.prog 101 #[v, vn] w (Ret w fun x w' => ∃ db vc vh q, x = .tuple #[.pointer (some ⟨db, 0, none⟩), q, .int .i64 0] ∧ DeskAt w' w.heap.size db vc vh r ∧ Sl tInt w' (fun k => w.heap.size ≤ k) q [(a : Int), (b : Int)]) :=
  (workOpen v vn r [s, f] S S' w h hn (by simp) (by simp)).mono fun _ _ ⟨x, h1, ⟨p, q, h2, h3⟩, h4⟩ => by
    have e0 : openE r [s, f] = 0 := by rw [openE_two, he, hf]; rfl
    obtain ⟨db, vc, vh, hp, hD, hq⟩ := h3 e0
    rw [List.map_cons, List.map_cons, List.map_nil, he, hf] at hq
    exact ⟨x, h1, ⟨db, vc, vh, q, by rw [h2, hp, e0], hD, hq⟩, h4⟩
def JoinRet (B : Nat) (p : Repo × List Int × Int) (x : Value) (w' : World) : Prop := ∃ y z, x = .tuple #[y, z, .int .i64 p.2.2] ∧ Rp w' (fun k => B ≤ k) y p.1 ∧ Sl tInt w' (fun k => B ≤ k) z p.2.1
theorem JoinRet.no {B : Nat} {p : Repo × List Int × Int} {w : World} {e : Int} (hp : p = (noRepo, [], e)) : JoinRet B p (.tuple #[.agg #[.slice none 0 0, .slice none 0 0], .slice none 0 0, .int .i64 e]) w := by
  subst hp
  exact ⟨_, _, rfl, noRepo_rp _ _, Sl.nil _ _ _⟩
theorem joinResults {fn : Func} {p q q2 : Tmp} (h : fn.results = #[.cell p 33, .tmp q, .tmp q2]) (tmps : Array Value) (W : World) (g : Nat) (x y v v2 : Value) (t : TypeId) (hp : tmps.getD p undef = .pointer (some ⟨g, 0, none⟩)) (hv : tmps.getD q undef = v) (hv2 : tmps.getD q2 undef = v2) (hr : W.heap[g]? = some (.cells #[x, y] t)) :
    (results fn tmps).run Tryz.prog W = .ok (.tuple #[.agg #[x, y], v, v2]) W := by
  have hp' : tmps[p]?.getD undef = .pointer (some ⟨g, 0, none⟩) := by simpa using hp
  have hv' : tmps[q]?.getD undef = v := by simpa using hv
  have hv2' : tmps[q2]?.getD undef = v2 := by simpa using hv2
  have r0 : W.cell? ⟨g, 0, none⟩ = some x := by rw [World.cell?, hr]; rfl
  have r1 : W.cell? ⟨g, 1, none⟩ = some y := by rw [World.cell?, hr]; rfl
  simp [results, h, hp', hv', hv2', asAddr, go_sem, r0, r1, Result.andThen]
theorem join_bad {r : Repo} {s f : ByteArray} (h : openE r [s, f] ≠ 0) : jJoin r s f = (noRepo, [], openE r [s, f]) := by
  rw [openE_two] at h ⊢
  by_cases h0 : (headP r s).2 = 0
  · rw [if_pos h0] at h ⊢
    obtain ⟨_, n, _, hP, _⟩ := head_there h0
    exact jJoin_bad2 hP h
  · rw [if_neg h0]; exact jJoin_bad h0
theorem open_two_ok {r : Repo} {s f : ByteArray} (h : openE r [s, f] = 0) : (headP r s).2 = 0 ∧ (headP r f).2 = 0 := by
  rw [openE_two] at h
  split at h
  · exact ⟨by assumption, h⟩
  · exact absurd h (by assumption)
theorem joinN_same {r : Repo} {s : ByteArray} {a b : Nat} (h : ab r.1 a b = true) : joinN r s a b = (noRepo, [], 9) := by rw [joinN, if_pos h]
theorem joinN_on {r : Repo} {s : ByteArray} {a b : Nat} (h : ab r.1 a b = false) (h1 : ab r.1 b a = true) : joinN r s a b = ((r.1, moved r.2 (hdN r.2 s) b), [], 0) := by rw [joinN, h, if_pos h1]; rfl
theorem joinN_many {r : Repo} {s : ByteArray} {a b : Nat} (h : ab r.1 a b = false) (h1 : ab r.1 b a = false) (h2 : r.1.length = 14) : joinN r s a b = (noRepo, [], 2) := by rw [joinN, h, h1, if_pos h2]; rfl
theorem joinN_bad {r : Repo} {s : ByteArray} {a b : Nat} {M : List Row × List Int × Int} (h : ab r.1 a b = false) (h1 : ab r.1 b a = false) (h2 : r.1.length ≠ 14) (hM : mergeP (baseN r.1 a b) (rowsN r.1 a) (rowsN r.1 b) = M) (h3 : M.2.2 ≠ 0) : joinN r s a b = (noRepo, [], M.2.2) := by rw [joinN, h, h1, if_neg h2, hM, if_neg h3]; rfl
theorem joinN_clash {r : Repo} {s : ByteArray} {a b : Nat} {M : List Row × List Int × Int} (h : ab r.1 a b = false) (h1 : ab r.1 b a = false) (h2 : r.1.length ≠ 14) (hM : mergeP (baseN r.1 a b) (rowsN r.1 a) (rowsN r.1 b) = M) (h3 : M.2.2 = 0) (h4 : M.2.1.length ≠ 0) : joinN r s a b = (noRepo, M.2.1, 7) := by rw [joinN, h, h1, if_neg h2, hM, if_pos h3, if_neg h4]; rfl
theorem joinN_ok {r : Repo} {s : ByteArray} {a b : Nat} {M : List Row × List Int × Int} (h : ab r.1 a b = false) (h1 : ab r.1 b a = false) (h2 : r.1.length ≠ 14) (hM : mergeP (baseN r.1 a b) (rowsN r.1 a) (rowsN r.1 b) = M) (h3 : M.2.2 = 0) (h4 : M.2.1.length = 0) : joinN r s a b = (grown r (hdN r.2 s) M.1 [min (a : Int) b, max (a : Int) b], [], 0) := by rw [joinN, h, h1, if_neg h2, hM, if_pos h3, if_pos h4]; rfl
theorem twoSl {w : World} {g : Nat} {x y : Int} (h : w.heap[g]? = some (two x y)) (hx : i64ok x) (hy : i64ok y) : Sl tInt w (fun k => k = g) (.slice (some ⟨g, 0, none⟩) 2 2) [x, y] := by
  refine ⟨_, 2, 2, rfl, rfl, Nat.le_refl _, by decide, (fun h => by cases h), fun i a hi => ⟨g, 0, rfl, rfl, [.int .i64 a], ⟨rfl, ?_⟩, fun j u hj => ?_⟩⟩
  · rcases i with _ | _ | i
    · obtain rfl := Option.some.inj hi; exact hx
    · obtain rfl := Option.some.inj hi; exact hy
    · cases hi
  · rcases j with _ | j
    · obtain rfl := Option.some.inj hj
      refine ⟨?_, frozen_of_row w g _ _ _ h⟩
      rw [World.cell?, h]
      rcases i with _ | _ | i
      · obtain rfl := Option.some.inj hi; rfl
      · obtain rfl := Option.some.inj hi; rfl
      · cases hi
    · cases hj
def baseTo (l : List Commit) (L : List Int) (j : Nat) : List Row := match (L.take j).getLast? with
  | some k => rowsN l k.toNat
  | none => []
theorem baseTo_all (l : List Commit) (a b : Nat) : baseTo l (basesL l a b) (basesL l a b).length = baseN l a b := by rw [baseTo, List.take_length]; rfl
theorem baseTo_next {l : List Commit} {L : List Int} {j : Nat} {k : Int} (h : L[j]? = some k) : baseTo l L (j + 1) = rowsN l k.toNat := by
  rw [baseTo, List.take_add_one, h]; simp
theorem bases_in {l : List Commit} {a b : Nat} {j : Nat} {k : Int} (h : (basesL l a b)[j]? = some k) : ∃ n : Nat, k = (n : Int) ∧ n < l.length := by
  have := List.mem_of_getElem? h
  rw [basesL, List.mem_map] at this
  obtain ⟨n, hn, rfl⟩ := this
  exact ⟨n, rfl, List.mem_range.1 (List.mem_filter.1 hn).1⟩
set_option maxHeartbeats 1000000 in
theorem workMerge (v : Value) (r : Repo) (s f : ByteArray) (S : Blk) (w : World) (h : Rp w S v r) :
    Calls Tryz.prog 106 #[v, .string s, .string f] w (Ret w (JoinRet w.heap.size (jJoin r s f))) := by
  have hR := h
  obtain ⟨cs, hs⟩ := r
  obtain ⟨vc, vh, rfl, hc, hh⟩ := h
  obtain ⟨ac, cc, rfl, _, _, _⟩ := hc.shape
  obtain ⟨ah, ch, rfl, _, _, _⟩ := hh.shape
  simp only at hc hh
  have hX := boxAt w (.slice ac cs.length cc) (.slice ah hs.length ch)
  obtain ⟨wB, hwB⟩ : ∃ wB, wB = (w.alloc (.cells #[.slice ac cs.length cc, .slice ah hs.length ch] 33)).alloc (.cells #[.slice none 0 0, .slice none 0 0] 33) := ⟨_, rfl⟩
  rw [← hwB] at hX
  have HWB := keepBack hwB
  clear hwB
  have zB := hX.size
  obtain ⟨wN, hwN⟩ : ∃ wN, wN = wB.alloc (.cells #[.string s, .string f] 9) := ⟨_, rfl⟩
  have bN : Below wB.heap.size wB wN := by rw [hwN]; exact (Below.refl _ _).alloc (Nat.le_refl _) _
  have zN : wN.heap.size = w.heap.size + 3 := by rw [hwN]; simp; omega
  have hnm : Sl tStr wN (fun k => wB.heap.size ≤ k) (.slice (some ⟨wB.heap.size, 0, none⟩) 2 2) [s, f] := by rw [hwN]; exact twoStr wB s f
  rw [show wB.heap.size = w.heap.size + 1 + 1 by omega] at hnm
  have HWN := keepBack hwN
  clear hwN
  have hRN := (hR.call hX.low).call (bN.mono (Nat.le_refl _))
  by_cases he : openE (cs, hs) [s, f] = 0
  · obtain ⟨hes, hef⟩ := open_two_ok he
    obtain ⟨he0, a, ha, hPa, x, hx, hxs, hxn⟩ := head_there hes
    obtain ⟨_, b, hb, hPb, _⟩ := head_there hef
    have HJ := keepBack (jJoin_at hPa hPb)
    have hrk := (repo_ok he0).2.2.2
    have hs4 := (repo_ok he0).2.1
    have hdag := dag_ok (repo_ok he0).1
    have hc14 := hdag.1
    simp only at hrk hs4 hc14 ha hb hx hdag
    have hhb : hdHas hs s = true := by unfold hdHas; rw [hx]; simpa using hxs
    have HXX := keepBack hx
    clear hx hes hef
    go_enter Tryz.func106, Tryz.ntmps106
    go_wp2_with fail
    rw [← HWB.out, ← HWN.out]
    refine (open2Ok _ _ (cs, hs) s f a b _ _ wN hRN hnm hPa hPb).mono ?_; rintro e w1 ⟨_, rfl, ⟨db, vc1, vh1, q, rfl, hD, hq⟩, b1⟩
    have bB1 := bN.trans (b1.mono (by omega))
    obtain ⟨aq, cq, rfl, _, _, _⟩ := hq.shape
    simp only [List.length_cons, List.length_nil, Nat.zero_add, Nat.reduceAdd] at hq
    obtain ⟨bq, oq, hixq, _, hbq, _, hcq⟩ := hq.idxInt aInt 0 0 rfl (by simp)
    obtain ⟨bp, op, hixp, _, hbp, _, hcp⟩ := hq.idxInt aInt 1 1 rfl (by simp)
    go_wp2_with fail
    go_quiet (fail)
    have b12 : Below w1.heap.size w1 (w1.drewN nq) := ((Drawn.refl w1).next nq).below
    have hDq := hD.call b12
    have bB2 := bB1.trans (b12.mono bB1.size)
    clear hcq hcp hixq hixp hq hD
    have z12 : (w1.drewN nq).heap.size = w1.heap.size := rfl
    generalize w1.drewN nq = w2 at *
    obtain ⟨y0, y1, y2, y3, yf⟩ := hX.on bB2
    have hc2 := hc.call (hX.low.trans (bB2.mono (by omega)))
    cases h1 : ab cs a b with
    | true =>
      have HP := keepBack (HJ.out.trans (joinN_same (by exact h1)))
      go_wp2_with fail
      refine (dagOver_of hdag b a hb ha _ S w2 hc2 h1).mono ?_; rintro e w3 ⟨rfl, d3⟩
      have bB3 := bB2.trans (d3.below.mono bB2.size)
      clear y0 y1 y2 y3 yf
      obtain ⟨y0, y1, y2, y3, yf⟩ := hX.on bB3
      go_wp2_with fail
      exact bodyPost_ret (joinResults rfl _ _ _ _ _ _ _ _ rfl rfl rfl (hX.fin bB3 _ _).1) rfl ⟨_, rfl, JoinRet.no HP.out, (hX.fin bB3 _ _).2⟩
    | false =>
      have HON := keepBack fun h2 => HJ.out.trans (joinN_on (r := (cs, hs)) (s := s) (by exact h1) h2)
      have HMANY := keepBack fun h2 h3 => HJ.out.trans (joinN_many (r := (cs, hs)) (s := s) (by exact h1) h2 h3)
      go_wp2_with fail
      refine (dagOver_of hdag b a hb ha _ S w2 hc2 h1).mono ?_; rintro e w3 ⟨rfl, d3⟩
      have bB3 := bB2.trans (d3.below.mono bB2.size)
      have hc3 := hc2.call d3.below
      have hD3 := hDq.call d3.below
      have z3 := d3.below.size
      clear y0 y1 y2 y3 yf
      obtain ⟨y0, y1, y2, y3, yf⟩ := hX.on bB3
      have H1 := keepBack h1
      clear h1
      cases h2 : ab cs b a with
      | true =>
        have HP := keepBack (HON.out h2)
        go_wp2_with fail
        refine (dagOver_of hdag a b ha hb _ S w3 hc3 h2).mono ?_; rintro e w4 ⟨rfl, d4⟩
        have bB4 := bB3.trans (d4.below.mono bB3.size)
        have hD4 := hD3.call d4.below
        have z4 := d4.below.size
        obtain ⟨gh, ch2, cur, xs, rfl, hgN, hgs, _, _, _, _, _, _⟩ := hD4.heads.cells (l := hs) (by have := (List.getElem?_eq_some_iff.1 HXX.out).1; omega)
        obtain ⟨av, cv, rfl, _, _⟩ := hD4.coms.shape
        have hap := hD4.apart
        have hgd : gh ≠ db := fun e => hap.2.1 (by rw [e]; rfl)
        have T := (deskHead wN.heap.size db _ _ (cs, hs) s w4 hD4 hrk (by show hs.length ≤ 1000; omega) hhb)
        have HMV : Hid (moved hs (hdN hs s) b = hs.set (hdN hs s) (x.1, (b : Int))) := keepBack (moved_is HXX.out b)
        have HXY : Hid (hs[hdN hs s]? = some x) := keepBack HXX.out
        clear y0 y1 y2 y3 yf
        obtain ⟨y0, y1, y2, y3, yf⟩ := hX.on bB4
        go_wp2_with fail
        try simp only at T
        try simp only at HP
        generalize hdN hs s = kk at T HP HMV HXY
        refine T.mono ?_; rintro e w5 ⟨_, rfl, ⟨g', n', c', hv, rfl⟩, b5⟩
        simp only [Value.slice.injEq, Option.some.injEq, Addr.mk.injEq, and_true] at hv
        obtain ⟨rfl, rfl, rfl⟩ := hv
        clear T
        have bB5 := bB4.trans (b5.mono bB4.size)
        have hD5 := hD4.call b5
        have hF := hD5.setH HXY.out (m := (b : Int)) (by unfold i64ok; omega)
        obtain ⟨g', cap, csx, hv, _, _, _, _, ⟨rfl, _⟩, hcell, hfz, _⟩ := hD5.heads.setPart HXY.out
        simp only [Value.slice.injEq, Option.some.injEq, Addr.mk.injEq, and_true] at hv
        have c51 : w5.cell? ⟨gh, kk * 2 + 1, none⟩ = some (.int .i64 x.2) := by rw [hv.1]; exact hcell 1 _ rfl
        have f51 : w5.frozen? ⟨gh, kk * 2 + 1, none⟩ = false := by rw [hv.1]; exact hfz _
        have e50 := hF.cell0
        have e51 := hF.cell1
        have bB6 : Below wB.heap.size wB (w5.setCell ⟨gh, kk * 2 + 1, none⟩ (.int .i64 b)) := bB5.setCell (by simp; omega) _
        clear y0 y1 y2 y3 yf hcell hfz hv
        obtain ⟨y0, y1, y2, y3, yf⟩ := hX.on bB6
        have hR6 : Rp (w5.setCell ⟨gh, kk * 2 + 1, none⟩ (.int .i64 b)) (fun k => wB.heap.size ≤ k) (.agg #[.slice av cs.length cv, .slice (some ⟨gh, 0, none⟩) hs.length ch2]) (cs, moved hs kk b) := by
          obtain ⟨_, _, e1, e2, e3⟩ := hF.own.rp
          rw [HMV.out]
          exact ⟨_, _, e1, e2.mono fun k hk _ => by omega, e3.mono fun k hk _ => by omega⟩
        go_wp2_with fail
        exact bodyPost_ret (joinResults rfl _ _ _ _ _ _ _ _ rfl rfl rfl (hX.fin bB6 _ _).1) rfl ⟨_, rfl, ⟨_, _, by rw [HP.out]; rfl, by rw [HP.out]; exact hX.rp hR6, by rw [HP.out]; exact Sl.nil _ _ _⟩, (hX.fin bB6 _ _).2⟩
      | false =>
        go_wp2_with fail
        refine (dagOver_of hdag a b ha hb _ S w3 hc3 h2).mono ?_; rintro e w4 ⟨rfl, d4⟩
        have bB4 := bB3.trans (d4.below.mono bB3.size)
        have hD4 := hD3.call d4.below
        have hc4 := hc3.call d4.below
        have z4 := d4.below.size
        clear y0 y1 y2 y3 yf
        obtain ⟨y0, y1, y2, y3, yf⟩ := hX.on bB4
        by_cases h14 : cs.length = 14
        · have HP := keepBack (HMANY.out h2 (by exact h14))
          have h14i : ((cs.length : Nat) : Int) = 14 := by omega
          clear h14 h2
          go_wp2_with fail
          exact bodyPost_ret (joinResults rfl _ _ _ _ _ _ _ _ rfl rfl rfl (hX.fin bB4 _ _).1) rfl ⟨_, rfl, JoinRet.no HP.out, (hX.fin bB4 _ _).2⟩
        · have h14i : ((cs.length : Nat) : Int) ≠ 14 := by omega
          have HM1 := keepBack fun M => joinN_bad (r := (cs, hs)) (s := s) (a := a) (b := b) (M := M) (by exact H1.out) (by exact h2) (by exact h14)
          have HM2 := keepBack fun M => joinN_clash (r := (cs, hs)) (s := s) (a := a) (b := b) (M := M) (by exact H1.out) (by exact h2) (by exact h14)
          have HM3 := keepBack fun M => joinN_ok (r := (cs, hs)) (s := s) (a := a) (b := b) (M := M) (by exact H1.out) (by exact h2) (by exact h14)
          clear h2
          go_wp2_with fail
          refine (dagBest hdag a b ha hb _ S w4 hc4).mono ?_; rintro e w5 ⟨_, rfl, hL, b5⟩
          have bB5 := bB4.trans (b5.mono bB4.size)
          have hD5 := hD4.call b5
          have hc5 := hc4.call b5
          obtain ⟨aL, cL, rfl, _, _, _⟩ := hL.shape
          go_wp2_with fail
          obtain ⟨L, hLL⟩ : ∃ L, L = basesL cs a b := ⟨_, rfl⟩
          rw [← hLL] at hL ⊢
          have HL := keepBack hLL
          have hLl : L.length ≤ 14 := by rw [hLL]; exact Nat.le_trans (basesTo_length cs a b cs.length) hc14
          clear hLL
          clear y0 y1 y2 y3 yf
          obtain ⟨y0, y1, y2, y3, yf⟩ := hX.on bB5
          go_loop [14, 73] (fun ub ui => ∃ (k : Nat) (bo : Option Addr) (bn bc : Nat), k ≤ L.length ∧ ui = .int .i64 k ∧ ub = .slice bo bn bc ∧ Sl tRow w5 (fun _ => True) ub (baseTo cs L k)) (fun _ ui => L.length - (intOf ui).toNat)
          case atStart => exact ⟨0, _, _, _, Nat.zero_le _, rfl, rfl, Sl.nil _ _ _⟩
          case round =>
            obtain ⟨k, bo, bn, bc, hk, rfl, rfl, hbase⟩ := hrel
            by_cases hlt : k < L.length
            · obtain ⟨bl, ol, hixl, _, hbl, _, hcl⟩ := hL.idxInt aInt k k rfl hlt
              have hLk : L[k]? = some L[k] := List.getElem?_eq_getElem hlt
              obtain ⟨m, hm, hml⟩ := bases_in (l := cs) (a := a) (b := b) (j := k) (k := L[k]) (by rw [← HL.out]; exact hLk)
              rw [hm] at hcl
              have hnx := baseTo_next (l := cs) hLk
              rw [hm, Int.toNat_natCast] at hnx
              obtain ⟨rs, ps, hcm⟩ : ∃ rs ps, cs[m] = (rs, ps) := ⟨_, _, rfl⟩
              rw [rowsN_is (c := (rs, ps)) (by rw [List.getElem?_eq_getElem hml, hcm])] at hnx
              obtain ⟨bc2, oc2, cr2, cp2, dr2, dp2, hixc, _, hbc2, hrr, hpp, _, _, _, _, hc0, hc1⟩ := hc5.idxCommitAt aCom m m rfl hml rs ps hcm
              have HNX := keepBack hnx
              have hmI : (m : Int) < cs.length := by omega
              clear hnx hLk hm hcm
              go_wp2_with fail
              go_round
              case rel => exact ⟨k + 1, _, _, _, by omega, by go_num, rfl, by rw [HNX.out]; exact hrr.any⟩
              case measure => simp [intOf]; omega
            · obtain rfl : k = L.length := by omega
              rw [HL.out, baseTo_all] at hbase
              obtain ⟨ra, pa, hra⟩ : ∃ rs ps, cs[a] = (rs, ps) := ⟨_, _, rfl⟩
              obtain ⟨rb, pb, hrb⟩ : ∃ rs ps, cs[b] = (rs, ps) := ⟨_, _, rfl⟩
              have hrna : rowsN cs a = ra := rowsN_is (c := (ra, pa)) (by rw [List.getElem?_eq_getElem ha, hra])
              have hrnb : rowsN cs b = rb := rowsN_is (c := (rb, pb)) (by rw [List.getElem?_eq_getElem hb, hrb])
              obtain ⟨M, hM⟩ : ∃ M, mergeP (baseN cs a b) ra rb = M := ⟨_, rfl⟩
              have HE1 := keepBack (HM1.out M (by rw [hrna, hrnb]; exact hM))
              have HE2 := keepBack (HM2.out M (by rw [hrna, hrnb]; exact hM))
              have HE3 := keepBack (HM3.out M (by rw [hrna, hrnb]; exact hM))
              obtain ⟨b1', o1', a1', c1', _, _, hixa, _, hbA, hra', _, _, _, _, _, hca, _⟩ := hc5.idxCommitAt aCom a a rfl ha ra pa hra
              obtain ⟨b2', o2', a2', c2', _, _, hixb, _, hbB, hrb', _, _, _, _, _, hcb, _⟩ := hc5.idxCommitAt aCom b b rfl hb rb pb hrb
              have T := threeMerge _ _ _ (baseN cs a b) ra rb (fun _ => True) w5.drew (hbase.keep fun _ _ _ => rfl) (hra'.any.keep fun _ _ _ => rfl) (hrb'.any.keep fun _ _ _ => rfl)
              rw [hM] at T
              clear hM hra hrb hrna hrnb HM1 HM2 HM3
              have haI : (a : Int) < cs.length := by omega
              have hbI : (b : Int) < cs.length := by omega
              go_wp2_with fail
              have KS : ∀ W, Below w5.heap.size w5 W → Below w5.heap.size w5 W ∧ W.cell? ⟨w.heap.size, 0, none⟩ = some (.slice ac cs.length cc) ∧ W.cell? ⟨b1', o1', none⟩ = some (.slice a1' ra.length c1') ∧ W.cell? ⟨b2', o2', none⟩ = some (.slice a2' rb.length c2') := fun W hW =>
                ⟨hW, (hX.on (bB5.trans (hW.mono bB5.size))).1, (hW.cell (p := ⟨b1', o1', none⟩) hbA).trans hca, (hW.cell (p := ⟨b2', o2', none⟩) hbB).trans hcb⟩
              clear y0 y1 y2 y3 yf hca hcb
              go_region_held3 (fun W => Below w5.heap.size w5 W ∧ W.cell? ⟨w.heap.size, 0, none⟩ = some (.slice ac cs.length cc) ∧ W.cell? ⟨b1', o1', none⟩ = some (.slice a1' ra.length c1') ∧ W.cell? ⟨b2', o2', none⟩ = some (.slice a2' rb.length c2'))
                (first
                  | exact KS _ (Below.refl _ _).drew
                  | exact KS _ (Below.refl _ _)
                  | exact KS _ (by assumption)
                  | fail)
                (first
                  | (go_at_call 142; refine T.mono ?_; rintro e w6 ⟨_, rfl, ⟨x6, y6, rfl, hx6, hy6⟩, b6⟩; have b56 : Below w5.heap.size w5 w6 := ((Below.refl w5.heap.size w5).drew).trans b6)
                  | fail)
              have bB6 := bB5.trans (b56.mono bB5.size)
              clear KS T
              obtain ⟨y0, y1, y2, y3, yf⟩ := hX.on bB6
              obtain ⟨ax, cx, rfl, _, _, _⟩ := hx6.shape
              obtain ⟨ay, cy, rfl, _, _, _⟩ := hy6.shape
              by_cases h3 : M.2.2 = 0
              · rw [h3]
                by_cases h4 : M.2.1.length = 0
                · have HP := keepBack (HJ.out.trans (HE3.out h3 h4))
                  have H4 : ¬ (0 : Int) < ((M.2.1.length : Nat) : Int) := by omega
                  clear h3 h4 HE1 HE2 HE3
                  go_wp2_with fail
                  have b67 := (Below.refl w6.heap.size w6).alloc (Nat.le_refl _) (.cells #[.int .i64 a, .int .i64 b] 3)
                  have b57 := b56.trans (b67.mono b56.size)
                  have z6 := b56.size
                  have zN5 := b1.size
                  have z25 := b5.size
                  have hrow7 : Sl tRow (w6.alloc (.cells #[.int .i64 a, .int .i64 b] 3)) (fun k => w5.heap.size ≤ k ∧ k ≠ w6.heap.size) (.slice ax M.1.length cx) M.1 := (hx6.mono fun k hk hlt => ⟨by simp at hk; omega, by omega⟩).call b67
                  have hG := deskGrow wN.heap.size db w6.heap.size 2 vc1 vh1 _ (cs, hs) s M.1 [min (a : Int) b, max (a : Int) b] w5 (w6.alloc (.cells #[.int .i64 a, .int .i64 b] 3)) hD5 (Step.of_below b57 |>.mono fun k hk h => h) (by omega) z6
                    ((sortTwo _ a b _ (heap_alloc_new w6 _)).mono fun e w' ⟨h1, h2, h3⟩ => ⟨h1, h3, twoSl h2 (by unfold i64ok; omega) (by unfold i64ok; omega)⟩) hrow7 hrk (by show cs.length ≤ 1000; omega) (by show hs.length ≤ 1000; omega) hhb
                  refine hG.mono ?_; rintro e w8 ⟨rfl, ⟨vc8, hD8⟩, b8⟩
                  clear hG
                  have bB8 : Below wB.heap.size wB w8 := (bB6.trans (b67.mono bB6.size)).trans (b8.mono (by omega))
                  clear y0 y1 y2 y3 yf
                  obtain ⟨y0, y1, y2, y3, yf⟩ := hX.on bB8
                  have hR8 : Rp w8 (fun k => wB.heap.size ≤ k) (.agg #[vc8, vh1]) (grown (cs, hs) (hdN hs s) M.1 [min (a : Int) b, max (a : Int) b]) := by
                    obtain ⟨_, _, e1, e2, e3⟩ := hD8.own.rp
                    exact ⟨_, _, e1, e2.mono fun k hk _ => by omega, e3.mono fun k hk _ => by omega⟩
                  obtain ⟨a5, c5, hv5, _, _⟩ := hD8.coms.shape
                  obtain ⟨a6, c6, hv6, _, _⟩ := hD8.heads.shape
                  generalize (grown (cs, hs) (hdN (cs, hs).2 s) M.1 [min (a : Int) b, max (a : Int) b]).1.length = m5 at hv5
                  generalize (grown (cs, hs) (hdN (cs, hs).2 s) M.1 [min (a : Int) b, max (a : Int) b]).2.length = m6 at hv6
                  subst hv5 hv6
                  have d0 := hD8.cell0
                  have d1 := hD8.cell1
                  go_wp2_with fail
                  exact bodyPost_ret (joinResults rfl _ _ _ _ _ _ _ _ rfl rfl rfl (hX.fin bB8 _ _).1) rfl ⟨_, rfl, ⟨_, _, by rw [HP.out]; rfl, by rw [HP.out]; exact hX.rp hR8, by rw [HP.out]; exact Sl.nil _ _ _⟩, (hX.fin bB8 _ _).2⟩
                · have HP := keepBack (HJ.out.trans (HE2.out h3 h4))
                  have H4 : (0 : Int) < ((M.2.1.length : Nat) : Int) := by omega
                  have hy6' : Sl tInt ((w6.setCell ⟨w.heap.size + 1, 0, none⟩ (.slice none 0 0)).setCell ⟨w.heap.size + 1, 1, none⟩ (.slice none 0 0)) (fun k => w.heap.size ≤ k) (.slice ay M.2.1.length cy) M.2.1 := ((hy6.mono fun k hk _ => (by have := bB5.size; simp at hk; omega : wB.heap.size ≤ k)).keep fun k hk _ => (heap_setCell_other _ _ _ _ (by simp; omega)).trans (heap_setCell_other _ _ _ _ (by simp; omega))).mono fun k hk _ => by omega
                  clear h3 h4 HE1 HE2 HE3
                  go_wp2_with fail
                  exact bodyPost_ret (joinResults rfl _ _ _ _ _ _ _ _ rfl rfl rfl (hX.fin bB6 _ _).1) rfl ⟨_, rfl, ⟨_, _, by rw [HP.out]; rfl, by rw [HP.out]; exact noRepo_rp _ _, by rw [HP.out]; exact hy6'⟩, (hX.fin bB6 _ _).2⟩
              · have HP := keepBack (HJ.out.trans (HE1.out h3))
                have hq3 : (M.2.2 != 0) = true := by simp [h3]
                clear h3 HE1 HE2 HE3
                go_wp2_with fail
                exact bodyPost_ret (joinResults rfl _ _ _ _ _ _ _ _ rfl rfl rfl (hX.fin bB6 _ _).1) rfl ⟨_, rfl, JoinRet.no HP.out, (hX.fin bB6 _ _).2⟩
  · have HP := keepBack (join_bad he)
    obtain ⟨e0, hE⟩ : ∃ e0, openE (cs, hs) [s, f] = e0 := ⟨_, rfl⟩
    rw [hE] at he HP
    have hq : (e0 != 0) = true := by simp [he]
    go_enter Tryz.func106, Tryz.ntmps106
    go_wp2_with fail
    rw [← HWB.out, ← HWN.out]
    refine (open2Bad _ _ (cs, hs) s f e0 _ _ wN hRN hnm hE).mono ?_; rintro e w1 ⟨_, rfl, ⟨p, q, rfl⟩, b1⟩
    have bB1 := bN.trans (b1.mono (by omega))
    obtain ⟨y0, y1, y2, y3, yf⟩ := hX.on bB1
    go_wp2_with fail
    exact bodyPost_ret (joinResults rfl _ _ _ _ _ _ _ _ rfl rfl rfl (hX.fin bB1 _ _).1) rfl ⟨_, rfl, JoinRet.no HP.out, (hX.fin bB1 _ _).2⟩
end Go.Pch
end

section
namespace Go.Pch
open Go.RowKit Go.Proofs
set_option maxRecDepth 100000
theorem run_byte (t : TypeId) (s : ByteArray) (k : Nat) (hk : k < s.size) (ht : Tryz.prog.underlying t = some .string) (W : World) : Sem.run Tryz.prog (Instr.index t (.string s) (.int .i64 k)) W = .ok (.int .u8 (s[k]'hk).toNat) W := by
  have := run_index_string (P := Tryz.prog) W t s .i64 k ht
  rw [this, dif_pos ⟨by omega, by omega⟩]
  rfl
set_option maxHeartbeats 1000000 in
theorem refIsName (s : ByteArray) (w : World) (hz : s.size ≤ maxLen) : Calls Tryz.prog 80 #[.string s] w (Quiet w (.bool (nameB s))) := by
  unfold maxLen at hz
  go_enter Tryz.func80, Tryz.ntmps80
  go_wp2
  go_loopw [3] (fun i wr => ∃ (k : Nat), k ≤ s.size ∧ i = .int .i64 k ∧ Drawn w wr ∧ Hid ((s.toList.take k).all letB = true)) (fun i _ => s.size - (intOf i).toNat)
  case atStart => exact ⟨0, Nat.zero_le _, rfl, .refl _, keepBack (by simp)⟩
  case round =>
    obtain ⟨k, hk, rfl, hd, HL⟩ := hrel
    by_cases hlt : k < s.size
    · have hix := run_byte 9 s k hlt Tryz.underlying9
      have hk0 : (0 : Int) ≤ k := by omega
      have hk1 : (k : Int) < s.size := by omega
      cases hb : letB (s[k]'hlt) with
      | true =>
        have HN := keepBack (letters_next hlt HL.out hb)
        have hb' := hb
        simp [letB] at hb'
        generalize (s[k]'hlt).toNat = R at *
        clear hb
        have d1 : decide ((R : Int) < 97) = false := by simp; omega
        have d2 : decide ((122 : Int) < R) = false := by simp; omega
        go_wp2_with fail
        go_roundw
        case rel => exact ⟨k + 1, by omega, by go_num, hd, HN⟩
        case measure => simp [intOf]; omega
      | false =>
        have HN := keepBack (show nameB s = false by rw [nameB, letters_not hlt hb, Bool.and_false])
        have hb' := hb
        simp [letB] at hb'
        generalize (s[k]'hlt).toNat = R at *
        clear hb
        by_cases q : R < 97
        · have d1 : decide ((R : Int) < 97) = true := by simp; omega
          go_wp2_with fail
          go_ret
          exact ⟨by rw [HN.out]; rfl, hd⟩
        · have d1 : decide ((R : Int) < 97) = false := by simp; omega
          have d2 : decide ((122 : Int) < R) = true := by simp; omega
          go_wp2_with fail
          go_ret
          exact ⟨by rw [HN.out]; rfl, hd⟩
    · have HN := keepBack (show (decide ((1 : Int) ≤ s.size) && decide ((s.size : Int) ≤ 8)) = nameB s by
        rw [nameB, letters_all hlt HL.out, Bool.and_true]
        congr 1
        · exact decide_eq_decide.2 (by omega)
        · exact decide_eq_decide.2 (by omega))
      go_wp2_with fail
      refine (refWithin_of _ _ _ _ HN.out).mono ?_; rintro e w1 ⟨rfl, rfl⟩
      go_wp2
      go_ret
      exact ⟨rfl, hd⟩
theorem refIsName_of {c : Bool} (s : ByteArray) (w : World) (hz : s.size ≤ maxLen) (h : nameB s = c) : Calls Tryz.prog 80 #[.string s] w (Quiet w (.bool c)) := h ▸ refIsName s w hz
theorem refCommitsError_of {c : Int} (v : Value) (l : List Commit) (S : Blk) (w : World) (h : Sl tCommit w S v l) (hc : commitsErr l = c) :
    Calls Tryz.prog 150 #[v] w (Quiet w (.int .i64 c)) := hc ▸ refCommitsError v l S w h
theorem name_ne {s : ByteArray} (h : nameB s = true) : s.toList ≠ [] := by
  intro e
  rw [ByteArray.toList_eq] at e
  have h0 : s.data.size = 0 := by rw [← Array.length_toList, e]; rfl
  have h1 : s.size = s.data.size := rfl
  simp only [nameB, Bool.and_eq_true, decide_eq_true_eq] at h
  omega
theorem next_of {hs : List Head} {j : Nat} {x : Head} (hx : hs[j]? = some x) : ∀ i, i + 1 = j + 1 → (hs[i]?.map fun h => h.1.toList) = some x.1.toList := fun i hi => by
  have e : i = j := by omega
  rw [e, hx]; rfl
set_option maxHeartbeats 4000000 in
theorem refRepoError (v : Value) (r : Repo) (S : Blk) (w : World) (h : Rp w S v r) : Calls Tryz.prog 116 #[v] w (Ret w fun x _ => x = .int .i64 (repoErr r)) := by
  obtain ⟨cs, hs⟩ := r
  obtain ⟨vc, vh, rfl, hc, hh⟩ := h
  obtain ⟨ac, cc, rfl, _, _, _⟩ := hc.shape
  obtain ⟨ah, ch, rfl, _, _, _⟩ := hh.shape
  simp only at hc hh
  obtain ⟨wA, hwA⟩ : ∃ wA, wA = w.alloc (.cells #[.slice ac cs.length cc, .slice ah hs.length ch] 33) := ⟨_, rfl⟩
  have bA : Below w.heap.size w wA := by rw [hwA]; exact (Below.refl _ _).alloc (Nat.le_refl _) _
  have sA : wA.heap.size = w.heap.size + 1 := by rw [hwA]; simp
  have k0 : wA.cell? ⟨w.heap.size, 0, none⟩ = some (.slice ac cs.length cc) := by rw [hwA]; simp
  have k1 : wA.cell? ⟨w.heap.size, 1, none⟩ = some (.slice ah hs.length ch) := by rw [hwA]; simp
  have HWA := keepBack hwA
  clear hwA
  by_cases hd : commitsErr cs = 0
  · by_cases hm : 4 < hs.length
    · have HP := keepBack (repoErr_many (r := (cs, hs)) hd hm)
      have hq : (4 : Int) < hs.length := by omega
      go_enter Tryz.func116, Tryz.ntmps116
      go_wp2_with fail
      rw [← HWA.out]
      refine (refCommitsError_of _ cs _ wA (hc.call bA) hd).mono ?_; rintro e w1 ⟨rfl, d1⟩
      have b1 := d1.below
      have r0 := (b1.cell (p := ⟨w.heap.size, 0, none⟩) (by simp; omega)).trans k0
      have r1 := (b1.cell (p := ⟨w.heap.size, 1, none⟩) (by simp; omega)).trans k1
      go_wp2_with fail
      go_ret
      exact ⟨_, rfl, by rw [HP.out]; rfl, bA.trans (b1.mono (by omega))⟩
    · have hq : ¬ (4 : Int) < hs.length := by omega
      have hl14 := (dag_ok hd).1
      have HPN := keepBack (fun h => repoErr_name (r := (cs, hs)) hd hm h)
      have HPK := keepBack (fun c h1 h2 => @repoErr_form (cs, hs) hd hm h1 c h2)
      go_enter Tryz.func116, Tryz.ntmps116
      go_wp2_with fail
      rw [← HWA.out]
      refine (refCommitsError_of _ cs _ wA (hc.call bA) hd).mono ?_; rintro e w1 ⟨rfl, d1⟩
      have b1 := d1.below
      have s1 := b1.size
      have r0 := (b1.cell (p := ⟨w.heap.size, 0, none⟩) (by simp; omega)).trans k0
      have r1 := (b1.cell (p := ⟨w.heap.size, 1, none⟩) (by simp; omega)).trans k1
      have b01 := bA.trans (b1.mono (by omega))
      have hh1 := ((hh.call bA).call b1).old
      clear k0 k1
      go_wp2_with fail
      go_loopw [4] (fun i wr => ∃ (k : Nat), k ≤ hs.length ∧ i = .int .i64 k ∧ Drawn w1 wr ∧ Hid (((hs.take k).any fun h => !nameB h.1) = false)) (fun i _ => hs.length - (intOf i).toNat)
      case atStart => exact ⟨0, Nat.zero_le _, rfl, .refl _, keepBack rfl⟩
      case round =>
        obtain ⟨k, hk, rfl, hdr, HA⟩ := hrel
        have hb := hdr.below
        have hs' := hb.size
        have z0 := (hb.cell (p := ⟨w.heap.size, 0, none⟩) (by simp; omega)).trans r0
        have z1 := (hb.cell (p := ⟨w.heap.size, 1, none⟩) (by simp; omega)).trans r1
        by_cases hlt : k < hs.length
        · obtain ⟨x, hx⟩ : ∃ x, hs[k]? = some x := ⟨hs[k], List.getElem?_eq_getElem hlt⟩
          obtain ⟨b, o, hix, _, hbs, ok1, ok2, hc00, hc10⟩ := hh1.idxHeadAt aHead k k x rfl hx
          have hc0 := (hb.cell (p := ⟨b, o, none⟩) hbs).trans hc00
          have hc1 := (hb.cell (p := ⟨b, o + 1, none⟩) hbs).trans hc10
          clear hc00 hc10
          have HX := keepBack hx
          clear hx
          cases hn : nameB x.1 with
          | true =>
            have HA2 : Hid (((hs.take (k + 1)).any fun h => !nameB h.1) = false) := keepBack (by rw [List.take_add_one, HX.out, List.any_append, HA.out]; simp [hn])
            go_wp2_with fail
            refine (refIsName_of x.1 wr ok2 hn).mono ?_; rintro e w2 ⟨rfl, d2⟩
            go_wp2_with fail
            go_roundw
            case rel => exact ⟨k + 1, by omega, by go_num, hdr.trans d2, HA2⟩
            case measure => simp [intOf]; omega
          | false =>
            have HR : Hid ((hs.any fun h => !nameB h.1) = true) := keepBack (by rw [List.any_eq_true]; exact ⟨x, List.mem_of_getElem? HX.out, by simp [hn]⟩)
            go_wp2_with fail
            refine (refIsName_of x.1 wr ok2 hn).mono ?_; rintro e w2 ⟨rfl, d2⟩
            go_wp2_with fail
            go_ret
            exact ⟨_, rfl, by rw [HPN.out HR.out]; rfl, b01.trans ((hdr.trans d2).below.mono (by omega))⟩
        · have HR : Hid ((hs.any fun h => !nameB h.1) = false) := keepBack (by have := HA.out; rwa [List.take_of_length_le (by omega)] at this)
          obtain ⟨wo, rfl⟩ : ∃ wo : World, wo = wr := ⟨_, rfl⟩
          go_wp2_with fail
          go_loopw [5] (fun i wr => ∃ (j : Nat) (last : List UInt8), j ≤ hs.length ∧ i = .int .i64 j ∧ Drawn w1 wr ∧ Hid (headsRise cs.length [] hs = headsRise cs.length last (hs.drop j)) ∧ Hid (∀ i, i + 1 = j → (hs[i]?.map fun h => h.1.toList) = some last) ∧ Hid (j = 0 → last = [])) (fun i _ => hs.length - (intOf i).toNat)
          case atStart => exact ⟨0, [], Nat.zero_le _, rfl, hdr, keepBack (by rw [List.drop_zero]), keepBack (by intro i hi; omega), keepBack (fun _ => rfl)⟩
          case round =>
            obtain ⟨j, last, hj, rfl, hdr2, HRI, HLA, HL0⟩ := hrel
            have hb2 := hdr2.below
            have hs2 := hb2.size
            have y0 := (hb2.cell (p := ⟨w.heap.size, 0, none⟩) (by simp; omega)).trans r0
            have y1 := (hb2.cell (p := ⟨w.heap.size, 1, none⟩) (by simp; omega)).trans r1
            by_cases hlt2 : j < hs.length
            · obtain ⟨x, hx⟩ : ∃ x, hs[j]? = some x := ⟨hs[j], List.getElem?_eq_getElem hlt2⟩
              obtain ⟨b, o, hix, _, hbs, ok1, ok2, hc00, hc10⟩ := hh1.idxHeadAt aHead j j x rfl hx
              have hc0 := (hb2.cell (p := ⟨b, o, none⟩) hbs).trans hc00
              have hc1 := (hb2.cell (p := ⟨b, o + 1, none⟩) hbs).trans hc10
              clear hc00 hc10
              have HX := keepBack hx
              clear hx
              have hnx : x.1.toList ≠ [] := name_ne (by
                have := HR.out
                rw [List.any_eq_false] at this
                have hx' := this x (List.mem_of_getElem? HX.out)
                cases hn : nameB x.1 with
                | true => rfl
                | false => rw [hn] at hx'; simp at hx')
              have NXT : Hid (∀ i, i + 1 = j + 1 → (hs[i]?.map fun h => h.1.toList) = some x.1.toList) := keepBack (next_of HX.out)
              rcases Nat.eq_zero_or_pos j with hj0 | hj0
              · have hl0 : Op.bytesLess last x.1.toList = true := by rw [HL0.out hj0]; exact less_nil hnx
                have HL0' := keepBack hl0
                have d0 : decide (0 < j) = false := by simp; omega
                clear hj0 hl0
                cases hw : (decide (0 ≤ x.2) && decide (x.2 ≤ (cs.length : Int) - 1)) with
                | true =>
                  have HG := keepBack (HRI.out.trans (headsRise_go HX.out (by rw [HL0'.out]; simp at hw ⊢; omega)))
                  go_wp2_with fail
                  go_quiet ((go_at_call 75; exact quietEq (refWithin_of _ _ _ _ hw)))
                  go_wp2_with fail
                  go_roundw
                  case rel => exact ⟨j + 1, x.1.toList, by omega, by go_num, hdr2.next _, HG, NXT, keepBack (by intro h; cases h)⟩
                  case measure => simp [intOf]; omega
                | false =>
                  have HE := keepBack (HPK.out false HR.out (HRI.out.trans (headsRise_stop HX.out (by rw [HL0'.out]; simp at hw ⊢; omega))))
                  go_wp2_with fail
                  go_quiet ((go_at_call 75; exact quietEq (refWithin_of _ _ _ _ hw)))
                  go_wp2_with fail
                  go_ret
                  exact ⟨_, rfl, by rw [HE.out]; rfl, b01.trans ((hdr2.next _).below.mono (by omega))⟩
              · have d0 : decide (0 < j) = true := by simp; omega
                obtain ⟨jp, hjp, hjl⟩ : ∃ jp : Nat, (j : Int) - 1 = jp ∧ jp + 1 = j := ⟨j - 1, by omega, by omega⟩
                obtain ⟨p, hp⟩ : ∃ p, hs[jp]? = some p := ⟨hs[jp]'(by omega), List.getElem?_eq_getElem _⟩
                have hpl : p.1.toList = last := by have := HLA.out jp hjl; rw [hp] at this; exact Option.some.inj this
                have HPL := keepBack hpl
                have HJL := keepBack hjl
                obtain ⟨b', o', hix', _, hbs', _, _, hc00', _⟩ := hh1.idxHeadAt aHead jp jp p rfl hp
                have hc0' := (hb2.cell (p := ⟨b', o', none⟩) hbs').trans hc00'
                have hjb : ((jp : Int)) < hs.length := by omega
                clear hc00' hp hpl hjl hj0
                cases hlx : Op.bytesLess p.1.toList x.1.toList with
                | false =>
                  have HE := keepBack (HPK.out false HR.out (HRI.out.trans (headsRise_stop HX.out (by rw [← HPL.out, hlx]; rfl))))
                  go_wp2_with fail
                  go_quiet (fail)
                  go_wp2_with fail
                  go_ret
                  exact ⟨_, rfl, by rw [HE.out]; rfl, b01.trans ((hdr2.next _).below.mono (by omega))⟩
                | true =>
                  cases hw : (decide (0 ≤ x.2) && decide (x.2 ≤ (cs.length : Int) - 1)) with
                  | true =>
                    have HG := keepBack (HRI.out.trans (headsRise_go HX.out (by rw [← HPL.out, hlx]; simp at hw ⊢; omega)))
                    go_wp2_with fail
                    go_quiet ((go_at_call 75; exact quietEq (refWithin_of _ _ _ _ hw)))
                    go_wp2_with fail
                    go_roundw
                    case rel => exact ⟨j + 1, x.1.toList, by omega, by go_num, hdr2.next _, HG, NXT, keepBack (by intro h; cases h)⟩
                    case measure => simp [intOf]; omega
                  | false =>
                    have HE := keepBack (HPK.out false HR.out (HRI.out.trans (headsRise_stop HX.out (by rw [← HPL.out, hlx]; simp at hw ⊢; omega))))
                    go_wp2_with fail
                    go_quiet ((go_at_call 75; exact quietEq (refWithin_of _ _ _ _ hw)))
                    go_wp2_with fail
                    go_ret
                    exact ⟨_, rfl, by rw [HE.out]; rfl, b01.trans ((hdr2.next _).below.mono (by omega))⟩
            · have HE := keepBack (HPK.out true HR.out (HRI.out.trans (headsRise_end hlt2)))
              go_wp2
              go_ret
              exact ⟨_, rfl, by rw [HE.out]; rfl, b01.trans (hb2.mono (by omega))⟩
  · have HP := keepBack (repoErr_dag (r := (cs, hs)) hd)
    have hq : (commitsErr cs != 0) = true := by simp [hd]
    go_enter Tryz.func116, Tryz.ntmps116
    go_wp2_with fail
    rw [← HWA.out]
    refine (refCommitsError _ cs _ wA (hc.call bA)).mono ?_; rintro e w1 ⟨rfl, d1⟩
    go_wp2_with fail
    go_ret
    exact ⟨_, rfl, by rw [HP.out]; rfl, bA.trans (d1.below.mono (by omega))⟩
end Go.Pch
end
