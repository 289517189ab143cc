/- The walks of package desk: put, merge. The document's desk: rows of a head, one change. The document's desk: one change. The document's desk: a line: what all words share. (gen_dmc.py) -/
import Derived.Test.YtjjkdpjjaijmbaaGreatDoorDg38
import Derived.Test.YtjjkdpjjaijmbaaGreatDoorDg11
section
namespace Go.Pch
open Go.RowKit Go.Proofs
set_option maxRecDepth 100000
theorem hdRows_ok {r : Repo} (h : repoErr r = 0) (name : Bytes) : rowsErr (hdRows r name).1 = 0 := by
  rw [hdRows]
  split
  · rename_i hz
    obtain ⟨he, n, hnn, hP, _⟩ := headP_at hz
    have := (dag_ok (repo_ok h).1).2 n r.1[n] (List.getElem?_eq_getElem hnn)
    rw [hP]
    show rowsErr (rowsN r.1 n) = 0
    rw [rowsN, List.getElem?_eq_getElem hnn]
    exact this.1
  · rfl
theorem litChg (w : World) (a b c : Int) (ha : i64ok a) (hb : i64ok b) (hc : i64ok c) : Sl tChange (w.alloc (.cells #[.int .i64 a, .int .i64 b, .int .i64 c] 95)) (fun _ => True) (.slice (some ⟨w.heap.size, 0, none⟩) 1 1) [(a, b, c)] :=
  (Own.lit (E := tChange) (e := 95) (B := 0) (C := fun _ => False) (l := [(a, b, c)]) (Each.one [.int .i64 a, .int .i64 b, .int .i64 c] (a, b, c) ⟨rfl, ha, hb, hc⟩) rfl (by simp [maxLen]) (Nat.zero_le _)).sl (fun _ h => h.elim) (fun _ _ => trivial)
theorem Rp.notT [Zone] {w : World} {N T : Nat} {y : Value} {r : Repo} (h : Rp w (fun k => N ≤ k) y r) (hT : T < N) (hZ : ∀ k, Zone.Z k → k < N) : Rp w (Away T) y r := by
  obtain ⟨a, b, rfl, h1, h2⟩ := h
  have h3 : ∀ k, N ≤ k → Away T k := fun k hk => ⟨by omega, fun hz => by have := hZ k hz; omega⟩
  exact ⟨a, b, rfl, h1.mono fun k hk _ => h3 k hk, h2.mono fun k hk _ => h3 k hk⟩
set_option maxHeartbeats 2000000 in
theorem deskPut [Zone] (T : Nat) (r : Repo) (name : Bytes) (k v : Int) (hk : i64ok k) (hv : i64ok v) (hr : repoErr r = 0) (w : World) (h : DeskTab w T r) :
    Calls Tryz.prog 51 #[.pointer (some ⟨T, 0, none⟩), .string (bl name), .int .i64 k, .int .i64 v] w (Does T w r (okO (chgP r name k v))) := by
  have hT := h.lt
  have hrow := hdRows_ok hr name
  have R := keepBack (deskRows T r name w h)
  by_cases hz : (hdRows r name).2 = 0
  · obtain ⟨L, hL⟩ : ∃ L, hdRows r name = (L, 0) := ⟨_, Prod.ext rfl hz⟩
    have HC : Hid (chgP r name k v = if (keyB k && valB v) = true then (if valueOf L k = v then (noRepo, 9) else jPut r (bl name) [(k, valueOf L k, v)]) else (noRepo, 3)) := keepBack (by rw [chgP, hL]; exact if_pos rfl)
    have R2 := keepBack (by have := R.out; rw [hL] at this; exact this)
    rw [hL] at hrow
    have h40 := (ok_rise hrow).1
    have hrise := (ok_rise hrow).2
    clear R hz hL
    go_enter Tryz.func51, Tryz.ntmps51
    go_wp2_with fail
    refine R2.out.mono ?_; rintro e w1 ⟨b1, hq⟩
    rw [if_pos rfl] at hq
    obtain ⟨vl, rfl, hl⟩ := hq
    obtain ⟨al, cl, hvl, _, _, _⟩ := hl.shape
    subst hvl
    have h1 := h.call b1
    have vb := valueOf_bounds hrise k
    have HOF := keepBack (fun W (hW : Below w1.heap.size w1 W) => rowsOf _ L k _ W (hl.call hW) hrise (by omega))
    generalize hold : valueOf L k = old at *
    have hold' := keepBack hold
    clear hold
    cases hkb : keyB k with
    | false =>
      have HC' : Hid (chgP r name k v = (noRepo, 3)) := keepBack (by rw [HC.out, hkb]; rfl)
      go_wp2_with fail
      refine (rowsKey k w1).mono ?_; rintro e w2 ⟨rfl, rfl⟩
      rw [hkb]
      go_wp2_with fail
      refine (mustNo 3 w1).mono ?_; rintro e w3 ⟨rfl, rfl⟩
      go_wp2
      refine ⟨rfl, ?_⟩
      rw [HC'.out]
      exact Does.no (by decide) (Step.of_below b1) rfl h1
    | true =>
      cases hvb : valB v with
      | false =>
        have HC' : Hid (chgP r name k v = (noRepo, 3)) := keepBack (by rw [HC.out, hkb, hvb]; rfl)
        go_wp2_with fail
        refine (rowsKey k w1).mono ?_; rintro e w2 ⟨rfl, rfl⟩
        rw [hkb]
        go_wp2_with fail
        refine (rowsVal v w1).mono ?_; rintro e w2 ⟨rfl, rfl⟩
        rw [hvb]
        go_wp2_with fail
        refine (mustNo 3 w1).mono ?_; rintro e w3 ⟨rfl, rfl⟩
        go_wp2
        refine ⟨rfl, ?_⟩
        rw [HC'.out]
        exact Does.no (by decide) (Step.of_below b1) rfl h1
      | true =>
        go_wp2_with fail
        refine (rowsKey k w1).mono ?_; rintro e w2 ⟨rfl, rfl⟩
        rw [hkb]
        go_wp2_with fail
        refine (rowsVal v w1).mono ?_; rintro e w2 ⟨rfl, rfl⟩
        rw [hvb]
        go_wp2_with fail
        refine (mustOk 3 w1).mono ?_; rintro e w3 ⟨rfl, rfl⟩
        go_wp2_with fail
        refine (HOF.out w1 (Below.refl _ _)).mono ?_; rintro e w3 ⟨_, rfl, rfl, b3⟩
        have h3 := h1.call b3
        have b03 := b1.trans (b3.mono b1.size)
        by_cases hsame : old = v
        · have hq : (old != v) = false := by simp [hsame]
          have HC' : Hid (chgP r name k v = (noRepo, 9)) := keepBack (by rw [HC.out, hkb, hvb, hsame]; simp)
          go_wp2_with fail
          refine (mustNo 9 w3).mono ?_; rintro e w4 ⟨rfl, rfl⟩
          go_wp2
          refine ⟨rfl, ?_⟩
          rw [HC'.out]
          exact Does.no (by decide) (Step.of_below b03) rfl h3
        · have hq : (old != v) = true := by simp [hsame]
          have HC' : Hid (chgP r name k v = jPut r (bl name) [(k, old, v)]) := keepBack (by rw [HC.out, hkb, hvb]; simp [hsame])
          clear hsame
          go_wp2_with fail
          refine (mustOk 9 w3).mono ?_; rintro e w4 ⟨rfl, rfl⟩
          have hD := h3
          obtain ⟨⟨vc, vh, hrw, hc, hh⟩, _⟩ := h3
          obtain ⟨ac, cc, hvc, _, _, _⟩ := hc.shape
          obtain ⟨ah, ch, hvh, _, _, _⟩ := hh.shape
          obtain ⟨nc, hnc⟩ : ∃ n, n = r.1.length := ⟨_, rfl⟩
          obtain ⟨nh, hnh⟩ : ∃ n, n = r.2.length := ⟨_, rfl⟩
          rw [← hnc] at hvc
          rw [← hnh] at hvh
          clear hnc hnh
          subst hvc hvh
          have t0 : w3.cell? ⟨T, 0, none⟩ = some (.slice ac nc cc) := by rw [World.cell?, hrw]; rfl
          have t1 : w3.cell? ⟨T, 1, none⟩ = some (.slice ah nh ch) := by rw [World.cell?, hrw]; rfl
          have HR : Hid (Rp w3 (Away T) (.agg #[.slice ac nc cc, .slice ah nh ch]) r) := keepBack ⟨_, _, rfl, hc, hh⟩
          clear hrw hc hh
          go_wp2_with fail
          have hlit := litChg w3 k old v hk (by unfold i64ok; omega) hv
          have bL := (Below.refl w3.heap.size w3).alloc (Nat.le_refl _) (.cells #[.int .i64 k, .int .i64 old, .int .i64 v] 95)
          refine (workPut _ _ r (bl name) [(k, old, v)] _ _ _ (HR.out.call bL) hlit).mono ?_; rintro e w5 ⟨_, rfl, ⟨y, rfl, hy⟩, b5⟩
          have b35 := bL.trans (b5.mono bL.size)
          have hy' := hy.notT (T := T) (by have := bL.size; have := b03.size; omega) (fun k hk => by have := hD.zone k hk; have := bL.size; omega)
          obtain ⟨p, hp⟩ : ∃ p, p = jPut r (bl name) [(k, old, v)] := ⟨_, rfl⟩
          rw [← hp] at hy' ⊢
          have HP := keepBack hp
          clear hp hy
          go_wp2_with fail
          refine (deskTurn T r p y w5 (hD.call b35) hy').mono ?_; rintro e w6 hdo
          have hdo : Does T w r (okO (chgP r name k v)) e w6 := by rw [HC'.out, ← HP.out]; exact hdo.after ((Step.of_below b03).on (Step.of_below b35))
          obtain ⟨hst, hif⟩ := hdo
          by_cases hp0 : (okO (chgP r name k v)).2.2 = 0
          · rw [if_pos hp0] at hif
            obtain ⟨rfl, ht⟩ := hif
            go_wp2
            go_ret
            exact Does.ok hp0 hst rfl ht
          · rw [if_neg hp0] at hif
            obtain ⟨rfl, ht⟩ := hif
            go_wp2
            exact ⟨rfl, Does.no hp0 hst rfl ht⟩
  · obtain ⟨c, hcd⟩ : ∃ c, c = (hdRows r name).2 := ⟨_, rfl⟩
    have hc0 : c ≠ 0 := by rw [hcd]; exact hz
    have HC : Hid (chgP r name k v = (noRepo, c)) := keepBack (by rw [chgP, if_neg hz, hcd])
    have HD := keepBack hcd
    clear hcd hz hrow
    go_enter Tryz.func51, Tryz.ntmps51
    go_wp2_with fail
    refine R.out.mono ?_; rintro e w1 ⟨b1, hq⟩
    rw [← HD.out, if_neg hc0] at hq
    subst hq
    go_wp2
    refine ⟨rfl, ?_⟩
    rw [HC.out]
    exact Does.no hc0 (Step.of_below b1) rfl (h.call b1)
theorem headP_err {r : Repo} (hr : repoErr r = 0) (s : ByteArray) : (headP r s).2 = 0 ∨ (headP r s).2 = 5 := by
  rw [headP, if_pos hr]
  split
  · exact .inl rfl
  · exact .inr rfl
theorem errL_not7 : ∀ X : List (List Row), errL X ≠ 7
  | [] => by decide
  | l :: m => by
    rw [errL]
    split
    · exact errL_not7 m
    · unfold rowsErr
      repeat' split
      all_goals decide
theorem mergeP_not7 (a b c : List Row) : (mergeP a b c).2.2 ≠ 7 := by
  rw [mergeP]
  split
  · split <;> simp
  · exact errL_not7 _
theorem jJoin_clash {r : Repo} {s f : ByteArray} (hr : repoErr r = 0) (h : (jJoin r s f).2.2 = 7) : (jJoin r s f).2.1 ≠ [] := by
  rw [jJoin] at h ⊢
  split at h
  · rename_i h1
    rw [if_pos h1]
    split at h
    · rename_i h2
      rw [if_pos h2]
      rw [joinN] at h ⊢
      split at h
      · cases h
      · rename_i h3
        rw [if_neg h3]
        split at h
        · cases h
        · rename_i h4
          rw [if_neg h4]
          split at h
          · cases h
          · rename_i h5
            rw [if_neg h5]
            split at h
            · rename_i h6
              rw [if_pos h6]
              split at h
              · cases h
              · rename_i h7
                rw [if_neg h7]
                intro e
                exact h7 (by rw [show (mergeP (baseN r.1 _ _) (rowsN r.1 _) (rowsN r.1 _)).2.1 = [] from e]; rfl)
            · exact absurd h (mergeP_not7 _ _ _)
    · rcases headP_err hr f with e | e
      · rename_i h2; exact absurd e h2
      · rw [e] at h; cases h
  · rcases headP_err hr s with e | e
    · rename_i h2; exact absurd e h2
    · rw [e] at h; cases h
theorem jJoin_keys {r : Repo} {s f : ByteArray} : (jJoin r s f).2.1.length ≤ 100 ∧ ∀ k ∈ (jJoin r s f).2.1, 0 ≤ k := by
  have hm : ∀ a b c : List Row, (mergeP a b c).2.1.length ≤ 100 ∧ ∀ k ∈ (mergeP a b c).2.1, 0 ≤ k := by
    intro a b c
    rw [mergeP]
    split
    · split
      · simp
      · exact ⟨clash_len _ _ _ 100 0, fun k hk => ((mem_clash 100 0).1 hk).1⟩
    · simp
  rw [jJoin]
  split
  · split
    · rw [joinN]
      repeat' split
      all_goals first | exact hm _ _ _ | simp
    · simp
  · simp
set_option maxHeartbeats 2000000 in
theorem deskMerge [Zone] (T : Nat) (r : Repo) (a b : Bytes) (hr : repoErr r = 0) (w : World) (hV : Vars w) (h : DeskTab w T r) :
    Calls Tryz.prog 59 #[.pointer (some ⟨T, 0, none⟩), .string (bl a), .string (bl b)] w (Does T w r (mergeO r (jJoin r (bl a) (bl b)))) := by
  have hT := h.lt
  have hD := h
  obtain ⟨⟨vc, vh, hrw, hc, hh⟩, _⟩ := h
  obtain ⟨ac, cc, hvc, _, _, _⟩ := hc.shape
  obtain ⟨ah, ch, hvh, _, _, _⟩ := hh.shape
  obtain ⟨nc, hnc⟩ : ∃ n, n = r.1.length := ⟨_, rfl⟩
  obtain ⟨nh, hnh⟩ : ∃ n, n = r.2.length := ⟨_, rfl⟩
  rw [← hnc] at hvc
  rw [← hnh] at hvh
  clear hnc hnh
  subst hvc hvh
  have t0 : w.cell? ⟨T, 0, none⟩ = some (.slice ac nc cc) := by rw [World.cell?, hrw]; rfl
  have t1 : w.cell? ⟨T, 1, none⟩ = some (.slice ah nh ch) := by rw [World.cell?, hrw]; rfl
  have HR : Hid (Rp w (Away T) (.agg #[.slice ac nc cc, .slice ah nh ch]) r) := keepBack ⟨_, _, rfl, hc, hh⟩
  clear hrw hc hh
  go_enter Tryz.func59, Tryz.ntmps59
  go_wp2_with fail
  refine (workMerge _ r (bl a) (bl b) _ w HR.out).mono ?_; rintro e w1 ⟨_, rfl, ⟨y, z, rfl, hy, hz⟩, b1⟩
  have hK := jJoin_keys (r := r) (s := bl a) (f := bl b)
  have hCl := jJoin_clash (s := bl a) (f := bl b) hr
  generalize jJoin r (bl a) (bl b) = p at *
  obtain ⟨hK1, hK2⟩ := hK
  have hD1 := hD.call b1
  have hy1 := hy.notT (T := T) hT hD.zone
  obtain ⟨yc, yh, rfl, hyc, hyh⟩ := hy1
  obtain ⟨a1, c1, hv1, _, _, _⟩ := hyc.shape
  obtain ⟨a2, c2, hv2, _, _, _⟩ := hyh.shape
  obtain ⟨n1, hn1⟩ : ∃ n, n = p.1.1.length := ⟨_, rfl⟩
  obtain ⟨n2, hn2⟩ : ∃ n, n = p.1.2.length := ⟨_, rfl⟩
  rw [← hn1] at hv1
  rw [← hn2] at hv2
  clear hn1 hn2 hy
  subst hv1 hv2
  obtain ⟨az, cz, hvz, _, _, _⟩ := hz.shape
  obtain ⟨nz, hnz⟩ : ∃ n, n = p.2.1.length := ⟨_, rfl⟩
  rw [← hnz] at hvz
  have HNZ := keepBack hnz
  clear hnz
  subst hvz
  obtain ⟨wB, hwB⟩ : ∃ wB, wB = w1.alloc (.cells #[.slice a1 n1 c1, .slice a2 n2 c2] 33) := ⟨_, rfl⟩
  have bB : Below w1.heap.size w1 wB := by rw [hwB]; exact (Below.refl _ _).alloc (Nat.le_refl _) _
  have k0 : wB.cell? ⟨w1.heap.size, 0, none⟩ = some (.slice a1 n1 c1) := by rw [hwB]; simp
  have k1 : wB.cell? ⟨w1.heap.size, 1, none⟩ = some (.slice a2 n2 c2) := by rw [hwB]; simp
  have HWB := keepBack hwB
  clear hwB
  have b0B := b1.trans (bB.mono b1.size)
  have hDB := hD1.call bB
  by_cases h7 : p.2.2 = 7
  · have hne := hCl h7
    have hpos : 0 < nz := by rw [HNZ.out]; exact List.length_pos_iff.2 hne
    have HM : Hid (mergeO r p = (r, [99, 108, 97, 115, 104, 32] ++ lsL (p.2.1.map dgL), 0)) := keepBack (by rw [mergeO, if_pos h7])
    have hzB := hz.call bB
    have hlen : (lsL (p.2.1.map dgL)).length ≤ 2101 := by
      rw [lsL]
      split
      · simp
      · have := join_len (p.2.1.map dgL) 20 (fun x hx => by
          obtain ⟨q, hq, rfl⟩ := List.mem_map.1 hx
          exact dgL_len (ints_ok hz q hq).2)
        rw [List.length_map] at this
        omega
    rw [h7]
    clear hCl
    go_wp2_with fail
    rw [← HWB.out]
    refine (deskListInt _ p.2.1 _ wB (hV.call b0B) hzB (by omega) hK2).mono ?_; rintro e w2 ⟨_, rfl, rfl, b2⟩
    have hq : (ByteArray.mk #[99, 108, 97, 115, 104, 32]).size + (bl (lsL (p.2.1.map dgL))).size ≤ 9223372036854775807 := by
      show (bl [99, 108, 97, 115, 104, 32]).size + _ ≤ _
      rw [bl_size, bl_size]; simp only [List.length_cons, List.length_nil]; omega
    go_wp2
    go_ret
    rw [HM.out]
    exact Does.ok rfl ((Step.of_below b0B).on (Step.of_below b2)) (congrArg (fun x => Ending.returned (Value.string x)) (bl_append [99, 108, 97, 115, 104, 32] _)) (hDB.call b2)
  · have hq : (p.2.2 == 7) = false := by rw [beq_eq_false_iff_ne]; exact h7
    have HM : Hid (mergeO r p = okO (p.1, p.2.2)) := keepBack (by rw [mergeO, if_neg h7]; rfl)
    have HRB : Hid (Rp wB (Away T) (.agg #[.slice a1 n1 c1, .slice a2 n2 c2]) (p.1, p.2.2).1) := keepBack ⟨_, _, rfl, hyc.call bB, hyh.call bB⟩
    rw [HWB.out] at k0 k1
    go_wp2_with fail
    rw [← HWB.out]
    refine (deskTurn T r (p.1, p.2.2) _ wB hDB HRB.out).mono ?_; rintro e w2 hdo
    have hdo : Does T w r (mergeO r p) e w2 := by rw [HM.out]; exact hdo.after (Step.of_below b0B)
    obtain ⟨hst, hif⟩ := hdo
    by_cases hp0 : (mergeO r p).2.2 = 0
    · rw [if_pos hp0] at hif
      obtain ⟨rfl, ht⟩ := hif
      go_wp2
      go_ret
      exact Does.ok hp0 hst rfl ht
    · rw [if_neg hp0] at hif
      obtain ⟨rfl, ht⟩ := hif
      go_wp2
      exact ⟨rfl, Does.no hp0 hst rfl ht⟩
end Go.Pch
end

section
namespace Go.Pch
open Go.RowKit Go.Proofs
set_option maxRecDepth 100000
set_option maxHeartbeats 1000000 in
theorem refRowsAt (v : Value) (r : Repo) (name : Bytes) (S : Blk) (w : World) (h : Rp w S v r) :
    Calls Tryz.prog 38 #[v, .string (bl name)] w (Ret w fun x w' => ∃ y, x = .tuple #[y, .int .i64 (hdRows r name).2] ∧ Sl tRow w' S y (hdRows r name).1) := by
  have hR := h
  obtain ⟨vc, vh, rfl, hc, hh⟩ := h
  obtain ⟨ac, cc, hvc, _, _, _⟩ := hc.shape
  obtain ⟨ah, ch, hvh, _, _, _⟩ := hh.shape
  obtain ⟨nc, hnc⟩ : ∃ n, n = r.1.length := ⟨_, rfl⟩
  obtain ⟨nh, hnh⟩ : ∃ n, n = r.2.length := ⟨_, rfl⟩
  rw [← hnc] at hvc
  rw [← hnh] at hvh
  have HNC := keepBack hnc
  clear hnc hnh
  subst hvc hvh
  obtain ⟨wA, hwA⟩ : ∃ wA, wA = w.alloc (.cells #[.slice ac nc cc, .slice ah nh ch] 33) := ⟨_, rfl⟩
  have bA : Below w.heap.size w wA := by rw [hwA]; exact (Below.refl _ _).alloc (Nat.le_refl _) _
  have kA : wA.heap[w.heap.size]? = some (.cells #[.slice ac nc cc, .slice ah nh ch] 33) := by rw [hwA]; exact heap_alloc_new w _
  have HWA := keepBack hwA
  clear hwA
  have hRA := hR.call bA
  by_cases hz : (headP r (bl name)).2 = 0
  · obtain ⟨he, n, hnn, hP, _⟩ := headP_at hz
    have HP : Hid (hdRows r name = (rowsN r.1 n, 0)) := keepBack (by rw [hdRows, if_pos hz, hP]; rfl)
    rw [HP.out]
    go_enter Tryz.func38, Tryz.ntmps38
    go_wp2_with fail
    rw [← HWA.out]
    refine (refHeadOf_of _ r _ _ wA hRA hP).mono ?_; rintro e w1 ⟨_, rfl, rfl, b1⟩
    have b01 := bA.trans (b1.mono bA.size)
    have hc1 := hc.call b01
    have k1 := (b1.block w.heap.size (by have := (Array.getElem?_eq_some_iff.1 kA).1; exact this)).trans kA
    have q0 : w1.cell? ⟨w.heap.size, 0, none⟩ = some (.slice ac nc cc) := by rw [World.cell?, k1]; rfl
    obtain ⟨b, o, x, y, hix, _, hbs, hx, _, c0, _⟩ := hc1.idxCommit aCom n n rfl hnn
    obtain ⟨ax, cx, rfl, _, _, _⟩ := hx.shape
    have HX : Hid (rowsN r.1 n = r.1[n].1) := keepBack (by rw [rowsN, List.getElem?_eq_getElem hnn]; rfl)
    generalize r.1[n].1 = X at *
    obtain ⟨m, hm⟩ : ∃ m, m = X.length := ⟨_, rfl⟩
    rw [← hm] at hx c0
    clear hm
    have hni : (0 : Int) ≤ n ∧ (n : Int) < nc := ⟨by omega, by rw [HNC.out]; omega⟩
    obtain ⟨hn0, hn1⟩ := hni
    go_wp2
    go_ret2
    exact ⟨_, rfl, ⟨_, rfl, by rw [HX.out]; exact hx⟩, b01⟩
  · obtain ⟨c, hcd⟩ : ∃ c, c = (headP r (bl name)).2 := ⟨_, rfl⟩
    have hc0 : c ≠ 0 := by rw [hcd]; exact hz
    have HP : Hid (hdRows r name = ([], c)) := keepBack (by rw [hdRows, if_neg hz, hcd])
    have hne : (c != 0) = true := by simp [hc0]
    obtain ⟨d, hd⟩ : ∃ d, headP r (bl name) = (d, c) := ⟨_, Prod.ext rfl hcd.symm⟩
    have HD := keepBack hd
    rw [HP.out]
    clear hcd hz hd
    go_enter Tryz.func38, Tryz.ntmps38
    go_wp2_with fail
    rw [← HWA.out]
    refine (refHeadOf_of _ r _ _ wA hRA HD.out).mono ?_; rintro e w1 ⟨_, rfl, rfl, b1⟩
    go_wp2
    go_ret2
    exact ⟨_, rfl, ⟨_, rfl, Sl.nil _ _ _⟩, bA.trans (b1.mono bA.size)⟩
end Go.Pch
end

section
namespace Go.Pch
open Go.RowKit Go.Proofs
set_option maxRecDepth 100000
def RepoOr (p : Repo × Int) (S : Blk) (x : Value) (w' : World) : Prop := ∃ a n c a' n' c', x = .tuple #[.agg #[.slice a n c, .slice a' n' c'], .int .i64 p.2] ∧ (p.2 = 0 → Rp w' S (.agg #[.slice a n c, .slice a' n' c']) p.1)
theorem RepoOr.no {p : Repo × Int} {S : Blk} {w' : World} {a a' : Option Addr} {n c n' c' : Nat} {e : Int} (he : e ≠ 0) (hp : p = (noRepo, e)) : RepoOr p S (.tuple #[.agg #[.slice a n c, .slice a' n' c'], .int .i64 e]) w' := by
  subst hp
  exact ⟨a, n, c, a', n', c', rfl, fun h => absurd h he⟩
set_option maxHeartbeats 2000000 in
theorem refOneChange (v : Value) (r : Repo) (name : Bytes) (k x : Int) (hk : i64ok k) (hx : i64ok x) (h1 : -1 ≤ x) (hr : repoErr r = 0) (S : Blk) (w : World) (h : Rp w S v r) :
    Calls Tryz.prog 33 #[v, .string (bl name), .int .i64 k, .int .i64 x] w (Ret w (RepoOr (chgP r name k x) (fun k => w.heap.size ≤ k))) := by
  have hR := h
  have hrow := hdRows_ok hr name
  have HRA := keepBack (fun W (hW : Below w.heap.size w W) => refRowsAt v r name S W (h.call hW))
  obtain ⟨vc, vh, rfl, hc, hh⟩ := h
  obtain ⟨ac, cc, hvc, _, _, _⟩ := hc.shape
  obtain ⟨ah, ch, hvh, _, _, _⟩ := hh.shape
  obtain ⟨nc, hnc⟩ : ∃ n, n = r.1.length := ⟨_, rfl⟩
  obtain ⟨nh, hnh⟩ : ∃ n, n = r.2.length := ⟨_, rfl⟩
  rw [← hnc] at hvc
  rw [← hnh] at hvh
  clear hnc hnh
  subst hvc hvh
  clear hc hh
  have hX := boxAt w (.slice ac nc cc) (.slice ah nh ch)
  obtain ⟨wB, hwB⟩ : ∃ wB, wB = (w.alloc (.cells #[.slice ac nc cc, .slice ah nh ch] 33)).alloc (.cells #[.slice none 0 0, .slice none 0 0] 33) := ⟨_, rfl⟩
  rw [← hwB] at hX
  have HWB := keepBack hwB
  clear hwB
  have zB := hX.size
  obtain ⟨p, hp⟩ : ∃ p, hdRows r name = p := ⟨_, rfl⟩
  obtain ⟨L, c⟩ := p
  have HPL := keepBack hp
  by_cases hz : c = 0
  · subst hz
    rw [hp] at hrow
    have h40 := (ok_rise hrow).1
    have hvb0 := valueOf_bounds (ok_rise hrow).2 k
    have hch : chgP r name k x = (if (keyB k && valB x) = true then (if valueOf L k = x then (noRepo, 9) else jPut r (bl name) [(k, valueOf L k, x)]) else (noRepo, 3)) := by rw [chgP, HPL.out]; exact if_pos rfl
    have HC := keepBack hch
    clear hch hp
    go_enter Tryz.func33, Tryz.ntmps33
    go_wp2_with fail
    rw [← HWB.out]
    refine (HRA.out wB hX.low).mono ?_; rintro e w1 ⟨_, rfl, ⟨y, rfl, hy⟩, b1⟩
    rw [HPL.out] at hy ⊢
    obtain ⟨y0, y1, y2, y3, yf⟩ := hX.on b1
    cases hkb : keyB k with
    | false =>
      have HC' : Hid (chgP r name k x = (noRepo, 3)) := keepBack (by rw [HC.out, hkb]; rfl)
      go_wp2_with fail
      refine (refIsKey_of k w1 hkb).mono ?_; rintro e w2 ⟨rfl, rfl⟩
      go_wp2
      refine bodyPost_ret (repoResults rfl _ _ _ _ _ _ _ rfl rfl (hX.fin b1 _ _).1) rfl ?_
      exact ⟨_, rfl, RepoOr.no (by decide) HC'.out, (hX.fin b1 _ _).2⟩
    | true =>
      by_cases hxv : x ≤ 996
      · have hvb : valB x = true := by simp [valB, h1, hxv]
        have hxd : decide (996 < x) = false := by simp; omega
        have HO := keepBack (refValueOf y L k _ w1 hy)
        generalize hold : valueOf L k = old at *
        clear hold
        by_cases hs : old = x
        · have hq : (old == x) = true := by simp [hs]
          have HC' : Hid (chgP r name k x = (noRepo, 9)) := keepBack (by rw [HC.out, hkb, hvb]; simp [hs])
          clear hs
          go_wp2_with fail
          refine (refIsKey_of k w1 hkb).mono ?_; rintro e w2 ⟨rfl, rfl⟩
          go_wp2_with fail
          refine HO.out.mono ?_; rintro e w2 ⟨rfl, rfl⟩
          go_wp2
          refine bodyPost_ret (repoResults rfl _ _ _ _ _ _ _ rfl rfl (hX.fin b1 _ _).1) rfl ?_
          exact ⟨_, rfl, RepoOr.no (by decide) HC'.out, (hX.fin b1 _ _).2⟩
        · have hq : (old == x) = false := by simp [hs]
          have HC' : Hid (chgP r name k x = jPut r (bl name) [(k, old, x)]) := keepBack (by rw [HC.out, hkb, hvb]; simp [hs])
          clear hs
          go_wp2_with fail
          refine (refIsKey_of k w1 hkb).mono ?_; rintro e w2 ⟨rfl, rfl⟩
          go_wp2_with fail
          refine HO.out.mono ?_; rintro e w2 ⟨rfl, rfl⟩
          go_wp2_with fail
          have hlit := litChg w1 k old x hk (by unfold i64ok; omega) hx
          have bL := (Below.refl w1.heap.size w1).alloc (Nat.le_refl _) (.cells #[.int .i64 k, .int .i64 old, .int .i64 x] 95)
          have b0L := (hX.low.trans (b1.mono (by omega))).trans (bL.mono (by have := b1.size; omega))
          refine (refPutTo _ _ r (bl name) [(k, old, x)] _ _ _ (hR.call b0L) hlit).mono ?_; rintro e w5 ⟨_, rfl, ⟨q, rfl, hq5⟩, b5⟩
          rw [← HC'.out] at hq5 ⊢
          have bB5 : Below wB.heap.size wB w5 := (b1.trans (bL.mono b1.size)).trans (b5.mono (by have := b1.size; have := bL.size; omega))
          have hq6 : Rp w5 (fun k => wB.heap.size ≤ k) q (chgP r name k x).1 := by
            obtain ⟨a, b, rfl, g1, g2⟩ := hq5
            have hle := b1.size
            have hle2 := bL.size
            exact ⟨a, b, rfl, g1.mono fun k hk _ => by omega, g2.mono fun k hk _ => by omega⟩
          obtain ⟨xc, xh, rfl, g1, g2⟩ := hq6
          obtain ⟨a1, c1, hv1, _, _, _⟩ := g1.shape
          obtain ⟨a2, c2, hv2, _, _, _⟩ := g2.shape
          obtain ⟨n1, hn1⟩ : ∃ n, n = (chgP r name k x).1.1.length := ⟨_, rfl⟩
          obtain ⟨n2, hn2⟩ : ∃ n, n = (chgP r name k x).1.2.length := ⟨_, rfl⟩
          rw [← hn1] at hv1
          rw [← hn2] at hv2
          clear hn1 hn2
          subst hv1 hv2
          have HG : Hid (Rp w5 (fun k => wB.heap.size ≤ k) (.agg #[.slice a1 n1 c1, .slice a2 n2 c2]) (chgP r name k x).1) := keepBack ⟨_, _, rfl, g1, g2⟩
          clear g1 g2 hq5
          obtain ⟨y0, y1, y2, y3, yf⟩ := hX.on bB5
          go_wp2
          refine bodyPost_ret (repoResults rfl _ _ _ _ _ _ _ rfl rfl (hX.fin bB5 _ _).1) rfl ?_
          refine ⟨_, rfl, ⟨a1, n1, c1, a2, n2, c2, rfl, fun _ => hX.rp HG.out⟩, (hX.fin bB5 _ _).2⟩
      · have hvb : valB x = false := by simp [valB, hxv]
        have hxd : decide (996 < x) = true := by simp; omega
        have HC' : Hid (chgP r name k x = (noRepo, 3)) := keepBack (by rw [HC.out, hkb, hvb]; rfl)
        go_wp2_with fail
        refine (refIsKey_of k w1 hkb).mono ?_; rintro e w2 ⟨rfl, rfl⟩
        go_wp2
        refine bodyPost_ret (repoResults rfl _ _ _ _ _ _ _ rfl rfl (hX.fin b1 _ _).1) rfl ?_
        exact ⟨_, rfl, RepoOr.no (by decide) HC'.out, (hX.fin b1 _ _).2⟩
  · have HC' : Hid (chgP r name k x = (noRepo, c)) := keepBack (by rw [chgP, hp, if_neg hz])
    have hne : (c != 0) = true := by simp [hz]
    clear hp
    go_enter Tryz.func33, Tryz.ntmps33
    go_wp2_with fail
    rw [← HWB.out]
    refine (HRA.out wB hX.low).mono ?_; rintro e w1 ⟨_, rfl, ⟨y, rfl, hy⟩, b1⟩
    rw [HPL.out] at hy ⊢
    obtain ⟨y0, y1, y2, y3, yf⟩ := hX.on b1
    go_wp2
    refine bodyPost_ret (repoResults rfl _ _ _ _ _ _ _ rfl rfl (hX.fin b1 _ _).1) rfl ?_
    exact ⟨_, rfl, RepoOr.no hz HC'.out, (hX.fin b1 _ _).2⟩
end Go.Pch
end

section
namespace Go.Pch
open Go.RowKit Go.Proofs
set_option maxRecDepth 100000
theorem eachEmpty (w : World) (D : Blk) : Each tStr w D [[.string (ByteArray.mk #[])], [.string (ByteArray.mk #[])], [.string (ByteArray.mk #[])], [.string (ByteArray.mk #[])]] [bl [], bl [], bl [], bl []] := by
  have h : Each tStr w D [[.string (ByteArray.mk #[])]] [bl []] := Each.one _ _ ⟨rfl, trivial⟩
  exact h.app (h.app (h.app h))
theorem srcEmpty (w : World) (D : Blk) : Src tStr (w.alloc (.cells #[.string (ByteArray.mk #[]), .string (ByteArray.mk #[]), .string (ByteArray.mk #[]), .string (ByteArray.mk #[])] 9)) D (some ⟨w.heap.size, 0, none⟩) [bl [], bl [], bl [], bl []] := Src.lit (eachEmpty w D) rfl _
structure Padded (s : Bytes) (N : Nat) (c0 c1 c2 c3 : Bytes) : Prop where
  len : (spl s).length = N
  w0 : (spl s ++ [[], [], [], []])[0]? = some c0
  w1 : (spl s ++ [[], [], [], []])[1]? = some c1
  w2 : (spl s ++ [[], [], [], []])[2]? = some c2
  w3 : (spl s ++ [[], [], [], []])[3]? = some c3
theorem pad_short (s : Bytes) : ∀ (k : Nat) (c : Bytes), (spl s ++ [[], [], [], []])[k]? = some c → c.length ≤ s.length := by
  intro k c h
  have hm := List.mem_of_getElem? h
  rcases List.mem_append.1 hm with hm | hm
  · exact spl_short s c hm
  · simp at hm; subst hm; simp
structure PadAt (w : World) (v : Value) (c0 c1 c2 c3 : Bytes) (x0 o0 x1 o1 x2 o2 x3 o3 : Nat) : Prop where
  i0 : ∀ W, Sem.run Tryz.prog (Instr.indexAt 65 v (.int .i64 0)) W = .ok (.pointer (some ⟨x0, o0, none⟩)) W
  i1 : ∀ W, Sem.run Tryz.prog (Instr.indexAt 65 v (.int .i64 1)) W = .ok (.pointer (some ⟨x1, o1, none⟩)) W
  i2 : ∀ W, Sem.run Tryz.prog (Instr.indexAt 65 v (.int .i64 2)) W = .ok (.pointer (some ⟨x2, o2, none⟩)) W
  i3 : ∀ W, Sem.run Tryz.prog (Instr.indexAt 65 v (.int .i64 3)) W = .ok (.pointer (some ⟨x3, o3, none⟩)) W
  e0 : w.cell? ⟨x0, o0, none⟩ = some (.string (bl c0))
  e1 : w.cell? ⟨x1, o1, none⟩ = some (.string (bl c1))
  e2 : w.cell? ⟨x2, o2, none⟩ = some (.string (bl c2))
  e3 : w.cell? ⟨x3, o3, none⟩ = some (.string (bl c3))
theorem PadAt.call {w w' : World} {v : Value} {c0 c1 c2 c3 : Bytes} {x0 o0 x1 o1 x2 o2 x3 o3 : Nat} (h : PadAt w v c0 c1 c2 c3 x0 o0 x1 o1 x2 o2 x3 o3) (hb : Below w.heap.size w w') : PadAt w' v c0 c1 c2 c3 x0 o0 x1 o1 x2 o2 x3 o3 :=
  ⟨h.i0, h.i1, h.i2, h.i3, (hb.cell (p := ⟨x0, o0, none⟩) (World.block_lt_of_cell? _ _ h.e0)).trans h.e0, (hb.cell (p := ⟨x1, o1, none⟩) (World.block_lt_of_cell? _ _ h.e1)).trans h.e1,
    (hb.cell (p := ⟨x2, o2, none⟩) (World.block_lt_of_cell? _ _ h.e2)).trans h.e2, (hb.cell (p := ⟨x3, o3, none⟩) (World.block_lt_of_cell? _ _ h.e3)).trans h.e3⟩
theorem padAt {w : World} {S : Blk} {v : Value} {s : Bytes} {N : Nat} {c0 c1 c2 c3 : Bytes} (hP : Padded s N c0 c1 c2 c3) (h : Sl tStr w S v ((spl s ++ [[], [], [], []]).map bl)) :
    (∃ a c, v = .slice a (N + 4) c) ∧ ∃ x0 o0 x1 o1 x2 o2 x3 o3, PadAt w v c0 c1 c2 c3 x0 o0 x1 o1 x2 o2 x3 o3 := by
  obtain ⟨x0, o0, hix0, _, _, hce0⟩ := h.idxStr aStr 0 0 (bl c0) rfl (by rw [List.getElem?_map, hP.w0]; rfl)
  obtain ⟨x1, o1, hix1, _, _, hce1⟩ := h.idxStr aStr 1 1 (bl c1) rfl (by rw [List.getElem?_map, hP.w1]; rfl)
  obtain ⟨x2, o2, hix2, _, _, hce2⟩ := h.idxStr aStr 2 2 (bl c2) rfl (by rw [List.getElem?_map, hP.w2]; rfl)
  obtain ⟨x3, o3, hix3, _, _, hce3⟩ := h.idxStr aStr 3 3 (bl c3) rfl (by rw [List.getElem?_map, hP.w3]; rfl)
  obtain ⟨a2, g2, hv, _, _, _⟩ := h.shape
  exact ⟨⟨a2, g2, by rw [hv, List.length_map, List.length_append, hP.len]; rfl⟩, x0, o0, x1, o1, x2, o2, x3, o3, hix0, hix1, hix2, hix3, hce0, hce1, hce2, hce3⟩
theorem Rp.more {w : World} {S S' : Blk} {v : Value} {r : Repo} (h : Rp w S v r) (hk : ∀ k, S k → k < w.heap.size → S' k) : Rp w S' v r := by
  obtain ⟨a, b, rfl, h1, h2⟩ := h
  exact ⟨a, b, rfl, h1.mono hk, h2.mono hk⟩
theorem Rp.shape' {w : World} {S : Blk} {v : Value} {r : Repo} (h : Rp w S v r) : ∃ a1 n1 c1 a2 n2 c2, v = .agg #[.slice a1 n1 c1, .slice a2 n2 c2] := by
  obtain ⟨x, y, rfl, h1, h2⟩ := h
  obtain ⟨a1, c1, rfl, _⟩ := h1.shape
  obtain ⟨a2, c2, rfl, _⟩ := h2.shape
  exact ⟨_, _, _, _, _, _, rfl⟩
def PlayedPost (B : Nat) (S : Blk) (o : Out) (x : Value) (w' : World) : Prop := ∃ a n c a' n' c' t, x = .tuple #[.agg #[.slice a n c, .slice a' n' c'], .string t, .int .i64 o.2.2] ∧ (o.2.2 = 0 → t = bl o.2.1 ∧ Rp w' (fun k => S k ∨ B ≤ k) (.agg #[.slice a n c, .slice a' n' c']) o.1)
theorem PlayedPost.no {B : Nat} {S : Blk} {o : Out} {a a' : Option Addr} {n c n' c' : Nat} {t : ByteArray} {w' : World} {e : Int} (ho : o.2.2 = e) (h : e ≠ 0) : PlayedPost B S o (.tuple #[.agg #[.slice a n c, .slice a' n' c'], .string t, .int .i64 e]) w' := by
  subst ho
  exact ⟨a, n, c, a', n', c', t, rfl, fun h' => absurd h' h⟩
theorem repoOr_of {B : Nat} {p : Repo × Int} {x : Value} {w' : World} (h : RefRet B p x w') : RepoOr p (fun k => B ≤ k) x w' := by
  obtain ⟨y, rfl, hy⟩ := h
  obtain ⟨a1, n1, c1, a2, n2, c2, rfl⟩ := hy.shape'
  exact ⟨a1, n1, c1, a2, n2, c2, rfl, fun _ => hy⟩
theorem repoOr_of_ret {f : FuncId} {args : Array Value} {W : World} {p : Repo × Int} (h : Calls Tryz.prog f args W (Ret W (RefRet W.heap.size p))) : Calls Tryz.prog f args W (Ret W (RepoOr p (fun k => W.heap.size ≤ k))) :=
  h.mono fun _ _ ⟨x, he, hx, hb⟩ => ⟨x, he, repoOr_of hx, hb⟩
structure GotW (w3 W : World) (nb : Nat) (y0 y1 : Value) (c : Int) (R : Repo) : Prop where
  row : W.heap[nb]? = some (.cells #[y0, y1] 33)
  low : Below w3.heap.size w3 W
  rep : c = 0 → Rp W (fun k => w3.heap.size ≤ k) (.agg #[y0, y1]) R
theorem gotOne {w3 w4 : World} {y0 y1 : Value} {c : Int} {R : Repo} (b4 : Below w3.drew.heap.size w3.drew w4) (hq : c = 0 → Rp w4 (fun k => w3.drew.heap.size ≤ k) (.agg #[y0, y1]) R) : GotW w3 (w4.alloc (.cells #[y0, y1] 33)) w4.heap.size y0 y1 c R := by
  have b : Below w3.heap.size w3 w4 := (Below.refl w3.heap.size w3).drew.trans b4
  have bN := (Below.refl w4.heap.size w4).alloc (Nat.le_refl _) (.cells #[y0, y1] 33)
  exact ⟨heap_alloc_new _ _, b.trans (bN.mono b.size), fun h0 => (hq h0).call bN⟩
theorem gotTwo {w3 w4 : World} {y0 y1 : Value} {c : Int} {R : Repo} (b4 : Below (w3.alloc (.cells #[.slice none 0 0, .slice none 0 0] 33)).drew.heap.size (w3.alloc (.cells #[.slice none 0 0, .slice none 0 0] 33)).drew w4)
    (hq : c = 0 → Rp w4 (fun k => (w3.alloc (.cells #[.slice none 0 0, .slice none 0 0] 33)).drew.heap.size ≤ k) (.agg #[y0, y1]) R) : GotW w3 ((w4.setCell ⟨w3.heap.size, 0, none⟩ y0).setCell ⟨w3.heap.size, 1, none⟩ y1) w3.heap.size y0 y1 c R := by
  have zd : (w3.alloc (.cells #[.slice none 0 0, .slice none 0 0] 33)).drew.heap.size = w3.heap.size + 1 := by show (w3.alloc (.cells #[.slice none 0 0, .slice none 0 0] 33)).heap.size = _; simp
  have b1 : Below w3.heap.size w3 (w3.alloc (.cells #[.slice none 0 0, .slice none 0 0] 33)).drew := ((Below.refl _ _).alloc (Nat.le_refl _) _).drew
  have b : Below w3.heap.size w3 w4 := b1.trans (b4.mono (by rw [zd]; omega))
  have en : w4.heap[w3.heap.size]? = some (.cells #[.slice none 0 0, .slice none 0 0] 33) := (b4.block w3.heap.size (by rw [zd]; omega)).trans (heap_alloc_new w3 (.cells #[.slice none 0 0, .slice none 0 0] 33))
  have hk : ∀ j, j ≠ w3.heap.size → ((w4.setCell ⟨w3.heap.size, 0, none⟩ y0).setCell ⟨w3.heap.size, 1, none⟩ y1).heap[j]? = w4.heap[j]? := fun j hj => (heap_setCell_other _ _ _ _ hj).trans (heap_setCell_other _ _ _ _ hj)
  refine ⟨heap_setCell_same _ _ 1 _ _ y1 (heap_setCell_same w4 _ 0 _ _ y0 en), (b.setCell (by simp) _).setCell (by simp) _, fun h0 => ?_⟩
  have hq := hq h0
  rw [zd] at hq
  exact (hq.keep fun j hj _ => hk j (by omega)).more fun j hj _ => by omega
theorem GotW.cells {w3 W : World} {nb : Nat} {y0 y1 : Value} {c : Int} {R : Repo} (h : GotW w3 W nb y0 y1 c R) : W.cell? ⟨nb, 0, none⟩ = some y0 ∧ W.cell? ⟨nb, 1, none⟩ = some y1 :=
  ⟨by rw [World.cell?, h.row]; rfl, by rw [World.cell?, h.row]; rfl⟩
theorem newBox {w3 w4 : World} (b4 : Below (w3.alloc (.cells #[.slice none 0 0, .slice none 0 0] 33)).drew.heap.size (w3.alloc (.cells #[.slice none 0 0, .slice none 0 0] 33)).drew w4) :
    w4.cell? ⟨w3.heap.size, 0, none⟩ = some (.slice none 0 0) ∧ w4.cell? ⟨w3.heap.size, 1, none⟩ = some (.slice none 0 0) ∧ ∀ i, w4.frozen? ⟨w3.heap.size, i, none⟩ = false := by
  have en : w4.heap[w3.heap.size]? = some (.cells #[.slice none 0 0, .slice none 0 0] 33) := (b4.block w3.heap.size (by show _ < (w3.alloc (.cells #[.slice none 0 0, .slice none 0 0] 33)).heap.size; simp)).trans (heap_alloc_new w3 (.cells #[.slice none 0 0, .slice none 0 0] 33))
  exact ⟨by rw [World.cell?, en]; rfl, by rw [World.cell?, en]; rfl, fun i => frozen_of_row w4 _ i _ _ en⟩
theorem overBox {w3 : World} {p : Addr} {x : Value} (h : w3.cell? p = some x) : (w3.alloc (.cells #[.slice none 0 0, .slice none 0 0] 33)).cell? p = some x :=
  (((Below.refl w3.heap.size w3).alloc (Nat.le_refl _) _).cell (World.block_lt_of_cell? _ _ h)).trans h
theorem Sl.offBox {w : World} {S : Blk} {v x y : Value} {l : List Int} {O : Nat} {t : TypeId} (hO : w.heap[O]? = some (.cells #[x, y] t)) (hx : ∀ n, x ≠ .int .i64 n) (hy : ∀ n, y ≠ .int .i64 n) (h : Sl tInt w S v l) : Sl tInt w (fun k => S k ∧ k ≠ O) v l := by
  obtain ⟨ao, len, cap, hv, h1, h2, h3, h4, h5⟩ := h
  refine ⟨ao, len, cap, hv, h1, h2, h3, h4, fun i a hi => ?_⟩
  obtain ⟨b, o, hb, hS, cs, hrd, hc⟩ := h5 i a hi
  refine ⟨b, o, hb, ⟨hS, ?_⟩, cs, hrd, hc⟩
  rintro rfl
  obtain ⟨rfl, _⟩ := hrd
  have hcell := (hc 0 _ rfl).1
  rw [World.cell?, hO] at hcell
  generalize o + i * tInt.size + 0 = q at hcell
  match q, hcell with
  | 0, hcell => exact hx a (by simpa using hcell)
  | 1, hcell => exact hy a (by simpa using hcell)
  | n + 2, hcell => simp at hcell
theorem intsOne {w4 : World} {y0 y1 z : Value} {l : List Int} (hz : Sl tInt w4 (fun _ => True) z l) : Sl tInt (w4.alloc (.cells #[y0, y1] 33)) (fun _ => True) z l := hz.call ((Below.refl w4.heap.size w4).alloc (Nat.le_refl _) _)
theorem intsTwo {w3 w4 : World} {y0 y1 z : Value} {l : List Int} (b4 : Below (w3.alloc (.cells #[.slice none 0 0, .slice none 0 0] 33)).drew.heap.size (w3.alloc (.cells #[.slice none 0 0, .slice none 0 0] 33)).drew w4)
    (hz : Sl tInt w4 (fun _ => True) z l) : Sl tInt ((w4.setCell ⟨w3.heap.size, 0, none⟩ y0).setCell ⟨w3.heap.size, 1, none⟩ y1) (fun _ => True) z l := by
  have zd : (w3.alloc (.cells #[.slice none 0 0, .slice none 0 0] 33)).drew.heap.size = w3.heap.size + 1 := by show (w3.alloc (.cells #[.slice none 0 0, .slice none 0 0] 33)).heap.size = _; simp
  have en : w4.heap[w3.heap.size]? = some (.cells #[.slice none 0 0, .slice none 0 0] 33) := (b4.block w3.heap.size (by rw [zd]; omega)).trans (heap_alloc_new w3 (.cells #[.slice none 0 0, .slice none 0 0] 33))
  exact ((hz.offBox en (fun _ h => by cases h) (fun _ h => by cases h)).keep fun k hk _ => (heap_setCell_other _ _ _ _ hk.2).trans (heap_setCell_other _ _ _ _ hk.2)).any
theorem lsMap_len' (l : List Int) (hl : l.length ≤ 1000) (h : ∀ n ∈ l, i64ok n) : (lsL (l.map dgL)).length ≤ 100000 := by
  rw [lsL]
  split
  · simp
  · refine Nat.le_trans (join_len _ 20 fun x hx => ?_) (by rw [List.length_map]; omega)
    obtain ⟨y, hy, rfl⟩ := List.mem_map.1 hx
    exact dgL_len (h y hy).2
structure Fails (c0 : Bytes) (N : Nat) (k2 k3 : Int) : Prop where
  put : c0 = wPut → N = 4 → 0 ≤ k2 → ¬ 0 ≤ k3
  cut : c0 = wCut → N = 3 → ¬ 0 ≤ k2
  branch : c0 = wBranch → N ≠ 3
  drop : c0 = wDrop → N ≠ 2
  merge : c0 = wMerge → N ≠ 3
  rows : c0 = wRows → N ≠ 2
  root : c0 = wRoot → N ≠ 2
  log : c0 = wLog → N ≠ 2
  diff : c0 = wDiff → N ≠ 3
def JoinOr (p : Repo × List Int × Int) (S : Blk) (x : Value) (w' : World) : Prop := ∃ a n c a' n' c' az nz cz, x = .tuple #[.agg #[.slice a n c, .slice a' n' c'], .slice az nz cz, .int .i64 p.2.2] ∧ (p.2.2 = 0 → Rp w' S (.agg #[.slice a n c, .slice a' n' c']) p.1) ∧ Sl tInt w' (fun _ => True) (.slice az nz cz) p.2.1
theorem joinOr_of {f : FuncId} {args : Array Value} {W : World} {p : Repo × List Int × Int} (h : Calls Tryz.prog f args W (Ret W (RefJoin W.heap.size p))) : Calls Tryz.prog f args W (Ret W (JoinOr p (fun k => W.heap.size ≤ k))) :=
  h.mono fun _ _ ⟨x, he, hx, hb⟩ => by
    obtain ⟨y, z, rfl, hy, hz⟩ := hx
    obtain ⟨a1, n1, c1, a2, n2, c2, rfl⟩ := hy.shape'
    obtain ⟨a3, c3, rfl, _⟩ := hz.shape
    exact ⟨_, he, ⟨a1, n1, c1, a2, n2, c2, a3, _, c3, rfl, fun _ => hy, hz⟩, hb⟩
theorem gotFin {w wB W : World} {x0 x1 y0 y1 : Value} {R : Repo} {S : Blk} (hX : BoxAt w wB x0 x1) (h : Rp W (fun k => wB.heap.size ≤ k) (.agg #[y0, y1]) R) : Rp ((W.setCell ⟨w.heap.size + 1, 0, none⟩ y0).setCell ⟨w.heap.size + 1, 1, none⟩ y1) (fun k => S k ∨ w.heap.size ≤ k) (.agg #[y0, y1]) R :=
  (hX.rp h).more fun _ hk _ => .inr hk
end Go.Pch
end
