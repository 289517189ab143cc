/- The walks of seek.Find and seek.Range. -/
import Derived.Test.YtdbecbjhgiljoaaTreeG
import Derived.Test.YtdbecbjhgiljoaaSetA
import Derived.Test.YtdbecbjhgiljoaaFindP
namespace Go.Pch
open Go.RowKit Go.Proofs

theorem seekP_ok {t : List (List (List Row))} {key : Int} (ht : treeErr t = 0) (hk : keyB key = true) : seekP t key = (valueOf (flatL t) key, if flatL t ≠ [] ∧ key ≤ lastK (flatL t) then (t.length : Int) else 0, 0) := by
  rw [seekP, if_pos ht, if_pos hk]

set_option maxRecDepth 100000 in
set_option maxHeartbeats 2000000 in
theorem seekFind (v : Value) (t : List (List (List Row))) (key : Int) (S : Blk) (w : World) (h : Sl tRow.slice.slice w S v t) (hl : (flatL t).length ≤ 2000000) :
    Calls Try.prog 42 #[v, .int .i64 key] w (Ret w fun r _ => r = .tuple #[.int .i64 (seekP t key).1, .int .i64 (seekP t key).2.1, .int .i64 (seekP t key).2.2]) := by
  by_cases he : treeErr t = 0
  · cases hk : keyB key with
    | false =>
      have HP := keepBack (show seekP t key = (0, 0, 3) by rw [seekP, if_pos he, if_neg (by simp [hk])])
      go_enter Try.func42, Try.ntmps42
      go_wp2_with fail
      refine (treeCheck v t S w h hl).mono ?_; rintro e w1 ⟨_, rfl, rfl, b1⟩
      rw [he]
      go_wp2_with fail
      refine (rowsKey_of key w1 hk).mono ?_; rintro e w' ⟨rfl, rfl⟩
      go_wp2
      go_ret3
      exact ⟨_, rfl, by rw [HP.out]; rfl, b1⟩
    | true =>
      have HP := keepBack (seekP_ok he hk)
      have hv := h.old
      obtain ⟨ao, cap, rfl, hcap, hmax, hnil⟩ := h.shape
      unfold maxLen at hmax
      by_cases h0 : t = []
      · have HP2 : Hid (seekP t key = (-1, 0, 0)) := keepBack (by rw [HP.out, h0]; rfl)
        have HL0 : Hid (t.length = 0) := keepBack (by rw [h0]; rfl)
        clear h0 HP
        go_enter Try.func42, Try.ntmps42
        go_wp2_with fail
        refine (treeCheck _ t S w h hl).mono ?_; rintro e w1 ⟨_, rfl, rfl, b1⟩
        rw [he]
        go_wp2_with fail
        refine (rowsKey_of key w1 hk).mono ?_; rintro e w' ⟨rfl, rfl⟩
        have hl0 := HL0.out
        go_wp2
        go_loop [9] (fun n => n = .int .i64 (-1)) (fun _ => 0)
        case atStart => first | exact rfl | (rw [hl0]; rfl)
        case round =>
          subst hrel
          go_wp2
          go_ret3
          exact ⟨_, rfl, by rw [HP2.out]; rfl, b1⟩
      · have hpos := List.length_pos_iff.2 h0
        have HT := keepBack (stands_top he h0 key)
        have HST := keepBack (fun n a => stands_at (n := n) (at' := a) he (key := key))
        obtain ⟨L, hL⟩ : ∃ L : Nat, t.length - 1 = L := ⟨_, rfl⟩
        rw [hL] at HT
        have hL2 : ((t.length : Int) - 1) = (L : Int) := by omega
        have hLt : L < t.length := by omega
        clear h0 hL
        go_enter Try.func42, Try.ntmps42
        go_wp2_with fail
        refine (treeCheck _ t S w h hl).mono ?_; rintro e w1 ⟨_, rfl, rfl, b1⟩
        rw [he]
        have s1 := b1.size
        go_wp2_with fail
        refine (rowsKey_of key w1 hk).mono ?_; rintro e w' ⟨rfl, rfl⟩
        go_wp2
        go_loopw [8, 9] (fun a n wr => ∃ i j : Nat, i < t.length ∧ j ≤ 1000000 ∧ a = .int .i64 j ∧ n = .int .i64 i ∧ Below w.heap.size w wr ∧ Hid (Stands t key i j)) (fun _ n _ => (intOf n).toNat + 1)
        case atStart => exact ⟨L, 0, hLt, by omega, rfl, by first | rfl | rw [hL2], b1, HT⟩
        case round =>
          obtain ⟨i, j, hi, hj, rfl, rfl, hb, HS⟩ := hrel
          have hs := hb.size
          obtain ⟨X, c, hX, hc, hc0, hcr, hXr, hX40, hfull, hnf⟩ := HST.out i j HS.out
          have hc40 := (ok_rise hcr).1
          have hcrise := (ok_rise hcr).2
          have hXlen := (ok_rise hXr).1
          have hjX := (List.getElem?_eq_some_iff.1 hc).1
          obtain ⟨p1, q1, aX, cX, ix1, _, hp1, hsX, hcX, hmX, cl1⟩ := hv.idxSlAt aTree i i X X.length rfl hX rfl
          obtain ⟨p2, q2, aC, cC, ix2, _, hp2, hsC, hcC, hmC, cl2⟩ := hsX.idxSlAt aLev j j c c.length rfl hc rfl
          have cl1' := (hb.cell (p := ⟨p1, q1, none⟩) hp1).trans cl1
          have cl2' := (hb.cell (p := ⟨p2, q2, none⟩) hp2).trans cl2
          have hsk := rowsSeek _ c key _ wr (hsC.call hb) hcrise (by omega)
          have HV := keepBack (valueOf_has (k := key) hcrise)
          have HVN := keepBack (valueOf_hasnt (k := key) hcrise)
          obtain ⟨k, hk'⟩ : ∃ k, seekN c key = k := ⟨_, rfl⟩
          rw [hk'] at hsk hfull hnf HV
          have hkle : k ≤ c.length := by rw [← hk']; exact seekN_le c key
          have HFULL := keepBack hfull
          have HNF := keepBack hnf
          unfold maxLen at hmX hmC
          clear hX hc hc0 hfull hnf hk' hcr hXr hcrise
          go_wp2_with fail
          refine hsk.mono ?_; rintro e w2 ⟨_, rfl, rfl, b2⟩
          have hb2 := hb.trans (b2.mono hs)
          have hs2 := hb2.size
          by_cases hkc : k = c.length
          · obtain ⟨x1, x2⟩ := HFULL.out hkc
            have HP2 : Hid (seekP t key = (-1, 0, 0)) := keepBack (by rw [HP.out, x1, if_neg x2])
            have hq : ((k : Int) == (c.length : Int)) = true := by simp [hkc]
            clear x1 x2 hkc
            go_wp2
            go_ret3
            exact ⟨_, rfl, by rw [HP2.out]; rfl, hb2⟩
          · obtain ⟨x1, x2, x3, x4⟩ := HNF.out hkc
            have hq : ((k : Int) == (c.length : Int)) = false := by simp; omega
            have hklt : k < c.length := by omega
            have X2 := keepBack x2
            have X3 := keepBack x3
            have X4 := keepBack x4
            have HP2 : Hid (seekP t key = (valueOf (flatL t) key, (t.length : Int), 0)) := keepBack (by rw [HP.out, if_pos x1])
            clear x1 x2 x3 x4 hkc
            by_cases hi0 : i = 0
            · have hqi : ((i : Int) == 0) = true := by simp [hi0]
              have HVal := keepBack (X3.out hi0)
              cases hb0 : hasB c key with
              | true =>
                obtain ⟨r, hr1, hr2, hr3⟩ := HV.out hb0
                obtain ⟨b, o, hix, _, hbs, ok1, ok2, hr00, hr01⟩ := hsC.idxRow aRow k k rfl hklt
                rw [(List.getElem?_eq_some_iff.1 hr1).2] at hr00 hr01
                have hcell := (hb2.cell (p := ⟨b, o + 1, none⟩) hbs).trans hr01
                have HR : Hid (valueOf (flatL t) key = r.2) := keepBack (by rw [HVal.out, hr3])
                clear hr1 hr2 hr3 hi0
                go_wp2
                go_ret3
                exact ⟨_, rfl, by rw [HP2.out, HR.out]; rfl, hb2⟩
              | false =>
                have HR : Hid (valueOf (flatL t) key = -1) := keepBack (by rw [HVal.out, HVN.out hb0])
                clear hi0
                go_wp2
                go_ret3
                exact ⟨_, rfl, by rw [HP2.out, HR.out]; rfl, hb2⟩
            · have hqi : ((i : Int) == 0) = false := by simp; omega
              have HS2 := keepBack (X4.out (by omega))
              have hip : 0 < i := by omega
              have hjle : skipN X j + k ≤ 1000000 := by
                have := flatten_take_le X j
                unfold skipN
                omega
              clear hi0
              obtain ⟨av, cv, _, qT, hsT, _⟩ := hsX.cutTo aLev (j : Int) j rfl (by omega)
              have hTl : (X.take j).length = j := by rw [List.length_take]; omega
              generalize hbb : hasB c key = bb
              obtain ⟨wo, rfl⟩ : ∃ wo : World, wo = w2 := ⟨_, rfl⟩
              have cl1'' := (b2.cell (p := ⟨p1, q1, none⟩) (by show p1 < wr.heap.size; omega)).trans cl1'
              go_wp2
              go_loop [13, 74] (fun s i => ∃ m : Nat, m ≤ j ∧ i = .int .i64 m ∧ s = .int .i64 (skipN X m)) (fun _ i => j - (intOf i).toNat)
              case atStart => exact ⟨0, Nat.zero_le _, rfl, rfl⟩
              case round =>
                obtain ⟨m, hm, rfl, rfl⟩ := hrel
                by_cases hlt : m < j
                · obtain ⟨ck, hck⟩ : ∃ ck, X[m]? = some ck := ⟨X[m], List.getElem?_eq_getElem (by omega)⟩
                  have hckT : (X.take j)[m]? = some ck := by rw [List.getElem?_take, if_pos hlt]; exact hck
                  obtain ⟨b3, o3, a3, c3, hix3, _, hbs3, hsk3, hc3, hcm3, hc03⟩ := hsT.idxSlAt aLev m m ck ck.length rfl hckT rfl
                  have hcell3 := (hb2.cell (p := ⟨b3, o3, none⟩) hbs3).trans hc03
                  have hn : skipN X (m + 1) = skipN X m + ck.length := by rw [skipN, flatten_take_succ hck, List.length_append]; rfl
                  have hle : skipN X (m + 1) ≤ 1000000 := by have := flatten_take_le X (m + 1); unfold skipN; omega
                  rw [hn] at hle
                  have HN := keepBack hn
                  clear hn hck hckT
                  generalize skipN X m = sm at *
                  go_wp2
                  go_round
                  case rel => exact ⟨m + 1, by omega, by go_num, by rw [HN.out]; go_num⟩
                  case measure => simp [intOf]; omega
                · obtain rfl : m = j := by omega
                  generalize skipN X m = sm at *
                  go_wp2
                  go_roundw
                  case rel => exact ⟨i - 1, sm + k, by omega, hjle, by go_num, by rw [show ((i - 1 : Nat) : Int) = (i : Int) - 1 by omega], hb2, HS2⟩
                  case measure => simp [intOf]; omega
  · have he' : (treeErr t != 0) = true := by simp [he]
    have HP := keepBack (show seekP t key = (0, 0, treeErr t) by rw [seekP, if_neg he])
    go_enter Try.func42, Try.ntmps42
    go_wp2_with fail
    refine (treeCheck v t S w h hl).mono ?_; rintro e w1 ⟨_, rfl, rfl, b1⟩
    go_wp2
    go_ret3
    exact ⟨_, rfl, by rw [HP.out]; rfl, b1⟩

end Go.Pch
