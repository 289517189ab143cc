/- The walks of seek.Range, and of the document's SeekOf and RangeOf. -/
import Derived.Test.YtdbecbjhgiljoaaFindA
import Derived.Test.YtdbecbjhgiljoaaTabB
namespace Go.Pch
open Go.RowKit Go.Proofs

theorem rangeP_ok {t : List (List (List Row))} {a b : Int} (ht : treeErr t = 0) (h : ¬ (a < 0 ∨ b < a ∨ 99 < b)) : rangeP t a b = (rangeL (flatL t) a b, 0) := by rw [rangeP, if_pos ht, if_neg h]
theorem rangeP_bad {t : List (List (List Row))} {a b : Int} (ht : treeErr t = 0) (h : a < 0 ∨ b < a ∨ 99 < b) : rangeP t a b = ([], 3) := by rw [rangeP, if_pos ht, if_pos h]
theorem rangeP_err {t : List (List (List Row))} {a b : Int} (ht : ¬ treeErr t = 0) : rangeP t a b = ([], treeErr t) := by rw [rangeP, if_neg ht]

set_option maxRecDepth 100000 in
set_option maxHeartbeats 1000000 in
theorem seekRange (v : Value) (t : List (List (List Row))) (a b : Int) (S : Blk) (w : World) (h : Sl tRow.slice.slice w S v t) (hl : (flatL t).length ≤ 2000000) :
    Calls Try.prog 45 #[v, .int .i64 a, .int .i64 b] w (Ret w fun r w' => ∃ x, r = .tuple #[x, .int .i64 (rangeP t a b).2] ∧ Sl tRow w' (fun k => w.heap.size ≤ k) x (rangeP t a b).1) := by
  by_cases he : treeErr t = 0
  · by_cases hbad : a < 0 ∨ b < a ∨ 99 < b
    · have HP := keepBack (rangeP_bad he hbad)
      rcases Int.lt_or_le a 0 with h1 | h1
      · clear hbad
        go_enter Try.func45, Try.ntmps45
        go_wp2_with fail
        refine (treeCheck v t S w h hl).mono ?_; rintro e w1 ⟨_, rfl, rfl, b1⟩
        rw [he]
        go_wp2
        go_ret2
        exact ⟨_, rfl, ⟨_, by rw [HP.out]; rfl, by rw [HP.out]; exact Sl.nil _ _ _⟩, b1⟩
      · rcases Int.lt_or_le b a with h2 | h2
        · clear hbad
          go_enter Try.func45, Try.ntmps45
          go_wp2_with fail
          refine (treeCheck v t S w h hl).mono ?_; rintro e w1 ⟨_, rfl, rfl, b1⟩
          rw [he]
          go_wp2
          go_ret2
          exact ⟨_, rfl, ⟨_, by rw [HP.out]; rfl, by rw [HP.out]; exact Sl.nil _ _ _⟩, b1⟩
        · have h3 : 99 < b := by omega
          clear hbad
          go_enter Try.func45, Try.ntmps45
          go_wp2_with fail
          refine (treeCheck v t S w h hl).mono ?_; rintro e w1 ⟨_, rfl, rfl, b1⟩
          rw [he]
          go_wp2
          go_ret2
          exact ⟨_, rfl, ⟨_, by rw [HP.out]; rfl, by rw [HP.out]; exact Sl.nil _ _ _⟩, b1⟩
    · have HP := keepBack (rangeP_ok he hbad)
      have g1 : 0 ≤ a := by omega
      have g2 : a ≤ b := by omega
      have g3 : b ≤ 99 := by omega
      clear hbad
      have hok := (treeErr_ok he).1
      have h40 := (ok_rise hok).1
      have hrise := (ok_rise hok).2
      obtain ⟨r1, r2, r3⟩ := rangeL_cut hrise g2
      have HP2 := HP.out
      rw [r3] at HP2
      have HQ := keepBack HP2
      clear HP HP2 r3
      have htf := fun w1 h => treeFlat v t S w1 h hl
      have hck := fun w1 h => treeCheck v t S w1 h hl
      generalize flatL t = l at *
      cases hb : hasB l b with
      | true =>
        rw [hb] at r1 r2 HQ
        simp only [if_true] at r1 r2 HQ
        obtain ⟨n1, hn1⟩ : ∃ n, seekN l a = n := ⟨_, rfl⟩
        obtain ⟨n2, hn2⟩ : ∃ n, seekN l b = n := ⟨_, rfl⟩
        have hk1 := fun v w h => rowsSeek v l a (fun _ => True) w h hrise (by omega)
        have hk2 := fun v w h => rowsSeek v l b (fun _ => True) w h hrise (by omega)
        rw [hn1] at hk1 r1 HQ
        rw [hn2] at hk2 r1 r2 HQ
        rw [hb] at hk2
        generalize hasB l a = ba at *
        clear hn1 hn2 hb
        go_enter Try.func45, Try.ntmps45
        go_wp2_with fail
        refine (hck w h).mono ?_; rintro e w1 ⟨_, rfl, rfl, b1⟩
        rw [he]
        have s1 := b1.size
        go_wp2_with fail
        refine (htf w1 (h.call b1)).mono ?_; rintro e w2 ⟨x2, rfl, h2, b2⟩
        have s2 := b2.size
        have b02 := b1.trans (b2.mono s1)
        go_wp2_with fail
        refine (hk1 x2 w2 h2.any).mono ?_; rintro e w3 ⟨_, rfl, rfl, b3⟩
        have s3 := b3.size
        go_wp2_with fail
        refine (hk2 x2 w3 (h2.call b3).any).mono ?_; rintro e w4 ⟨_, rfl, rfl, b4⟩
        have b24 := b3.trans (b4.mono s3)
        have s4 := b24.size
        obtain ⟨ap, cp, _, qc, hsc, hnc⟩ := (h2.call b24).cut aRow (n1 : Int) ((n2 : Int) + 1) n1 (n2 + 1) rfl (by omega) r1 r2
        go_wp2_with fail
        refine (cloneOwn _ _ _ w4 hsc (by simp; omega)).mono ?_; rintro e w5 ⟨x5, rfl, h5, b5⟩
        go_wp2
        go_ret2
        exact ⟨_, rfl, ⟨_, by rw [HQ.out]; rfl, by rw [HQ.out]; exact h5.sl (fun _ h => h.elim) (fun k hk => by omega)⟩, (b02.trans (b24.mono (by omega))).trans (b5.mono (by omega))⟩
      | false =>
        rw [hb] at r1 r2 HQ
        simp only [Bool.false_eq_true, if_false, Nat.add_zero] at r1 r2 HQ
        obtain ⟨n1, hn1⟩ : ∃ n, seekN l a = n := ⟨_, rfl⟩
        obtain ⟨n2, hn2⟩ : ∃ n, seekN l b = n := ⟨_, rfl⟩
        have hk1 := fun v w h => rowsSeek v l a (fun _ => True) w h hrise (by omega)
        have hk2 := fun v w h => rowsSeek v l b (fun _ => True) w h hrise (by omega)
        rw [hn1] at hk1 r1 HQ
        rw [hn2] at hk2 r1 r2 HQ
        rw [hb] at hk2
        generalize hasB l a = ba at *
        clear hn1 hn2 hb
        go_enter Try.func45, Try.ntmps45
        go_wp2_with fail
        refine (hck w h).mono ?_; rintro e w1 ⟨_, rfl, rfl, b1⟩
        rw [he]
        have s1 := b1.size
        go_wp2_with fail
        refine (htf w1 (h.call b1)).mono ?_; rintro e w2 ⟨x2, rfl, h2, b2⟩
        have s2 := b2.size
        have b02 := b1.trans (b2.mono s1)
        go_wp2_with fail
        refine (hk1 x2 w2 h2.any).mono ?_; rintro e w3 ⟨_, rfl, rfl, b3⟩
        have s3 := b3.size
        go_wp2_with fail
        refine (hk2 x2 w3 (h2.call b3).any).mono ?_; rintro e w4 ⟨_, rfl, rfl, b4⟩
        have b24 := b3.trans (b4.mono s3)
        have s4 := b24.size
        obtain ⟨ap, cp, _, qc, hsc, hnc⟩ := (h2.call b24).cut aRow (n1 : Int) (n2 : Int) n1 n2 rfl rfl r1 r2
        go_wp2_with fail
        refine (cloneOwn _ _ _ w4 hsc (by simp; omega)).mono ?_; rintro e w5 ⟨x5, rfl, h5, b5⟩
        go_wp2
        go_ret2
        exact ⟨_, rfl, ⟨_, by rw [HQ.out]; rfl, by rw [HQ.out]; exact h5.sl (fun _ h => h.elim) (fun k hk => by omega)⟩, (b02.trans (b24.mono (by omega))).trans (b5.mono (by omega))⟩
  · have he' : (treeErr t != 0) = true := by simp [he]
    have HP := keepBack (rangeP_err (a := a) (b := b) he)
    go_enter Try.func45, Try.ntmps45
    go_wp2_with fail
    refine (treeCheck v t S w h hl).mono ?_; rintro e w1 ⟨_, rfl, rfl, b1⟩
    go_wp2
    go_ret2
    exact ⟨_, rfl, ⟨_, by rw [HP.out]; rfl, by rw [HP.out]; exact Sl.nil _ _ _⟩, b1⟩

set_option maxHeartbeats 1000000 in
theorem refSeekOf (v : Value) (t : List (List (List Row))) (key : Int) (S : Blk) (w : World) (h : Sl tRow.slice.slice w S v t) (hl : (flatL t).length ≤ 2000000) :
    Calls Try.prog 43 #[v, .int .i64 key] w (Ret w fun r _ => r = .tuple #[.int .i64 (seekP t key).1, .int .i64 (seekP t key).2.1, .int .i64 (seekP t key).2.2]) := by
  obtain ⟨ao, cap, rfl, hcap, hmax, hnil⟩ := h.shape
  by_cases he : treeErr t = 0
  · cases hk : keyB key with
    | false =>
      have HP := keepBack (show seekP t key = (0, 0, 3) by rw [seekP, if_pos he, if_neg (by simp [hk])])
      go_enter Try.func43, Try.ntmps43
      go_wp2_with fail
      refine (refTreeError _ t S w h hl).mono ?_; rintro e w1 ⟨_, rfl, rfl, b1⟩
      rw [he]
      go_wp2_with fail
      refine (refIsKey_of key w1 hk).mono ?_; rintro e w' ⟨rfl, rfl⟩
      go_wp2
      go_ret3
      exact ⟨_, rfl, by rw [HP.out]; rfl, b1⟩
    | true =>
      have HP := keepBack (seekP_ok he hk)
      have hro := fun w1 h => refRowsOf (.slice ao t.length cap) t S w1 h hl
      have hT := fun w1 h => refTreeError (.slice ao t.length cap) t S w1 h hl
      have hok := (treeErr_ok he).1
      obtain ⟨l, hfl⟩ : ∃ l, flatL t = l := ⟨_, rfl⟩
      rw [hfl] at hro hok HP
      clear hl hfl
      have h40 := (ok_rise hok).1
      have HLK : Hid (∀ h : 0 < l.length, l[l.length - 1].1 = lastK l) := keepBack fun h => by
        unfold lastK
        rw [List.getLast?_eq_getElem?, List.getElem?_eq_getElem (by omega)]; rfl
      clear hok
      by_cases h0 : l = []
      · have HP2 : Hid (seekP t key = (-1, 0, 0)) := keepBack (by rw [HP.out, h0]; rfl)
        have hl0 : l.length = 0 := by rw [h0]; rfl
        have HV : Hid (valueOf l key = -1) := keepBack (by rw [h0]; rfl)
        clear h0
        go_enter Try.func43, Try.ntmps43
        go_wp2_with fail
        refine (hT w h).mono ?_; rintro e w1 ⟨_, rfl, rfl, b1⟩
        rw [he]
        have s1 := b1.size
        go_wp2_with fail
        refine (refIsKey_of key w1 hk).mono ?_; rintro e w' ⟨rfl, rfl⟩
        go_wp2_with fail
        refine (hro w1 (h.call b1)).mono ?_; rintro e w2 ⟨x2, rfl, h2, b2⟩
        have hrv := refValueOf x2 l key _ w2 h2
        rw [HV.out] at hrv
        obtain ⟨a2, c2, rfl, _, _, _⟩ := h2.shapeAt 0 hl0
        go_wp2_with fail
        refine hrv.mono ?_; rintro e w' ⟨rfl, rfl⟩
        go_wp2
        go_ret3
        exact ⟨_, rfl, by rw [HP2.out]; rfl, b1.trans (b2.mono s1)⟩
      · have hlp := List.length_pos_iff.2 h0
        have HK := keepBack (HLK.out hlp)
        by_cases hlast : key ≤ lastK l
        · have HP2 : Hid (seekP t key = (valueOf l key, (t.length : Int), 0)) := keepBack (by rw [HP.out, if_pos ⟨h0, hlast⟩])
          have hq : key ≤ l[l.length - 1].1 := by rw [HK.out]; exact hlast
          clear h0 hlast HLK
          go_enter Try.func43, Try.ntmps43
          go_wp2_with fail
          refine (hT w h).mono ?_; rintro e w1 ⟨_, rfl, rfl, b1⟩
          rw [he]
          have s1 := b1.size
          go_wp2_with fail
          refine (refIsKey_of key w1 hk).mono ?_; rintro e w' ⟨rfl, rfl⟩
          go_wp2_with fail
          refine (hro w1 (h.call b1)).mono ?_; rintro e w2 ⟨x2, rfl, h2, b2⟩
          have hrv := refValueOf x2 l key _ w2 h2
          obtain ⟨a2, c2, rfl, _, hm2, _⟩ := h2.shape
          unfold maxLen at hm2
          obtain ⟨b, o, hix, _, hbs, ok1, ok2, hr00, hr01⟩ := h2.idxRow aRow ((l.length : Int) - 1) (l.length - 1) (by omega) (by omega)
          generalize l[l.length - 1] = r at *
          go_wp2_with fail
          refine hrv.mono ?_; rintro e w' ⟨rfl, rfl⟩
          go_wp2
          go_ret3
          exact ⟨_, rfl, by rw [HP2.out]; rfl, b1.trans (b2.mono s1)⟩
        · have HP2 : Hid (seekP t key = (valueOf l key, 0, 0)) := keepBack (by rw [HP.out, if_neg (fun h => hlast h.2)])
          have hq : ¬ key ≤ l[l.length - 1].1 := by rw [HK.out]; exact hlast
          clear h0 hlast HLK
          go_enter Try.func43, Try.ntmps43
          go_wp2_with fail
          refine (hT w h).mono ?_; rintro e w1 ⟨_, rfl, rfl, b1⟩
          rw [he]
          have s1 := b1.size
          go_wp2_with fail
          refine (refIsKey_of key w1 hk).mono ?_; rintro e w' ⟨rfl, rfl⟩
          go_wp2_with fail
          refine (hro w1 (h.call b1)).mono ?_; rintro e w2 ⟨x2, rfl, h2, b2⟩
          have hrv := refValueOf x2 l key _ w2 h2
          obtain ⟨a2, c2, rfl, _, hm2, _⟩ := h2.shape
          unfold maxLen at hm2
          obtain ⟨b, o, hix, _, hbs, ok1, ok2, hr00, hr01⟩ := h2.idxRow aRow ((l.length : Int) - 1) (l.length - 1) (by omega) (by omega)
          generalize l[l.length - 1] = r at *
          go_wp2_with fail
          refine hrv.mono ?_; rintro e w' ⟨rfl, rfl⟩
          go_wp2
          go_ret3
          exact ⟨_, rfl, by rw [HP2.out]; rfl, b1.trans (b2.mono s1)⟩
  · have he' : (treeErr t != 0) = true := by simp [he]
    have HP := keepBack (show seekP t key = (0, 0, treeErr t) by rw [seekP, if_neg he])
    go_enter Try.func43, Try.ntmps43
    go_wp2_with fail
    refine (refTreeError _ t S w h hl).mono ?_; rintro e w1 ⟨_, rfl, rfl, b1⟩
    go_wp2
    go_ret3
    exact ⟨_, rfl, by rw [HP.out]; rfl, b1⟩

end Go.Pch
