/- The law WireBack. -/
import Derived.Test.YtklgejafblocjaaWirM
namespace Go.Pch
open Go.RowKit Go.Proofs
set_option maxRecDepth 100000

/-- What comes behind the first half: what is read is written as it was. -/
theorem readP_zero (b : Bytes) : (readP b).2 = 0 ∨ ¬ (readP b).2 = 0 := by omega

set_option maxHeartbeats 4000000 in
theorem lawWireBack (v : Value) (r : Repo) (s : ByteArray) (w : World) (h : Rp w (fun _ => True) v r) (hs : s.size ≤ maxLen) :
    Calls Try.prog 7 #[v, .string s] w (Ret w fun x _ => x = .bool true) := by
  have hR := h
  obtain ⟨ac, n1, cc, ah, n2, ch, rfl⟩ := h.shape
  clear h
  obtain ⟨wA, hwA⟩ : ∃ wA, wA = w.alloc (.cells #[.slice ac n1 cc, .slice ah n2 ch] 43) := ⟨_, rfl⟩
  have bA : Below w.heap.size w wA := by rw [hwA]; exact (Below.refl _ _).alloc (Nat.le_refl _) _
  have sA : wA.heap.size = w.heap.size + 1 := by rw [hwA]; simp
  have KB : Hid (∀ W, Below wA.heap.size wA W → W.cell? ⟨w.heap.size, 0, none⟩ = some (.slice ac n1 cc) ∧ W.cell? ⟨w.heap.size, 1, none⟩ = some (.slice ah n2 ch)) := keepBack (by rw [hwA]; exact boxTwo w _ _ _)
  have HWA := keepBack hwA
  clear hwA
  have hA := hR.call bA
  obtain ⟨q0, q1⟩ := KB.out wA (Below.refl _ _)
  by_cases he : repoErr r = 0
  · have T := wireWrite _ r _ wA hA
    rw [show writeP r = (repoBy r, 0) from by rw [writeP, if_pos he]] at T
    have hsz := bl_size (repoBy r)
    by_cases hbig : 4096 < (repoBy r).length
    · generalize repoBy r = X at *
      go_enter Try.func7, Try.ntmps7
      go_wp2_with fail
      rw [← HWA.out]
      refine T.mono ?_; rintro e w1 ⟨_, rfl, rfl, b1⟩
      clear T q0 q1
      have T := wireRead s w1 hs
      have hw := fun h => write_read (b := s.data.toList) h
      generalize readP s.data.toList = Y at *
      obtain ⟨Y1, g⟩ := Y
      simp only at T hw
      by_cases hg : g = 0
      · subst hg
        have hw := hw rfl
        have T3 := fun v W (h : Rp W (fun _ => True) v Y1) => wireWrite v Y1 _ W h
        rw [hw] at T3
        simp only [bl_data] at T3
        clear hw
        go_wp2_with fail
        refine T.mono ?_; rintro e w5 ⟨_, rfl, ⟨v5, rfl, R5⟩, b5⟩
        clear T
        obtain ⟨a7, m7, c7, a8, m8, c8, rfl⟩ := R5.shape
        have b05 := b1.trans (b5.mono b1.size)
        obtain ⟨wY, hwY⟩ : ∃ wY, wY = w5.alloc (.cells #[.slice a7 m7 c7, .slice a8 m8 c8] 43) := ⟨_, rfl⟩
        have KY := boxTwo w5 (.slice a7 m7 c7) (.slice a8 m8 c8) 43 wY (by rw [← hwY]; exact Below.refl _ _)
        have bY : Below w5.heap.size w5 wY := by rw [hwY]; exact (Below.refl _ _).alloc (Nat.le_refl _) _
        have RY : Rp wY (fun _ => True) (.agg #[.slice a7 m7 c7, .slice a8 m8 c8]) Y1 := by
          obtain ⟨x, y, h1, h2, h3⟩ := R5.call bY
          exact ⟨x, y, h1, h2.any, h3.any⟩
        have HWY := keepBack hwY
        obtain ⟨y0, y1⟩ := KY
        rw [hwY] at y0 y1
        clear hwY
        have b0Y := b05.trans (bY.mono b05.size)
        go_wp2_with fail
        rw [← HWY.out]
        refine (T3 _ wY RY).mono ?_; rintro e w6 ⟨_, rfl, rfl, b6⟩
        clear T3 y0 y1
        have b06 := b0Y.trans (b6.mono b0Y.size)
        go_wp2_with fail
        refine (wireBegun w6).mono ?_; rintro e w7 ⟨_, rfl, rfl, b7⟩
        have b07 := b06.trans (b7.mono b06.size)
        go_wp2
        go_ret
        exact ⟨_, rfl, rfl, bA.trans (b07.mono (by omega))⟩
      · clear hw
        go_wp2_with fail
        refine T.mono ?_; rintro e w5 ⟨_, rfl, ⟨v5, rfl, R5⟩, b5⟩
        clear T
        obtain ⟨a7, m7, c7, a8, m8, c8, rfl⟩ := R5.shape
        have b05 := b1.trans (b5.mono b1.size)
        have bY : Below w5.heap.size w5 (w5.alloc (.cells #[.slice a7 m7 c7, .slice a8 m8 c8] 43)) := (Below.refl _ _).alloc (Nat.le_refl _) _
        have b0Y := b05.trans (bY.mono b05.size)
        go_wp2_with fail
        refine (wireBegun _).mono ?_; rintro e w7 ⟨_, rfl, rfl, b7⟩
        have b07 := b0Y.trans (b7.mono b0Y.size)
        go_wp2
        go_ret
        exact ⟨_, rfl, rfl, bA.trans (b07.mono (by omega))⟩
    · have T2 := fun W => wireReadFew (repoBy r) W (by omega)
      rw [read_written he hbig] at T2
      generalize repoBy r = X at *
      go_enter Try.func7, Try.ntmps7
      go_wp2_with fail
      rw [← HWA.out]
      refine T.mono ?_; rintro e w1 ⟨_, rfl, rfl, b1⟩
      clear T q0 q1
      have h1 := hA.call b1
      obtain ⟨q0, q1⟩ := KB.out w1 b1
      go_wp2_with fail
      refine (T2 w1).mono ?_; rintro e w2 ⟨_, rfl, ⟨v2, rfl, R2⟩, b2⟩
      clear T2 q0 q1
      obtain ⟨a5, m5, c5, a6, m6, c6, rfl⟩ := R2.shape
      obtain ⟨wX, hwX⟩ : ∃ wX, wX = w2.alloc (.cells #[.slice a5 m5 c5, .slice a6 m6 c6] 43) := ⟨_, rfl⟩
      have KX := boxTwo w2 (.slice a5 m5 c5) (.slice a6 m6 c6) 43 wX (by rw [← hwX]; exact Below.refl _ _)
      have bX : Below w2.heap.size w2 wX := by rw [hwX]; exact (Below.refl _ _).alloc (Nat.le_refl _) _
      have HWX := keepBack hwX
      clear hwX
      have b12 := b1.trans (b2.mono b1.size)
      have b0X := b12.trans (bX.mono b12.size)
      obtain ⟨q0, q1⟩ := KB.out wX b0X
      obtain ⟨x0, x1⟩ := KX
      rw [HWX.out] at q0 q1 x0 x1
      go_wp2_with fail
      rw [← HWX.out]
      refine (refSameRepos _ _ r r _ _ wX (R2.call bX) (h1.call (b2.trans (bX.mono b2.size)))).mono ?_; rintro e w3 ⟨_, rfl, rfl, b3⟩
      have hsm : (decide (r.1 = r.1) && decide (r.2 = r.2)) = true := by simp
      rw [hsm]
      clear hsm q0 q1 x0 x1
      have b03 := b0X.trans (b3.mono b0X.size)
      have T := wireRead s w3 hs
      have hw := fun h => write_read (b := s.data.toList) h
      generalize readP s.data.toList = Y at *
      obtain ⟨Y1, g⟩ := Y
      simp only at T hw
      by_cases hg : g = 0
      · subst hg
        have hw := hw rfl
        have T3 := fun v W (h : Rp W (fun _ => True) v Y1) => wireWrite v Y1 _ W h
        rw [hw] at T3
        simp only [bl_data] at T3
        clear hw
        go_wp2_with fail
        refine T.mono ?_; rintro e w5 ⟨_, rfl, ⟨v5, rfl, R5⟩, b5⟩
        clear T
        obtain ⟨a7, m7, c7, a8, m8, c8, rfl⟩ := R5.shape
        have b05 := b03.trans (b5.mono b03.size)
        obtain ⟨wY, hwY⟩ : ∃ wY, wY = w5.alloc (.cells #[.slice a7 m7 c7, .slice a8 m8 c8] 43) := ⟨_, rfl⟩
        have KY := boxTwo w5 (.slice a7 m7 c7) (.slice a8 m8 c8) 43 wY (by rw [← hwY]; exact Below.refl _ _)
        have bY : Below w5.heap.size w5 wY := by rw [hwY]; exact (Below.refl _ _).alloc (Nat.le_refl _) _
        have RY : Rp wY (fun _ => True) (.agg #[.slice a7 m7 c7, .slice a8 m8 c8]) Y1 := by
          obtain ⟨x, y, h1, h2, h3⟩ := R5.call bY
          exact ⟨x, y, h1, h2.any, h3.any⟩
        have HWY := keepBack hwY
        obtain ⟨y0, y1⟩ := KY
        rw [hwY] at y0 y1
        clear hwY
        have b0Y := b05.trans (bY.mono b05.size)
        go_wp2_with fail
        rw [← HWY.out]
        refine (T3 _ wY RY).mono ?_; rintro e w6 ⟨_, rfl, rfl, b6⟩
        clear T3 y0 y1
        have b06 := b0Y.trans (b6.mono b0Y.size)
        go_wp2_with fail
        refine (wireBegun w6).mono ?_; rintro e w7 ⟨_, rfl, rfl, b7⟩
        have b07 := b06.trans (b7.mono b06.size)
        go_wp2
        go_ret
        exact ⟨_, rfl, rfl, bA.trans (b07.mono (by omega))⟩
      · clear hw
        go_wp2_with fail
        refine T.mono ?_; rintro e w5 ⟨_, rfl, ⟨v5, rfl, R5⟩, b5⟩
        clear T
        obtain ⟨a7, m7, c7, a8, m8, c8, rfl⟩ := R5.shape
        have b05 := b03.trans (b5.mono b03.size)
        have bY : Below w5.heap.size w5 (w5.alloc (.cells #[.slice a7 m7 c7, .slice a8 m8 c8] 43)) := (Below.refl _ _).alloc (Nat.le_refl _) _
        have b0Y := b05.trans (bY.mono b05.size)
        go_wp2_with fail
        refine (wireBegun _).mono ?_; rintro e w7 ⟨_, rfl, rfl, b7⟩
        have b07 := b0Y.trans (b7.mono b0Y.size)
        go_wp2
        go_ret
        exact ⟨_, rfl, rfl, bA.trans (b07.mono (by omega))⟩
  · have T := wireWrite _ r _ wA hA
    rw [show writeP r = ([], repoErr r) from by rw [writeP, if_neg he]] at T
    rw [show bl [] = ByteArray.mk #[] from rfl] at T
    generalize repoErr r = E at *
    go_enter Try.func7, Try.ntmps7
    go_wp2_with fail
    rw [← HWA.out]
    refine T.mono ?_; rintro e w1 ⟨_, rfl, rfl, b1⟩
    clear T q0 q1
    have T := wireRead s w1 hs
    have hw := fun h => write_read (b := s.data.toList) h
    generalize readP s.data.toList = Y at *
    obtain ⟨Y1, g⟩ := Y
    simp only at T hw
    by_cases hg : g = 0
    · subst hg
      have hw := hw rfl
      have T3 := fun v W (h : Rp W (fun _ => True) v Y1) => wireWrite v Y1 _ W h
      rw [hw] at T3
      simp only [bl_data] at T3
      clear hw
      go_wp2_with fail
      refine T.mono ?_; rintro e w5 ⟨_, rfl, ⟨v5, rfl, R5⟩, b5⟩
      clear T
      obtain ⟨a7, m7, c7, a8, m8, c8, rfl⟩ := R5.shape
      have b05 := b1.trans (b5.mono b1.size)
      obtain ⟨wY, hwY⟩ : ∃ wY, wY = w5.alloc (.cells #[.slice a7 m7 c7, .slice a8 m8 c8] 43) := ⟨_, rfl⟩
      have KY := boxTwo w5 (.slice a7 m7 c7) (.slice a8 m8 c8) 43 wY (by rw [← hwY]; exact Below.refl _ _)
      have bY : Below w5.heap.size w5 wY := by rw [hwY]; exact (Below.refl _ _).alloc (Nat.le_refl _) _
      have RY : Rp wY (fun _ => True) (.agg #[.slice a7 m7 c7, .slice a8 m8 c8]) Y1 := by
        obtain ⟨x, y, h1, h2, h3⟩ := R5.call bY
        exact ⟨x, y, h1, h2.any, h3.any⟩
      have HWY := keepBack hwY
      obtain ⟨y0, y1⟩ := KY
      rw [hwY] at y0 y1
      clear hwY
      have b0Y := b05.trans (bY.mono b05.size)
      go_wp2_with fail
      rw [← HWY.out]
      refine (T3 _ wY RY).mono ?_; rintro e w6 ⟨_, rfl, rfl, b6⟩
      clear T3 y0 y1
      have b06 := b0Y.trans (b6.mono b0Y.size)
      go_wp2_with fail
      refine (wireBegun w6).mono ?_; rintro e w7 ⟨_, rfl, rfl, b7⟩
      have b07 := b06.trans (b7.mono b06.size)
      go_wp2
      go_ret
      exact ⟨_, rfl, rfl, bA.trans (b07.mono (by omega))⟩
    · clear hw
      go_wp2_with fail
      refine T.mono ?_; rintro e w5 ⟨_, rfl, ⟨v5, rfl, R5⟩, b5⟩
      clear T
      obtain ⟨a7, m7, c7, a8, m8, c8, rfl⟩ := R5.shape
      have b05 := b1.trans (b5.mono b1.size)
      have bY : Below w5.heap.size w5 (w5.alloc (.cells #[.slice a7 m7 c7, .slice a8 m8 c8] 43)) := (Below.refl _ _).alloc (Nat.le_refl _) _
      have b0Y := b05.trans (bY.mono b05.size)
      go_wp2_with fail
      refine (wireBegun _).mono ?_; rintro e w7 ⟨_, rfl, rfl, b7⟩
      have b07 := b0Y.trans (b7.mono b0Y.size)
      go_wp2
      go_ret
      exact ⟨_, rfl, rfl, bA.trans (b07.mono (by omega))⟩

end Go.Pch
