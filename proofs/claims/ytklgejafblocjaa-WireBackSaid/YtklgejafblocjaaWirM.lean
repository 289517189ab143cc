/- The law WireWrites. -/
import Derived.Test.YtklgejafblocjaaWirL
namespace Go.Pch
open Go.RowKit Go.Proofs
set_option maxRecDepth 100000
set_option linter.unusedSimpArgs false

theorem refRepoFromS (s : ByteArray) (w : World) (hs : s.data.toList.length ≤ 4096) : Calls Try.prog 26 #[.string s] w (Ret w fun x W => ∃ v, x = .tuple #[v, .bool (fromP s.data.toList).2] ∧ Rp W (fun k => w.heap.size ≤ k) v (fromP s.data.toList).1) := by
  have := refRepoFrom s.data.toList w hs
  rwa [bl_data] at this
theorem Rp.shape {w : World} {S : Blk} {v : Value} {r : Repo} (h : Rp w S v r) : ∃ a1 n1 c1 a2 n2 c2, v = .agg #[.slice a1 n1 c1, .slice a2 n2 c2] := by
  obtain ⟨x, y, rfl, h1, h2⟩ := h
  obtain ⟨a1, c1, rfl, _⟩ := h1.shape
  obtain ⟨a2, c2, rfl, _⟩ := h2.shape
  exact ⟨_, _, _, _, _, _, rfl⟩
theorem rpNil (w : World) (S : Blk) : Rp w S (.agg #[.slice none 0 0, .slice none 0 0]) ([], []) := ⟨_, _, rfl, Sl.nil _ _ _, Sl.nil _ _ _⟩
/-- The cells of a box that has just been laid. -/
theorem boxTwo (w : World) (x y : Value) (t : TypeId) : ∀ W, Below (w.alloc (.cells #[x, y] t)).heap.size (w.alloc (.cells #[x, y] t)) W → W.cell? ⟨w.heap.size, 0, none⟩ = some x ∧ W.cell? ⟨w.heap.size, 1, none⟩ = some y := fun W hW => by
  have h := (hW.block w.heap.size (by simp)).trans (heap_alloc_new w (.cells #[x, y] t))
  exact ⟨by rw [World.cell?, h]; rfl, by rw [World.cell?, h]; rfl⟩

set_option maxHeartbeats 4000000 in
theorem lawWireWrites (v : Value) (r : Repo) (s : ByteArray) (w : World) (h : Rp w (fun _ => True) v r) (hs : s.size ≤ maxLen) :
    Calls Try.prog 6 #[v, .string s] w (Ret w fun x _ => x = .bool true) := by
  have hR := h
  obtain ⟨ac, n1, cc, ah, n2, ch, rfl⟩ := h.shape
  clear h
  obtain ⟨wA, hwA⟩ : ∃ wA, wA = w.alloc (.cells #[.slice ac n1 cc, .slice ah n2 ch] 43) := ⟨_, rfl⟩
  have bA : Below w.heap.size w wA := by rw [hwA]; exact (Below.refl _ _).alloc (Nat.le_refl _) _
  have sA : wA.heap.size = w.heap.size + 1 := by rw [hwA]; simp
  have KB : Hid (∀ W, Below wA.heap.size wA W → W.cell? ⟨w.heap.size, 0, none⟩ = some (.slice ac n1 cc) ∧ W.cell? ⟨w.heap.size, 1, none⟩ = some (.slice ah n2 ch)) := keepBack (by rw [hwA]; exact boxTwo w _ _ _)
  have HWA := keepBack hwA
  clear hwA
  have hA := hR.call bA
  obtain ⟨q0, q1⟩ := KB.out wA (Below.refl _ _)
  have hl : s.data.toList.length = s.size := Array.length_toList
  have hsz : s.size = s.data.toList.length := hl.symm
  by_cases he : repoErr r = 0
  · have T := wireWrite _ r _ wA hA
    rw [show writeP r = (repoBy r, 0) from by rw [writeP, if_pos he]] at T
    have T1 := fun W (hW : Rp W (fun _ => True) (.agg #[.slice ac n1 cc, .slice ah n2 ch]) r) => refRepoError_of _ r _ W hW he
    have T2 := fun W (hW : Rp W (fun _ => True) (.agg #[.slice ac n1 cc, .slice ah n2 ch]) r) => refRepoBytes _ r _ W hW he
    clear he
    generalize repoBy r = X at *
    go_enter Try.func6, Try.ntmps6
    go_wp2_with fail
    rw [← HWA.out]
    refine T.mono ?_; rintro e w1 ⟨_, rfl, rfl, b1⟩
    clear T
    have h1 := hA.call b1
    clear q0 q1
    obtain ⟨q0, q1⟩ := KB.out w1 b1
    go_wp2_with fail
    refine (T1 w1 h1).mono ?_; rintro e w2 ⟨_, rfl, rfl, b2⟩
    have b02 := b1.trans (b2.mono b1.size)
    have h2 := h1.call b2
    clear q0 q1
    obtain ⟨q0, q1⟩ := KB.out w2 b02
    go_wp2_with fail
    refine (T2 w2 h2).mono ?_; rintro e w3 ⟨_, rfl, rfl, b3⟩
    have b03 := b02.trans (b3.mono b02.size)
    clear T1 T2 q0 q1
    by_cases hbig : 4096 < s.data.toList.length
    · have hP : readP s.data.toList = (([], []), 2) := by rw [readP, if_pos hbig]
      have T := wireRead s w3 hs
      rw [hP] at T
      have hbig' : 4096 < s.size := by omega
      clear hP hsz hl hbig
      go_wp2_with fail
      refine T.mono ?_; rintro e w5 ⟨_, rfl, ⟨v5, rfl, R5⟩, b5⟩
      clear T
      obtain ⟨a5, m5, c5, a6, m6, c6, rfl⟩ := R5.shape
      have b05 := b03.trans (b5.mono b03.size)
      obtain ⟨wX, hwX⟩ : ∃ wX, wX = w5.alloc (.cells #[.slice a5 m5 c5, .slice a6 m6 c6] 43) := ⟨_, rfl⟩
      have K5 : Hid (∀ W, Below wX.heap.size wX W → W.cell? ⟨w5.heap.size, 0, none⟩ = some (.slice a5 m5 c5) ∧ W.cell? ⟨w5.heap.size, 1, none⟩ = some (.slice a6 m6 c6)) := keepBack (by rw [hwX]; exact boxTwo w5 _ _ _)
      have bX : Below w5.heap.size w5 wX := by rw [hwX]; exact (Below.refl _ _).alloc (Nat.le_refl _) _
      have HWX := keepBack hwX
      clear hwX
      go_wp2_with fail
      rw [← HWX.out]
      refine (wireBegun wX).mono ?_; rintro e w6 ⟨_, rfl, rfl, b6⟩
      obtain ⟨p0, p1⟩ := K5.out w6 b6
      go_wp2_with fail
      refine (refSameRepos _ _ ([], []) ([], []) _ (fun _ => True) w6 ((R5.call bX).call b6) (rpNil _ _)).mono ?_; rintro e w8 ⟨_, rfl, rfl, b8⟩
      have bE := (bA.trans (b05.mono (by omega))).trans ((bX.mono (by have := b05.size; omega)).trans ((b6.mono (by have := b05.size; have := bX.size; omega)).trans (b8.mono (by have := b05.size; have := bX.size; have := b6.size; omega))))
      go_wp2
      go_ret
      exact ⟨_, rfl, by simp, bE⟩
    · have hP := read_from hbig
      have T := wireRead s w3 hs
      have T2 := fun W => refRepoFromS s W (by omega)
      rw [hP] at T
      have hbig' : ¬ 4096 < s.size := by omega
      clear hP hsz hl hbig
      generalize fromP s.data.toList = Y at *
      obtain ⟨Y1, is⟩ := Y
      cases is
      · simp only [Bool.false_eq_true, if_false, if_true] at T T2
        go_wp2_with fail
        refine T.mono ?_; rintro e w5 ⟨_, rfl, ⟨v5, rfl, R5⟩, b5⟩
        clear T
        obtain ⟨a5, m5, c5, a6, m6, c6, rfl⟩ := R5.shape
        have b05 := b03.trans (b5.mono b03.size)
        obtain ⟨wX, hwX⟩ : ∃ wX, wX = w5.alloc (.cells #[.slice a5 m5 c5, .slice a6 m6 c6] 43) := ⟨_, rfl⟩
        have K5 : Hid (∀ W, Below wX.heap.size wX W → W.cell? ⟨w5.heap.size, 0, none⟩ = some (.slice a5 m5 c5) ∧ W.cell? ⟨w5.heap.size, 1, none⟩ = some (.slice a6 m6 c6)) := keepBack (by rw [hwX]; exact boxTwo w5 _ _ _)
        have bX : Below w5.heap.size w5 wX := by rw [hwX]; exact (Below.refl _ _).alloc (Nat.le_refl _) _
        have zX : wX.heap.size = w5.heap.size + 1 := by rw [hwX]; simp
        have HWX := keepBack hwX
        clear hwX
        go_wp2_with fail
        rw [← HWX.out]
        refine (T2 wX).mono ?_; rintro e w6 ⟨_, rfl, ⟨v6, rfl, R6⟩, b6⟩
        clear T2
        obtain ⟨a7, m7, c7, a8, m8, c8, rfl⟩ := R6.shape
        obtain ⟨wY, hwY⟩ : ∃ wY, wY = w6.alloc (.cells #[.slice a7 m7 c7, .slice a8 m8 c8] 43) := ⟨_, rfl⟩
        have K6 : Hid (∀ W, Below wY.heap.size wY W → W.cell? ⟨w6.heap.size, 0, none⟩ = some (.slice a7 m7 c7) ∧ W.cell? ⟨w6.heap.size, 1, none⟩ = some (.slice a8 m8 c8)) := keepBack (by rw [hwY]; exact boxTwo w6 _ _ _)
        have bY : Below w6.heap.size w6 wY := by rw [hwY]; exact (Below.refl _ _).alloc (Nat.le_refl _) _
        have bXY := b6.trans (bY.mono b6.size)
        have RX := (R5.call bX).call bXY
        have RY := R6.call bY
        have b0Y := (bA.trans (b05.mono (by omega))).trans ((bX.mono (by have := b05.size; omega)).trans (bXY.mono (by have := b05.size; have := bX.size; omega)))
        have HWY := keepBack hwY
        clear hwY
        go_wp2_with fail
        rw [← HWY.out]
        refine (wireBegun wY).mono ?_; rintro e w7 ⟨_, rfl, rfl, b7⟩
        obtain ⟨p0, p1⟩ := K5.out w7 (bXY.trans (b7.mono bXY.size))
        obtain ⟨y0, y1⟩ := K6.out w7 b7
        go_wp2_with fail
        refine (refSameRepos _ _ Y1 Y1 _ _ w7 (RX.call b7) (RY.call b7)).mono ?_; rintro e w8 ⟨_, rfl, rfl, b8⟩
        have bE := b0Y.trans ((b7.mono (by have := b0Y.size; omega)).trans (b8.mono (by have := b0Y.size; have := b7.size; omega)))
        go_wp2
        go_ret
        exact ⟨_, rfl, by simp, bE⟩
      · simp only [Bool.false_eq_true, if_false, if_true] at T T2
        go_wp2_with fail
        refine T.mono ?_; rintro e w5 ⟨_, rfl, ⟨v5, rfl, R5⟩, b5⟩
        clear T
        obtain ⟨a5, m5, c5, a6, m6, c6, rfl⟩ := R5.shape
        have b05 := b03.trans (b5.mono b03.size)
        obtain ⟨wX, hwX⟩ : ∃ wX, wX = w5.alloc (.cells #[.slice a5 m5 c5, .slice a6 m6 c6] 43) := ⟨_, rfl⟩
        have K5 : Hid (∀ W, Below wX.heap.size wX W → W.cell? ⟨w5.heap.size, 0, none⟩ = some (.slice a5 m5 c5) ∧ W.cell? ⟨w5.heap.size, 1, none⟩ = some (.slice a6 m6 c6)) := keepBack (by rw [hwX]; exact boxTwo w5 _ _ _)
        have bX : Below w5.heap.size w5 wX := by rw [hwX]; exact (Below.refl _ _).alloc (Nat.le_refl _) _
        have zX : wX.heap.size = w5.heap.size + 1 := by rw [hwX]; simp
        have HWX := keepBack hwX
        clear hwX
        go_wp2_with fail
        rw [← HWX.out]
        refine (T2 wX).mono ?_; rintro e w6 ⟨_, rfl, ⟨v6, rfl, R6⟩, b6⟩
        clear T2
        obtain ⟨a7, m7, c7, a8, m8, c8, rfl⟩ := R6.shape
        obtain ⟨wY, hwY⟩ : ∃ wY, wY = w6.alloc (.cells #[.slice a7 m7 c7, .slice a8 m8 c8] 43) := ⟨_, rfl⟩
        have K6 : Hid (∀ W, Below wY.heap.size wY W → W.cell? ⟨w6.heap.size, 0, none⟩ = some (.slice a7 m7 c7) ∧ W.cell? ⟨w6.heap.size, 1, none⟩ = some (.slice a8 m8 c8)) := keepBack (by rw [hwY]; exact boxTwo w6 _ _ _)
        have bY : Below w6.heap.size w6 wY := by rw [hwY]; exact (Below.refl _ _).alloc (Nat.le_refl _) _
        have bXY := b6.trans (bY.mono b6.size)
        have RX := (R5.call bX).call bXY
        have RY := R6.call bY
        have b0Y := (bA.trans (b05.mono (by omega))).trans ((bX.mono (by have := b05.size; omega)).trans (bXY.mono (by have := b05.size; have := bX.size; omega)))
        have HWY := keepBack hwY
        clear hwY
        go_wp2_with fail
        rw [← HWY.out]
        refine (wireBegun wY).mono ?_; rintro e w7 ⟨_, rfl, rfl, b7⟩
        obtain ⟨p0, p1⟩ := K5.out w7 (bXY.trans (b7.mono bXY.size))
        obtain ⟨y0, y1⟩ := K6.out w7 b7
        go_wp2_with fail
        refine (refSameRepos _ _ Y1 Y1 _ _ w7 (RX.call b7) (RY.call b7)).mono ?_; rintro e w8 ⟨_, rfl, rfl, b8⟩
        have bE := b0Y.trans ((b7.mono (by have := b0Y.size; omega)).trans (b8.mono (by have := b0Y.size; have := b7.size; omega)))
        go_wp2
        go_ret
        exact ⟨_, rfl, by simp, bE⟩
  · have T := wireWrite _ r _ wA hA
    rw [show writeP r = ([], repoErr r) from by rw [writeP, if_neg he]] at T
    rw [show bl [] = ByteArray.mk #[] from rfl] at T
    have T1 := fun W (hW : Rp W (fun _ => True) (.agg #[.slice ac n1 cc, .slice ah n2 ch]) r) => refRepoError _ r _ W hW
    generalize repoErr r = E at *
    go_enter Try.func6, Try.ntmps6
    go_wp2_with fail
    rw [← HWA.out]
    refine T.mono ?_; rintro e w1 ⟨_, rfl, rfl, b1⟩
    clear T
    have h1 := hA.call b1
    clear q0 q1
    obtain ⟨q0, q1⟩ := KB.out w1 b1
    go_wp2_with fail
    refine (T1 w1 h1).mono ?_; rintro e w3 ⟨_, rfl, rfl, b2⟩
    have b03 := b1.trans (b2.mono b1.size)
    clear T1 q0 q1
    by_cases hbig : 4096 < s.data.toList.length
    · have hP : readP s.data.toList = (([], []), 2) := by rw [readP, if_pos hbig]
      have T := wireRead s w3 hs
      rw [hP] at T
      have hbig' : 4096 < s.size := by omega
      clear hP hsz hl hbig
      go_wp2_with fail
      refine T.mono ?_; rintro e w5 ⟨_, rfl, ⟨v5, rfl, R5⟩, b5⟩
      clear T
      obtain ⟨a5, m5, c5, a6, m6, c6, rfl⟩ := R5.shape
      have b05 := b03.trans (b5.mono b03.size)
      obtain ⟨wX, hwX⟩ : ∃ wX, wX = w5.alloc (.cells #[.slice a5 m5 c5, .slice a6 m6 c6] 43) := ⟨_, rfl⟩
      have K5 : Hid (∀ W, Below wX.heap.size wX W → W.cell? ⟨w5.heap.size, 0, none⟩ = some (.slice a5 m5 c5) ∧ W.cell? ⟨w5.heap.size, 1, none⟩ = some (.slice a6 m6 c6)) := keepBack (by rw [hwX]; exact boxTwo w5 _ _ _)
      have bX : Below w5.heap.size w5 wX := by rw [hwX]; exact (Below.refl _ _).alloc (Nat.le_refl _) _
      have HWX := keepBack hwX
      clear hwX
      go_wp2_with fail
      rw [← HWX.out]
      refine (wireBegun wX).mono ?_; rintro e w6 ⟨_, rfl, rfl, b6⟩
      obtain ⟨p0, p1⟩ := K5.out w6 b6
      go_wp2_with fail
      refine (refSameRepos _ _ ([], []) ([], []) _ (fun _ => True) w6 ((R5.call bX).call b6) (rpNil _ _)).mono ?_; rintro e w8 ⟨_, rfl, rfl, b8⟩
      have bE := (bA.trans (b05.mono (by omega))).trans ((bX.mono (by have := b05.size; omega)).trans ((b6.mono (by have := b05.size; have := bX.size; omega)).trans (b8.mono (by have := b05.size; have := bX.size; have := b6.size; omega))))
      go_wp2
      go_ret
      exact ⟨_, rfl, by simp, bE⟩
    · have hP := read_from hbig
      have T := wireRead s w3 hs
      have T2 := fun W => refRepoFromS s W (by omega)
      rw [hP] at T
      have hbig' : ¬ 4096 < s.size := by omega
      clear hP hsz hl hbig
      generalize fromP s.data.toList = Y at *
      obtain ⟨Y1, is⟩ := Y
      cases is
      · simp only [Bool.false_eq_true, if_false, if_true] at T T2
        go_wp2_with fail
        refine T.mono ?_; rintro e w5 ⟨_, rfl, ⟨v5, rfl, R5⟩, b5⟩
        clear T
        obtain ⟨a5, m5, c5, a6, m6, c6, rfl⟩ := R5.shape
        have b05 := b03.trans (b5.mono b03.size)
        obtain ⟨wX, hwX⟩ : ∃ wX, wX = w5.alloc (.cells #[.slice a5 m5 c5, .slice a6 m6 c6] 43) := ⟨_, rfl⟩
        have K5 : Hid (∀ W, Below wX.heap.size wX W → W.cell? ⟨w5.heap.size, 0, none⟩ = some (.slice a5 m5 c5) ∧ W.cell? ⟨w5.heap.size, 1, none⟩ = some (.slice a6 m6 c6)) := keepBack (by rw [hwX]; exact boxTwo w5 _ _ _)
        have bX : Below w5.heap.size w5 wX := by rw [hwX]; exact (Below.refl _ _).alloc (Nat.le_refl _) _
        have zX : wX.heap.size = w5.heap.size + 1 := by rw [hwX]; simp
        have HWX := keepBack hwX
        clear hwX
        go_wp2_with fail
        rw [← HWX.out]
        refine (T2 wX).mono ?_; rintro e w6 ⟨_, rfl, ⟨v6, rfl, R6⟩, b6⟩
        clear T2
        obtain ⟨a7, m7, c7, a8, m8, c8, rfl⟩ := R6.shape
        obtain ⟨wY, hwY⟩ : ∃ wY, wY = w6.alloc (.cells #[.slice a7 m7 c7, .slice a8 m8 c8] 43) := ⟨_, rfl⟩
        have K6 : Hid (∀ W, Below wY.heap.size wY W → W.cell? ⟨w6.heap.size, 0, none⟩ = some (.slice a7 m7 c7) ∧ W.cell? ⟨w6.heap.size, 1, none⟩ = some (.slice a8 m8 c8)) := keepBack (by rw [hwY]; exact boxTwo w6 _ _ _)
        have bY : Below w6.heap.size w6 wY := by rw [hwY]; exact (Below.refl _ _).alloc (Nat.le_refl _) _
        have bXY := b6.trans (bY.mono b6.size)
        have RX := (R5.call bX).call bXY
        have RY := R6.call bY
        have b0Y := (bA.trans (b05.mono (by omega))).trans ((bX.mono (by have := b05.size; omega)).trans (bXY.mono (by have := b05.size; have := bX.size; omega)))
        have HWY := keepBack hwY
        clear hwY
        go_wp2_with fail
        rw [← HWY.out]
        refine (wireBegun wY).mono ?_; rintro e w7 ⟨_, rfl, rfl, b7⟩
        obtain ⟨p0, p1⟩ := K5.out w7 (bXY.trans (b7.mono bXY.size))
        obtain ⟨y0, y1⟩ := K6.out w7 b7
        go_wp2_with fail
        refine (refSameRepos _ _ Y1 Y1 _ _ w7 (RX.call b7) (RY.call b7)).mono ?_; rintro e w8 ⟨_, rfl, rfl, b8⟩
        have bE := b0Y.trans ((b7.mono (by have := b0Y.size; omega)).trans (b8.mono (by have := b0Y.size; have := b7.size; omega)))
        go_wp2
        go_ret
        exact ⟨_, rfl, by simp, bE⟩
      · simp only [Bool.false_eq_true, if_false, if_true] at T T2
        go_wp2_with fail
        refine T.mono ?_; rintro e w5 ⟨_, rfl, ⟨v5, rfl, R5⟩, b5⟩
        clear T
        obtain ⟨a5, m5, c5, a6, m6, c6, rfl⟩ := R5.shape
        have b05 := b03.trans (b5.mono b03.size)
        obtain ⟨wX, hwX⟩ : ∃ wX, wX = w5.alloc (.cells #[.slice a5 m5 c5, .slice a6 m6 c6] 43) := ⟨_, rfl⟩
        have K5 : Hid (∀ W, Below wX.heap.size wX W → W.cell? ⟨w5.heap.size, 0, none⟩ = some (.slice a5 m5 c5) ∧ W.cell? ⟨w5.heap.size, 1, none⟩ = some (.slice a6 m6 c6)) := keepBack (by rw [hwX]; exact boxTwo w5 _ _ _)
        have bX : Below w5.heap.size w5 wX := by rw [hwX]; exact (Below.refl _ _).alloc (Nat.le_refl _) _
        have zX : wX.heap.size = w5.heap.size + 1 := by rw [hwX]; simp
        have HWX := keepBack hwX
        clear hwX
        go_wp2_with fail
        rw [← HWX.out]
        refine (T2 wX).mono ?_; rintro e w6 ⟨_, rfl, ⟨v6, rfl, R6⟩, b6⟩
        clear T2
        obtain ⟨a7, m7, c7, a8, m8, c8, rfl⟩ := R6.shape
        obtain ⟨wY, hwY⟩ : ∃ wY, wY = w6.alloc (.cells #[.slice a7 m7 c7, .slice a8 m8 c8] 43) := ⟨_, rfl⟩
        have K6 : Hid (∀ W, Below wY.heap.size wY W → W.cell? ⟨w6.heap.size, 0, none⟩ = some (.slice a7 m7 c7) ∧ W.cell? ⟨w6.heap.size, 1, none⟩ = some (.slice a8 m8 c8)) := keepBack (by rw [hwY]; exact boxTwo w6 _ _ _)
        have bY : Below w6.heap.size w6 wY := by rw [hwY]; exact (Below.refl _ _).alloc (Nat.le_refl _) _
        have bXY := b6.trans (bY.mono b6.size)
        have RX := (R5.call bX).call bXY
        have RY := R6.call bY
        have b0Y := (bA.trans (b05.mono (by omega))).trans ((bX.mono (by have := b05.size; omega)).trans (bXY.mono (by have := b05.size; have := bX.size; omega)))
        have HWY := keepBack hwY
        clear hwY
        go_wp2_with fail
        rw [← HWY.out]
        refine (wireBegun wY).mono ?_; rintro e w7 ⟨_, rfl, rfl, b7⟩
        obtain ⟨p0, p1⟩ := K5.out w7 (bXY.trans (b7.mono bXY.size))
        obtain ⟨y0, y1⟩ := K6.out w7 b7
        go_wp2_with fail
        refine (refSameRepos _ _ Y1 Y1 _ _ w7 (RX.call b7) (RY.call b7)).mono ?_; rintro e w8 ⟨_, rfl, rfl, b8⟩
        have bE := b0Y.trans ((b7.mono (by have := b0Y.size; omega)).trans (b8.mono (by have := b0Y.size; have := b7.size; omega)))
        go_wp2
        go_ret
        exact ⟨_, rfl, by simp, bE⟩

end Go.Pch
