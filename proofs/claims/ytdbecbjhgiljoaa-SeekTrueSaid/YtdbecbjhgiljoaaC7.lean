/- The walks of the laws on chunks. -/
import Derived.Test.YtdbecbjhgiljoaaC6
import Derived.Deep.RegionHeld3
namespace Go.Pch
open Go.RowKit Go.Proofs

set_option maxHeartbeats 400000 in
theorem lawChunkCuts (v : Value) (l : List Row) (n : Int) (w : World) (h : Sl tRow w (fun _ => True) v l) (_hn : i64ok n) :
    Calls Try.prog 3 #[v, .int .i64 n] w (Ret w fun r _ => r = .bool true) := by
  go_enter Try.func3, Try.ntmps3
  go_wp2_with fail
  refine (chunkCut v l n _ w h).mono ?_; rintro e w1 ⟨_, rfl, ⟨x1, rfl, h1⟩, b1⟩
  go_wp2_with fail
  refine (refCutOf v l n _ w1 (h.call b1)).mono ?_; rintro e w2 ⟨_, rfl, ⟨x2, rfl, h2⟩, b2⟩
  go_wp2_with fail
  refine (chunkBegun w2).mono ?_; rintro e w3 ⟨_, rfl, rfl, b3⟩
  have s1 := b1.size
  have s2 := b2.size
  go_wp2_with fail
  refine (refSameLevel x1 x2 _ _ _ _ w3 (h1.call (b2.trans (b3.mono (by omega)))) (h2.call b3)).mono ?_; rintro e w4 ⟨rfl, d4⟩
  go_wp2
  go_ret
  exact ⟨_, rfl, rfl, ((b1.trans (b2.mono (by omega))).trans (b3.mono (by omega))).trans (d4.below.mono (by have := b3.size; omega))⟩

/-- A struct's two cells, and what lay below, over a call. -/
theorem s3_call {W wx w3 : World} {k : Nat} {a b : Value} (h0 : wx.cell? ⟨k, 0, none⟩ = some a) (h1 : wx.cell? ⟨k, 1, none⟩ = some b) (h2 : Below W.heap.size W wx) (hb : Below wx.heap.size wx w3) :
    w3.cell? ⟨k, 0, none⟩ = some a ∧ w3.cell? ⟨k, 1, none⟩ = some b ∧ Below W.heap.size W w3 :=
  ⟨(hb.cell (p := ⟨k, 0, none⟩) (World.block_lt_of_cell? _ _ h0)).trans h0, (hb.cell (p := ⟨k, 1, none⟩) (World.block_lt_of_cell? _ _ h1)).trans h1, h2.trans (hb.mono h2.size)⟩

set_option maxRecDepth 100000 in
set_option maxHeartbeats 1000000 in
theorem lawChunkSums (v : Value) (l : List Row) (r : Row) (n : Int) (w : World) (h : Sl tRow w (fun _ => True) v l) (_hn : i64ok n) :
    Calls Try.prog 4 #[v, .agg #[.int .i64 r.1, .int .i64 r.2], .int .i64 n] w (Ret w fun r _ => r = .bool true) := by
  have hB0 := (Below.refl w.heap.size w).alloc (Nat.le_refl _) (.cells #[.int .i64 r.1, .int .i64 r.2] 31)
  go_enter Try.func4, Try.ntmps4
  go_wp2_with fail
  refine (chunkSum v l _ _ (h.call hB0)).mono ?_; rintro e w1 ⟨_, rfl, rfl, b1⟩
  have b01 := hB0.trans (b1.mono (by simp))
  go_wp2_with fail
  refine (refSumOf v l _ w1 (h.call b01)).mono ?_; rintro e w2 ⟨rfl, d2⟩
  have b02 := b01.trans (d2.below.mono b01.size)
  have hc0 : w2.cell? ⟨w.heap.size, 0, none⟩ = some (.int .i64 r.1) := by
    have := (d2.below.cell (p := ⟨w.heap.size, 0, none⟩) (by have := b1.size; simp at this ⊢; omega)).trans (b1.cell (p := ⟨w.heap.size, 0, none⟩) (by simp))
    rw [this, World.cell?_alloc_new]; rfl
  have hc1 : w2.cell? ⟨w.heap.size, 1, none⟩ = some (.int .i64 r.2) := by
    have := (d2.below.cell (p := ⟨w.heap.size, 1, none⟩) (by have := b1.size; simp at this ⊢; omega)).trans (b1.cell (p := ⟨w.heap.size, 1, none⟩) (by simp))
    rw [this, World.cell?_alloc_new]; rfl
  have hsz : w.heap.size < w2.heap.size := World.block_lt_of_cell? _ _ hc0
  clear hB0 b1 b01 d2
  go_wp2_with fail
  go_region_held3 (fun w' => w'.cell? ⟨w.heap.size, 0, none⟩ = some (.int .i64 r.1) ∧ w'.cell? ⟨w.heap.size, 1, none⟩ = some (.int .i64 r.2) ∧ Below w.heap.size w w') (first | (exact ⟨by assumption, by assumption, by assumption⟩) | (exact ⟨hc0, hc1, b02.drew⟩))
    (first
      | (go_at_call 17; refine (chunkBegun _).mono ?_; rintro e w3 ⟨_, rfl, rfl, b3⟩; obtain ⟨x0, x1, x2⟩ := s3_call (W := w) (wx := w2.drew) (k := w.heap.size) hc0 hc1 b02.drew b3)
      | (go_at_call 21; refine (chunkEnds r n _).mono ?_; rintro e w4 ⟨_, rfl, rfl, b4⟩; obtain ⟨y0, y1, y2⟩ := s3_call (W := w) (k := w.heap.size) (by assumption) (by assumption) (by assumption) b4)
      | (go_at_call 22; refine (refEndsOf r n _).mono ?_; rintro e w5 ⟨_, rfl, rfl, b5⟩; obtain ⟨z0, z1, z2⟩ := s3_call (W := w) (k := w.heap.size) (by assumption) (by assumption) (by assumption) b5))
  have hS : w5.cell? ⟨w.heap.size, 0, none⟩ = some (.int .i64 r.1) ∧ w5.cell? ⟨w.heap.size, 1, none⟩ = some (.int .i64 r.2) ∧ Below w.heap.size w w5 := by assumption
  go_wp2
  go_ret
  exact ⟨_, rfl, rfl, hS.2.2⟩

set_option maxRecDepth 100000 in
set_option maxHeartbeats 1000000 in
theorem lawChunkTrue (v : Value) (l : List Row) (n k : Int) (w : World) (h : Sl tRow w (fun _ => True) v l) (_hn : i64ok n) (hk : i64ok k) :
    Calls Try.prog 5 #[v, .int .i64 n, .int .i64 k] w (Ret w fun r _ => r = .bool true) := by
  by_cases he : (cutL l n).2 = 0
  · obtain ⟨X, hX⟩ : ∃ X, cutL l n = (X, 0) := ⟨(cutL l n).1, Prod.ext rfl he⟩
    have hh : rowsErr l = 0 ∧ levB n = true ∧ X = chunks n l := by
      unfold cutL at hX
      split at hX
      · rename_i h1
        split at hX
        · rename_i h2
          simp only [Prod.mk.injEq] at hX
          exact ⟨h1, h2, hX.1.symm⟩
        · simp at hX
      · rename_i h1
        simp only [Prod.mk.injEq] at hX
        exact absurd hX.2 h1
    obtain ⟨h1, h2, h3⟩ := hh
    have h40 := (ok_rise h1).1
    have hXl : X.length ≤ 40 := by rw [h3]; have := chunks_length n l; omega
    have HXs : Hid (∀ (i : Nat) (c : List Row), X[i]? = some c → 0 < c.length ∧ c.length ≤ 6 ∧ (i + 1 < X.length → 2 ≤ c.length)) := by rw [h3]; exact chunks_sizes
    have HXf : Hid (X.flatten = l) := by rw [h3]; exact chunks_flatten n l
    have HXd : Hid (∀ i, i ≤ X.length → cutL (l.drop (skipN X i)) n = (X.drop i, 0)) := by
      intro i hi
      rw [cutL, if_pos (ok_drop h1 _), if_pos h2, h3, skipN, chunks_drop n i l (by rw [← h3]; exact hi)]
    clear he h1 h2 h3
    have hfl := fun i => flatten_take_le X i
    rw [HXf.out] at hfl
    have HFL := keepBack hfl
    clear hfl
    go_enter Try.func5, Try.ntmps5
    go_wp2_with fail
    refine (chunkCut_of v l n _ w h hX).mono ?_; rintro e w1 ⟨_, rfl, ⟨x1, rfl, hx1⟩, b1⟩
    clear hX
    have s1 := b1.size
    obtain ⟨ax, cx, rfl, _, hcm, _⟩ := hx1.shape
    unfold maxLen at hcm
    go_wp2
    go_loopw [9, 10] (fun all i wr => ∃ j : Nat, j ≤ X.length ∧ i = .int .i64 j ∧ Below w1.heap.size w1 wr ∧ Own tRow 31 wr w1.heap.size (fun _ => False) all (X.take j).flatten) (fun _ i _ => X.length - (intOf i).toNat)
    case atStart => exact ⟨0, Nat.zero_le _, rfl, Below.refl _ _, .nil⟩
    case round =>
      obtain ⟨j, hj, rfl, hb, ho⟩ := hrel
      have hs := hb.size
      by_cases hlt : j < X.length
      · obtain ⟨ck, hck⟩ : ∃ ck, X[j]? = some ck := ⟨X[j], List.getElem?_eq_getElem hlt⟩
        obtain ⟨z1, z2, z3⟩ := HXs.out j ck hck
        obtain ⟨b, o, a2, c2, hix, _, hbs, hsk, hc2, hcm2, hc0⟩ := (hx1.call hb).idxSlAt aLev j j ck ck.length rfl hck rfl
        have hsucc := flatten_take_succ hck
        have hle := HFL.out j
        have HSU := keepBack hsucc
        have HZ := keepBack z3
        clear hck hsucc z3
        have hn2 := hsk.noAddr
        have hz0 : ((ck.length : Int) == 0) = false := by simp; intro e; simp [e] at z1
        by_cases h2 : ck.length < 2
        · have hlast : X.length ≤ j + 1 := by
            rcases Nat.lt_or_ge (j + 1) X.length with hh | hh
            · have := HZ.out hh; omega
            · exact hh
          go_wp2_with (at_builtin; refine wpList_grow rfl (.tmp 60) (.tmp 64) rfl aRow rfl ho rfl rfl (Src.row (D' := fun _ => False) hsk.src) hn2 (fun _ h => h.elim) (by omega) (by omega) ?_)
          intro v2 w2 ho2 hg2
          have hb2 := hb.grown hg2 (by omega) (fun g hg => (ho.block g hg).1)
          go_wp2
          go_roundw
          case rel => exact ⟨j + 1, by omega, by go_num, hb2, by rw [HSU.out]; exact ho2⟩
          case measure => simp [intOf]; omega
        · have h2' : 2 ≤ ck.length := by omega
          go_wp2_with (at_builtin; refine wpList_grow rfl (.tmp 60) (.tmp 64) rfl aRow rfl ho rfl rfl (Src.row (D' := fun _ => False) hsk.src) hn2 (fun _ h => h.elim) (by omega) (by omega) ?_)
          intro v2 w2 ho2 hg2
          have hb2 := hb.grown hg2 (by omega) (fun g hg => (ho.block g hg).1)
          go_wp2
          go_roundw
          case rel => exact ⟨j + 1, by omega, by go_num, hb2, by rw [HSU.out]; exact ho2⟩
          case measure => simp [intOf]; omega
      · obtain rfl : j = X.length := by omega
        rw [List.take_length, HXf.out] at ho
        have hall := ho.sl (D := fun k => w1.heap.size ≤ k) (fun _ h => h.elim) (fun _ h => h)
        go_wp2_with fail
        refine (refSameRows_of (c := true) u9 v l l _ _ wr hall ((h.call b1).call hb) (by simp)).mono ?_; rintro e w3 ⟨rfl, d3⟩
        have b3 := hb.trans (d3.below.mono hs)
        have s3 := b3.size
        by_cases hX0 : X.length = 0
        · have hz0 : ((X.length : Int) == 0) = true := by simp [hX0]
          clear hX0
          go_wp2_with fail
          refine (chunkBegun w3).mono ?_; rintro e w4 ⟨_, rfl, rfl, b4⟩
          go_wp2
          go_ret
          exact ⟨_, rfl, rfl, (b1.trans (b3.mono s1)).trans (b4.mono (by omega))⟩
        · have hz0 : ((X.length : Int) == 0) = false := by simp; intro e; simp [e] at hX0
          have hXp : 0 < X.length := by omega
          obtain ⟨c0, c1⟩ := choose_bounds (c := k) (n := (X.length : Int)) (by omega)
          obtain ⟨at', hat⟩ : ∃ a : Nat, chooseL k (X.length : Int) = a := ⟨(chooseL k (X.length : Int)).toNat, by omega⟩
          rw [hat] at c0 c1
          have hlt' : at' < X.length := by omega
          go_wp2_with fail
          refine (lawChoose k (X.length : Int) w3 hk (by omega) (by omega)).mono ?_; rintro e w' ⟨rfl, rfl⟩
          rw [hat]
          clear hat c0 c1
          go_wp2_with fail
          go_loopw [12, 13] (fun sk i wr => ∃ j : Nat, j ≤ at' ∧ i = .int .i64 j ∧ Drawn w3 wr ∧ sk = .int .i64 (skipN X j : Nat)) (fun _ i _ => at' - (intOf i).toNat)
          case atStart => exact ⟨0, Nat.zero_le _, rfl, .refl _, rfl⟩
          case round =>
            obtain ⟨j, hj, rfl, hd, rfl⟩ := hrel
            have hle : skipN X j ≤ l.length := HFL.out j
            by_cases hlt : j < at'
            · obtain ⟨ck, hck⟩ : ∃ ck, X[j]? = some ck := ⟨X[j], List.getElem?_eq_getElem (by omega)⟩
              obtain ⟨z1, z2, z3⟩ := HXs.out j ck hck
              obtain ⟨b, o, a2, c2, hix, _, hbs, hsk, hc2, hcm2, hc0⟩ := ((hx1.call b3).call hd.below).idxSlAt aLev j j ck ck.length rfl hck rfl
              have HSU := keepBack (flatten_take_succ hck)
              clear hck z3
              go_wp2
              go_roundw
              case rel => exact ⟨j + 1, by omega, by go_num, hd, by unfold skipN; rw [HSU.out, List.length_append]; go_num⟩
              case measure => simp [intOf]; omega
            · obtain rfl : j = at' := by omega
              have hb4 := (b1.trans (b3.mono s1)).trans (hd.below.mono (by omega))
              obtain ⟨a5, c5, q1, q2, hsl, _⟩ := (h.call hb4).cutFrom aRow (skipN X j : Nat) (skipN X j) rfl (by omega)
              go_wp2_with fail
              refine (chunkCut_of _ _ n _ _ hsl (HXd.out j (by omega))).mono ?_; rintro e w5 ⟨_, rfl, ⟨y, rfl, hy⟩, b5⟩
              have s5 := b5.size
              go_wp2_with fail
              refine (chunkBegun w5).mono ?_; rintro e w6 ⟨_, rfl, rfl, b6⟩
              have hb36 := (d3.below)
              obtain ⟨a7, c7, r1, r2, hsx, _⟩ := (((hx1.call b3).call (hd.below)).call (b5.trans (b6.mono s5))).cutFrom aLev (j : Int) j rfl (by omega)
              go_wp2_with fail
              refine (refSameLevel _ _ _ _ _ _ w6 hsx (hy.call b6)).mono ?_; rintro e w7 ⟨rfl, d7⟩
              go_wp2
              go_ret
              exact ⟨_, rfl, by simp, ((hb4.trans (b5.mono hb4.size)).trans (b6.mono (by have := hb4.size; omega))).trans (d7.below.mono (by have := hb4.size; have := b6.size; omega))⟩
  · have he' : ((cutL l n).2 != 0) = true := by simp [he]
    go_enter Try.func5, Try.ntmps5
    go_wp2_with fail
    refine (chunkCut v l n _ w h).mono ?_; rintro e w1 ⟨_, rfl, ⟨x1, rfl, hx1⟩, b1⟩
    go_wp2_with fail
    refine (chunkBegun w1).mono ?_; rintro e w2 ⟨_, rfl, rfl, b2⟩
    go_wp2
    go_ret
    exact ⟨_, rfl, rfl, b1.trans (b2.mono b1.size)⟩

end Go.Pch
