/- The walks on bases: what the document says of them; dag.Bases. What must be in any case, of commits. -/
import Derived.Test.YtjjkdpjjaijmbaaGreatDoorDg18
import Derived.Test.YtjjkdpjjaijmbaaGreatDoorDg13
section
namespace Go.Pch
open Go.RowKit Go.Proofs
def isB (l : List Commit) (a b k i : Nat) : Bool := ab l a k && ab l b k && !((List.range i).any fun j => decide (k < j) && (ab l a j && ab l b j) && ab l j k)
theorem isB_begin (l : List Commit) (a b k : Nat) : isB l a b k (k + 1) = (ab l a k && ab l b k) := by
  have : ((List.range (k + 1)).any fun j => decide (k < j) && (ab l a j && ab l b j) && ab l j k) = false := by
    rw [List.any_eq_false]
    intro j hj
    have : ¬ k < j := by simp at hj; omega
    simp [this]
  rw [isB, this]; simp
theorem isB_next (l : List Commit) (a b k i : Nat) (h : k < i) : isB l a b k (i + 1) = (isB l a b k i && !((ab l a i && ab l b i) && ab l i k)) := by
  rw [isB, List.range_succ, List.any_append, isB]
  simp [h, Bool.not_or, Bool.and_assoc]
theorem isB_end (l : List Commit) (a b k : Nat) : isB l a b k l.length = baseB l a b k := rfl
set_option maxRecDepth 100000 in
set_option maxHeartbeats 2000000 in
theorem refBasesOf {l : List Commit} (hok : DagOk l) (a b : Nat) (ha : a < l.length) (hb : b < l.length) (v : Value) (S : Blk) (w : World) (h : Sl tCommit w S v l) :
    Calls Tryz.prog 84 #[v, .int .i64 a, .int .i64 b] w (Ret w fun r w' => Sl tInt w' (fun k => w.heap.size ≤ k) r (basesL l a b)) := by
  have hv := h
  have h14 := hok.1
  obtain ⟨ao, cap, rfl, hcap, hmax, hnil⟩ := h.shape
  unfold maxLen at hmax
  go_enter Tryz.func84, Tryz.ntmps84
  go_wp2_with fail
  refine (refAboveOf hok a ha _ _ _ hv).mono ?_; rintro e w1 ⟨_, rfl, ⟨gx, x1, x2, rfl, X, hX, fX⟩, b1⟩
  go_wp2_with fail
  refine (refAboveOf hok b hb _ _ _ (hv.call b1)).mono ?_; rintro e w2 ⟨_, rfl, ⟨gy, y1, y2, rfl, Y, hY, fY⟩, b2⟩
  have hX2 := hX.call b2
  have b02 := b1.trans (b2.mono b1.size)
  have s1 := b1.size
  have s2 := b2.size
  have FX := keepBack fX
  have FY := keepBack fY
  clear fX fY hX b1 b2
  go_wp2_with fail
  go_loopw [9, 10] (fun out i wr => ∃ (k : Nat), k ≤ l.length ∧ i = .int .i64 k ∧ Below w2.heap.size w2 wr ∧ Own tInt 3 wr w2.heap.size (fun _ => False) out (basesTo l a b k)) (fun _ i _ => l.length - (intOf i).toNat)
  case atStart => exact ⟨0, Nat.zero_le _, rfl, Below.refl _ _, .nil⟩
  case round =>
    obtain ⟨k, hk, rfl, hbr, ho⟩ := hrel
    have hXr := hX2.call hbr
    have hYr := hY.call hbr
    have HL := keepBack (basesTo_length l a b k)
    have HX := keepBack (basesTo_next l a b k)
    generalize hG : basesTo l a b k = G at ho HL HX
    have HG := keepBack hG
    clear hG
    by_cases hlt : k < l.length
    · have hixx := idxBools gx l.length k hlt
      have hixy := idxBools gy l.length k hlt
      have hcx := (hXr k _ (FX.out.2 k hlt)).1
      have hcy := (hYr k _ (FY.out.2 k hlt)).1
      go_wp2_with fail
      all_goals
        go_loopw [11, 12] (fun s i wr' => ∃ (j : Nat), j ≤ l.length ∧ k + 1 ≤ j ∧ i = .int .i64 j ∧ s = .bool (isB l a b k j) ∧ Below w2.heap.size w2 wr' ∧ Own tInt 3 wr' w2.heap.size (fun _ => False) u9 G) (fun _ i _ => l.length - (intOf i).toNat)
        case atStart => exact ⟨k + 1, by omega, by omega, by go_num, by rw [isB_begin]; simp [*], hbr, ho⟩
        case round =>
          obtain ⟨j, hj, hkj, rfl, rfl, hb3, ho3⟩ := hrel
          have hX3 := hX2.call hb3
          have hY3 := hY.call hb3
          by_cases hlt2 : j < l.length
          · have hixx := idxBools gx l.length j hlt2
            have hixy := idxBools gy l.length j hlt2
            have hcx := (hX3 j _ (FX.out.2 j hlt2)).1
            have hcy := (hY3 j _ (FY.out.2 j hlt2)).1
            have HN := keepBack (isB_next l a b k j (by omega))
            cases hA : ab l a j with
            | false =>
              rw [hA] at hcx
              go_wp2_with fail
              go_roundw
              case rel => exact ⟨j + 1, by omega, by omega, by go_num, by rw [HN.out, hA]; simp, hb3, ho3⟩
              case measure => simp [intOf]; omega
            | true =>
              rw [hA] at hcx
              cases hB : ab l b j with
              | false =>
                rw [hB] at hcy
                go_wp2_with fail
                go_roundw
                case rel => exact ⟨j + 1, by omega, by omega, by go_num, by rw [HN.out, hB]; simp, hb3, ho3⟩
                case measure => simp [intOf]; omega
              | true =>
                rw [hB] at hcy
                go_wp2_with fail
                refine (refAboveOf hok j hlt2 _ _ _ (hv.call (b02.trans (hb3.mono b02.size)))).mono ?_; rintro e w5 ⟨_, rfl, ⟨gz, z1, z2, rfl, Z, hZ, fZ⟩, b5⟩
                have hixz := idxBools gz l.length k hlt
                have hcz := (hZ k _ (fZ.2 k hlt)).1
                have hb5 := hb3.trans (b5.mono hb3.size)
                have ho5 := ho3.call b5
                cases hC : ab l j k with
                | true =>
                  rw [hC] at hcz
                  go_wp2_with fail
                  go_roundw
                  case rel => exact ⟨j + 1, by omega, by omega, by go_num, by rw [HN.out, hA, hB, hC]; simp, hb5, ho5⟩
                  case measure => simp [intOf]; omega
                | false =>
                  rw [hC] at hcz
                  go_wp2_with fail
                  go_roundw
                  case rel => exact ⟨j + 1, by omega, by omega, by go_num, by rw [HN.out, hC]; simp, hb5, ho5⟩
                  case measure => simp [intOf]; omega
          · obtain rfl : j = l.length := by omega
            rw [isB_end]
            have hs3 := hb3.size
            cases hbk : baseB l a b k with
            | false =>
              go_wp2_with fail
              go_roundw
              case rel => exact ⟨k + 1, by omega, by go_num, hb3, by rw [HX.out, hbk]; simpa using ho3⟩
              case measure => simp [intOf]; omega
            | true =>
              have hgl := HL.out
              have hone : tInt.rd wr (fun _ => False) [.int .i64 (k : Int)] (k : Int) := ⟨rfl, by constructor <;> omega⟩
              have hsrc := fun t => Src.one (w := wr) (D := fun _ => False) hone t
              go_wp2_with (at_builtin; refine wpList_grow rfl (.tmp 62) (.tmp 64) rfl aInt rfl (ho3.alloc _) rfl (by simp) (hsrc _) (by simp) (fun _ h => h.elim) (by simp; omega) (by simp; omega) ?_)
              intro v2 w6 ho6 hg6
              have hb6 : Below w2.heap.size w2 w6 := (hb3.alloc hs3 _).grown hg6 (by simp; omega) (fun g hg => (ho3.block g hg).1)
              go_wp2
              go_roundw
              case rel => exact ⟨k + 1, by omega, by go_num, hb6, by rw [HX.out, hbk]; exact ho6⟩
              case measure => simp [intOf]; omega
    · obtain rfl : k = l.length := by omega
      go_wp2
      go_ret
      have hsl := ho.sl (D := fun k => w.heap.size ≤ k) (fun _ h => h.elim) (fun k h => by omega)
      rw [← HG.out] at hsl
      exact ⟨_, rfl, hsl, b02.trans (hbr.mono b02.size)⟩
end Go.Pch
end

section
namespace Go.Pch
open Go.RowKit Go.Proofs
theorem litOne (w : World) (n : Int) (hn : i64ok n) : Sl tInt (w.alloc (.cells #[.int .i64 n] 3)) (fun k => w.heap.size ≤ k) (.slice (some ⟨w.heap.size, 0, none⟩) 1 1) [n] :=
  (Own.lit (E := tInt) (e := 3) (B := w.heap.size) (C := fun _ => False) (Each.one [.int .i64 n] n ⟨rfl, hn⟩) rfl (by simp [maxLen]) (Nat.le_refl _)).sl (fun _ h => h.elim) (fun _ h => h)
end Go.Pch
end
