/- The walks of package dag: who is above. -/
import Derived.Test.YtklgejafblocjaaDagV
namespace Go.Pch
open Go.RowKit Go.Proofs

set_option maxHeartbeats 400000 in
theorem dagHas (m k : Nat) (hm : m < 16384) (hk : k < 14) (w : World) : Calls Try.prog 35 #[.int .u64 m, .int .i64 k] w fun e w' => e = .returned (.bool (m.testBit k)) ∧ w = w' := by
  go_enter Try.func35, Try.ntmps35
  go_wp2
  go_ret
  have hd : ((m : Int) / 2 ^ k) = ((m / 2 ^ k : Nat) : Int) := by simp
  have hlt : m / 2 ^ k < 16384 := Nat.lt_of_le_of_lt (Nat.div_le_self _ _) hm
  have ha := u64_and_nat (m / 2 ^ k) 1 (by omega) (by omega)
  rw [Nat.and_one_is_mod] at ha
  refine ⟨ret_bool ?_, rfl⟩
  rw [hd, show (1 : Int) = ((1 : Nat) : Int) from rfl, ha, Nat.testBit_eq_decide_div_mod_eq]
  rw [Bool.eq_iff_iff]; simp; omega

theorem aBool : At Try.prog tBool 23 4 := At.mk' Try.underlying23 (z := .bool false) (size := 1) (bytes := 1) (by kernel_rfl) rfl rfl (by decide)
theorem infoBool : (Try.prog.info? 4).map (fun i => (i.zero, i.size, i.bytes)) = some (some (.bool false), 1, 1) := by kernel_rfl
theorem runMakeBools (n : Nat) (h : n ≤ 1000) (W : World) : Sem.run Try.prog (Instr.makeSlice 23 (.int .i64 n) (.int .i64 n)) W = .ok (.slice (some ⟨W.heap.size, 0, none⟩) n n) (W.alloc (.cells (madeCells #[.bool false] n) 4)) := by
  obtain ⟨i, h1, h2, h3, h4⟩ := info_parts infoBool
  have := run_make (P := Try.prog) W 23 4 i _ Try.underlying23 h1 h2 .i64 .i64 n n (by omega) (by omega) (by rw [h4]; omega) (by omega)
  simpa [h3, Value.cells] using this

theorem idxBools (g n k : Nat) (hk : k < n) (W : World) : Sem.run Try.prog (Instr.indexAt 23 (.slice (some ⟨g, 0, none⟩) n n) (.int .i64 k)) W = .ok (.pointer (some ⟨g, k, none⟩)) W := by
  have := run_idx (b := g) (o := 0) (cap := n) aBool (k : Int) k rfl hk W
  simpa [tBool, Ty.flat] using this

/-- Filled up to k. -/
def FillTo (bl : List Bool) (n : Nat) (f : Nat → Bool) (k : Nat) : Prop := bl.length = n ∧ ∀ i, i < n → bl[i]? = some (decide (i < k) && f i)
theorem FillTo.none (n : Nat) (f : Nat → Bool) : FillTo (List.replicate n false) n f 0 := ⟨by simp, fun i hi => by simp [hi]⟩
theorem FillTo.set {bl : List Bool} {n k : Nat} {f : Nat → Bool} (h : FillTo bl n f k) (hk : k < n) : FillTo (bl.set k (f k)) n f (k + 1) := by
  refine ⟨by simp [h.1], fun i hi => ?_⟩
  rw [List.getElem?_set]
  split
  · rename_i e
    subst e
    simp [h.1, hk]
  · rename_i e
    rw [h.2 i hi]
    congr 2
    rw [Bool.eq_iff_iff]; simp; omega
theorem FillTo.all {bl : List Bool} {n : Nat} {f : Nat → Bool} (h : FillTo bl n f n) : bl = (List.range n).map f := by
  apply List.ext_getElem?
  intro i
  by_cases hi : i < n
  · rw [h.2 i hi]; simp [hi]
  · rw [List.getElem?_eq_none (by rw [h.1]; omega), List.getElem?_eq_none (by simp; omega)]

def aboveP (l : List Commit) (n : Int) : List Bool × Int := if thereErr l n = 0 then (aboveL l n.toNat, 0) else ([], thereErr l n)
theorem thereAll_one (l : List Commit) (n : Int) : thereAll l [n] = thereErr l n := by
  rw [thereAll, thereErr]
  split
  · rfl
  · have : [n].all (inB l.length) = (decide (0 ≤ n) && decide (n < l.length)) := by
      rw [Bool.eq_iff_iff]; simp [inB]; omega
    rw [this]
theorem there_ok {l : List Commit} {n : Int} (h : thereErr l n = 0) : DagOk l ∧ ∃ k : Nat, n = k ∧ k < l.length := by
  unfold thereErr at h
  split at h
  · rename_i h1; exact absurd h h1
  · rename_i h1
    split at h
    · rename_i h2
      simp only [Bool.and_eq_true, decide_eq_true_eq] at h2
      exact ⟨dag_ok (by simpa using h1), n.toNat, by omega, by omega⟩
    · cases h

set_option maxRecDepth 100000 in
set_option maxHeartbeats 1000000 in
theorem dagAbove (v : Value) (l : List Commit) (n : Int) (S : Blk) (w : World) (h : Sl tCommit w S v l) (hn : i64ok n) :
    Calls Try.prog 9 #[v, .int .i64 n] w (Ret w fun r w' => ∃ x, r = .tuple #[x, .int .i64 (aboveP l n).2] ∧ Sl tBool w' (fun k => w.heap.size ≤ k) x (aboveP l n).1) := by
  have hv := h
  obtain ⟨ao, cap, rfl, hcap, hmax, hnil⟩ := h.shape
  unfold maxLen at hmax
  by_cases he : thereErr l n = 0
  · obtain ⟨hok, q, rfl, hq⟩ := there_ok he
    have h14 := hok.1
    go_enter Try.func9, Try.ntmps9
    go_wp2_with fail
    have hsI : Sl tInt (w.alloc (.cells #[.int .i64 q] 3)) (fun _ => True) (.slice (some ⟨w.heap.size, 0, none⟩) [(q : Int)].length 1) [(q : Int)] :=
      (Own.lit (E := tInt) (e := 3) (B := 0) (C := fun _ => False) (Each.one [.int .i64 (q : Int)] (q : Int) ⟨rfl, hn⟩) rfl (by simp [maxLen]) (Nat.zero_le _)).sl (fun _ h => h.elim) (fun _ _ => trivial)
    have hB0 := (Below.refl w.heap.size w).alloc (Nat.le_refl _) (.cells #[.int .i64 q] 3)
    refine (dagThere _ _ l [(q : Int)] _ _ _ (hv.call hB0) hsI).mono ?_; rintro e w1 ⟨_, rfl, rfl, b1⟩
    rw [thereAll_one, he]
    have b01 := hB0.trans (b1.mono (by simp))
    go_wp2_with fail
    refine (dagOf hok q hq _ _ _ (hv.call b01)).mono ?_; rintro e w2 ⟨rfl, d2⟩
    have b2 := d2.below
    have b02 := b01.trans (b2.mono b01.size)
    have hmk := runMakeBools l.length (by omega)
    go_wp2_with fail
    go_loopw [25] (fun i wr => ∃ (k : Nat) (bl : List Bool), k ≤ l.length ∧ i = .int .i64 k ∧ Below w2.heap.size w2 wr ∧ w2.heap.size < wr.heap.size ∧ Bools wr w2.heap.size bl ∧ Hid (FillTo bl l.length (ab l q) k)) (fun i _ => l.length - (intOf i).toNat)
    case atStart => exact ⟨0, _, Nat.zero_le _, rfl, (Below.refl _ _).alloc (Nat.le_refl _) _, by simp, Bools.made _ _ _, .none _ _⟩
    case round =>
      obtain ⟨k, bl, hk, rfl, hb, hsz, hbl, hf⟩ := hrel
      by_cases hlt : k < l.length
      · obtain ⟨hcell, hfroz⟩ := hbl k _ (hf.out.2 k hlt)
        have hix := idxBools w2.heap.size l.length k hlt
        go_wp2_with fail
        refine (dagHas (ofL l q) k (ofL_lt hok hq) (by omega) _).mono ?_; rintro e w' ⟨rfl, rfl⟩
        rw [ofL_bit]
        go_wp2_with fail
        go_roundw
        case rel => exact ⟨k + 1, _, by omega, by go_num, hb.setCell (Nat.le_refl _) _, by simpa using hsz, hbl.set (by rw [hf.out.1]; exact hlt) _, hf.out.set hlt⟩
        case measure => simp [intOf]; omega
      · obtain rfl : k = l.length := by omega
        go_wp2
        go_ret2
        have hall := hf.out.all
        have hs := hbl.sl (S := fun k => w.heap.size ≤ k) (by have := b02.size; omega) (by rw [hf.out.1]; simp [maxLen]; omega) l.length hf.out.1
        refine ⟨_, rfl, ⟨_, by rw [aboveP, if_pos he]; rfl, ?_⟩, b02.trans (hb.mono b02.size)⟩
        rw [aboveP, if_pos he, Int.toNat_natCast, aboveL, ← hall]
        exact hs
  · have he' : (thereErr l n != 0) = true := by simp [he]
    go_enter Try.func9, Try.ntmps9
    go_wp2_with fail
    have hsI : Sl tInt (w.alloc (.cells #[.int .i64 n] 3)) (fun _ => True) (.slice (some ⟨w.heap.size, 0, none⟩) [n].length 1) [n] :=
      (Own.lit (E := tInt) (e := 3) (B := 0) (C := fun _ => False) (Each.one [.int .i64 n] n ⟨rfl, hn⟩) rfl (by simp [maxLen]) (Nat.zero_le _)).sl (fun _ h => h.elim) (fun _ _ => trivial)
    have hB0 := (Below.refl w.heap.size w).alloc (Nat.le_refl _) (.cells #[.int .i64 n] 3)
    refine (dagThere _ _ l [n] _ _ _ (hv.call hB0) hsI).mono ?_; rintro e w1 ⟨_, rfl, rfl, b1⟩
    rw [thereAll_one]
    have b01 := hB0.trans (b1.mono (by simp))
    go_wp2
    go_ret2
    refine ⟨_, rfl, ⟨_, by rw [aboveP, if_neg he]; rfl, ?_⟩, b01⟩
    rw [aboveP, if_neg he]
    exact Sl.nil _ _ _

end Go.Pch
