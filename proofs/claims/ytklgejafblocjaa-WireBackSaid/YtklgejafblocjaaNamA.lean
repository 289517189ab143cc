/- The walks of names: strings.ContainsFunc at the program's predicate, repo.Name. -/
import Derived.Test.YtklgejafblocjaaRepD
import Derived.Deep.LoopGhost
import Derived.Lib.OthersKept
import Derived.Lib.TrimU
namespace Go.Pch
open Go.RowKit Go.Proofs
set_option maxRecDepth 100000

/-- A byte that is no letter opens a rune that is none. -/
theorem decodeN_high (n b0 b1 b2 b3 : Nat) (h0 : 128 ≤ b0) : 128 ≤ (Lib.decodeN n b0 b1 b2 b3).1 := by
  unfold Lib.decodeN
  repeat' split
  all_goals (simp only; omega)
theorem rune_out (s : ByteArray) (pos : Nat) (h : pos < s.size) (hb : letB (s[pos]'h) = false) : (Utf8.decode s pos).1 < 97 ∨ 122 < (Utf8.decode s pos).1 := by
  by_cases ha : (s[pos]'h).toNat < 128
  · rw [decode_ascii s pos h ha]
    simp [letB] at hb
    by_cases h1 : (s[pos]'h).toNat < 97
    · exact .inl h1
    · exact .inr (hb (by omega))
  · refine .inr ?_
    rw [Lib.decode_at]
    have := decodeN_high (s.size - pos) (s.get! pos).toNat (s.get! (pos + 1)).toNat (s.get! (pos + 2)).toNat (s.get! (pos + 3)).toNat (by
      have e : s.get! pos = s[pos]'h := by
        cases s with
        | mk d =>
          have hd : pos < d.size := h
          simp [ByteArray.get!, hd]
          rfl
      rw [e]; omega)
    omega
theorem rune_in (s : ByteArray) (pos : Nat) (h : pos < s.size) (hb : letB (s[pos]'h) = true) : Utf8.decode s pos = ((s[pos]'h).toNat, 1) ∧ 97 ≤ (s[pos]'h).toNat ∧ (s[pos]'h).toNat ≤ 122 := by
  simp [letB] at hb
  exact ⟨decode_ascii s pos h (by omega), hb.1, hb.2⟩
theorem letters_next {s : ByteArray} {pos : Nat} (h : pos < s.size) (hl : (s.toList.take pos).all letB = true) (hb : letB (s[pos]'h) = true) : (s.toList.take (pos + 1)).all letB = true := by
  rw [ByteArray.toList_eq] at *
  have hp : pos < s.data.toList.length := by simpa using h
  rw [List.take_add_one, List.getElem?_eq_getElem hp, List.all_append, hl]
  have hb' : letB (s.data[pos]'h) = true := hb
  simpa using hb'
theorem letters_not {s : ByteArray} {pos : Nat} (h : pos < s.size) (hb : letB (s[pos]'h) = false) : s.toList.all letB = false := by
  rw [ByteArray.toList_eq]
  have hp : pos < s.data.toList.length := by simpa using h
  rw [List.all_eq_false]
  have hb' : letB (s.data[pos]'h) = false := hb
  exact ⟨s.data.toList[pos], List.getElem_mem hp, by simpa using hb'⟩
theorem letters_all {s : ByteArray} {pos : Nat} (h : ¬ pos < s.size) (hl : (s.toList.take pos).all letB = true) : s.toList.all letB = true := by
  rw [List.take_of_length_le] at hl
  · exact hl
  · rw [ByteArray.toList_eq]; simp; have : s.data.size = s.size := rfl; omega

theorem nameRune (R : Nat) (w : World) : Calls Try.prog 78 #[.int .i32 R] w fun e w' => e = .returned (.bool (decide (R < 97) || decide (122 < R))) ∧ w = w' := by
  by_cases h1 : R < 97 <;> by_cases h2 : 122 < R
  all_goals
    have z1 : (R : Int) < 97 ↔ R < 97 := by omega
    have z2 : (122 : Int) < R ↔ 122 < R := by omega
    go_enter Try.func78, Try.ntmps78
    go_wp2
    all_goals first | (exfalso; omega) | (go_ret; exact ⟨by simp [h1, h2], rfl⟩)
theorem nameRune_of {c : Bool} (R : Nat) (w : World) (h : (decide (R < 97) || decide (122 < R)) = c) : Calls Try.prog 78 #[.int .i32 R] w fun e w' => e = .returned (.bool c) ∧ w = w' := h ▸ nameRune R w

set_option maxHeartbeats 2000000 in
theorem nameIndex (s : ByteArray) (w : World) :
    Calls Try.prog 81 #[.string s, .func (.func 78) #[] #[], .bool true] w (Ret w fun r _ => ∃ i : Int, r = .int .i64 i ∧ decide (0 ≤ i) = !(s.toList.all letB)) := by
  go_enter Try.func81, Try.ntmps81
  go_wp2
  go_loopg [] s.size (fun gf wx => ∃ pos : Nat, wx.heap[w.heap.size]? = some (.stringIter s pos) ∧ Below w.heap.size w wx ∧ Hid ((s.toList.take pos).all letB = true) ∧ s.size ≤ pos + gf)
  case atStart => exact ⟨0, World.iter_heap w s 0, (Below.refl _ w).alloc (Nat.le_refl _) _, keepBack (by simp), by omega⟩
  case round =>
    obtain ⟨pos, hit, hbw, HL, hfu⟩ := hrel
    by_cases hps : pos < s.size
    · obtain ⟨g', rfl⟩ : ∃ g', gk = g' + 1 := ⟨gk - 1, by omega⟩
      have hnx : ∀ ty, (Instr.next (.pointer (some ⟨w.heap.size, 0, none⟩)) true ty).run Try.prog wr = _ := fun ty => Lib.run_next_any_at wr w.heap.size s pos ty hit hps
      cases hb : letB (s[pos]'hps) with
      | true =>
        obtain ⟨e1, e2, e3⟩ := rune_in s pos hps hb
        rw [e1] at hnx
        have HN := keepBack (letters_next hps HL.out hb)
        have hit2 := Lib.iterAt_heap wr w.heap.size s pos (pos + 1) hit
        have hbw2 := Lib.below_iterAt hbw (k := w.heap.size) (Nat.le_refl _) s (pos + 1)
        obtain ⟨W, hWd⟩ : ∃ W, wr.iterAt w.heap.size s (pos + 1) = W := ⟨_, rfl⟩
        simp only [hWd] at hnx hit2 hbw2
        generalize (s[pos]'hps).toNat = R at *
        clear hb e1 hWd
        have cS := nameRune_of (c := false) R W (by simp; omega)
        go_wp2_with (go_at_call 78; refine cS.mono ?_; rintro e W' ⟨rfl, rfl⟩)
        go_roundg g'
        case measure => omega
        case rel => exact ⟨pos + 1, hit2, hbw2, HN, by omega⟩
      | false =>
        have HN := keepBack (letters_not hps hb)
        have ho := rune_out s pos hps hb
        have hbw2 := Lib.below_iterAt hbw (k := w.heap.size) (Nat.le_refl _) s (pos + (Utf8.decode s pos).2)
        obtain ⟨W, hWd⟩ : ∃ W, wr.iterAt w.heap.size s (pos + (Utf8.decode s pos).2) = W := ⟨_, rfl⟩
        rw [hWd] at hbw2
        simp only [hWd] at hnx
        generalize (Utf8.decode s pos).1 = R at *
        clear hb hWd
        have cS := nameRune_of (c := true) R W (by simp; omega)
        go_wp2_with (go_at_call 78; refine cS.mono ?_; rintro e W' ⟨rfl, rfl⟩)
        go_ret
        exact ⟨_, rfl, ⟨_, rfl, by rw [HN.out]; simp⟩, hbw2⟩
    · have hnx : ∀ ty, (Instr.next (.pointer (some ⟨w.heap.size, 0, none⟩)) true ty).run Try.prog wr = _ := fun ty => Lib.run_next_end_at wr w.heap.size s pos ty hit hps
      have HN := keepBack (letters_all hps HL.out)
      go_wp2
      go_ret
      exact ⟨_, rfl, ⟨_, rfl, by rw [HN.out]; rfl⟩, hbw⟩

theorem nameIndexF (s : ByteArray) (w : World) :
    Calls Try.prog 80 #[.string s, .func (.func 78) #[] #[]] w (Ret w fun r _ => ∃ i : Int, r = .int .i64 i ∧ decide (0 ≤ i) = !(s.toList.all letB)) := by
  go_enter Try.func80, Try.ntmps80
  go_wp2_with fail
  refine (nameIndex s w).mono ?_; rintro e w1 ⟨_, rfl, ⟨i, rfl, hi⟩, b1⟩
  go_wp2
  go_ret
  exact ⟨_, rfl, ⟨_, rfl, hi⟩, b1⟩
theorem nameContains (s : ByteArray) (w : World) :
    Calls Try.prog 77 #[.string s, .func (.func 78) #[] #[]] w (Ret w fun r _ => r = .bool (!(s.toList.all letB))) := by
  go_enter Try.func77, Try.ntmps77
  go_wp2_with fail
  refine (nameIndexF s w).mono ?_; rintro e w1 ⟨_, rfl, ⟨i, rfl, hi⟩, b1⟩
  go_wp2
  go_ret
  exact ⟨_, rfl, by rw [← hi]; rfl, b1⟩
theorem nameContains_of {c : Bool} (s : ByteArray) (w : World) (h : s.toList.all letB = c) :
    Calls Try.prog 77 #[.string s, .func (.func 78) #[] #[]] w (Ret w fun r _ => r = .bool (!c)) := h ▸ nameContains s w

theorem repoName (s : ByteArray) (w : World) : Calls Try.prog 69 #[.string s] w (Ret w fun r _ => r = .bool (nameB s)) := by
  by_cases h1 : 1 ≤ s.size
  · by_cases h2 : s.size ≤ 8
    · cases hc : s.toList.all letB with
      | true =>
        have HN := keepBack (show nameB s = true by simp [nameB, h1, h2, hc])
        go_enter Try.func69, Try.ntmps69
        go_wp2_with (go_at_call 77; refine (nameContains_of s w hc).mono ?_; rintro e w1 ⟨_, rfl, rfl, b1⟩)
        go_ret
        exact ⟨_, rfl, by rw [HN.out]; rfl, b1⟩
      | false =>
        have HN := keepBack (show nameB s = false by simp [nameB, hc])
        go_enter Try.func69, Try.ntmps69
        go_wp2_with (go_at_call 77; refine (nameContains_of s w hc).mono ?_; rintro e w1 ⟨_, rfl, rfl, b1⟩)
        go_ret
        exact ⟨_, rfl, by rw [HN.out]; rfl, b1⟩
    · have HN := keepBack (show nameB s = false by simp [nameB, h2])
      go_enter Try.func69, Try.ntmps69
      go_wp2_with fail
      go_ret
      exact ⟨_, rfl, by rw [HN.out]; rfl, Below.refl _ _⟩
  · have HN := keepBack (show nameB s = false by simp [nameB, h1])
    go_enter Try.func69, Try.ntmps69
    go_wp2_with fail
    go_ret
    exact ⟨_, rfl, by rw [HN.out]; rfl, Below.refl _ _⟩

end Go.Pch
