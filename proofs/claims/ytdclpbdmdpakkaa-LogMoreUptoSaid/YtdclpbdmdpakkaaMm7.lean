/- The walks of names: strings.ContainsFunc at the program's predicate, repo.Name. The walks of repo.Check. -/
import Derived.Test.YtdclpbdmdpakkaaMm5
import Derived.Deep.LoopGhost
import Derived.Lib.OthersKept
import Derived.Lib.TrimU
section
namespace Go.Pch
open Go.RowKit Go.Proofs
set_option maxRecDepth 100000

/-- A byte that is no letter opens a rune that is none. -/
theorem decodeN_high (n b0 b1 b2 b3 : Nat) (h0 : 128 ≤ b0) : 128 ≤ (Lib.decodeN n b0 b1 b2 b3).1 := by
  unfold Lib.decodeN
  repeat' split
  all_goals (simp only; omega)
theorem rune_out (s : ByteArray) (pos : Nat) (h : pos < s.size) (hb : letB (s[pos]'h) = false) : (Utf8.decode s pos).1 < 97 ∨ 122 < (Utf8.decode s pos).1 := by
  by_cases ha : (s[pos]'h).toNat < 128
  · rw [decode_ascii s pos h ha]
    simp [letB] at hb
    by_cases h1 : (s[pos]'h).toNat < 97
    · exact .inl h1
    · exact .inr (hb (by omega))
  · refine .inr ?_
    rw [Lib.decode_at]
    have := decodeN_high (s.size - pos) (s.get! pos).toNat (s.get! (pos + 1)).toNat (s.get! (pos + 2)).toNat (s.get! (pos + 3)).toNat (by
      have e : s.get! pos = s[pos]'h := by
        cases s with
        | mk d =>
          have hd : pos < d.size := h
          simp [ByteArray.get!, hd]
          rfl
      rw [e]; omega)
    omega
theorem rune_in (s : ByteArray) (pos : Nat) (h : pos < s.size) (hb : letB (s[pos]'h) = true) : Utf8.decode s pos = ((s[pos]'h).toNat, 1) ∧ 97 ≤ (s[pos]'h).toNat ∧ (s[pos]'h).toNat ≤ 122 := by
  simp [letB] at hb
  exact ⟨decode_ascii s pos h (by omega), hb.1, hb.2⟩
theorem letters_next {s : ByteArray} {pos : Nat} (h : pos < s.size) (hl : (s.toList.take pos).all letB = true) (hb : letB (s[pos]'h) = true) : (s.toList.take (pos + 1)).all letB = true := by
  rw [ByteArray.toList_eq] at *
  have hp : pos < s.data.toList.length := by simpa using h
  rw [List.take_add_one, List.getElem?_eq_getElem hp, List.all_append, hl]
  have hb' : letB (s.data[pos]'h) = true := hb
  simpa using hb'
theorem letters_not {s : ByteArray} {pos : Nat} (h : pos < s.size) (hb : letB (s[pos]'h) = false) : s.toList.all letB = false := by
  rw [ByteArray.toList_eq]
  have hp : pos < s.data.toList.length := by simpa using h
  rw [List.all_eq_false]
  have hb' : letB (s.data[pos]'h) = false := hb
  exact ⟨s.data.toList[pos], List.getElem_mem hp, by simpa using hb'⟩
theorem letters_all {s : ByteArray} {pos : Nat} (h : ¬ pos < s.size) (hl : (s.toList.take pos).all letB = true) : s.toList.all letB = true := by
  rw [List.take_of_length_le] at hl
  · exact hl
  · rw [ByteArray.toList_eq]; simp; have : s.data.size = s.size := rfl; omega

theorem nameRune (R : Nat) (w : World) : Calls Try.prog 75 #[.int .i32 R] w fun e w' => e = .returned (.bool (decide (R < 97) || decide (122 < R))) ∧ w = w' := by
  by_cases h1 : R < 97 <;> by_cases h2 : 122 < R
  all_goals
    have z1 : (R : Int) < 97 ↔ R < 97 := by omega
    have z2 : (122 : Int) < R ↔ 122 < R := by omega
    go_enter Try.func75, Try.ntmps75
    go_wp2
    all_goals first | (exfalso; omega) | (go_ret; exact ⟨by simp [h1, h2], rfl⟩)
theorem nameRune_of {c : Bool} (R : Nat) (w : World) (h : (decide (R < 97) || decide (122 < R)) = c) : Calls Try.prog 75 #[.int .i32 R] w fun e w' => e = .returned (.bool c) ∧ w = w' := h ▸ nameRune R w

set_option maxHeartbeats 2000000 in
theorem nameIndex (s : ByteArray) (w : World) :
    Calls Try.prog 119 #[.string s, .func (.func 75) #[] #[], .bool true] w (Ret w fun r _ => ∃ i : Int, r = .int .i64 i ∧ decide (0 ≤ i) = !(s.toList.all letB)) := by
  go_enter Try.func119, Try.ntmps119
  go_wp2
  go_loopg [] s.size (fun gf wx => ∃ pos : Nat, wx.heap[w.heap.size]? = some (.stringIter s pos) ∧ Below w.heap.size w wx ∧ Hid ((s.toList.take pos).all letB = true) ∧ s.size ≤ pos + gf)
  case atStart => exact ⟨0, World.iter_heap w s 0, (Below.refl _ w).alloc (Nat.le_refl _) _, keepBack (by simp), by omega⟩
  case round =>
    obtain ⟨pos, hit, hbw, HL, hfu⟩ := hrel
    by_cases hps : pos < s.size
    · obtain ⟨g', rfl⟩ : ∃ g', gk = g' + 1 := ⟨gk - 1, by omega⟩
      have hnx : ∀ ty, (Instr.next (.pointer (some ⟨w.heap.size, 0, none⟩)) true ty).run Try.prog wr = _ := fun ty => Lib.run_next_any_at wr w.heap.size s pos ty hit hps
      cases hb : letB (s[pos]'hps) with
      | true =>
        obtain ⟨e1, e2, e3⟩ := rune_in s pos hps hb
        rw [e1] at hnx
        have HN := keepBack (letters_next hps HL.out hb)
        have hit2 := Lib.iterAt_heap wr w.heap.size s pos (pos + 1) hit
        have hbw2 := Lib.below_iterAt hbw (k := w.heap.size) (Nat.le_refl _) s (pos + 1)
        obtain ⟨W, hWd⟩ : ∃ W, wr.iterAt w.heap.size s (pos + 1) = W := ⟨_, rfl⟩
        simp only [hWd] at hnx hit2 hbw2
        generalize (s[pos]'hps).toNat = R at *
        clear hb e1 hWd
        have cS := nameRune_of (c := false) R W (by simp; omega)
        go_wp2_with (go_at_call 75; refine cS.mono ?_; rintro e W' ⟨rfl, rfl⟩)
        go_roundg g'
        case measure => omega
        case rel => exact ⟨pos + 1, hit2, hbw2, HN, by omega⟩
      | false =>
        have HN := keepBack (letters_not hps hb)
        have ho := rune_out s pos hps hb
        have hbw2 := Lib.below_iterAt hbw (k := w.heap.size) (Nat.le_refl _) s (pos + (Utf8.decode s pos).2)
        obtain ⟨W, hWd⟩ : ∃ W, wr.iterAt w.heap.size s (pos + (Utf8.decode s pos).2) = W := ⟨_, rfl⟩
        rw [hWd] at hbw2
        simp only [hWd] at hnx
        generalize (Utf8.decode s pos).1 = R at *
        clear hb hWd
        have cS := nameRune_of (c := true) R W (by simp; omega)
        go_wp2_with (go_at_call 75; refine cS.mono ?_; rintro e W' ⟨rfl, rfl⟩)
        go_ret
        exact ⟨_, rfl, ⟨_, rfl, by rw [HN.out]; simp⟩, hbw2⟩
    · have hnx : ∀ ty, (Instr.next (.pointer (some ⟨w.heap.size, 0, none⟩)) true ty).run Try.prog wr = _ := fun ty => Lib.run_next_end_at wr w.heap.size s pos ty hit hps
      have HN := keepBack (letters_all hps HL.out)
      go_wp2
      go_ret
      exact ⟨_, rfl, ⟨_, rfl, by rw [HN.out]; rfl⟩, hbw⟩

theorem nameIndexF (s : ByteArray) (w : World) :
    Calls Try.prog 99 #[.string s, .func (.func 75) #[] #[]] w (Ret w fun r _ => ∃ i : Int, r = .int .i64 i ∧ decide (0 ≤ i) = !(s.toList.all letB)) := by
  go_enter Try.func99, Try.ntmps99
  go_wp2_with fail
  refine (nameIndex s w).mono ?_; rintro e w1 ⟨_, rfl, ⟨i, rfl, hi⟩, b1⟩
  go_wp2
  go_ret
  exact ⟨_, rfl, ⟨_, rfl, hi⟩, b1⟩
theorem nameContains (s : ByteArray) (w : World) :
    Calls Try.prog 74 #[.string s, .func (.func 75) #[] #[]] w (Ret w fun r _ => r = .bool (!(s.toList.all letB))) := by
  go_enter Try.func74, Try.ntmps74
  go_wp2_with fail
  refine (nameIndexF s w).mono ?_; rintro e w1 ⟨_, rfl, ⟨i, rfl, hi⟩, b1⟩
  go_wp2
  go_ret
  exact ⟨_, rfl, by rw [← hi]; rfl, b1⟩
theorem nameContains_of {c : Bool} (s : ByteArray) (w : World) (h : s.toList.all letB = c) :
    Calls Try.prog 74 #[.string s, .func (.func 75) #[] #[]] w (Ret w fun r _ => r = .bool (!c)) := h ▸ nameContains s w

theorem repoName (s : ByteArray) (w : World) : Calls Try.prog 39 #[.string s] w (Ret w fun r _ => r = .bool (nameB s)) := by
  by_cases h1 : 1 ≤ s.size
  · by_cases h2 : s.size ≤ 8
    · cases hc : s.toList.all letB with
      | true =>
        have HN := keepBack (show nameB s = true by simp [nameB, h1, h2, hc])
        go_enter Try.func39, Try.ntmps39
        go_wp2_with (go_at_call 74; refine (nameContains_of s w hc).mono ?_; rintro e w1 ⟨_, rfl, rfl, b1⟩)
        go_ret
        exact ⟨_, rfl, by rw [HN.out]; rfl, b1⟩
      | false =>
        have HN := keepBack (show nameB s = false by simp [nameB, hc])
        go_enter Try.func39, Try.ntmps39
        go_wp2_with (go_at_call 74; refine (nameContains_of s w hc).mono ?_; rintro e w1 ⟨_, rfl, rfl, b1⟩)
        go_ret
        exact ⟨_, rfl, by rw [HN.out]; rfl, b1⟩
    · have HN := keepBack (show nameB s = false by simp [nameB, h2])
      go_enter Try.func39, Try.ntmps39
      go_wp2_with fail
      go_ret
      exact ⟨_, rfl, by rw [HN.out]; rfl, Below.refl _ _⟩
  · have HN := keepBack (show nameB s = false by simp [nameB, h1])
    go_enter Try.func39, Try.ntmps39
    go_wp2_with fail
    go_ret
    exact ⟨_, rfl, by rw [HN.out]; rfl, Below.refl _ _⟩

end Go.Pch
end

section
namespace Go.Pch
open Go.RowKit Go.Proofs
set_option maxRecDepth 100000

theorem check1 (s : ByteArray) (n : Int) (w : World) : Calls Try.prog 48 #[.agg #[.string s, .int .i64 n]] w (Ret w fun r _ => r = .bool (!nameB s)) := by
  go_enter Try.func48, Try.ntmps48
  go_wp2_with fail
  refine (repoName s _).mono ?_; rintro e w1 ⟨_, rfl, rfl, b1⟩
  go_wp2
  go_ret
  exact ⟨_, rfl, rfl, ((Below.refl _ _).alloc (Nat.le_refl _) _).trans (b1.mono (by simp))⟩
theorem check1_of {c : Bool} (s : ByteArray) (n : Int) (w : World) (h : nameB s = c) : Calls Try.prog 48 #[.agg #[.string s, .int .i64 n]] w (Ret w fun r _ => r = .bool (!c)) := h ▸ check1 s n w

set_option maxHeartbeats 1000000 in
theorem headsIndex (v : Value) (hs : List Head) (S : Blk) (w : World) (h : Sl tHead w S v hs) :
    Calls Try.prog 81 #[v, .func (.func 48) #[] #[]] w (Ret w fun r _ => ∃ i : Int, r = .int .i64 i ∧ decide (0 ≤ i) = hs.any fun h => !nameB h.1) := by
  have hv := h.old
  obtain ⟨ao, cap, rfl, hcap, hmax, hnil⟩ := h.shape
  unfold maxLen at hmax
  go_enter Try.func81, Try.ntmps81
  go_wp2_with fail
  go_loopw [8] (fun i wr => ∃ (k : Nat), k ≤ hs.length ∧ i = .int .i64 k ∧ Below w.heap.size w wr ∧ Hid (((hs.take k).any fun h => !nameB h.1) = false)) (fun i _ => hs.length - (intOf i).toNat)
  case atStart => exact ⟨0, Nat.zero_le _, rfl, Below.refl _ _, keepBack rfl⟩
  case round =>
    obtain ⟨k, hk, rfl, hb, HA⟩ := hrel
    have hs' := hb.size
    by_cases hlt : k < hs.length
    · obtain ⟨x, hx⟩ : ∃ x, hs[k]? = some x := ⟨hs[k], List.getElem?_eq_getElem hlt⟩
      obtain ⟨b, o, hix, _, hbs, ok1, ok2, hc00, hc10⟩ := hv.idxHeadAt aHead k k x rfl hx
      have hc0 := (hb.cell (p := ⟨b, o, none⟩) hbs).trans hc00
      have hc1 := (hb.cell (p := ⟨b, o + 1, none⟩) hbs).trans hc10
      clear hc00 hc10
      have HX := keepBack hx
      clear hx
      cases hn : nameB x.1 with
      | true =>
        have HA2 : Hid (((hs.take (k + 1)).any fun h => !nameB h.1) = false) := keepBack (by rw [List.take_add_one, HX.out, List.any_append, HA.out]; simp [hn])
        go_wp2_with (go_at_call 48; refine (check1_of x.1 x.2 wr hn).mono ?_; rintro e w1 ⟨_, rfl, rfl, b1⟩)
        go_roundw
        case rel => exact ⟨k + 1, by omega, by go_num, hb.trans (b1.mono hs'), HA2⟩
        case measure => simp [intOf]; omega
      | false =>
        have HR : Hid ((hs.any fun h => !nameB h.1) = true) := keepBack (by rw [List.any_eq_true]; exact ⟨x, List.mem_of_getElem? HX.out, by simp [hn]⟩)
        go_wp2_with (go_at_call 48; refine (check1_of x.1 x.2 wr hn).mono ?_; rintro e w1 ⟨_, rfl, rfl, b1⟩)
        go_ret
        exact ⟨_, rfl, ⟨_, rfl, by rw [HR.out]; simp⟩, hb.trans (b1.mono hs')⟩
    · have HR : Hid ((hs.any fun h => !nameB h.1) = false) := keepBack (by have := HA.out; rwa [List.take_of_length_le (by omega)] at this)
      go_wp2
      go_ret
      exact ⟨_, rfl, ⟨_, rfl, by rw [HR.out]; rfl⟩, hb⟩
theorem headsContains (v : Value) (hs : List Head) (S : Blk) (w : World) (h : Sl tHead w S v hs) :
    Calls Try.prog 47 #[v, .func (.func 48) #[] #[]] w (Ret w fun r _ => r = .bool (hs.any fun h => !nameB h.1)) := by
  go_enter Try.func47, Try.ntmps47
  go_wp2_with fail
  refine (headsIndex v hs S w h).mono ?_; rintro e w1 ⟨_, rfl, ⟨i, rfl, hi⟩, b1⟩
  go_wp2
  go_ret
  exact ⟨_, rfl, by rw [← hi]; rfl, b1⟩
theorem headsContains_of {c : Bool} (v : Value) (hs : List Head) (S : Blk) (w : World) (h : Sl tHead w S v hs) (hc : (hs.any fun h => !nameB h.1) = c) :
    Calls Try.prog 47 #[v, .func (.func 48) #[] #[]] w (Ret w fun r _ => r = .bool c) := hc ▸ headsContains v hs S w h

theorem headsRise_go {n : Nat} {last : List UInt8} {hs : List Head} {k : Nat} {x : Head} (hx : hs[k]? = some x) (h : (Op.bytesLess last x.1.toList && (decide (0 ≤ x.2) && decide (x.2 < n))) = true) : headsRise n last (hs.drop k) = headsRise n x.1.toList (hs.drop (k + 1)) := by
  obtain ⟨hk, rfl⟩ := List.getElem?_eq_some_iff.1 hx
  rw [List.drop_eq_getElem_cons hk, headsRise, h, Bool.true_and]
theorem headsRise_stop {n : Nat} {last : List UInt8} {hs : List Head} {k : Nat} {x : Head} (hx : hs[k]? = some x) (h : (Op.bytesLess last x.1.toList && (decide (0 ≤ x.2) && decide (x.2 < n))) = false) : headsRise n last (hs.drop k) = false := by
  obtain ⟨hk, rfl⟩ := List.getElem?_eq_some_iff.1 hx
  rw [List.drop_eq_getElem_cons hk, headsRise, h, Bool.false_and]
theorem headsRise_end {n : Nat} {last : List UInt8} {hs : List Head} {k : Nat} (hk : ¬ k < hs.length) : headsRise n last (hs.drop k) = true := by
  rw [List.drop_of_length_le (by omega), headsRise]
theorem repoErr_dag {r : Repo} (h : commitsErr r.1 ≠ 0) : repoErr r = commitsErr r.1 := by rw [repoErr, if_pos h]
theorem repoErr_many {r : Repo} (h : commitsErr r.1 = 0) (h1 : 4 < r.2.length) : repoErr r = 2 := by rw [repoErr, if_neg (by simp [h]), if_pos h1]
theorem repoErr_name {r : Repo} (h : commitsErr r.1 = 0) (h1 : ¬ 4 < r.2.length) (h2 : (r.2.any fun h => !nameB h.1) = true) : repoErr r = 4 := by rw [repoErr, if_neg (by simp [h]), if_neg h1, if_pos h2]
theorem repoErr_form {r : Repo} (h : commitsErr r.1 = 0) (h1 : ¬ 4 < r.2.length) (h2 : (r.2.any fun h => !nameB h.1) = false) {c : Bool} (h3 : headsRise r.1.length [] r.2 = c) : repoErr r = if c = true then 0 else 1 := by rw [repoErr, if_neg (by simp [h]), if_neg h1, if_neg (by simp [h2]), h3]

set_option maxHeartbeats 4000000 in
theorem repoCheck (v : Value) (r : Repo) (S : Blk) (w : World) (h : Rp w S v r) : Calls Try.prog 21 #[v] w (Ret w fun x _ => x = .int .i64 (repoErr r)) := by
  obtain ⟨cs, hs⟩ := r
  obtain ⟨vc, vh, rfl, hc, hh⟩ := h
  obtain ⟨ac, cc, rfl, _, _, _⟩ := hc.shape
  obtain ⟨ah, ch, rfl, _, _, _⟩ := hh.shape
  simp only at hc hh
  obtain ⟨wA, hwA⟩ : ∃ wA, wA = w.alloc (.cells #[.slice ac cs.length cc, .slice ah hs.length ch] 25) := ⟨_, rfl⟩
  have bA : Below w.heap.size w wA := by rw [hwA]; exact (Below.refl _ _).alloc (Nat.le_refl _) _
  have sA : wA.heap.size = w.heap.size + 1 := by rw [hwA]; simp
  have k0 : wA.cell? ⟨w.heap.size, 0, none⟩ = some (.slice ac cs.length cc) := by rw [hwA]; simp
  have k1 : wA.cell? ⟨w.heap.size, 1, none⟩ = some (.slice ah hs.length ch) := by rw [hwA]; simp
  have HWA := keepBack hwA
  clear hwA
  by_cases hd : commitsErr cs = 0
  · by_cases hm : 4 < hs.length
    · have HP := keepBack (repoErr_many (r := (cs, hs)) hd hm)
      have hq : (4 : Int) < hs.length := by omega
      go_enter Try.func21, Try.ntmps21
      go_wp2_with fail
      rw [← HWA.out]
      refine (dagCheck_of _ cs _ wA (hc.call bA) hd).mono ?_; rintro e w1 ⟨_, rfl, rfl, b1⟩
      have r0 := (b1.cell (p := ⟨w.heap.size, 0, none⟩) (by simp; omega)).trans k0
      have r1 := (b1.cell (p := ⟨w.heap.size, 1, none⟩) (by simp; omega)).trans k1
      go_wp2_with fail
      go_ret
      exact ⟨_, rfl, by rw [HP.out]; rfl, bA.trans (b1.mono (by omega))⟩
    · have hq : ¬ (4 : Int) < hs.length := by omega
      cases hn : hs.any fun h => !nameB h.1 with
      | true =>
        have HP := keepBack (repoErr_name (r := (cs, hs)) hd hm hn)
        go_enter Try.func21, Try.ntmps21
        go_wp2_with fail
        rw [← HWA.out]
        refine (dagCheck_of _ cs _ wA (hc.call bA) hd).mono ?_; rintro e w1 ⟨_, rfl, rfl, b1⟩
        have s1 := b1.size
        have r0 := (b1.cell (p := ⟨w.heap.size, 0, none⟩) (by simp; omega)).trans k0
        have r1 := (b1.cell (p := ⟨w.heap.size, 1, none⟩) (by simp; omega)).trans k1
        go_wp2_with fail
        refine (headsContains_of _ hs _ w1 ((hh.call bA).call b1) hn).mono ?_; rintro e w2 ⟨_, rfl, rfl, b2⟩
        go_wp2_with fail
        go_ret
        exact ⟨_, rfl, by rw [HP.out]; rfl, (bA.trans (b1.mono (by omega))).trans (b2.mono (by omega))⟩
      | false =>
        have HP := fun c => @repoErr_form (cs, hs) hd hm hn c
        have HPK := keepBack HP
        clear HP
        go_enter Try.func21, Try.ntmps21
        go_wp2_with fail
        rw [← HWA.out]
        refine (dagCheck_of _ cs _ wA (hc.call bA) hd).mono ?_; rintro e w1 ⟨_, rfl, rfl, b1⟩
        have s1 := b1.size
        have r0 := (b1.cell (p := ⟨w.heap.size, 0, none⟩) (by simp; omega)).trans k0
        have r1 := (b1.cell (p := ⟨w.heap.size, 1, none⟩) (by simp; omega)).trans k1
        go_wp2_with fail
        refine (headsContains_of _ hs _ w1 ((hh.call bA).call b1) hn).mono ?_; rintro e w2 ⟨_, rfl, rfl, b2⟩
        have b02 := (bA.trans (b1.mono (by omega))).trans (b2.mono (by omega))
        have s2 := b2.size
        have q0 := (b2.cell (p := ⟨w.heap.size, 0, none⟩) (by simp; omega)).trans r0
        have q1 := (b2.cell (p := ⟨w.heap.size, 1, none⟩) (by simp; omega)).trans r1
        have hh2 := (((hh.call bA).call b1).call b2).old
        clear r0 r1 k0 k1
        go_wp2_with fail
        go_loopw [4, 23] (fun ls i wr => ∃ (k : Nat) (l : ByteArray), k ≤ hs.length ∧ i = .int .i64 k ∧ ls = .string l ∧ Below w2.heap.size w2 wr ∧ Hid (headsRise cs.length [] hs = headsRise cs.length l.toList (hs.drop k))) (fun _ i _ => hs.length - (intOf i).toNat)
        case atStart => exact ⟨0, _, Nat.zero_le _, rfl, rfl, Below.refl _ _, keepBack (by rw [List.drop_zero, ByteArray.toList_eq])⟩
        case round =>
          obtain ⟨k, l, hk, rfl, rfl, hb, HR⟩ := hrel
          have hs' := hb.size
          have z0 := (hb.cell (p := ⟨w.heap.size, 0, none⟩) (by simp; omega)).trans q0
          have bb : Below w.heap.size w wr := b02.trans (hb.mono (by omega))
          by_cases hlt : k < hs.length
          · obtain ⟨x, hx⟩ : ∃ x, hs[k]? = some x := ⟨hs[k], List.getElem?_eq_getElem hlt⟩
            obtain ⟨b, o, hix, _, hbs, ok1, ok2, hc00, hc10⟩ := hh2.idxHeadAt aHead k k x rfl hx
            have hc0 := (hb.cell (p := ⟨b, o, none⟩) hbs).trans hc00
            have hc1 := (hb.cell (p := ⟨b, o + 1, none⟩) hbs).trans hc10
            have hzne : w.heap.size ≠ wr.heap.size := by omega
            clear hc00 hc10 q0 q1
            have HX := keepBack hx
            clear hx
            have z1 : ∀ o, (wr.alloc o).cell? ⟨w.heap.size, 0, none⟩ = some (.slice ac cs.length cc) := fun o => (((Below.refl wr.heap.size wr).alloc (Nat.le_refl _) o).cell (p := ⟨w.heap.size, 0, none⟩) (by simp; omega)).trans z0
            have ADD : ∀ o, Below w.heap.size w (wr.alloc o) := fun o => bb.alloc bb.size o
            cases e1 : Op.bytesLess x.1.toList l.toList with
            | true =>
              have HE := keepBack (HPK.out false (HR.out.trans (headsRise_stop HX.out (by rw [less_asymm e1]; rfl))))
              go_wp2_with fail
              go_ret
              exact ⟨_, rfl, by rw [HE.out]; rfl, ADD _⟩
            | false =>
              cases e2 : (x.1.toList == l.toList) with
              | true =>
                have HE := keepBack (HPK.out false (HR.out.trans (headsRise_stop HX.out (by rw [eq_of_beq e2, less_irrefl]; rfl))))
                go_wp2_with fail
                go_ret
                exact ⟨_, rfl, by rw [HE.out]; rfl, ADD _⟩
              | false =>
                have e3 : Op.bytesLess l.toList x.1.toList = true := less_tri e1 (by simpa using e2)
                by_cases q1 : x.2 < 0
                · have HE := keepBack (HPK.out false (HR.out.trans (headsRise_stop HX.out (by simp; omega))))
                  go_wp2_with fail
                  go_ret
                  exact ⟨_, rfl, by rw [HE.out]; rfl, ADD _⟩
                · have d1 : decide (x.2 < 0) = false := by simpa using q1
                  have Q1 := keepBack q1
                  clear q1
                  by_cases q2 : (cs.length : Int) ≤ x.2
                  · have d2 : decide ((cs.length : Int) ≤ x.2) = true := by simpa using q2
                    have HE := keepBack (HPK.out false (HR.out.trans (headsRise_stop HX.out (by simp; omega))))
                    clear q2
                    go_wp2_with fail
                    go_ret
                    exact ⟨_, rfl, by rw [HE.out]; rfl, ADD _⟩
                  · have d2 : decide ((cs.length : Int) ≤ x.2) = false := by simpa using q2
                    have HG := keepBack (HR.out.trans (headsRise_go HX.out (by have := Q1.out; rw [e3]; simp; omega)))
                    clear q2
                    go_wp2_with fail
                    go_roundw
                    case rel => exact ⟨k + 1, x.1, by omega, by go_num, rfl, hb.alloc hs' _, HG⟩
                    case measure => simp [intOf]; omega
          · have HE := keepBack (HPK.out true (HR.out.trans (headsRise_end hlt)))
            go_wp2
            go_ret
            exact ⟨_, rfl, by rw [HE.out]; rfl, bb⟩
  · have HP := keepBack (repoErr_dag (r := (cs, hs)) hd)
    have hq : (commitsErr cs != 0) = true := by simp [hd]
    go_enter Try.func21, Try.ntmps21
    go_wp2_with fail
    rw [← HWA.out]
    refine (dagCheck _ cs _ wA (hc.call bA)).mono ?_; rintro e w1 ⟨_, rfl, rfl, b1⟩
    go_wp2_with fail
    go_ret
    exact ⟨_, rfl, by rw [HP.out]; rfl, bA.trans (b1.mono (by omega))⟩

end Go.Pch
end
