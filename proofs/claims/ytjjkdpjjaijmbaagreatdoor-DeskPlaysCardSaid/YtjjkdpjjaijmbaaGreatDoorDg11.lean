/- The walks of the document's Digits, num, split, joined, listed. The walk of desk.grow. The walks of rows.Key and rows.Val. The struct type Row: its fields; two rows compared. -/
import Derived.Test.YtjjkdpjjaijmbaaGreatDoorDg9
import Derived.Test.YtjjkdpjjaijmbaaGreatDoorDg10
import Derived.Test.YtjjkdpjjaijmbaaGreatDoorDg8
import Derived.Deep.RegionHeld3
import Derived.Test.YtjjkdpjjaijmbaaGreatDoorDg2
import Derived.Test.YtjjkdpjjaijmbaaGreatDoorDg1
import Derived.Test.YtjjkdpjjaijmbaaGreatDoorChecked
section
namespace Go.Pch
open Go.RowKit Go.Proofs
set_option maxRecDepth 100000
theorem Own.textD {w : World} {B : Nat} {v : Value} {bs : Bytes} (h : Own tByte 5 w B (fun _ => False) v bs) (h0 : 0 < bs.length) : (convert 38 9 v).run Tryz.prog w = .ok (.string (bl bs)) w := by
  have hs := h.sl (D := fun _ => True) (fun _ h => h.elim) (fun _ _ => trivial)
  obtain ⟨ao, cap, rfl, _, _, _⟩ := hs.shape
  obtain ⟨b, o, cs, rfl, _, _, _, _⟩ := hs.get 0 bs[0] (List.getElem?_eq_getElem h0)
  have := run_convert_bytes_back (P := Tryz.prog) w 38 9 5 ⟨b, o, none⟩ cap bs Tryz.underlying38 Tryz.underlying5 Tryz.underlying9 (fun j hj => by
    obtain ⟨b', o', cs', hbo, _, _, hrd, hc⟩ := hs.get j bs[j] (List.getElem?_eq_getElem hj)
    simp only [Option.some.injEq, Addr.mk.injEq] at hbo
    obtain ⟨rfl, rfl, _⟩ := hbo
    obtain ⟨rfl, _⟩ := hrd
    have := hc 0 _ rfl
    rw [Addr.add_lit]
    simpa [tByte, Ty.flat] using this)
  exact this
theorem oneByte (w : World) (c : UInt8) : (convert 38 9 (.slice (some ⟨w.heap.size, 0, none⟩) 1 1)).run Tryz.prog (w.alloc (.cells #[.int .u8 c.toNat] 5)) = .ok (.string (bl [c])) (w.alloc (.cells #[.int .u8 c.toNat] 5)) :=
  (Own.lit (E := tByte) (e := 5) (w := w) (B := w.heap.size) (C := fun _ => False) (l := [c]) (Each.one [.int .u8 (c.toNat : Int)] c ⟨rfl, trivial⟩) rfl (by simp [maxLen]) (Nat.le_refl _)).textD (by simp)
theorem oneDigit {n : Int} (h : 0 ≤ n) (w : World) : ∃ c : UInt8, c = UInt8.ofNat (48 + n.toNat % 10) ∧ (convert 38 9 (.slice (some ⟨w.heap.size, 0, none⟩) 1 1)).run Tryz.prog (w.alloc (.cells #[.int .u8 (48 + n % 10)] 5)) = .ok (.string (bl [c])) (w.alloc (.cells #[.int .u8 (48 + n % 10)] 5)) := by
  refine ⟨_, rfl, ?_⟩
  have := oneByte w (UInt8.ofNat (48 + n.toNat % 10))
  have e : ((UInt8.ofNat (48 + n.toNat % 10)).toNat : Int) = 48 + n % 10 := by rw [UInt8.toNat_ofNat']; omega
  rwa [e] at this
theorem bl_append (a b : Bytes) : bl a ++ bl b = bl (a ++ b) := by
  apply ByteArray.ext
  simp [bl]
theorem dgL_big {n : Int} (h : 10 ≤ n) : dgL n = dgL (n / 10) ++ [UInt8.ofNat (48 + n.toNat % 10)] := by
  rw [dgL, dgL, if_neg (by omega), if_neg (by omega), Lib.decDigits, dif_neg (by omega), show (n / 10).toNat = n.toNat / 10 by omega]
theorem dgL_small {n : Int} (h : 0 ≤ n) (h1 : n < 10) : dgL n = [UInt8.ofNat (48 + n.toNat % 10)] := by
  rw [dgL, if_neg (by omega), Lib.decDigits, dif_pos (by omega), Nat.mod_eq_of_lt (by omega)]
set_option maxHeartbeats 400000 in
theorem refDigitsN : ∀ (k : Nat) (n : Int) (w : World), i64ok n → n < k → Calls Tryz.prog 17 #[.int .i64 n] w (Ret w fun r _ => r = .string (bl (dgL n))) := by
  intro k
  induction k with
  | zero =>
    intro n w hn hk
    go_enter Tryz.func17, Tryz.ntmps17
    go_wp2
    go_ret
    exact ⟨_, rfl, by rw [dgL, if_pos (by omega)]; rfl, Below.refl _ _⟩
  | succ k ih =>
    intro n w hn hk
    rcases Int.lt_or_le n 0 with h0 | h0
    · go_enter Tryz.func17, Tryz.ntmps17
      go_wp2
      go_ret
      exact ⟨_, rfl, by rw [dgL, if_pos h0]; rfl, Below.refl _ _⟩
    · obtain ⟨c, hc, hcv⟩ := oneDigit h0 w
      have HC := keepBack hc
      have b0 : Below w.heap.size w (w.alloc (.cells #[.int .u8 (48 + n % 10)] 5)) := (Below.refl _ _).alloc (Nat.le_refl _) _
      clear hc
      rcases Int.lt_or_le n 10 with h1 | h1
      · go_enter Tryz.func17, Tryz.ntmps17
        go_wp2
        go_ret
        exact ⟨_, rfl, congrArg (fun l => Value.string (bl l)) (by rw [dgL_small h0 h1, HC.out]), b0⟩
      · have T := keepBack (fun W => ih (n / 10) W ⟨by unfold i64ok at hn; omega, by unfold i64ok at hn; omega⟩ (by omega))
        have HDV : Hid (wrap64 (n.tdiv 10) = n / 10) := keepBack (by rw [Int.tdiv_eq_ediv_of_nonneg h0]; unfold i64ok at hn; unfold wrap64; omega)
        clear ih
        go_enter Tryz.func17, Tryz.ntmps17
        go_wp2_with fail
        rw [HDV.out]
        refine (T.out _).mono ?_; rintro e w1 ⟨_, rfl, rfl, b1⟩
        have hq : (bl (dgL (n / 10))).size + (bl [c]).size ≤ 9223372036854775807 := by have := dgL_len (n := n / 10) (by unfold i64ok at hn; omega); rw [bl_size, bl_size]; simp; omega
        go_wp2
        go_ret
        exact ⟨_, rfl, congrArg Value.string (by rw [bl_append, HC.out, ← dgL_big h1]), b0.trans (b1.mono b0.size)⟩
theorem refDigits (n : Int) (w : World) (hn : i64ok n) : Calls Tryz.prog 17 #[.int .i64 n] w (Ret w fun r _ => r = .string (bl (dgL n))) := refDigitsN (n.toNat + 1) n w hn (by omega)
def numI (o : Option Nat) : Int := match o with
  | some n => n
  | none => -1
theorem bl_get {s : Bytes} {k : Nat} {c : UInt8} (h : s[k]? = some c) (h' : k < (bl s).size) : (bl s)[k]'h' = c := by
  obtain ⟨hk, rfl⟩ := List.getElem?_eq_some_iff.1 h
  exact List.getElem_toArray ..
theorem bl_list (l : Bytes) : (bl l).toList = l := by rw [ByteArray.toList_eq]; simp [bl]
theorem bl_same (a b : Bytes) : ((bl a).toList == (bl b).toList) = decide (a = b) := by rw [bl_list, bl_list, Bool.eq_iff_iff]; simp
theorem digit_yes {c : UInt8} {d : Nat} (h : Lib.digitVal c = some d) : 48 ≤ c.toNat ∧ c.toNat ≤ 57 ∧ d = c.toNat - 48 := by
  unfold Lib.digitVal at h
  split at h
  · rename_i h1
    simp only [Option.some.injEq] at h
    exact ⟨h1.1, h1.2, h.symm⟩
  · cases h
theorem digit_no {c : UInt8} (h : Lib.digitVal c = none) : c.toNat < 48 ∨ 57 < c.toNat := by
  unfold Lib.digitVal at h
  split at h
  · cases h
  · omega
theorem numP_empty : numP [] = none := by decide
theorem numP_long {s : Bytes} (h : 6 < s.length) : numP s = none := by rw [numP, if_neg (by omega)]
theorem numP_bad {s : Bytes} {k : Nat} {c : UInt8} (hk : s[k]? = some c) (h : Lib.digitVal c = none) : numP s = none := by
  cases hn : numP s with
  | none => rfl
  | some n =>
    obtain ⟨_, rfl⟩ := numP_some.1 hn
    obtain ⟨d, hd⟩ := Lib.digit_of_decFrom _ 0 n (decFrom_digits n) k _ hk
    rw [hd] at h
    cases h
theorem numP_whole {s : Bytes} {m : Nat} (h0 : 1 ≤ s.length) (h6 : s.length ≤ 6) (h : Lib.decFrom 0 s = some m) : numP s = if dgL (m : Int) = s then some m else none := by
  have e : Lib.decNat s = some m := by
    rw [Lib.decNat, if_neg (by cases s <;> simp_all), h]
  rw [numP, if_pos h6, e, dgL_nat]
set_option maxHeartbeats 1000000 in
theorem refNum (s : Bytes) (hs : s.length ≤ 4096) (w : World) : Calls Tryz.prog 32 #[.string (bl s)] w (Ret w fun r _ => r = .int .i64 (numI (numP s))) := by
  have hsz := bl_size s
  by_cases h6 : 1 ≤ s.length ∧ s.length ≤ 6
  · have W1 := refWithin_of ((s.length : Nat) : Int) 1 6 w (c := true) (by simp; omega)
    obtain ⟨h61, h62⟩ := h6
    go_enter Tryz.func32, Tryz.ntmps32
    go_wp2_with fail
    refine W1.mono ?_; rintro e w' ⟨rfl, rfl⟩
    clear W1
    go_wp2
    go_loop [3, 4] (fun n i => ∃ (k m : Nat), k ≤ s.length ∧ i = .int .i64 k ∧ n = .int .i64 m ∧ Hid (Lib.decFrom 0 (s.take k) = some m) ∧ m < 10 ^ k) (fun _ i => s.length - (intOf i).toNat)
    case atStart => exact ⟨0, 0, Nat.zero_le _, rfl, rfl, rfl, by decide⟩
    case round =>
      obtain ⟨k, m, hk, rfl, rfl, HM, hm⟩ := hrel
      have hm6 : m < 1000000 := Nat.lt_of_lt_of_le hm (Nat.le_trans (Nat.pow_le_pow_right (by decide) (show k ≤ 6 by omega)) (by decide))
      have Hm := keepBack hm
      clear hm
      by_cases hlt : k < s.length
      · obtain ⟨c, hck⟩ : ∃ c, s[k]? = some c := ⟨_, List.getElem?_eq_getElem hlt⟩
        have hc := fun h' => bl_get hck h'
        cases hd : Lib.digitVal c with
        | some d =>
          obtain ⟨d1, d2, d3⟩ := digit_yes hd
          have HN := keepBack (Lib.decFrom_take s k 0 m c d HM.out hck hd)
          have HW : Hid (10 * (m : Int) + ((c.toNat : Int) - 48) = ((m * 10 + d : Nat) : Int)) := keepBack (by omega)
          have HP : Hid (m * 10 + d < 10 ^ (k + 1)) := keepBack (by have := Hm.out; rw [Nat.pow_succ]; omega)
          clear hd d3 hck
          go_wp2
          go_round
          case rel => exact ⟨k + 1, m * 10 + d, by omega, by go_num, by rw [HW.out], HN, HP.out⟩
          case measure => simp [intOf]; omega
        | none =>
          have hbad := digit_no hd
          have HN := keepBack (numP_bad hck hd)
          clear hd hck
          rcases hbad with hbad | hbad
          · go_wp2
            go_ret
            exact ⟨_, rfl, by rw [HN.out]; rfl, Below.refl _ _⟩
          · go_wp2
            go_ret
            exact ⟨_, rfl, by rw [HN.out]; rfl, Below.refl _ _⟩
      · obtain rfl : k = s.length := by omega
        have HM' := HM.out
        rw [List.take_length] at HM'
        have HN := keepBack (numP_whole h61 h62 HM')
        clear HM HM'
        cases hq : decide (dgL (m : Int) = s) with
        | true =>
          have hE := bl_same (dgL (m : Int)) s
          rw [hq] at hE
          rw [decide_eq_true_eq] at hq
          have HQ := keepBack hq
          clear hq
          go_wp2_with fail
          refine (refDigits m w ⟨by omega, by omega⟩).mono ?_; rintro e w1 ⟨_, rfl, rfl, b1⟩
          go_wp2
          go_ret
          exact ⟨_, rfl, by rw [HN.out, if_pos HQ.out]; rfl, b1⟩
        | false =>
          have hE := bl_same (dgL (m : Int)) s
          rw [hq] at hE
          rw [decide_eq_false_iff_not] at hq
          have HQ := keepBack hq
          clear hq
          go_wp2_with fail
          refine (refDigits m w ⟨by omega, by omega⟩).mono ?_; rintro e w1 ⟨_, rfl, rfl, b1⟩
          go_wp2
          go_ret
          exact ⟨_, rfl, by rw [HN.out, if_neg HQ.out]; rfl, b1⟩
  · have W1 := refWithin_of ((s.length : Nat) : Int) 1 6 w (c := false) (by rw [Bool.eq_false_iff]; simp; omega)
    have HN : Hid (numP s = none) := keepBack (by
      rcases Nat.lt_or_ge 6 s.length with h | h
      · exact numP_long h
      · obtain rfl : s = [] := List.eq_nil_of_length_eq_zero (by omega)
        exact numP_empty)
    clear h6
    go_enter Tryz.func32, Tryz.ntmps32
    go_wp2_with fail
    refine W1.mono ?_; rintro e w' ⟨rfl, rfl⟩
    clear W1
    go_wp2
    go_ret
    exact ⟨_, rfl, by rw [HN.out]; rfl, Below.refl _ _⟩
structure SplIs (s : Bytes) (o : List Bytes) (f k : Nat) : Prop where
  upto : o ++ (if f ≤ s.length then spl (s.drop f) else []) = spl s
  word : ∀ j c, f ≤ j → j < k → s[j]? = some c → c ≠ 32
theorem SplIs.start (s : Bytes) : SplIs s [] 0 0 := ⟨by simp, fun j c _ h => absurd h (Nat.not_lt_zero _)⟩
theorem SplIs.next {s : Bytes} {o : List Bytes} {f k : Nat} {c : UInt8} (h : SplIs s o f k) (hc : s[k]? = some c) (hn : c ≠ 32) : SplIs s o f (k + 1) :=
  ⟨h.upto, fun j d h1 h2 hd => by
    by_cases e : j = k
    · subst e; rw [hc] at hd; cases hd; exact hn
    · exact h.word j d h1 (by omega) hd⟩
theorem SplIs.piece {s : Bytes} {o : List Bytes} {f k : Nat} (h : SplIs s o f k) : ∀ c ∈ (s.drop f).take (k - f), c ≠ 32 := by
  intro c hc
  obtain ⟨j, hj⟩ := List.getElem?_of_mem hc
  rw [List.getElem?_take] at hj
  split at hj
  · rename_i hlt
    rw [List.getElem?_drop] at hj
    exact h.word (f + j) c (by omega) (by omega) hj
  · cases hj
theorem SplIs.cut {s : Bytes} {o : List Bytes} {f k : Nat} (h : SplIs s o f k) (hf : f ≤ k) (hc : s[k]? = some 32) : SplIs s (o ++ [(s.drop f).take (k - f)]) (k + 1) (k + 1) := by
  obtain ⟨hk, hck⟩ := List.getElem?_eq_some_iff.1 hc
  refine ⟨?_, fun j c h1 h2 _ => by omega⟩
  have h1 := h.upto
  rw [if_pos (by omega)] at h1
  have e : s.drop f = (s.drop f).take (k - f) ++ 32 :: s.drop (k + 1) := by
    conv => lhs; rw [← List.take_append_drop (k - f) (s.drop f)]
    rw [List.drop_drop, show f + (k - f) = k by omega, List.drop_eq_getElem_cons hk, hck]
  rw [if_pos (by omega), ← h1]
  conv => rhs; rw [e, spl_cut _ _ h.piece]
  simp
theorem SplIs.last {s : Bytes} {o : List Bytes} {f : Nat} (h : SplIs s o f s.length) (hf : f ≤ s.length) : SplIs s (o ++ [(s.drop f).take (s.length - f)]) (s.length + 1) (s.length + 1) := by
  refine ⟨?_, fun j c h1 h2 _ => by omega⟩
  have h1 := h.upto
  rw [if_pos hf] at h1
  have e : (s.drop f).take (s.length - f) = s.drop f := List.take_of_length_le (by simp)
  have hp := h.piece
  rw [e] at hp
  rw [if_neg (by omega), e, ← h1, spl_one _ hp]
  simp
theorem SplIs.done {s : Bytes} {o : List Bytes} {k : Nat} (h : SplIs s o (s.length + 1) k) : o = spl s := by
  have := h.upto
  rwa [if_neg (by omega), List.append_nil] at this
theorem bl_cut (s : Bytes) (f k : Nat) : (bl s).extract f k = bl ((s.drop f).take (k - f)) := by
  apply ByteArray.ext
  simp [bl, ByteArray.data_extract]
set_option maxHeartbeats 1000000 in
theorem refSplit (s : Bytes) (hs : s.length ≤ 4096) (w : World) :
    Calls Tryz.prog 31 #[.string (bl s)] w (Ret w fun r w' => Own tStr 9 w' w.heap.size (fun _ => False) r ((spl s).map bl)) := by
  have hsz := bl_size s
  go_enter Tryz.func31, Tryz.ntmps31
  go_wp2
  go_loopw [3, 4, 5] (fun out fr i wr => ∃ (k f : Nat) (o : List Bytes), k ≤ s.length + 1 ∧ f ≤ k ∧ i = .int .i64 k ∧ fr = .int .i64 f ∧ o.length ≤ k ∧ Below w.heap.size w wr ∧ Own tStr 9 wr w.heap.size (fun _ => False) out (o.map bl) ∧ Hid (SplIs s o f k) ∧ (s.length < k → f = s.length + 1)) (fun _ _ i _ => s.length + 1 - (intOf i).toNat)
  case atStart => exact ⟨0, 0, [], Nat.zero_le _, Nat.le_refl _, rfl, rfl, Nat.le_refl _, Below.refl _ _, .nil, SplIs.start s, fun h => by omega⟩
  case round =>
    obtain ⟨k, f, o, hk, hf, rfl, rfl, hol, hb, ho, HS, hend⟩ := hrel
    have hz := hb.size
    by_cases hlt : k < s.length
    · obtain ⟨c, hck⟩ : ∃ c, s[k]? = some c := ⟨_, List.getElem?_eq_getElem hlt⟩
      have hc := fun h' => bl_get hck h'
      by_cases h32 : c = 32
      · subst h32
        have HN := keepBack (HS.out.cut hf hck)
        have HX := keepBack (bl_cut s f k)
        clear hck
        obtain ⟨q, hq⟩ : ∃ q, q = o.map bl := ⟨_, rfl⟩
        rw [← hq] at ho
        have hql : q.length ≤ k := by rw [hq]; simpa using hol
        have HQ := keepBack hq
        clear hq
        obtain ⟨ag, cg, hv, _, _⟩ := ho.shape
        obtain ⟨n, hn⟩ : ∃ n, n = q.length := ⟨_, rfl⟩
        rw [← hn] at hv hql
        have HNL := keepBack hn
        clear hn
        subst hv
        have hob := ho.block
        have hsrc := fun t => Src.one (E := tStr) (w := wr) (D := fun _ => False) (cs := [.string ((bl s).extract f k)]) (a := (bl s).extract f k) ⟨rfl, trivial⟩ t
        go_wp2_with (at_builtin; refine wpList_grow rfl (.tmp 22) (.tmp 27) rfl aStr rfl (ho.alloc _) rfl rfl (hsrc _) (by simp) (fun _ h => h.elim) (by rw [← HNL.out]; simp only [List.length_cons, List.length_nil]; omega) (by simp; omega) ?_)
        intro v2 w2 ho2 hg2
        have hb2 : Below w.heap.size w w2 := (hb.alloc hz _).grown hg2 (by simp; omega) (fun g hg => (hob g hg).1)
        go_wp2
        go_roundw
        case rel => exact ⟨k + 1, k + 1, o ++ [(s.drop f).take (k - f)], by omega, Nat.le_refl _, by go_num, by go_num, by simp; omega, hb2, by rw [HQ.out, HX.out] at ho2; rw [List.map_append]; exact ho2, HN, fun h => by omega⟩
        case measure => simp [intOf]; omega
      · have HN := keepBack (HS.out.next hck h32)
        have h32' : ((c.toNat : Int) == 32) = false := by rw [beq_eq_false_iff_ne]; intro h; exact h32 (UInt8.toNat_inj.1 (by simpa using Int.natCast_inj.1 (show (c.toNat : Int) = ((32 : Nat) : Int) from h)))
        clear hck h32
        go_wp2
        go_roundw
        case rel => exact ⟨k + 1, f, o, by omega, by omega, by go_num, rfl, by omega, hb, ho, HN, fun h => by omega⟩
        case measure => simp [intOf]; omega
    · by_cases hlast : k = s.length
      · subst hlast
        have hfs : f ≤ s.length := hf
        have HN := keepBack (HS.out.last hfs)
        have HX := keepBack (bl_cut s f s.length)
        obtain ⟨q, hq⟩ : ∃ q, q = o.map bl := ⟨_, rfl⟩
        rw [← hq] at ho
        have hql : q.length ≤ s.length := by rw [hq]; simpa using hol
        have HQ := keepBack hq
        clear hq
        obtain ⟨ag, cg, hv, _, _⟩ := ho.shape
        obtain ⟨n, hn⟩ : ∃ n, n = q.length := ⟨_, rfl⟩
        rw [← hn] at hv hql
        have HNL := keepBack hn
        clear hn
        subst hv
        have hob := ho.block
        have hsrc := fun t => Src.one (E := tStr) (w := wr) (D := fun _ => False) (cs := [.string ((bl s).extract f s.length)]) (a := (bl s).extract f s.length) ⟨rfl, trivial⟩ t
        go_wp2_with (at_builtin; refine wpList_grow rfl (.tmp 22) (.tmp 27) rfl aStr rfl (ho.alloc _) rfl rfl (hsrc _) (by simp) (fun _ h => h.elim) (by rw [← HNL.out]; simp only [List.length_cons, List.length_nil]; omega) (by simp; omega) ?_)
        intro v2 w2 ho2 hg2
        have hb2 : Below w.heap.size w w2 := (hb.alloc hz _).grown hg2 (by simp; omega) (fun g hg => (hob g hg).1)
        go_wp2
        go_roundw
        case rel => exact ⟨s.length + 1, s.length + 1, o ++ [(s.drop f).take (s.length - f)], by omega, Nat.le_refl _, by go_num, by go_num, by simp; omega, hb2, by rw [HQ.out, HX.out] at ho2; rw [List.map_append]; exact ho2, HN, fun h => by omega⟩
        case measure => simp [intOf]
      · obtain rfl : k = s.length + 1 := by omega
        obtain rfl := hend (by omega)
        have HN := keepBack HS.out.done
        go_wp2
        go_ret
        exact ⟨_, rfl, by rw [← HN.out]; exact ho, hb⟩
theorem join_next (l : List Bytes) (k : Nat) (x : Bytes) (h0 : 1 ≤ k) (hx : l[k]? = some x) : Lib.join (l.take (k + 1)) [32] = Lib.join (l.take k) [32] ++ ([32] ++ x) := by
  obtain ⟨hk, rfl⟩ := List.getElem?_eq_some_iff.1 hx
  rw [List.take_succ_eq_append_getElem hk]
  cases hl : l.take k with
  | nil => have := congrArg List.length hl; rw [List.length_take, List.length_nil] at this; omega
  | cons y ys => rw [List.cons_append, Lib.join_cons, Lib.join_cons]; simp [Lib.joinTail]
theorem join_take_le (l : List Bytes) (k : Nat) : (Lib.join (l.take k) [32]).length ≤ (Lib.join l [32]).length := by
  conv => rhs; rw [← List.take_append_drop k l]
  cases l.take k with
  | nil => simp [Lib.join]
  | cons y ys => rw [List.cons_append, Lib.join_cons, Lib.join_cons]; simp [Lib.joinTail]
set_option maxHeartbeats 1000000 in
theorem refJoined (v : Value) (l : List Bytes) (S : Blk) (w : World) (h : Sl tStr w S v (l.map bl)) (hl : l.length ≤ 1000000) (hs : (Lib.join l [32]).length ≤ 1000000000) :
    Calls Tryz.prog 39 #[v] w (Ret w fun r _ => r = .string (bl (lsL l))) := by
  obtain ⟨ao, cap, hv, _, _, _⟩ := h.shape
  obtain ⟨n, hn⟩ : ∃ n, n = (l.map bl).length := ⟨_, rfl⟩
  rw [← hn] at hv
  have hnl : n = l.length := by rw [hn]; simp
  have HNL := keepBack hnl
  have hn6 : n ≤ 1000000 := by omega
  clear hn hnl
  subst hv
  by_cases h0 : n = 0
  · have HN : Hid (l = []) := keepBack (List.eq_nil_of_length_eq_zero (by have := HNL.out; omega))
    subst h0
    go_enter Tryz.func39, Tryz.ntmps39
    go_wp2
    go_ret
    exact ⟨_, rfl, by rw [HN.out]; rfl, Below.refl _ _⟩
  · obtain ⟨x0, hx0⟩ : ∃ x, l[0]? = some x := ⟨_, List.getElem?_eq_getElem (by have := HNL.out; omega)⟩
    obtain ⟨b0, o0, hix0, _, hbs0, hc0⟩ := h.idxStr aStr 0 0 (bl x0) rfl (by rw [List.getElem?_map, hx0]; rfl)
    have HJ : Hid (lsL l = Lib.join l [32]) := keepBack (by rw [lsL, if_neg (by rintro rfl; have := HNL.out; simp at this; omega)])
    have HX0 : Hid (x0 = Lib.join (l.take 1) [32]) := keepBack (by cases l with
      | nil => simp at hx0
      | cons y ys => simp at hx0; subst hx0; simp [Lib.join_one])
    clear hx0
    go_enter Tryz.func39, Tryz.ntmps39
    go_wp2
    clear hix0 hc0
    go_loop [3, 4] (fun s i => ∃ (k : Nat) (t : Bytes), 1 ≤ k ∧ k ≤ n ∧ i = .int .i64 k ∧ s = .string (bl t) ∧ Hid (t = Lib.join (l.take k) [32])) (fun _ i => n - (intOf i).toNat)
    case atStart => exact ⟨1, x0, Nat.le_refl _, by omega, rfl, rfl, HX0⟩
    case round =>
      obtain ⟨k, t, hk1, hk, rfl, rfl, HT⟩ := hrel
      by_cases hlt : k < n
      · obtain ⟨x, hx⟩ : ∃ x, l[k]? = some x := ⟨_, List.getElem?_eq_getElem (by have := HNL.out; omega)⟩
        obtain ⟨b, o, hix, _, hbs, hc⟩ := h.idxStr aStr k k (bl x) rfl (by rw [List.getElem?_map, hx]; rfl)
        have HN := keepBack (join_next l k x hk1 hx)
        have hq : (bl t).size + (ByteArray.mk #[32]).size ≤ 9223372036854775807 ∧ (bl t ++ ByteArray.mk #[32]).size + (bl x).size ≤ 9223372036854775807 := by
          have h1 := join_take_le l (k + 1)
          rw [HN.out, ← HT.out] at h1
          show (bl t).size + (bl [32]).size ≤ _ ∧ (bl t ++ bl [32]).size + (bl x).size ≤ _
          rw [bl_append]
          simp only [bl_size, List.length_append] at h1 ⊢
          omega
        obtain ⟨hq1, hq2⟩ := hq
        clear hx
        go_wp2
        go_round
        case rel => exact ⟨k + 1, t ++ ([32] ++ x), by omega, by omega, by go_num, by rw [← bl_append, ← bl_append, ← ByteArray.append_assoc]; rfl, by rw [HN.out, HT.out]; rfl⟩
        case measure => simp [intOf]; omega
      · obtain rfl : k = n := by omega
        go_wp2
        go_ret
        exact ⟨_, rfl, congrArg (fun x => Value.string (bl x)) (by rw [HJ.out, HT.out, HNL.out, List.take_length]), Below.refl _ _⟩
theorem join_len (l : List Bytes) (m : Nat) (h : ∀ x ∈ l, x.length ≤ m) : (Lib.join l [32]).length ≤ l.length * (m + 1) := by
  cases l with
  | nil => simp [Lib.join]
  | cons y ys =>
    rw [Lib.join_cons, List.length_append]
    have h1 : ∀ zs : List Bytes, (∀ x ∈ zs, x.length ≤ m) → (Lib.joinTail [32] zs).length ≤ zs.length * (m + 1) := by
      intro zs
      induction zs with
      | nil => simp [Lib.joinTail]
      | cons z zs ih =>
        intro hz
        have h2 := ih fun x hx => hz x (by simp [hx])
        have h3 := hz z (by simp)
        simp only [Lib.joinTail, List.map_cons, List.flatten_cons, List.length_append, List.length_cons, List.length_nil, Nat.add_mul] at h2 ⊢
        omega
    have h2 := h1 ys fun x hx => h x (by simp [hx])
    have h3 := h y (by simp)
    simp only [List.length_cons, Nat.add_mul]
    omega
theorem Sl.idxIntAt {w : World} {S : Blk} {v : Value} {P : Program} {T e : TypeId} {l : List Int} (h : Sl tInt w S v l) (hA : At P tInt T e) (n : Int) (i : Nat) (x : Int) (hn : n = (i : Int)) (hx : l[i]? = some x) :
    ∃ b o, (∀ W, Sem.run P (Instr.indexAt T v (.int .i64 n)) W = .ok (.pointer (some ⟨b, o, none⟩)) W) ∧ S b ∧ b < w.heap.size ∧ i64ok x ∧ w.cell? ⟨b, o, none⟩ = some (.int .i64 x) := by
  obtain ⟨hi, rfl⟩ := List.getElem?_eq_some_iff.1 hx
  obtain ⟨b, o, cs, h1, h2, h3, ⟨rfl, h5⟩, h7⟩ := h.idx hA n i hn hi
  exact ⟨b, o, h1, h2, h3, h5, by simpa using h7 0 _ rfl⟩
theorem ints_ok {w : World} {S : Blk} {v : Value} {l : List Int} (h : Sl tInt w S v l) : ∀ n ∈ l, i64ok n := by
  intro n hn
  obtain ⟨k, hk⟩ := List.getElem?_of_mem hn
  obtain ⟨ao, cap, rfl, _⟩ := h.shape
  obtain ⟨_, _, _, _, _, _, ⟨_, h5⟩, _⟩ := h.get k n hk
  exact h5
set_option maxHeartbeats 1000000 in
theorem refListed (v : Value) (l : List Int) (S : Blk) (w : World) (h : Sl tInt w S v l) (hl : l.length ≤ 1000) :
    Calls Tryz.prog 37 #[v] w (Ret w fun r _ => r = .string (bl (lsL (l.map dgL)))) := by
  have h0 := h
  have hok : ∀ n ∈ l, i64ok n := ints_ok h
  obtain ⟨ao, cap, hv, _, _, _⟩ := h.shape
  obtain ⟨n, hn⟩ : ∃ n, n = l.length := ⟨_, rfl⟩
  rw [← hn] at hv
  have HNL := keepBack hn
  have hn6 : n ≤ 1000 := by omega
  clear hn
  subst hv
  go_enter Tryz.func37, Tryz.ntmps37
  go_wp2
  go_loopw [3, 4] (fun out i wr => ∃ (k : Nat) (q : List ByteArray), k ≤ n ∧ i = .int .i64 k ∧ Below w.heap.size w wr ∧ Own tStr 9 wr w.heap.size (fun _ => False) out q ∧ Hid (q = (l.take k).map fun x => bl (dgL x))) (fun _ i _ => n - (intOf i).toNat)
  case atStart => exact ⟨0, [], Nat.zero_le _, rfl, Below.refl _ _, .nil, rfl⟩
  case round =>
    obtain ⟨k, q, hk, rfl, hb, ho, HQ⟩ := hrel
    have hz := hb.size
    by_cases hlt : k < n
    · obtain ⟨x, hx⟩ : ∃ x, l[k]? = some x := ⟨_, List.getElem?_eq_getElem (by have := HNL.out; omega)⟩
      obtain ⟨b, o, hix, _, hbs, hxk, hc⟩ := (h0.call hb).idxIntAt aInt k k x rfl hx
      have HN : Hid (q ++ [bl (dgL x)] = (l.take (k + 1)).map fun x => bl (dgL x)) := keepBack (by rw [HQ.out, List.take_add_one, hx]; simp)
      have hql : q.length ≤ k := by rw [HQ.out]; simp; omega
      clear hx
      obtain ⟨ag, cg, hv, _, _⟩ := ho.shape
      obtain ⟨m, hm⟩ : ∃ m, m = q.length := ⟨_, rfl⟩
      rw [← hm] at hv hql
      have HM := keepBack hm
      clear hm
      subst hv
      go_wp2_with fail
      refine (refDigits x wr hxk).mono ?_; rintro e w1 ⟨_, rfl, rfl, b1⟩
      have ho1 := ho.call b1
      have hz1 := b1.size
      have hob := ho1.block
      have hb1 := hb.trans (b1.mono hz)
      have hsrc := fun t => Src.one (E := tStr) (w := w1) (D := fun _ => False) (cs := [.string (bl (dgL x))]) (a := bl (dgL x)) ⟨rfl, trivial⟩ t
      go_wp2_with (at_builtin; refine wpList_grow rfl (.tmp 11) (.tmp 17) rfl aStr rfl (ho1.alloc _) rfl rfl (hsrc _) (by simp) (fun _ h => h.elim) (by rw [← HM.out]; simp only [List.length_cons, List.length_nil]; omega) (by simp; omega) ?_)
      intro v2 w2 ho2 hg2
      have hb2 : Below w.heap.size w w2 := (hb1.alloc (by omega) _).grown hg2 (by simp; omega) (fun g hg => (hob g hg).1)
      go_wp2
      go_roundw
      case rel => exact ⟨k + 1, _, by omega, by go_num, hb2, ho2, HN⟩
      case measure => simp [intOf]; omega
    · obtain rfl : k = n := by omega
      have hq : q = (l.map dgL).map bl := by rw [HQ.out, HNL.out, List.take_length, List.map_map]; rfl
      rw [hq] at ho
      have hs := ho.sl (D := fun _ => True) (fun _ h => h.elim) (fun _ _ => trivial)
      have hj : (Lib.join (l.map dgL) [32]).length ≤ 1000000000 := by
        refine Nat.le_trans (join_len _ 20 fun x hx => ?_) (by rw [List.length_map]; omega)
        obtain ⟨y, hy, rfl⟩ := List.mem_map.1 hx
        exact dgL_len (hok y hy).2
      obtain ⟨ag, cg, hv, _, _⟩ := ho.shape
      obtain ⟨m, hm⟩ : ∃ m, m = ((l.map dgL).map bl).length := ⟨_, rfl⟩
      rw [← hm] at hv
      clear hm hq HQ
      subst hv
      go_wp2_with fail
      refine (refJoined _ (l.map dgL) _ wr hs (by rw [List.length_map]; omega) hj).mono ?_; rintro e w1 ⟨_, rfl, rfl, b1⟩
      go_wp2
      go_ret
      exact ⟨_, rfl, rfl, hb.trans (b1.mono hz)⟩
end Go.Pch
end

section
namespace Go.Pch
open Go.RowKit Go.Proofs
set_option maxRecDepth 100000
theorem Own.grownTo {α : Type} {E : Ty α} {e : TypeId} {w w' : World} {B : Nat} {C X : Blk} {v : Value} {l : List α} (h : Own E e w B C v l) (hs : Step X w w') (hX : ∀ k, (C k ∧ k < w.heap.size ∨ v.ownBlock = some k) → ¬ X k) : Own E e w' B C v l := by
  have h2 : Own E e w B (fun k => C k ∧ k < w.heap.size) v l := h.mono fun k hk hlt => ⟨hk, hlt⟩
  exact (h2.keep (w' := w') fun k hk hlt => hs.block k hlt (hX k hk)).mono fun k hk _ => hk.1
theorem DeskAt.step {w w' : World} {B db : Nat} {vc vh : Value} {r : Repo} {X : Blk} (h : DeskAt w B db vc vh r) (hs : Step X w w') (hX : ∀ k, k < w.heap.size → ¬ X k) : DeskAt w' B db vc vh r :=
  ⟨h.low, (hs.block db h.lt (hX db h.lt)).trans h.row, h.coms.grownTo hs fun k hk => hX k (by
    rcases hk with hk | hk
    · exact hk.2
    · exact (h.coms.block k hk).2), h.heads.grownTo hs fun k hk => hX k (by
    rcases hk with hk | hk
    · exact hk.2
    · exact (h.heads.block k hk).2)⟩
theorem DeskAt.setC {w w' : World} {B db : Nat} {vc vc' vh : Value} {r : Repo} {l : List Commit} (h : DeskAt w B db vc vh r) (ho : Own tCommit 59 w' B (fun k => (B ≤ k ∧ some k ≠ vh.ownBlock) ∧ k ≠ db) vc' l) (hg : w.grownBy w' vc.ownBlock) :
    DeskAt (w'.setCell ⟨db, 0, none⟩ vc') B db vc' vh (l, r.2) := by
  have hap := h.apart
  have hrow : w'.heap[db]? = some (.cells #[vc, vh] 138) := (hg.block db h.lt fun e => hap.1 e.symm).trans h.row
  have hn : vc'.ownBlock ≠ some db := fun e => by
    obtain ⟨cur, hc⟩ := ho.rowAt _ e
    rw [hrow] at hc
    simp at hc
  refine ⟨h.low, heap_setCell_same w' db 0 _ _ vc' hrow, ho.keep fun k hk _ => heap_setCell_other _ _ _ _ ?_, (h.heads.keep (w' := w') fun k hk hlt => hg.block k hlt ?_).keep fun k hk _ => heap_setCell_other _ _ _ _ ?_⟩
  · rcases hk with hk | hk
    · exact hk.2
    · intro e; exact hn (by rw [hk, e])
  · rcases hk with hk | hk
    · exact hk.elim
    · intro e; exact hap.2.2 k e.symm hk
  · rcases hk with hk | hk
    · exact hk.elim
    · intro e; exact hap.2.1 (by rw [hk, e])
theorem DeskAt.rowOf {w w' : World} {B db : Nat} {vc vh : Value} {r : Repo} (h : DeskAt w B db vc vh r) (hg : w.grownBy w' vc.ownBlock) : w'.heap[db]? = some (.cells #[vc, vh] 138) :=
  (hg.block db h.lt fun e => h.apart.1 e.symm).trans h.row
theorem DeskAt.setH {w : World} {B db g n c k : Nat} {vc : Value} {r : Repo} {x : Head} {m : Int} (h : DeskAt w B db vc (.slice (some ⟨g, 0, none⟩) n c) r) (hx : r.2[k]? = some x) (hm : i64ok m) :
    DeskAt (w.setCell ⟨g, k * 2 + 1, none⟩ (.int .i64 m)) B db vc (.slice (some ⟨g, 0, none⟩) n c) (r.1, r.2.set k (x.1, m)) := by
  have hap := h.apart
  obtain ⟨g', cap, cs, hv, h1, h2, h3, h4, hrd, hcell, hf, hset⟩ := h.heads.setPart hx
  simp only [Value.slice.injEq, Option.some.injEq, Addr.mk.injEq, and_true] at hv
  obtain ⟨rfl, hn, rfl⟩ := hv
  obtain ⟨rfl, hok⟩ := hrd
  have hgd : db ≠ g := fun e => hap.2.1 (by rw [e]; rfl)
  refine ⟨h.low, (heap_setCell_other _ _ _ _ hgd).trans h.row, h.coms.keep fun k hk _ => heap_setCell_other _ _ _ _ ?_, ?_⟩
  · rcases hk with hk | hk
    · intro e; exact hk.1.2 (by rw [e]; rfl)
    · intro e; exact hap.2.2 k hk (by rw [e]; rfl)
  · exact hset 1 (.int .i64 m) (x.1, m) (by decide) ⟨rfl, hm, hok.2⟩
set_option maxHeartbeats 2000000 in
theorem deskGrow (B db g n : Nat) (vc vh vr : Value) (r : Repo) (s : ByteArray) (rows : List Row) (qs : List Int) (wM w : World) (hM : DeskAt wM B db vc vh r) (hBM : Step (fun k => wM.heap.size ≤ k) wM w) (hBs : B ≤ wM.heap.size) (hg : wM.heap.size ≤ g)
    (hsort : Calls Tryz.prog 167 #[.slice (some ⟨g, 0, none⟩) n n] w fun e w' => e = .returned (.tuple #[]) ∧ w.grownBy w' (some g) ∧ Sl tInt w' (fun k => k = g) (.slice (some ⟨g, 0, none⟩) n n) qs)
    (hrows : Sl tRow w (fun k => wM.heap.size ≤ k ∧ k ≠ g) vr rows) (hr : headsRise r.1.length [] r.2 = true) (hl1 : r.1.length ≤ 1000) (hl : r.2.length ≤ 1000) (hh : hdHas r.2 s = true) :
    Calls Tryz.prog 131 #[.pointer (some ⟨db, 0, none⟩), .string s, vr, .slice (some ⟨g, 0, none⟩) n n] w fun e w' => e = .returned (.tuple #[]) ∧ (∃ vc', DeskAt w' B db vc' vh (grown r (hdN r.2 s) rows qs)) ∧ Below B w w' := by
  have h0 := hM.step hBM fun k hk => by omega
  have hvc : ∀ k, vc.ownBlock = some k → k < wM.heap.size := fun k hk => (hM.coms.block k hk).2
  have hvh : ∀ k, vh.ownBlock = some k → k < wM.heap.size := fun k hk => (hM.heads.block k hk).2
  have hdb := hM.lt
  have HM := keepBack hM
  have HBM := keepBack hBM
  have sM := hBM.size
  clear hM hBM
  go_enter Tryz.func131, Tryz.ntmps131
  go_wp2_with fail
  refine hsort.mono ?_; rintro e w1 ⟨rfl, hg1, hq1⟩
  clear hsort
  have st1 : Step (fun k => k = g) w w1 := Step.grown hg1 fun k hk => (Option.some.inj hk).symm
  have s1 := st1.size
  have h1 : DeskAt w1 B db vc vh r := HM.out.step (HBM.out.trans st1 fun k _ e => by omega) fun k hk => by omega
  have hrows1 : Sl tRow w1 (fun k => wM.heap.size ≤ k) vr rows := (hrows.step st1 fun k hk => hk.2).mono fun k hk _ => hk.1
  have hq1' : Sl tInt w1 (fun k => wM.heap.size ≤ k) (.slice (some ⟨g, 0, none⟩) n n) qs := hq1.mono fun k hk _ => by omega
  have b1 : Step (fun k => wM.heap.size ≤ k) wM w1 := HBM.out.trans st1 fun k _ e => by omega
  have bw1 : Below B w w1 := st1.below (fun k hk => by omega) (by omega)
  obtain ⟨ar, cr, rfl, _, _, _⟩ := hrows1.shape
  obtain ⟨ac, cc, rfl, _, _⟩ := h1.coms.shape
  have c0 := h1.cell0
  have c1 := h1.cell1
  have f0 := h1.free 0
  clear hrows hq1 h0
  have oA := (Below.refl w1.heap.size w1).alloc (Nat.le_refl _) (.cells #[.slice ar rows.length cr, .slice (some ⟨g, 0, none⟩) n n] 59)
  have h1A := h1.call oA
  have hsrc : Src tCommit (w1.alloc (.cells #[.slice ar rows.length cr, .slice (some ⟨g, 0, none⟩) n n] 59)) (fun k => wM.heap.size ≤ k) (some ⟨w1.heap.size, 0, none⟩) [(rows, qs)] := Src.one (tCommit_mk (hrows1) (hq1')) _
  go_wp2_with (at_builtin; refine wpList_grow rfl (.tmp 15) (.tmp 19) rfl aCom rfl h1A.coms rfl rfl hsrc (by simp) (fun k hk _ => ⟨⟨⟨by omega, fun e => by have := hvh k e.symm; omega⟩, by omega⟩, fun e => by have := hvc k e.symm; omega⟩) (by simp; omega) (by simp; omega) ?_)
  intro v2 w2 ho2 hg2
  have hD2 := h1A.setC ho2 hg2
  have f2 := frozen_of_row w2 db 0 _ _ (h1A.rowOf hg2)
  have c2 : w2.cell? ⟨db, 0, none⟩ = some (.slice ac r.1.length cc) := by rw [World.cell?, h1A.rowOf hg2]; rfl
  have z2 : w2.heap.size = (w2.setCell ⟨db, 0, none⟩ v2).heap.size := by simp
  have z1 : w1.heap.size < w2.heap.size := Nat.lt_of_lt_of_le (by simp) hg2.size
  have bw2 : Below B w (w2.setCell ⟨db, 0, none⟩ v2) := ((bw1.alloc (by omega) _).grown hg2 (by simp; omega) (fun k hk => (h1.coms.block k hk).1)).setCell h1.low _
  obtain ⟨a2, cc2, hv2, _, _⟩ := ho2.shape
  rw [show (r.1 ++ [(rows, qs)]).length = r.1.length + 1 by simp] at hv2
  subst hv2
  obtain ⟨w3, hw3⟩ : ∃ w3, w3 = w2.setCell ⟨db, 0, none⟩ (.slice a2 (r.1.length + 1) cc2) := ⟨_, rfl⟩
  rw [← hw3] at hD2 bw2 z2
  have HW3 := keepBack hw3
  have hap := hD2.apart
  obtain ⟨x, hx, hxs⟩ : ∃ x, r.2[hdN r.2 s]? = some x ∧ x.1.toList = s.toList := by
    unfold hdHas at hh
    cases hx : r.2[hdN r.2 s]? with
    | none => rw [hx] at hh; cases hh
    | some x => exact ⟨x, rfl, by rw [hx] at hh; simpa using hh⟩
  obtain ⟨gh, ch, cur, xs, rfl, hgB, hgs, _, _, _, _, _, _⟩ := hD2.heads.cells (l := r.2) (by have := (List.getElem?_eq_some_iff.1 hx).1; omega)
  have hgd : gh ≠ db := fun e => hap.2.1 (by rw [e]; rfl)
  have HC : ∀ W, Below w3.heap.size w3 W → Calls Tryz.prog 140 #[.pointer (some ⟨db, 0, none⟩), .string s] W (Ret W fun x _ => x = .pointer (some ⟨gh, hdN r.2 s * 2, none⟩)) := fun W hW =>
    (deskHead B db _ _ (r.1 ++ [(rows, qs)], r.2) s W (hD2.call hW) (headsRise_more (by simp) hr) hl hh).mono fun e w' ⟨v, h1, ⟨g', n', c', h2, h3⟩, h4⟩ => ⟨v, h1, by
      simp only [Value.slice.injEq, Option.some.injEq, Addr.mk.injEq, and_true] at h2
      rw [h3, h2.1], h4⟩
  have HFX : ∀ W, Below w3.heap.size w3 W → W.frozen? ⟨gh, hdN r.2 s * 2 + 1, none⟩ = false ∧ W.cell? ⟨gh, hdN r.2 s * 2 + 1, none⟩ = some (.int .i64 x.2) ∧ W.cell? ⟨db, 0, none⟩ = some (.slice a2 (r.1.length + 1) cc2) := fun W hW => by
    have hWd := hD2.call hW
    obtain ⟨g', cap, cs, hv, _, _, _, _, ⟨rfl, _⟩, hcell, hf, _⟩ := hWd.heads.setPart hx
    simp only [Value.slice.injEq, Option.some.injEq, Addr.mk.injEq, and_true] at hv
    rw [hv.1]
    exact ⟨hf _, hcell 1 _ rfl, hWd.cell0⟩
  have HSET : Hid (∀ W, Below w3.heap.size w3 W → ∀ m, i64ok m → DeskAt (W.setCell ⟨gh, hdN r.2 s * 2 + 1, none⟩ (.int .i64 m)) B db (.slice a2 (r.1.length + 1) cc2) (.slice (some ⟨gh, 0, none⟩) r.2.length ch) (r.1 ++ [(rows, qs)], r.2.set (hdN r.2 s) (x.1, m))) := keepBack fun W hW m hm => (hD2.call hW).setH hx hm
  have HGR : Hid (grown r (hdN r.2 s) rows qs = (r.1 ++ [(rows, qs)], r.2.set (hdN r.2 s) (x.1, r.1.length))) := keepBack (by rw [grown, moved_is hx])
  have a0 := hD2.cell0
  rw [hw3] at a0
  clear hw3 ho2 hg2 h1A hsrc oA hq1' hrows1 c0 c1 f0 h1 HM HBM b1 st1 hg1 hap hx hxs
  generalize hkk : hdN r.2 s = kk at HC HFX HSET HGR
  have HKK := keepBack hkk
  clear hkk
  have HNX : ∀ (W : World) u, W.cell? ⟨db, 0, none⟩ = some (.slice a2 (r.1.length + 1) cc2) → (W.setCell ⟨gh, kk * 2 + 1, none⟩ u).cell? ⟨db, 0, none⟩ = some (.slice a2 (r.1.length + 1) cc2) := fun W u h => (World.cell?_of_block (w := W) (heap_setCell_other _ _ _ _ (by simp; omega))).trans h
  have hwr : IntKind.i64.wrap (r.1.length : Int) = (r.1.length : Int) := by rw [IntKind.wrap_i64]; omega
  go_wp2_with fail
  rw [← HW3.out]
  have b3 : Below w3.heap.size w3 w3.drew := (Below.refl _ _).drew
  obtain ⟨ff3, fx3, a3⟩ := HFX _ b3
  go_region_held3 (fun W => W.cell? ⟨db, 0, none⟩ = some (.slice a2 (r.1.length + 1) cc2))
    (first
      | exact a3
      | exact a4
      | exact (HFX _ (Below.refl _ _)).2.2
      | exact HNX _ _ (by assumption)
      | fail)
    (first
      | (go_at_call 140; refine (HC _ b3).mono ?_; rintro e w4 ⟨_, rfl, rfl, b4⟩; have b34 := b3.trans (b4.mono b3.size); obtain ⟨ff4, fx4, a4⟩ := HFX _ b34)
      | fail)
  go_wp2_with fail
  go_end0
  have hfin := HSET.out w4 b34 (r.1.length : Int) (by unfold i64ok; omega)
  rw [← HGR.out] at hfin
  have hbel : Below B w (w4.setCell ⟨gh, kk * 2 + 1, none⟩ (.int .i64 r.1.length)) := (bw2.trans (b34.mono (by omega))).setCell hgB _
  exact ⟨rfl, ⟨.slice a2 (r.1.length + 1) cc2, by rw [HKK.out]; exact hfin⟩, hbel⟩
end Go.Pch
end

section
namespace Go.Pch
open Go.RowKit Go.Proofs
theorem rowsKey (k : Int) (w : World) : Calls Tryz.prog 97 #[.int .i64 k] w fun e w' => e = .returned (.bool (keyB k)) ∧ w = w' := by
  go_enter Tryz.func97, Tryz.ntmps97
  go_wp2
  all_goals
    go_ret
    refine ⟨ret_bool ?_, rfl⟩
    rw [Bool.eq_iff_iff]; simp [keyB] <;> omega
theorem rowsVal (k : Int) (w : World) : Calls Tryz.prog 98 #[.int .i64 k] w fun e w' => e = .returned (.bool (valB k)) ∧ w = w' := by
  go_enter Tryz.func98, Tryz.ntmps98
  go_wp2
  all_goals
    go_ret
    refine ⟨ret_bool ?_, rfl⟩
    rw [Bool.eq_iff_iff]; simp [valB] <;> omega
end Go.Pch
end

section
namespace Go.Pch
open Go.RowKit Go.Proofs
theorem rowGuard : Tryz.prog.eqGuardType Tryz.prog.depth 86 = false := by kernel_rfl
theorem rowHeld : Tryz.prog.stoodInHeld 86 = false := by kernel_rfl
theorem rowStruct : Tryz.prog.underlying 86 = some (.struct (Tryz.prog.fieldsOf 86)) := by kernel_rfl
theorem rowFields : (Tryz.prog.fieldsOf 86).toList.map (fun f => (f.type, f.offset, f.name)) = [(3, 0, "Key"), (3, 1, "Val")] := by kernel_rfl
theorem two_of_map {α β : Type} {f : α → β} {l : List α} {x y : β} (h : l.map f = [x, y]) : ∃ a b, l = [a, b] ∧ f a = x ∧ f b = y := by
  match l, h with
  | [a, b], h => simp at h; exact ⟨a, b, rfl, h.1, h.2⟩
theorem rowEqual (a b c d : Int) (W : World) : Sem.run Tryz.prog (Op.equalIn 10000 86 (.agg #[.int .i64 a, .int .i64 b]) (.agg #[.int .i64 c, .int .i64 d])) W = .ok (decide ((a, b) = (c, d))) W := by
  obtain ⟨f, g, h1, h2, h3⟩ := two_of_map rowFields
  simp only [Prod.mk.injEq] at h2 h3
  obtain ⟨h21, h22, h23⟩ := h2
  obtain ⟨h31, h32, h33⟩ := h3
  rw [show (10000 : Nat) = 9999 + 1 from rfl, run_equalIn_struct W 9999 _ _ _ rowStruct rowHeld, h1]
  have e := fun x y W => run_equalIn_int (P := Tryz.prog) W 9998 3 .i64 .i64 x y Tryz.underlying3
  simp only [Nat.reduceAdd] at e
  by_cases ha : a = c <;> by_cases hb : b = d <;> simp [Op.eqFields, h21, h22, h23, h31, h32, h33, part, e, ha, hb]
end Go.Pch
end
