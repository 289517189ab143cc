/- The walks of package dag: sets. The walks of package dag: who is above. The walks of repo.Where, Head and Log. -/
import Derived.Test.YtjjkdpjjaijmbaaGreatDoorDg3
import Derived.Laws.BitsAllLaws
section
namespace Go.Pch
open Go.RowKit Go.Proofs
theorem ofL_eq {l : List Commit} (h : DagOk l) (n : Nat) : ofL l n = (pars l n).foldl (fun s p => s ||| ofL l p.toNat) (2 ^ n) := by
  apply Nat.eq_of_testBit_eq
  intro k
  rw [ofL_bit, foldl_or_bit (fun p => ofL l p.toNat), ab_eq h, Nat.testBit_two_pow]
  congr 1
  · rw [Bool.eq_iff_iff, decide_eq_true_eq, beq_iff_eq]; exact eq_comm
  · congr 1
    funext p
    rw [ofL_bit]
theorem wrap_pow {n : Nat} (h : n < 14) : IntKind.u64.wrap ((2 : Int) ^ n) = ((2 ^ n : Nat) : Int) := by
  have : ∀ i : Fin 14, IntKind.u64.wrap ((2 : Int) ^ i.val) = ((2 ^ i.val : Nat) : Int) := by decide
  exact this ⟨n, h⟩
theorem pow_small {n : Nat} (h : n < 14) : 2 ^ n < 16384 := Nat.pow_lt_pow_right (by decide) (m := n) (n := 14) h
theorem pars_some {l : List Commit} {n : Nat} {r : List Row} {p : List Int} (hn : n < l.length) (h : l[n] = (r, p)) : pars l n = p := by
  rw [pars, List.getElem?_eq_getElem hn, h]; rfl
set_option maxHeartbeats 1000000 in
theorem dagOf {l : List Commit} (hok : DagOk l) : ∀ (n : Nat), n < l.length → ∀ (v : Value) (S : Blk) (w : World), Sl tCommit w S v l →
    Calls Tryz.prog 148 #[v, .int .i64 n] w (Quiet w (.int .u64 (ofL l n : Nat))) := by
  intro n
  induction n using Nat.strongRecOn with
  | _ n ih =>
    intro hn v S w h
    have hv := h
    have h14 := hok.1
    obtain ⟨ao, cap, rfl, hcap, hmax, hnil⟩ := h.shape
    unfold maxLen at hmax
    obtain ⟨rs, ps, hck⟩ : ∃ r p, l[n] = (r, p) := ⟨_, _, rfl⟩
    obtain ⟨b, o, a1, c1, a2, c2, hix, _, hbs, h1, h2, z1, z2, z3, z4, hc0, hc1⟩ := h.idxCommitAt aCom n n rfl hn rs ps hck
    have HP := keepBack (ofL_eq hok n)
    rw [pars_some hn hck] at HP
    have hmem : ∀ j (hj : j < ps.length), 0 ≤ ps[j] ∧ ps[j] < n := fun j hj => by
      have := pars_lt hok (n := n) (p := ps[j]) (by rw [pars_some hn hck]; exact List.getElem_mem hj)
      omega
    have HM := keepBack hmem
    clear hmem
    go_enter Tryz.func148, Tryz.ntmps148
    have hw : IntKind.u64.wrap ((2 : Int) ^ n) = ((2 ^ n : Nat) : Int) := wrap_pow (by omega)
    have h2n : 2 ^ n < 16384 := pow_small (by omega)
    go_wp2_with fail
    obtain ⟨m, hm⟩ : ∃ m, m = 2 ^ n := ⟨_, rfl⟩
    rw [← hm] at HP h2n
    go_loopw [5, 16] (fun s i wr => ∃ (j m : Nat), j ≤ ps.length ∧ i = .int .i64 j ∧ s = .int .u64 m ∧ m < 16384 ∧ Drawn w wr ∧ Hid (ofL l n = (ps.drop j).foldl (fun s p => s ||| ofL l p.toNat) m)) (fun _ i _ => ps.length - (intOf i).toNat)
    case atStart => exact ⟨0, m, Nat.zero_le _, rfl, by rw [hm]; simp, h2n, .refl _, HP.out⟩
    clear hm HP h2n hw m
    case round =>
      obtain ⟨j, m, hj, rfl, rfl, hm, hb, hr⟩ := hrel
      by_cases hlt : j < ps.length
      · obtain ⟨b', o', hix', _, hbs', ok1, hc'⟩ := (h2.call hb.below).idxInt aInt j j rfl hlt
        have hpj := HM.out j hlt
        obtain ⟨p, hp⟩ : ∃ p : Nat, ps[j] = p := ⟨ps[j].toNat, by omega⟩
        have hrs := hr.out
        rw [List.drop_eq_getElem_cons hlt, List.foldl_cons, hp, Int.toNat_natCast] at hrs
        have HR := keepBack hrs
        clear hr hrs
        rw [hp] at hc' hpj
        clear hp ok1
        go_wp2_with fail
        refine (ih p (by omega) (by omega) _ _ _ (h.call hb.below)).mono ?_; rintro e w1 ⟨rfl, b1⟩
        have hol := ofL_lt hok (n := p) (by omega)
        have hor := u64_or_nat m (ofL l p) (by omega) (by omega)
        have horl : m ||| ofL l p < 16384 := Nat.or_lt_two_pow (n := 14) hm hol
        go_wp2_with fail
        go_roundw
        case rel => exact ⟨j + 1, _, by omega, by go_num, rfl, horl, hb.trans b1, HR.out⟩
        case measure => simp [intOf]; omega
      · go_wp2
        go_ret
        exact ⟨by rw [hr.out, List.drop_of_length_le (by omega)]; rfl, hb⟩
theorem dagOf_of {l : List Commit} (hok : DagOk l) (n : Nat) (hn : n < l.length) (v : Value) (S : Blk) (w : World) (h : Sl tCommit w S v l) :
    Calls Tryz.prog 148 #[v, .int .i64 n] w (Quiet w (.int .u64 (ofL l n : Nat))) := dagOf hok n hn v S w h
end Go.Pch
end

section
namespace Go.Pch
open Go.RowKit Go.Proofs
set_option maxHeartbeats 400000 in
theorem dagHas (m k : Nat) (hm : m < 16384) (hk : k < 14) (w : World) : Calls Tryz.prog 149 #[.int .u64 m, .int .i64 k] w fun e w' => e = .returned (.bool (m.testBit k)) ∧ w = w' := by
  go_enter Tryz.func149, Tryz.ntmps149
  go_wp2
  go_ret
  have hd : ((m : Int) / 2 ^ k) = ((m / 2 ^ k : Nat) : Int) := by simp
  have hlt : m / 2 ^ k < 16384 := Nat.lt_of_le_of_lt (Nat.div_le_self _ _) hm
  have ha := u64_and_nat (m / 2 ^ k) 1 (by omega) (by omega)
  rw [Nat.and_one_is_mod] at ha
  refine ⟨ret_bool ?_, rfl⟩
  rw [hd, show (1 : Int) = ((1 : Nat) : Int) from rfl, ha, Nat.testBit_eq_decide_div_mod_eq]
  rw [Bool.eq_iff_iff]; simp; omega
theorem aBool : At Tryz.prog tBool 115 4 := At.mk' Tryz.underlying115 (z := .bool false) (size := 1) (bytes := 1) (by kernel_rfl) rfl rfl (by decide)
theorem infoBool : (Tryz.prog.info? 4).map (fun i => (i.zero, i.size, i.bytes)) = some (some (.bool false), 1, 1) := by kernel_rfl
theorem runMakeBools (n : Nat) (h : n ≤ 1000) (W : World) : Sem.run Tryz.prog (Instr.makeSlice 115 (.int .i64 n) (.int .i64 n)) W = .ok (.slice (some ⟨W.heap.size, 0, none⟩) n n) (W.alloc (.cells (madeCells #[.bool false] n) 4)) := by
  obtain ⟨i, h1, h2, h3, h4⟩ := info_parts infoBool
  have := run_make (P := Tryz.prog) W 115 4 i _ Tryz.underlying115 h1 h2 .i64 .i64 n n (by omega) (by omega) (by rw [h4]; omega) (by omega)
  simpa [h3, Value.cells] using this
theorem idxBools (g n k : Nat) (hk : k < n) (W : World) : Sem.run Tryz.prog (Instr.indexAt 115 (.slice (some ⟨g, 0, none⟩) n n) (.int .i64 k)) W = .ok (.pointer (some ⟨g, k, none⟩)) W := by
  have := run_idx (b := g) (o := 0) (cap := n) aBool (k : Int) k rfl hk W
  simpa [tBool, Ty.flat] using this
end Go.Pch
end

section
namespace Go.Pch
open Go.RowKit Go.Proofs
set_option maxRecDepth 100000
def cmpS (a b : ByteArray) : Int := if Op.bytesLess a.toList b.toList = true then -1 else if Op.bytesLess b.toList a.toList = true then 1 else 0
theorem cmpS_zero (a b : ByteArray) : (cmpS a b == 0) = decide (a.toList = b.toList) := by
  unfold cmpS
  by_cases h : a.toList = b.toList
  · rw [h, if_neg (by rw [less_irrefl]; simp), if_neg (by rw [less_irrefl]; simp)]; simp
  · cases h1 : Op.bytesLess a.toList b.toList with
    | true => simp [h]
    | false => rw [if_neg (by simp), if_pos (less_tri h1 h)]; simp [h]
def hdN : List Head → ByteArray → Nat
  | [], _ => 0
  | h :: hs, s => if Op.bytesLess h.1.toList s.toList = true then hdN hs s + 1 else 0
def hdHas (hs : List Head) (s : ByteArray) : Bool := match hs[hdN hs s]? with
  | some h => decide (h.1.toList = s.toList)
  | none => false
theorem heads_cons {n : Nat} {last : List UInt8} {h : Head} {hs : List Head} : headsRise n last (h :: hs) = true ↔ (Op.bytesLess last h.1.toList = true ∧ 0 ≤ h.2 ∧ h.2 < n) ∧ headsRise n h.1.toList hs = true := by
  rw [headsRise]; simp
theorem heads_all {n : Nat} : ∀ {last : List UInt8} {hs : List Head}, headsRise n last hs = true → ∀ h ∈ hs, Op.bytesLess last h.1.toList = true ∧ 0 ≤ h.2 ∧ h.2 < n
  | _, [], _, h, hm => by cases hm
  | last, x :: hs, hr, h, hm => by
    rw [heads_cons] at hr
    rcases List.mem_cons.1 hm with rfl | hm
    · exact hr.1
    · have := heads_all hr.2 h hm
      exact ⟨less_trans hr.1.1 this.1, this.2⟩
theorem heads_lt {n : Nat} : ∀ {last : List UInt8} {hs : List Head}, headsRise n last hs = true → ∀ {i j : Nat} (_ : i < j) (hj : j < hs.length), Op.bytesLess hs[i].1.toList hs[j].1.toList = true
  | _, [], _, i, j, _, hj => by simp at hj
  | last, x :: hs, hr, i, j, hij, hj => by
    rw [heads_cons] at hr
    cases j with
    | zero => omega
    | succ j =>
      have hj' : j < hs.length := by simpa using hj
      cases i with
      | zero => exact (heads_all hr.2 hs[j] (List.getElem_mem hj')).1
      | succ i => exact heads_lt hr.2 (by omega) hj'
theorem hdN_eq {n : Nat} : ∀ {last : List UInt8} {hs : List Head}, headsRise n last hs = true → ∀ {s : ByteArray} {i : Nat}, i ≤ hs.length → (∀ (j : Nat) (hj : j < hs.length), j < i → Op.bytesLess hs[j].1.toList s.toList = true) →
    (∀ (j : Nat) (hj : j < hs.length), i ≤ j → Op.bytesLess hs[j].1.toList s.toList = false) → hdN hs s = i
  | _, [], _, s, i, hi, _, _ => by simp at hi; rw [hi]; rfl
  | last, x :: hs, hr, s, i, hi, h1, h2 => by
    rw [heads_cons] at hr
    rw [hdN]
    cases i with
    | zero =>
      have := h2 0 (by simp) (Nat.le_refl _)
      simp only [List.getElem_cons_zero] at this
      rw [this, if_neg (by simp)]
    | succ i =>
      have := h1 0 (by simp) (by omega)
      simp only [List.getElem_cons_zero] at this
      rw [this, if_pos rfl, hdN_eq hr.2 (s := s) (i := i) (by simpa using hi) (fun j hj hji => by have := h1 (j + 1) (by simpa using hj) (by omega); simpa using this) (fun j hj hji => by have := h2 (j + 1) (by simpa using hj) (by omega); simpa using this)]
theorem headK_none {n : Nat} : ∀ {last : List UInt8} {hs : List Head}, headsRise n last hs = true → ∀ {s : ByteArray}, Op.bytesLess last s.toList = false → headK hs s = none
  | _, [], _, _, _ => rfl
  | last, x :: hs, hr, s, h => by
    rw [heads_cons] at hr
    have hx : Op.bytesLess x.1.toList s.toList = false := by
      cases hq : Op.bytesLess x.1.toList s.toList with
      | false => rfl
      | true => rw [less_trans hr.1.1 hq] at h; cases h
    rw [headK, if_neg (by intro e; rw [← e, hr.1.1] at h; cases h), headK_none hr.2 hx]; rfl
theorem headK_seek {n : Nat} : ∀ {last : List UInt8} {hs : List Head}, headsRise n last hs = true → ∀ (s : ByteArray), headK hs s = if hdHas hs s = true then some (hdN hs s) else none
  | _, [], _, _ => rfl
  | last, x :: hs, hr, s => by
    rw [heads_cons] at hr
    have ih := headK_seek hr.2 s
    rw [headK]
    by_cases he : x.1.toList = s.toList
    · have h1 : hdN (x :: hs) s = 0 := by rw [hdN, he, less_irrefl, if_neg (by simp)]
      have h2 : hdHas (x :: hs) s = true := by rw [hdHas, h1]; simp [he]
      rw [if_pos he, h2, if_pos rfl, h1]
    · rw [if_neg he]
      cases hl : Op.bytesLess x.1.toList s.toList with
      | true =>
        have h1 : hdN (x :: hs) s = hdN hs s + 1 := by rw [hdN, hl, if_pos rfl]
        have h2 : hdHas (x :: hs) s = hdHas hs s := by rw [hdHas, h1, List.getElem?_cons_succ, hdHas]
        rw [ih, h2, h1]
        split <;> rfl
      | false =>
        have h1 : hdN (x :: hs) s = 0 := by rw [hdN, hl, if_neg (by simp)]
        have h2 : hdHas (x :: hs) s = false := by rw [hdHas, h1]; simp [he]
        rw [headK_none hr.2 hl, h2]; rfl
theorem notNaNS (a : ByteArray) (w : World) : Calls Tryz.prog 172 #[.string a] w fun e w' => e = .returned (.bool false) ∧ w = w' := by
  have h : (a.toList == a.toList) = true := by simp
  go_enter Tryz.func172, Tryz.ntmps172
  go_wp2
  go_ret
  exact ⟨by simp, rfl⟩
theorem compareStr (a b : ByteArray) (w : World) : Calls Tryz.prog 137 #[.string a, .string b] w fun e w' => e = .returned (.int .i64 (cmpS a b)) ∧ w = w' := by
  cases h1 : Op.bytesLess a.toList b.toList with
  | true =>
    have hc : cmpS a b = -1 := by rw [cmpS, if_pos h1]
    rw [hc]
    go_enter Tryz.func137, Tryz.ntmps137
    go_wp2_with (go_at_call 172; refine (notNaNS _ _).mono ?_; rintro e w' ⟨rfl, rfl⟩)
    go_ret
    exact ⟨rfl, rfl⟩
  | false =>
    cases h2 : (a.toList == b.toList) with
    | true =>
      have hc : cmpS a b = 0 := by rw [cmpS, eq_of_beq h2, less_irrefl]; simp
      rw [hc]
      go_enter Tryz.func137, Tryz.ntmps137
      go_wp2_with (go_at_call 172; refine (notNaNS _ _).mono ?_; rintro e w' ⟨rfl, rfl⟩)
      go_ret
      exact ⟨rfl, rfl⟩
    | false =>
      have hc : cmpS a b = 1 := by rw [cmpS, h1, if_neg (by simp), if_pos (less_tri h1 (by simpa using h2))]
      rw [hc]
      go_enter Tryz.func137, Tryz.ntmps137
      go_wp2_with (go_at_call 172; refine (notNaNS _ _).mono ?_; rintro e w' ⟨rfl, rfl⟩)
      go_ret
      exact ⟨rfl, rfl⟩
theorem where1 (a : ByteArray) (n : Int) (key : ByteArray) (w : World) : Calls Tryz.prog 136 #[.agg #[.string a, .int .i64 n], .string key] w (Ret w fun r _ => r = .int .i64 (cmpS a key)) := by
  go_enter Tryz.func136, Tryz.ntmps136
  go_wp2_with (go_at_call 137; refine (compareStr _ _ _).mono ?_; rintro e w' ⟨rfl, rfl⟩)
  go_ret
  exact ⟨_, rfl, rfl, (Below.refl _ _).alloc (Nat.le_refl _) _⟩
set_option maxRecDepth 100000 in
set_option maxHeartbeats 1000000 in
theorem searchHeads (v : Value) (l : List Head) (key : ByteArray) (n : Nat) (S : Blk) (w : World) (h : Sl tHead w S v l) (hr : headsRise n [] l = true) (hl : l.length ≤ 1000000) :
    Calls Tryz.prog 135 #[v, .string key, .func (.func 136) #[] #[]] w (Ret w fun r _ => r = .tuple #[.int .i64 (hdN l key : Nat), .bool (hdHas l key)]) := by
  have hv := h.old
  obtain ⟨ao, cap, rfl, hcap, hmax, hnil⟩ := h.shape
  unfold maxLen at hmax
  have HR := keepBack hr
  clear hr
  go_enter Tryz.func135, Tryz.ntmps135
  go_wp2
  go_loopw [9, 10] (fun a b wr => ∃ (i j : Nat), i ≤ j ∧ j ≤ l.length ∧ a = .int .i64 i ∧ b = .int .i64 j ∧ Below w.heap.size w wr ∧ Hid (∀ (k : Nat) (hk : k < l.length), k < i → Op.bytesLess l[k].1.toList key.toList = true) ∧ Hid (∀ (k : Nat) (hk : k < l.length), j ≤ k → Op.bytesLess l[k].1.toList key.toList = false)) (fun a b _ => (intOf b).toNat - (intOf a).toNat)
  case atStart => exact ⟨0, l.length, Nat.zero_le _, Nat.le_refl _, rfl, rfl, Below.refl _ _, fun k _ h => by omega, fun k hk h => by omega⟩
  case round =>
    obtain ⟨i, j, hij, hjl, rfl, rfl, hb, H1, H2⟩ := hrel
    have hs := hb.size
    by_cases hlt : i < j
    · obtain ⟨m, hmm, hm1, hm2⟩ : ∃ m : Nat, ((i : Int) + (j : Int)) / 2 = (m : Int) ∧ i ≤ m ∧ m < j := ⟨(i + j) / 2, by omega, by omega, by omega⟩
      have hml : m < l.length := by omega
      obtain ⟨b, o, hix, _, hbs, ok1, ok2, hc0, hc1⟩ := (hv.below hb).idxHeadAt aHead m m l[m] rfl (List.getElem?_eq_getElem hml)
      have HLo := keepBack (fun (hlo : Op.bytesLess l[m].1.toList key.toList = true) (k : Nat) (hk : k < l.length) (hkm : k < m + 1) => show Op.bytesLess l[k].1.toList key.toList = true by
        have hr := HR.out
        rcases Nat.lt_or_ge k m with h1 | h1
        · exact less_trans (heads_lt hr h1 hml) hlo
        · obtain rfl : k = m := by omega
          exact hlo)
      have HHi := keepBack (fun (hhi : Op.bytesLess l[m].1.toList key.toList = false) (k : Nat) (hk : k < l.length) (hkm : m ≤ k) => show Op.bytesLess l[k].1.toList key.toList = false by
        have hr := HR.out
        rcases Nat.lt_or_ge m k with h1 | h1
        · cases hq : Op.bytesLess l[k].1.toList key.toList with
          | false => rfl
          | true => rw [less_trans (heads_lt hr h1 hk) hq] at hhi; cases hhi
        · obtain rfl : k = m := by omega
          exact hhi)
      generalize l[m] = r at *
      by_cases hlo : Op.bytesLess r.1.toList key.toList = true
      · have HC := keepBack (show cmpS r.1 key = -1 by rw [cmpS, if_pos hlo])
        have H1' := keepBack (HLo.out hlo)
        clear hlo
        go_wp2_with fail
        refine (where1 _ _ _ _).mono ?_; rintro e w1 ⟨_, rfl, rfl, b1⟩
        rw [HC.out]
        go_wp2
        go_roundw
        case rel => exact ⟨m + 1, j, by omega, hjl, by go_num, rfl, hb.trans (b1.mono hs), H1', H2⟩
        case measure => simp [intOf]; omega
      · have HC := keepBack (show 0 ≤ cmpS r.1 key by rw [cmpS, if_neg hlo]; split <;> omega)
        have H2' := keepBack (HHi.out (by simpa using hlo))
        clear hlo
        go_wp2_with fail
        refine (where1 _ _ _ _).mono ?_; rintro e w1 ⟨_, rfl, rfl, b1⟩
        have hc' := HC.out
        generalize cmpS r.1 key = c at *
        go_wp2
        go_roundw
        case rel => exact ⟨i, m, hm1, by omega, rfl, rfl, hb.trans (b1.mono hs), H1, H2'⟩
        case measure => simp [intOf]; omega
    · obtain rfl : i = j := by omega
      have hsk := hdN_eq HR.out hjl H1.out H2.out
      by_cases hil : i < l.length
      · obtain ⟨b, o, hix, _, hbs, ok1, ok2, hc0, hc1⟩ := (hv.below hb).idxHeadAt aHead i i l[i] rfl (List.getElem?_eq_getElem hil)
        have HB := keepBack (show hdHas l key = decide (l[i].1.toList = key.toList) by rw [hdHas, hsk, List.getElem?_eq_getElem hil])
        have HS := keepBack hsk
        clear hsk
        generalize l[i] = r at *
        have HQ := keepBack (cmpS_zero r.1 key)
        go_wp2_with fail
        refine (where1 _ _ _ _).mono ?_; rintro e w1 ⟨_, rfl, rfl, b1⟩
        go_wp2
        go_ret2
        exact ⟨_, rfl, by rw [HS.out, HB.out, ← HQ.out]; rfl, hb.trans (b1.mono hs)⟩
      · obtain rfl : i = l.length := by omega
        have HB := keepBack (show hdHas l key = false by rw [hdHas, hsk, List.getElem?_eq_none (Nat.le_refl _)])
        have HS := keepBack hsk
        clear hsk
        go_wp2
        go_ret2
        exact ⟨_, rfl, by rw [HS.out, HB.out]; rfl, hb⟩
theorem repoWhere (v : Value) (r : Repo) (key : ByteArray) (S : Blk) (w : World) (h : Rp w S v r) (hr : headsRise r.1.length [] r.2 = true) (hl : r.2.length ≤ 1000000) :
    Calls Tryz.prog 103 #[v, .string key] w (Ret w fun x _ => x = .tuple #[.int .i64 (hdN r.2 key : Nat), .bool (hdHas r.2 key)]) := by
  obtain ⟨cs, hs⟩ := r
  obtain ⟨vc, vh, rfl, hc, hh⟩ := h
  obtain ⟨ac, cc, rfl, _, _, _⟩ := hc.shape
  obtain ⟨ah, ch, rfl, _, _, _⟩ := hh.shape
  simp only at hc hh hr hl
  go_enter Tryz.func103, Tryz.ntmps103
  go_wp2_with fail
  refine (searchHeads _ hs key _ _ _ (hh.call ((Below.refl _ _).alloc (Nat.le_refl _) _)) hr hl).mono ?_; rintro e w1 ⟨_, rfl, rfl, b1⟩
  go_wp2
  go_ret2
  exact ⟨_, rfl, rfl, ((Below.refl _ _).alloc (Nat.le_refl _) _).trans (b1.mono (by simp))⟩
end Go.Pch
end
