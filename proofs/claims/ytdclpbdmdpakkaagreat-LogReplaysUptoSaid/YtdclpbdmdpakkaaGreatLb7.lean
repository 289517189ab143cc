/- The walks of repo.Where, Head and Log. The walk of slices.Reverse at ints: a row of the call's own, turned round in place. -/
import Derived.Test.YtdclpbdmdpakkaaGreatLb6
import Derived.Test.YtdclpbdmdpakkaaGreatLb2
import Derived.Laws.Rows
import Derived.IntWalk
section
namespace Go.Pch
open Go.RowKit Go.Proofs
set_option maxRecDepth 100000

/-- What cmp.Compare says. -/
def cmpS (a b : ByteArray) : Int := if Op.bytesLess a.toList b.toList = true then -1 else if Op.bytesLess b.toList a.toList = true then 1 else 0
theorem cmpS_zero (a b : ByteArray) : (cmpS a b == 0) = decide (a.toList = b.toList) := by
  unfold cmpS
  by_cases h : a.toList = b.toList
  · rw [h, if_neg (by rw [less_irrefl]; simp), if_neg (by rw [less_irrefl]; simp)]; simp
  · cases h1 : Op.bytesLess a.toList b.toList with
    | true => simp [h]
    | false => rw [if_neg (by simp), if_pos (less_tri h1 h)]; simp [h]
/-- How many heads have lesser names. -/
def hdN : List Head → ByteArray → Nat
  | [], _ => 0
  | h :: hs, s => if Op.bytesLess h.1.toList s.toList = true then hdN hs s + 1 else 0
def hdHas (hs : List Head) (s : ByteArray) : Bool := match hs[hdN hs s]? with
  | some h => decide (h.1.toList = s.toList)
  | none => false
theorem heads_cons {n : Nat} {last : List UInt8} {h : Head} {hs : List Head} : headsRise n last (h :: hs) = true ↔ (Op.bytesLess last h.1.toList = true ∧ 0 ≤ h.2 ∧ h.2 < n) ∧ headsRise n h.1.toList hs = true := by
  rw [headsRise]; simp
theorem heads_all {n : Nat} : ∀ {last : List UInt8} {hs : List Head}, headsRise n last hs = true → ∀ h ∈ hs, Op.bytesLess last h.1.toList = true ∧ 0 ≤ h.2 ∧ h.2 < n
  | _, [], _, h, hm => by cases hm
  | last, x :: hs, hr, h, hm => by
    rw [heads_cons] at hr
    rcases List.mem_cons.1 hm with rfl | hm
    · exact hr.1
    · have := heads_all hr.2 h hm
      exact ⟨less_trans hr.1.1 this.1, this.2⟩
theorem heads_lt {n : Nat} : ∀ {last : List UInt8} {hs : List Head}, headsRise n last hs = true → ∀ {i j : Nat} (_ : i < j) (hj : j < hs.length), Op.bytesLess hs[i].1.toList hs[j].1.toList = true
  | _, [], _, i, j, _, hj => by simp at hj
  | last, x :: hs, hr, i, j, hij, hj => by
    rw [heads_cons] at hr
    cases j with
    | zero => omega
    | succ j =>
      have hj' : j < hs.length := by simpa using hj
      cases i with
      | zero => exact (heads_all hr.2 hs[j] (List.getElem_mem hj')).1
      | succ i => exact heads_lt hr.2 (by omega) hj'
theorem hdN_eq {n : Nat} : ∀ {last : List UInt8} {hs : List Head}, headsRise n last hs = true → ∀ {s : ByteArray} {i : Nat}, i ≤ hs.length → (∀ (j : Nat) (hj : j < hs.length), j < i → Op.bytesLess hs[j].1.toList s.toList = true) →
    (∀ (j : Nat) (hj : j < hs.length), i ≤ j → Op.bytesLess hs[j].1.toList s.toList = false) → hdN hs s = i
  | _, [], _, s, i, hi, _, _ => by simp at hi; rw [hi]; rfl
  | last, x :: hs, hr, s, i, hi, h1, h2 => by
    rw [heads_cons] at hr
    rw [hdN]
    cases i with
    | zero =>
      have := h2 0 (by simp) (Nat.le_refl _)
      simp only [List.getElem_cons_zero] at this
      rw [this, if_neg (by simp)]
    | succ i =>
      have := h1 0 (by simp) (by omega)
      simp only [List.getElem_cons_zero] at this
      rw [this, if_pos rfl, hdN_eq hr.2 (s := s) (i := i) (by simpa using hi) (fun j hj hji => by have := h1 (j + 1) (by simpa using hj) (by omega); simpa using this) (fun j hj hji => by have := h2 (j + 1) (by simpa using hj) (by omega); simpa using this)]
theorem headK_none {n : Nat} : ∀ {last : List UInt8} {hs : List Head}, headsRise n last hs = true → ∀ {s : ByteArray}, Op.bytesLess last s.toList = false → headK hs s = none
  | _, [], _, _, _ => rfl
  | last, x :: hs, hr, s, h => by
    rw [heads_cons] at hr
    have hx : Op.bytesLess x.1.toList s.toList = false := by
      cases hq : Op.bytesLess x.1.toList s.toList with
      | false => rfl
      | true => rw [less_trans hr.1.1 hq] at h; cases h
    rw [headK, if_neg (by intro e; rw [← e, hr.1.1] at h; cases h), headK_none hr.2 hx]; rfl
/-- In right heads the first one of the name is where the search finds it. -/
theorem headK_seek {n : Nat} : ∀ {last : List UInt8} {hs : List Head}, headsRise n last hs = true → ∀ (s : ByteArray), headK hs s = if hdHas hs s = true then some (hdN hs s) else none
  | _, [], _, _ => rfl
  | last, x :: hs, hr, s => by
    rw [heads_cons] at hr
    have ih := headK_seek hr.2 s
    rw [headK]
    by_cases he : x.1.toList = s.toList
    · have h1 : hdN (x :: hs) s = 0 := by rw [hdN, he, less_irrefl, if_neg (by simp)]
      have h2 : hdHas (x :: hs) s = true := by rw [hdHas, h1]; simp [he]
      rw [if_pos he, h2, if_pos rfl, h1]
    · rw [if_neg he]
      cases hl : Op.bytesLess x.1.toList s.toList with
      | true =>
        have h1 : hdN (x :: hs) s = hdN hs s + 1 := by rw [hdN, hl, if_pos rfl]
        have h2 : hdHas (x :: hs) s = hdHas hs s := by rw [hdHas, h1, List.getElem?_cons_succ, hdHas]
        rw [ih, h2, h1]
        split <;> rfl
      | false =>
        have h1 : hdN (x :: hs) s = 0 := by rw [hdN, hl, if_neg (by simp)]
        have h2 : hdHas (x :: hs) s = false := by rw [hdHas, h1]; simp [he]
        rw [headK_none hr.2 hl, h2]; rfl

theorem notNaNS (a : ByteArray) (w : World) : Calls Tryz.prog 111 #[.string a] w fun e w' => e = .returned (.bool false) ∧ w = w' := by
  have h : (a.toList == a.toList) = true := by simp
  go_enter Tryz.func111, Tryz.ntmps111
  go_wp2
  go_ret
  exact ⟨by simp, rfl⟩
theorem compareStr (a b : ByteArray) (w : World) : Calls Tryz.prog 95 #[.string a, .string b] w fun e w' => e = .returned (.int .i64 (cmpS a b)) ∧ w = w' := by
  cases h1 : Op.bytesLess a.toList b.toList with
  | true =>
    have hc : cmpS a b = -1 := by rw [cmpS, if_pos h1]
    rw [hc]
    go_enter Tryz.func95, Tryz.ntmps95
    go_wp2_with (go_at_call 111; refine (notNaNS _ _).mono ?_; rintro e w' ⟨rfl, rfl⟩)
    go_ret
    exact ⟨rfl, rfl⟩
  | false =>
    cases h2 : (a.toList == b.toList) with
    | true =>
      have hc : cmpS a b = 0 := by rw [cmpS, eq_of_beq h2, less_irrefl]; simp
      rw [hc]
      go_enter Tryz.func95, Tryz.ntmps95
      go_wp2_with (go_at_call 111; refine (notNaNS _ _).mono ?_; rintro e w' ⟨rfl, rfl⟩)
      go_ret
      exact ⟨rfl, rfl⟩
    | false =>
      have hc : cmpS a b = 1 := by rw [cmpS, h1, if_neg (by simp), if_pos (less_tri h1 (by simpa using h2))]
      rw [hc]
      go_enter Tryz.func95, Tryz.ntmps95
      go_wp2_with (go_at_call 111; refine (notNaNS _ _).mono ?_; rintro e w' ⟨rfl, rfl⟩)
      go_ret
      exact ⟨rfl, rfl⟩
theorem where1 (a : ByteArray) (n : Int) (key : ByteArray) (w : World) : Calls Tryz.prog 94 #[.agg #[.string a, .int .i64 n], .string key] w (Ret w fun r _ => r = .int .i64 (cmpS a key)) := by
  go_enter Tryz.func94, Tryz.ntmps94
  go_wp2_with (go_at_call 95; refine (compareStr _ _ _).mono ?_; rintro e w' ⟨rfl, rfl⟩)
  go_ret
  exact ⟨_, rfl, rfl, (Below.refl _ _).alloc (Nat.le_refl _) _⟩

set_option maxRecDepth 100000 in
set_option maxHeartbeats 1000000 in
theorem searchHeads (v : Value) (l : List Head) (key : ByteArray) (n : Nat) (S : Blk) (w : World) (h : Sl tHead w S v l) (hr : headsRise n [] l = true) (hl : l.length ≤ 1000000) :
    Calls Tryz.prog 93 #[v, .string key, .func (.func 94) #[] #[]] w (Ret w fun r _ => r = .tuple #[.int .i64 (hdN l key : Nat), .bool (hdHas l key)]) := by
  have hv := h.old
  obtain ⟨ao, cap, rfl, hcap, hmax, hnil⟩ := h.shape
  unfold maxLen at hmax
  have HR := keepBack hr
  clear hr
  go_enter Tryz.func93, Tryz.ntmps93
  go_wp2
  go_loopw [9, 10] (fun a b wr => ∃ (i j : Nat), i ≤ j ∧ j ≤ l.length ∧ a = .int .i64 i ∧ b = .int .i64 j ∧ Below w.heap.size w wr ∧ Hid (∀ (k : Nat) (hk : k < l.length), k < i → Op.bytesLess l[k].1.toList key.toList = true) ∧ Hid (∀ (k : Nat) (hk : k < l.length), j ≤ k → Op.bytesLess l[k].1.toList key.toList = false)) (fun a b _ => (intOf b).toNat - (intOf a).toNat)
  case atStart => exact ⟨0, l.length, Nat.zero_le _, Nat.le_refl _, rfl, rfl, Below.refl _ _, fun k _ h => by omega, fun k hk h => by omega⟩
  case round =>
    obtain ⟨i, j, hij, hjl, rfl, rfl, hb, H1, H2⟩ := hrel
    have hs := hb.size
    by_cases hlt : i < j
    · obtain ⟨m, hmm, hm1, hm2⟩ : ∃ m : Nat, ((i : Int) + (j : Int)) / 2 = (m : Int) ∧ i ≤ m ∧ m < j := ⟨(i + j) / 2, by omega, by omega, by omega⟩
      have hml : m < l.length := by omega
      obtain ⟨b, o, hix, _, hbs, ok1, ok2, hc0, hc1⟩ := (hv.below hb).idxHeadAt aHead m m l[m] rfl (List.getElem?_eq_getElem hml)
      have HLo := keepBack (fun (hlo : Op.bytesLess l[m].1.toList key.toList = true) (k : Nat) (hk : k < l.length) (hkm : k < m + 1) => show Op.bytesLess l[k].1.toList key.toList = true by
        have hr := HR.out
        rcases Nat.lt_or_ge k m with h1 | h1
        · exact less_trans (heads_lt hr h1 hml) hlo
        · obtain rfl : k = m := by omega
          exact hlo)
      have HHi := keepBack (fun (hhi : Op.bytesLess l[m].1.toList key.toList = false) (k : Nat) (hk : k < l.length) (hkm : m ≤ k) => show Op.bytesLess l[k].1.toList key.toList = false by
        have hr := HR.out
        rcases Nat.lt_or_ge m k with h1 | h1
        · cases hq : Op.bytesLess l[k].1.toList key.toList with
          | false => rfl
          | true => rw [less_trans (heads_lt hr h1 hk) hq] at hhi; cases hhi
        · obtain rfl : k = m := by omega
          exact hhi)
      generalize l[m] = r at *
      by_cases hlo : Op.bytesLess r.1.toList key.toList = true
      · have HC := keepBack (show cmpS r.1 key = -1 by rw [cmpS, if_pos hlo])
        have H1' := keepBack (HLo.out hlo)
        clear hlo
        go_wp2_with fail
        refine (where1 _ _ _ _).mono ?_; rintro e w1 ⟨_, rfl, rfl, b1⟩
        rw [HC.out]
        go_wp2
        go_roundw
        case rel => exact ⟨m + 1, j, by omega, hjl, by go_num, rfl, hb.trans (b1.mono hs), H1', H2⟩
        case measure => simp [intOf]; omega
      · have HC := keepBack (show 0 ≤ cmpS r.1 key by rw [cmpS, if_neg hlo]; split <;> omega)
        have H2' := keepBack (HHi.out (by simpa using hlo))
        clear hlo
        go_wp2_with fail
        refine (where1 _ _ _ _).mono ?_; rintro e w1 ⟨_, rfl, rfl, b1⟩
        have hc' := HC.out
        generalize cmpS r.1 key = c at *
        go_wp2
        go_roundw
        case rel => exact ⟨i, m, hm1, by omega, rfl, rfl, hb.trans (b1.mono hs), H1, H2'⟩
        case measure => simp [intOf]; omega
    · obtain rfl : i = j := by omega
      have hsk := hdN_eq HR.out hjl H1.out H2.out
      by_cases hil : i < l.length
      · obtain ⟨b, o, hix, _, hbs, ok1, ok2, hc0, hc1⟩ := (hv.below hb).idxHeadAt aHead i i l[i] rfl (List.getElem?_eq_getElem hil)
        have HB := keepBack (show hdHas l key = decide (l[i].1.toList = key.toList) by rw [hdHas, hsk, List.getElem?_eq_getElem hil])
        have HS := keepBack hsk
        clear hsk
        generalize l[i] = r at *
        have HQ := keepBack (cmpS_zero r.1 key)
        go_wp2_with fail
        refine (where1 _ _ _ _).mono ?_; rintro e w1 ⟨_, rfl, rfl, b1⟩
        go_wp2
        go_ret2
        exact ⟨_, rfl, by rw [HS.out, HB.out, ← HQ.out]; rfl, hb.trans (b1.mono hs)⟩
      · obtain rfl : i = l.length := by omega
        have HB := keepBack (show hdHas l key = false by rw [hdHas, hsk, List.getElem?_eq_none (Nat.le_refl _)])
        have HS := keepBack hsk
        clear hsk
        go_wp2
        go_ret2
        exact ⟨_, rfl, by rw [HS.out, HB.out]; rfl, hb⟩

theorem repoWhere (v : Value) (r : Repo) (key : ByteArray) (S : Blk) (w : World) (h : Rp w S v r) (hr : headsRise r.1.length [] r.2 = true) (hl : r.2.length ≤ 1000000) :
    Calls Tryz.prog 64 #[v, .string key] w (Ret w fun x _ => x = .tuple #[.int .i64 (hdN r.2 key : Nat), .bool (hdHas r.2 key)]) := by
  obtain ⟨cs, hs⟩ := r
  obtain ⟨vc, vh, rfl, hc, hh⟩ := h
  obtain ⟨ac, cc, rfl, _, _, _⟩ := hc.shape
  obtain ⟨ah, ch, rfl, _, _, _⟩ := hh.shape
  simp only at hc hh hr hl
  go_enter Tryz.func64, Tryz.ntmps64
  go_wp2_with fail
  refine (searchHeads _ hs key _ _ _ (hh.call ((Below.refl _ _).alloc (Nat.le_refl _) _)) hr hl).mono ?_; rintro e w1 ⟨_, rfl, rfl, b1⟩
  go_wp2
  go_ret2
  exact ⟨_, rfl, rfl, ((Below.refl _ _).alloc (Nat.le_refl _) _).trans (b1.mono (by simp))⟩

end Go.Pch
end

section
namespace Go.Pch
open Go.RowKit Go.Proofs
set_option maxRecDepth 100000

theorem grown_setCellI (A : World) (a : Addr) (v : Value) : A.grownBy (A.setCell a v) (some a.block) :=
  ⟨rfl, rfl, rfl, by simp, fun k _ hk => Below.heap_setCell _ _ _ _ (by intro e; exact hk (by rw [e]))⟩

/-- Which cell comes to p, when i of n cells at both ends (from o on) have been swapped. -/
def sgI (o n i p : Nat) : Nat := if (o ≤ p ∧ p < o + i) ∨ (o + n ≤ p + i ∧ p < o + n) then 2 * o + n - 1 - p else p
structure SwappedI (cur cs : List Value) (o n i : Nat) : Prop where
  len : cs.length = cur.length
  get : ∀ p, p < cur.length → cs[p]? = cur[sgI o n i p]?
theorem SwappedI.refl (cur : List Value) (o n : Nat) : SwappedI cur cur o n 0 :=
  ⟨rfl, fun p _ => by rw [sgI, if_neg (by omega)]⟩
theorem SwappedI.step {cur cs : List Value} {o n i j : Nat} (h : SwappedI cur cs o n i) (hj : j = n - 1 - i) (hij : i < j) (hn : o + n ≤ cur.length) {a b : Value} (ha : cs[o + i]? = some a) (hb : cs[o + j]? = some b) :
    SwappedI cur ((cs.set (o + i) b).set (o + j) a) o n (i + 1) := by
  refine ⟨by rw [List.length_set, List.length_set, h.len], fun p hp => ?_⟩
  have hl := h.len
  by_cases h1 : p = o + j
  · subst h1
    rw [List.getElem?_set_self (by rw [List.length_set]; omega), ← ha, h.get _ (by omega)]
    congr 1
    rw [sgI, if_neg (by omega), sgI, if_pos (by omega)]
    omega
  · rw [List.getElem?_set_ne (by omega)]
    by_cases h2 : p = o + i
    · subst h2
      rw [List.getElem?_set_self (by omega), ← hb, h.get _ (by omega)]
      congr 1
      rw [sgI, if_neg (by omega), sgI, if_pos (by omega)]
      omega
    · rw [List.getElem?_set_ne (by omega), h.get p hp]
      congr 1
      unfold sgI
      by_cases h3 : (o ≤ p ∧ p < o + i) ∨ (o + n ≤ p + i ∧ p < o + n)
      · rw [if_pos h3, if_pos (by omega)]
      · rw [if_neg h3, if_neg (by omega)]
theorem cells_cellI {w : World} {g p : Nat} {cs : List Value} {t : TypeId} (hg : w.heap[g]? = some (.cells cs.toArray t)) {v : Value} (hv : cs[p]? = some v) : w.cell? ⟨g, p, none⟩ = some v := by
  rw [World.cell?, hg]
  simpa using hv




end Go.Pch
end
