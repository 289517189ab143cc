/- The walks of repo.Check. The walks of package dag: sets. The walks of package dag: who is above. -/
import Derived.Test.YtdclpbdmdpakkaaGreatLb5
import Derived.Test.YtdclpbdmdpakkaaGreatLb4
import Derived.Laws.BitsAllLaws
section
namespace Go.Pch
open Go.RowKit Go.Proofs
set_option maxRecDepth 100000

theorem check1 (s : ByteArray) (n : Int) (w : World) : Calls Tryz.prog 58 #[.agg #[.string s, .int .i64 n]] w (Ret w fun r _ => r = .bool (!nameB s)) := by
  go_enter Tryz.func58, Tryz.ntmps58
  go_wp2_with fail
  refine (repoName s _).mono ?_; rintro e w1 ⟨_, rfl, rfl, b1⟩
  go_wp2
  go_ret
  exact ⟨_, rfl, rfl, ((Below.refl _ _).alloc (Nat.le_refl _) _).trans (b1.mono (by simp))⟩
theorem check1_of {c : Bool} (s : ByteArray) (n : Int) (w : World) (h : nameB s = c) : Calls Tryz.prog 58 #[.agg #[.string s, .int .i64 n]] w (Ret w fun r _ => r = .bool (!c)) := h ▸ check1 s n w

set_option maxHeartbeats 1000000 in
theorem headsIndex (v : Value) (hs : List Head) (S : Blk) (w : World) (h : Sl tHead w S v hs) :
    Calls Tryz.prog 87 #[v, .func (.func 58) #[] #[]] w (Ret w fun r _ => ∃ i : Int, r = .int .i64 i ∧ decide (0 ≤ i) = hs.any fun h => !nameB h.1) := by
  have hv := h.old
  obtain ⟨ao, cap, rfl, hcap, hmax, hnil⟩ := h.shape
  unfold maxLen at hmax
  go_enter Tryz.func87, Tryz.ntmps87
  go_wp2_with fail
  go_loopw [8] (fun i wr => ∃ (k : Nat), k ≤ hs.length ∧ i = .int .i64 k ∧ Below w.heap.size w wr ∧ Hid (((hs.take k).any fun h => !nameB h.1) = false)) (fun i _ => hs.length - (intOf i).toNat)
  case atStart => exact ⟨0, Nat.zero_le _, rfl, Below.refl _ _, keepBack rfl⟩
  case round =>
    obtain ⟨k, hk, rfl, hb, HA⟩ := hrel
    have hs' := hb.size
    by_cases hlt : k < hs.length
    · obtain ⟨x, hx⟩ : ∃ x, hs[k]? = some x := ⟨hs[k], List.getElem?_eq_getElem hlt⟩
      obtain ⟨b, o, hix, _, hbs, ok1, ok2, hc00, hc10⟩ := hv.idxHeadAt aHead k k x rfl hx
      have hc0 := (hb.cell (p := ⟨b, o, none⟩) hbs).trans hc00
      have hc1 := (hb.cell (p := ⟨b, o + 1, none⟩) hbs).trans hc10
      clear hc00 hc10
      have HX := keepBack hx
      clear hx
      cases hn : nameB x.1 with
      | true =>
        have HA2 : Hid (((hs.take (k + 1)).any fun h => !nameB h.1) = false) := keepBack (by rw [List.take_add_one, HX.out, List.any_append, HA.out]; simp [hn])
        go_wp2_with (go_at_call 58; refine (check1_of x.1 x.2 wr hn).mono ?_; rintro e w1 ⟨_, rfl, rfl, b1⟩)
        go_roundw
        case rel => exact ⟨k + 1, by omega, by go_num, hb.trans (b1.mono hs'), HA2⟩
        case measure => simp [intOf]; omega
      | false =>
        have HR : Hid ((hs.any fun h => !nameB h.1) = true) := keepBack (by rw [List.any_eq_true]; exact ⟨x, List.mem_of_getElem? HX.out, by simp [hn]⟩)
        go_wp2_with (go_at_call 58; refine (check1_of x.1 x.2 wr hn).mono ?_; rintro e w1 ⟨_, rfl, rfl, b1⟩)
        go_ret
        exact ⟨_, rfl, ⟨_, rfl, by rw [HR.out]; simp⟩, hb.trans (b1.mono hs')⟩
    · have HR : Hid ((hs.any fun h => !nameB h.1) = false) := keepBack (by have := HA.out; rwa [List.take_of_length_le (by omega)] at this)
      go_wp2
      go_ret
      exact ⟨_, rfl, ⟨_, rfl, by rw [HR.out]; rfl⟩, hb⟩
theorem headsContains (v : Value) (hs : List Head) (S : Blk) (w : World) (h : Sl tHead w S v hs) :
    Calls Tryz.prog 57 #[v, .func (.func 58) #[] #[]] w (Ret w fun r _ => r = .bool (hs.any fun h => !nameB h.1)) := by
  go_enter Tryz.func57, Tryz.ntmps57
  go_wp2_with fail
  refine (headsIndex v hs S w h).mono ?_; rintro e w1 ⟨_, rfl, ⟨i, rfl, hi⟩, b1⟩
  go_wp2
  go_ret
  exact ⟨_, rfl, by rw [← hi]; rfl, b1⟩
theorem headsContains_of {c : Bool} (v : Value) (hs : List Head) (S : Blk) (w : World) (h : Sl tHead w S v hs) (hc : (hs.any fun h => !nameB h.1) = c) :
    Calls Tryz.prog 57 #[v, .func (.func 58) #[] #[]] w (Ret w fun r _ => r = .bool c) := hc ▸ headsContains v hs S w h

theorem headsRise_go {n : Nat} {last : List UInt8} {hs : List Head} {k : Nat} {x : Head} (hx : hs[k]? = some x) (h : (Op.bytesLess last x.1.toList && (decide (0 ≤ x.2) && decide (x.2 < n))) = true) : headsRise n last (hs.drop k) = headsRise n x.1.toList (hs.drop (k + 1)) := by
  obtain ⟨hk, rfl⟩ := List.getElem?_eq_some_iff.1 hx
  rw [List.drop_eq_getElem_cons hk, headsRise, h, Bool.true_and]
theorem headsRise_stop {n : Nat} {last : List UInt8} {hs : List Head} {k : Nat} {x : Head} (hx : hs[k]? = some x) (h : (Op.bytesLess last x.1.toList && (decide (0 ≤ x.2) && decide (x.2 < n))) = false) : headsRise n last (hs.drop k) = false := by
  obtain ⟨hk, rfl⟩ := List.getElem?_eq_some_iff.1 hx
  rw [List.drop_eq_getElem_cons hk, headsRise, h, Bool.false_and]
theorem headsRise_end {n : Nat} {last : List UInt8} {hs : List Head} {k : Nat} (hk : ¬ k < hs.length) : headsRise n last (hs.drop k) = true := by
  rw [List.drop_of_length_le (by omega), headsRise]
theorem repoErr_dag {r : Repo} (h : commitsErr r.1 ≠ 0) : repoErr r = commitsErr r.1 := by rw [repoErr, if_pos h]
theorem repoErr_many {r : Repo} (h : commitsErr r.1 = 0) (h1 : 4 < r.2.length) : repoErr r = 2 := by rw [repoErr, if_neg (by simp [h]), if_pos h1]
theorem repoErr_name {r : Repo} (h : commitsErr r.1 = 0) (h1 : ¬ 4 < r.2.length) (h2 : (r.2.any fun h => !nameB h.1) = true) : repoErr r = 4 := by rw [repoErr, if_neg (by simp [h]), if_neg h1, if_pos h2]
theorem repoErr_form {r : Repo} (h : commitsErr r.1 = 0) (h1 : ¬ 4 < r.2.length) (h2 : (r.2.any fun h => !nameB h.1) = false) {c : Bool} (h3 : headsRise r.1.length [] r.2 = c) : repoErr r = if c = true then 0 else 1 := by rw [repoErr, if_neg (by simp [h]), if_neg h1, if_neg (by simp [h2]), h3]

set_option maxHeartbeats 4000000 in
theorem repoCheck (v : Value) (r : Repo) (S : Blk) (w : World) (h : Rp w S v r) : Calls Tryz.prog 24 #[v] w (Ret w fun x _ => x = .int .i64 (repoErr r)) := by
  obtain ⟨cs, hs⟩ := r
  obtain ⟨vc, vh, rfl, hc, hh⟩ := h
  obtain ⟨ac, cc, rfl, _, _, _⟩ := hc.shape
  obtain ⟨ah, ch, rfl, _, _, _⟩ := hh.shape
  simp only at hc hh
  obtain ⟨wA, hwA⟩ : ∃ wA, wA = w.alloc (.cells #[.slice ac cs.length cc, .slice ah hs.length ch] 25) := ⟨_, rfl⟩
  have bA : Below w.heap.size w wA := by rw [hwA]; exact (Below.refl _ _).alloc (Nat.le_refl _) _
  have sA : wA.heap.size = w.heap.size + 1 := by rw [hwA]; simp
  have k0 : wA.cell? ⟨w.heap.size, 0, none⟩ = some (.slice ac cs.length cc) := by rw [hwA]; simp
  have k1 : wA.cell? ⟨w.heap.size, 1, none⟩ = some (.slice ah hs.length ch) := by rw [hwA]; simp
  have HWA := keepBack hwA
  clear hwA
  by_cases hd : commitsErr cs = 0
  · by_cases hm : 4 < hs.length
    · have HP := keepBack (repoErr_many (r := (cs, hs)) hd hm)
      have hq : (4 : Int) < hs.length := by omega
      go_enter Tryz.func24, Tryz.ntmps24
      go_wp2_with fail
      rw [← HWA.out]
      refine (dagCheck_of _ cs _ wA (hc.call bA) hd).mono ?_; rintro e w1 ⟨_, rfl, rfl, b1⟩
      have r0 := (b1.cell (p := ⟨w.heap.size, 0, none⟩) (by simp; omega)).trans k0
      have r1 := (b1.cell (p := ⟨w.heap.size, 1, none⟩) (by simp; omega)).trans k1
      go_wp2_with fail
      go_ret
      exact ⟨_, rfl, by rw [HP.out]; rfl, bA.trans (b1.mono (by omega))⟩
    · have hq : ¬ (4 : Int) < hs.length := by omega
      cases hn : hs.any fun h => !nameB h.1 with
      | true =>
        have HP := keepBack (repoErr_name (r := (cs, hs)) hd hm hn)
        go_enter Tryz.func24, Tryz.ntmps24
        go_wp2_with fail
        rw [← HWA.out]
        refine (dagCheck_of _ cs _ wA (hc.call bA) hd).mono ?_; rintro e w1 ⟨_, rfl, rfl, b1⟩
        have s1 := b1.size
        have r0 := (b1.cell (p := ⟨w.heap.size, 0, none⟩) (by simp; omega)).trans k0
        have r1 := (b1.cell (p := ⟨w.heap.size, 1, none⟩) (by simp; omega)).trans k1
        go_wp2_with fail
        refine (headsContains_of _ hs _ w1 ((hh.call bA).call b1) hn).mono ?_; rintro e w2 ⟨_, rfl, rfl, b2⟩
        go_wp2_with fail
        go_ret
        exact ⟨_, rfl, by rw [HP.out]; rfl, (bA.trans (b1.mono (by omega))).trans (b2.mono (by omega))⟩
      | false =>
        have HP := fun c => @repoErr_form (cs, hs) hd hm hn c
        have HPK := keepBack HP
        clear HP
        go_enter Tryz.func24, Tryz.ntmps24
        go_wp2_with fail
        rw [← HWA.out]
        refine (dagCheck_of _ cs _ wA (hc.call bA) hd).mono ?_; rintro e w1 ⟨_, rfl, rfl, b1⟩
        have s1 := b1.size
        have r0 := (b1.cell (p := ⟨w.heap.size, 0, none⟩) (by simp; omega)).trans k0
        have r1 := (b1.cell (p := ⟨w.heap.size, 1, none⟩) (by simp; omega)).trans k1
        go_wp2_with fail
        refine (headsContains_of _ hs _ w1 ((hh.call bA).call b1) hn).mono ?_; rintro e w2 ⟨_, rfl, rfl, b2⟩
        have b02 := (bA.trans (b1.mono (by omega))).trans (b2.mono (by omega))
        have s2 := b2.size
        have q0 := (b2.cell (p := ⟨w.heap.size, 0, none⟩) (by simp; omega)).trans r0
        have q1 := (b2.cell (p := ⟨w.heap.size, 1, none⟩) (by simp; omega)).trans r1
        have hh2 := (((hh.call bA).call b1).call b2).old
        clear r0 r1 k0 k1
        go_wp2_with fail
        go_loopw [4, 23] (fun ls i wr => ∃ (k : Nat) (l : ByteArray), k ≤ hs.length ∧ i = .int .i64 k ∧ ls = .string l ∧ Below w2.heap.size w2 wr ∧ Hid (headsRise cs.length [] hs = headsRise cs.length l.toList (hs.drop k))) (fun _ i _ => hs.length - (intOf i).toNat)
        case atStart => exact ⟨0, _, Nat.zero_le _, rfl, rfl, Below.refl _ _, keepBack (by rw [List.drop_zero, ByteArray.toList_eq])⟩
        case round =>
          obtain ⟨k, l, hk, rfl, rfl, hb, HR⟩ := hrel
          have hs' := hb.size
          have z0 := (hb.cell (p := ⟨w.heap.size, 0, none⟩) (by simp; omega)).trans q0
          have bb : Below w.heap.size w wr := b02.trans (hb.mono (by omega))
          by_cases hlt : k < hs.length
          · obtain ⟨x, hx⟩ : ∃ x, hs[k]? = some x := ⟨hs[k], List.getElem?_eq_getElem hlt⟩
            obtain ⟨b, o, hix, _, hbs, ok1, ok2, hc00, hc10⟩ := hh2.idxHeadAt aHead k k x rfl hx
            have hc0 := (hb.cell (p := ⟨b, o, none⟩) hbs).trans hc00
            have hc1 := (hb.cell (p := ⟨b, o + 1, none⟩) hbs).trans hc10
            have hzne : w.heap.size ≠ wr.heap.size := by omega
            clear hc00 hc10 q0 q1
            have HX := keepBack hx
            clear hx
            have z1 : ∀ o, (wr.alloc o).cell? ⟨w.heap.size, 0, none⟩ = some (.slice ac cs.length cc) := fun o => (((Below.refl wr.heap.size wr).alloc (Nat.le_refl _) o).cell (p := ⟨w.heap.size, 0, none⟩) (by simp; omega)).trans z0
            have ADD : ∀ o, Below w.heap.size w (wr.alloc o) := fun o => bb.alloc bb.size o
            cases e1 : Op.bytesLess x.1.toList l.toList with
            | true =>
              have HE := keepBack (HPK.out false (HR.out.trans (headsRise_stop HX.out (by rw [less_asymm e1]; rfl))))
              go_wp2_with fail
              go_ret
              exact ⟨_, rfl, by rw [HE.out]; rfl, ADD _⟩
            | false =>
              cases e2 : (x.1.toList == l.toList) with
              | true =>
                have HE := keepBack (HPK.out false (HR.out.trans (headsRise_stop HX.out (by rw [eq_of_beq e2, less_irrefl]; rfl))))
                go_wp2_with fail
                go_ret
                exact ⟨_, rfl, by rw [HE.out]; rfl, ADD _⟩
              | false =>
                have e3 : Op.bytesLess l.toList x.1.toList = true := less_tri e1 (by simpa using e2)
                by_cases q1 : x.2 < 0
                · have HE := keepBack (HPK.out false (HR.out.trans (headsRise_stop HX.out (by simp; omega))))
                  go_wp2_with fail
                  go_ret
                  exact ⟨_, rfl, by rw [HE.out]; rfl, ADD _⟩
                · have d1 : decide (x.2 < 0) = false := by simpa using q1
                  have Q1 := keepBack q1
                  clear q1
                  by_cases q2 : (cs.length : Int) ≤ x.2
                  · have d2 : decide ((cs.length : Int) ≤ x.2) = true := by simpa using q2
                    have HE := keepBack (HPK.out false (HR.out.trans (headsRise_stop HX.out (by simp; omega))))
                    clear q2
                    go_wp2_with fail
                    go_ret
                    exact ⟨_, rfl, by rw [HE.out]; rfl, ADD _⟩
                  · have d2 : decide ((cs.length : Int) ≤ x.2) = false := by simpa using q2
                    have HG := keepBack (HR.out.trans (headsRise_go HX.out (by have := Q1.out; rw [e3]; simp; omega)))
                    clear q2
                    go_wp2_with fail
                    go_roundw
                    case rel => exact ⟨k + 1, x.1, by omega, by go_num, rfl, hb.alloc hs' _, HG⟩
                    case measure => simp [intOf]; omega
          · have HE := keepBack (HPK.out true (HR.out.trans (headsRise_end hlt)))
            go_wp2
            go_ret
            exact ⟨_, rfl, by rw [HE.out]; rfl, bb⟩
  · have HP := keepBack (repoErr_dag (r := (cs, hs)) hd)
    have hq : (commitsErr cs != 0) = true := by simp [hd]
    go_enter Tryz.func24, Tryz.ntmps24
    go_wp2_with fail
    rw [← HWA.out]
    refine (dagCheck _ cs _ wA (hc.call bA)).mono ?_; rintro e w1 ⟨_, rfl, rfl, b1⟩
    go_wp2_with fail
    go_ret
    exact ⟨_, rfl, by rw [HP.out]; rfl, bA.trans (b1.mono (by omega))⟩

end Go.Pch
end

section
namespace Go.Pch
open Go.RowKit Go.Proofs


/-- Check, and are there such commits? -/
def thereAll (l : List Commit) (ns : List Int) : Int := if commitsErr l ≠ 0 then commitsErr l else if ns.all (inB l.length) then 0 else 5


theorem ofL_eq {l : List Commit} (h : DagOk l) (n : Nat) : ofL l n = (pars l n).foldl (fun s p => s ||| ofL l p.toNat) (2 ^ n) := by
  apply Nat.eq_of_testBit_eq
  intro k
  rw [ofL_bit, foldl_or_bit (fun p => ofL l p.toNat), ab_eq h, Nat.testBit_two_pow]
  congr 1
  · rw [Bool.eq_iff_iff, decide_eq_true_eq, beq_iff_eq]; exact eq_comm
  · congr 1
    funext p
    rw [ofL_bit]

theorem wrap_pow {n : Nat} (h : n < 14) : IntKind.u64.wrap ((2 : Int) ^ n) = ((2 ^ n : Nat) : Int) := by
  have : ∀ i : Fin 14, IntKind.u64.wrap ((2 : Int) ^ i.val) = ((2 ^ i.val : Nat) : Int) := by decide
  exact this ⟨n, h⟩
theorem pow_small {n : Nat} (h : n < 14) : 2 ^ n < 16384 := Nat.pow_lt_pow_right (by decide) (m := n) (n := 14) h

theorem pars_some {l : List Commit} {n : Nat} {r : List Row} {p : List Int} (hn : n < l.length) (h : l[n] = (r, p)) : pars l n = p := by
  rw [pars, List.getElem?_eq_getElem hn, h]; rfl

set_option maxHeartbeats 1000000 in
theorem dagOf {l : List Commit} (hok : DagOk l) : ∀ (n : Nat), n < l.length → ∀ (v : Value) (S : Blk) (w : World), Sl tCommit w S v l →
    Calls Tryz.prog 62 #[v, .int .i64 n] w (Quiet w (.int .u64 (ofL l n : Nat))) := by
  intro n
  induction n using Nat.strongRecOn with
  | _ n ih =>
    intro hn v S w h
    have hv := h
    have h14 := hok.1
    obtain ⟨ao, cap, rfl, hcap, hmax, hnil⟩ := h.shape
    unfold maxLen at hmax
    obtain ⟨rs, ps, hck⟩ : ∃ r p, l[n] = (r, p) := ⟨_, _, rfl⟩
    obtain ⟨b, o, a1, c1, a2, c2, hix, _, hbs, h1, h2, z1, z2, z3, z4, hc0, hc1⟩ := h.idxCommitAt aCom n n rfl hn rs ps hck
    have HP := keepBack (ofL_eq hok n)
    rw [pars_some hn hck] at HP
    have hmem : ∀ j (hj : j < ps.length), 0 ≤ ps[j] ∧ ps[j] < n := fun j hj => by
      have := pars_lt hok (n := n) (p := ps[j]) (by rw [pars_some hn hck]; exact List.getElem_mem hj)
      omega
    have HM := keepBack hmem
    clear hmem
    go_enter Tryz.func62, Tryz.ntmps62
    have hw : IntKind.u64.wrap ((2 : Int) ^ n) = ((2 ^ n : Nat) : Int) := wrap_pow (by omega)
    have h2n : 2 ^ n < 16384 := pow_small (by omega)
    go_wp2_with fail
    obtain ⟨m, hm⟩ : ∃ m, m = 2 ^ n := ⟨_, rfl⟩
    rw [← hm] at HP h2n
    go_loopw [5, 16] (fun s i wr => ∃ (j m : Nat), j ≤ ps.length ∧ i = .int .i64 j ∧ s = .int .u64 m ∧ m < 16384 ∧ Drawn w wr ∧ Hid (ofL l n = (ps.drop j).foldl (fun s p => s ||| ofL l p.toNat) m)) (fun _ i _ => ps.length - (intOf i).toNat)
    case atStart => exact ⟨0, m, Nat.zero_le _, rfl, by rw [hm]; simp, h2n, .refl _, HP.out⟩
    clear hm HP h2n hw m
    case round =>
      obtain ⟨j, m, hj, rfl, rfl, hm, hb, hr⟩ := hrel
      by_cases hlt : j < ps.length
      · obtain ⟨b', o', hix', _, hbs', ok1, hc'⟩ := (h2.call hb.below).idxInt aInt j j rfl hlt
        have hpj := HM.out j hlt
        obtain ⟨p, hp⟩ : ∃ p : Nat, ps[j] = p := ⟨ps[j].toNat, by omega⟩
        have hrs := hr.out
        rw [List.drop_eq_getElem_cons hlt, List.foldl_cons, hp, Int.toNat_natCast] at hrs
        have HR := keepBack hrs
        clear hr hrs
        rw [hp] at hc' hpj
        clear hp ok1
        go_wp2_with fail
        refine (ih p (by omega) (by omega) _ _ _ (h.call hb.below)).mono ?_; rintro e w1 ⟨rfl, b1⟩
        have hol := ofL_lt hok (n := p) (by omega)
        have hor := u64_or_nat m (ofL l p) (by omega) (by omega)
        have horl : m ||| ofL l p < 16384 := Nat.or_lt_two_pow (n := 14) hm hol
        go_wp2_with fail
        go_roundw
        case rel => exact ⟨j + 1, _, by omega, by go_num, rfl, horl, hb.trans b1, HR.out⟩
        case measure => simp [intOf]; omega
      · go_wp2
        go_ret
        exact ⟨by rw [hr.out, List.drop_of_length_le (by omega)]; rfl, hb⟩
theorem dagOf_of {l : List Commit} (hok : DagOk l) (n : Nat) (hn : n < l.length) (v : Value) (S : Blk) (w : World) (h : Sl tCommit w S v l) :
    Calls Tryz.prog 62 #[v, .int .i64 n] w (Quiet w (.int .u64 (ofL l n : Nat))) := dagOf hok n hn v S w h
end Go.Pch
end

section
namespace Go.Pch
open Go.RowKit Go.Proofs

set_option maxHeartbeats 400000 in
theorem dagHas (m k : Nat) (hm : m < 16384) (hk : k < 14) (w : World) : Calls Tryz.prog 63 #[.int .u64 m, .int .i64 k] w fun e w' => e = .returned (.bool (m.testBit k)) ∧ w = w' := by
  go_enter Tryz.func63, Tryz.ntmps63
  go_wp2
  go_ret
  have hd : ((m : Int) / 2 ^ k) = ((m / 2 ^ k : Nat) : Int) := by simp
  have hlt : m / 2 ^ k < 16384 := Nat.lt_of_le_of_lt (Nat.div_le_self _ _) hm
  have ha := u64_and_nat (m / 2 ^ k) 1 (by omega) (by omega)
  rw [Nat.and_one_is_mod] at ha
  refine ⟨ret_bool ?_, rfl⟩
  rw [hd, show (1 : Int) = ((1 : Nat) : Int) from rfl, ha, Nat.testBit_eq_decide_div_mod_eq]
  rw [Bool.eq_iff_iff]; simp; omega

theorem aBool : At Tryz.prog tBool 73 4 := At.mk' Tryz.underlying73 (z := .bool false) (size := 1) (bytes := 1) (by kernel_rfl) rfl rfl (by decide)
theorem infoBool : (Tryz.prog.info? 4).map (fun i => (i.zero, i.size, i.bytes)) = some (some (.bool false), 1, 1) := by kernel_rfl
theorem runMakeBools (n : Nat) (h : n ≤ 1000) (W : World) : Sem.run Tryz.prog (Instr.makeSlice 73 (.int .i64 n) (.int .i64 n)) W = .ok (.slice (some ⟨W.heap.size, 0, none⟩) n n) (W.alloc (.cells (madeCells #[.bool false] n) 4)) := by
  obtain ⟨i, h1, h2, h3, h4⟩ := info_parts infoBool
  have := run_make (P := Tryz.prog) W 73 4 i _ Tryz.underlying73 h1 h2 .i64 .i64 n n (by omega) (by omega) (by rw [h4]; omega) (by omega)
  simpa [h3, Value.cells] using this

theorem idxBools (g n k : Nat) (hk : k < n) (W : World) : Sem.run Tryz.prog (Instr.indexAt 73 (.slice (some ⟨g, 0, none⟩) n n) (.int .i64 k)) W = .ok (.pointer (some ⟨g, k, none⟩)) W := by
  have := run_idx (b := g) (o := 0) (cap := n) aBool (k : Int) k rfl hk W
  simpa [tBool, Ty.flat] using this

/-- Filled up to k. -/
def FillTo (bl : List Bool) (n : Nat) (f : Nat → Bool) (k : Nat) : Prop := bl.length = n ∧ ∀ i, i < n → bl[i]? = some (decide (i < k) && f i)
theorem FillTo.none (n : Nat) (f : Nat → Bool) : FillTo (List.replicate n false) n f 0 := ⟨by simp, fun i hi => by simp [hi]⟩
theorem FillTo.set {bl : List Bool} {n k : Nat} {f : Nat → Bool} (h : FillTo bl n f k) (hk : k < n) : FillTo (bl.set k (f k)) n f (k + 1) := by
  refine ⟨by simp [h.1], fun i hi => ?_⟩
  rw [List.getElem?_set]
  split
  · rename_i e
    subst e
    simp [h.1, hk]
  · rename_i e
    rw [h.2 i hi]
    congr 2
    rw [Bool.eq_iff_iff]; simp; omega
theorem FillTo.all {bl : List Bool} {n : Nat} {f : Nat → Bool} (h : FillTo bl n f n) : bl = (List.range n).map f := by
  apply List.ext_getElem?
  intro i
  by_cases hi : i < n
  · rw [h.2 i hi]; simp [hi]
  · rw [List.getElem?_eq_none (by rw [h.1]; omega), List.getElem?_eq_none (by simp; omega)]

def aboveP (l : List Commit) (n : Int) : List Bool × Int := if thereErr l n = 0 then (aboveL l n.toNat, 0) else ([], thereErr l n)
theorem thereAll_one (l : List Commit) (n : Int) : thereAll l [n] = thereErr l n := by
  rw [thereAll, thereErr]
  split
  · rfl
  · have : [n].all (inB l.length) = (decide (0 ≤ n) && decide (n < l.length)) := by
      rw [Bool.eq_iff_iff]; simp [inB]; omega
    rw [this]
theorem there_ok {l : List Commit} {n : Int} (h : thereErr l n = 0) : DagOk l ∧ ∃ k : Nat, n = k ∧ k < l.length := by
  unfold thereErr at h
  split at h
  · rename_i h1; exact absurd h h1
  · rename_i h1
    split at h
    · rename_i h2
      simp only [Bool.and_eq_true, decide_eq_true_eq] at h2
      exact ⟨dag_ok (by simpa using h1), n.toNat, by omega, by omega⟩
    · cases h


end Go.Pch
end
