/- The walks of package dag: sets. -/
import Derived.Test.YtklgejafblocjaaDagW
import Derived.Laws.BitsAllLaws
namespace Go.Pch
open Go.RowKit Go.Proofs

set_option maxHeartbeats 1000000 in
theorem refCommitError (v : Value) (l : List Commit) (n : Int) (S : Blk) (w : World) (h : Sl tCommit w S v l) :
    Calls Try.prog 10 #[v, .int .i64 n] w (Quiet w (.int .i64 (thereErr l n))) := by
  have hv := h
  obtain ⟨ao, cap, rfl, hcap, hmax, hnil⟩ := h.shape
  unfold maxLen at hmax
  by_cases he : commitsErr l = 0
  · have h14 := (dag_ok he).1
    cases hin : inB l.length n with
    | true =>
      go_enter Try.func10, Try.ntmps10
      go_wp2_with fail
      refine (refCommitsError _ l _ _ hv).mono ?_; rintro e w1 ⟨rfl, d1⟩
      rw [he]
      go_wp2_with fail
      refine (refWithin_of n 0 ((l.length : Int) - 1) _ hin).mono ?_; rintro e w' ⟨rfl, rfl⟩
      go_wp2
      go_ret
      exact ⟨ret_int (by simp [inB] at hin; rw [thereErr, if_neg (by simpa using he), if_pos]; simp; omega), d1⟩
    | false =>
      go_enter Try.func10, Try.ntmps10
      go_wp2_with fail
      refine (refCommitsError _ l _ _ hv).mono ?_; rintro e w1 ⟨rfl, d1⟩
      rw [he]
      go_wp2_with fail
      refine (refWithin_of n 0 ((l.length : Int) - 1) _ hin).mono ?_; rintro e w' ⟨rfl, rfl⟩
      go_wp2
      go_ret
      exact ⟨ret_int (by simp [inB] at hin; rw [thereErr, if_neg (by simpa using he), if_neg]; simp; omega), d1⟩
  · have he' : (commitsErr l != 0) = true := by simp [he]
    go_enter Try.func10, Try.ntmps10
    go_wp2_with fail
    refine (refCommitsError _ l _ _ hv).mono ?_; rintro e w1 ⟨rfl, d1⟩
    go_wp2
    go_ret
    exact ⟨ret_int (by rw [thereErr, if_pos he]), d1⟩

/-- Check, and are there such commits? -/
def thereAll (l : List Commit) (ns : List Int) : Int := if commitsErr l ≠ 0 then commitsErr l else if ns.all (inB l.length) then 0 else 5

set_option maxHeartbeats 1000000 in
theorem dagThere (v u : Value) (l : List Commit) (ns : List Int) (S S' : Blk) (w : World) (h : Sl tCommit w S v l) (g : Sl tInt w S' u ns) :
    Calls Try.prog 33 #[v, u] w (Ret w fun r _ => r = .int .i64 (thereAll l ns)) := by
  have hv := h
  obtain ⟨ao, cap, rfl, hcap, hmax, hnil⟩ := h.shape
  obtain ⟨ao', cap', rfl, hcap', hmax', hnil'⟩ := g.shape
  unfold maxLen at hmax hmax'
  by_cases he : commitsErr l = 0
  · have h14 := (dag_ok he).1
    go_enter Try.func33, Try.ntmps33
    go_wp2_with fail
    refine (dagCheck_of _ l _ _ hv he).mono ?_; rintro e w1 ⟨_, rfl, rfl, b1⟩
    go_wp2_with fail
    go_loopw [15] (fun i wr => ∃ (j : Nat), j ≤ ns.length ∧ i = .int .i64 j ∧ Below w.heap.size w wr ∧ Hid (ns.all (inB l.length) = (ns.drop j).all (inB l.length))) (fun i _ => ns.length - (intOf i).toNat)
    case atStart => exact ⟨0, Nat.zero_le _, rfl, b1, rfl⟩
    case round =>
      obtain ⟨j, hj, rfl, hb, hr⟩ := hrel
      by_cases hlt : j < ns.length
      · obtain ⟨b', o', hix, _, hbs', ok1, hc'⟩ := (g.call hb).idxInt aInt j j rfl hlt
        go_wp2
        any_goals
          go_ret
          have hno : inB l.length ns[j] = false := by simp [inB]; omega
          exact ⟨_, rfl, by rw [thereAll, if_neg (by simpa using he), hr.out, all_stop hlt hno]; rfl, hb⟩
        go_roundw
        case rel => exact ⟨j + 1, by omega, by go_num, hb, hr.out.trans (all_go hlt (by simp [inB]; omega))⟩
        case measure => simp [intOf]; omega
      · go_wp2
        go_ret
        exact ⟨_, rfl, by rw [thereAll, if_neg (by simpa using he), hr.out, all_end hlt]; rfl, hb⟩
  · have he' : (commitsErr l != 0) = true := by simp [he]
    go_enter Try.func33, Try.ntmps33
    go_wp2_with fail
    refine (dagCheck _ l _ _ hv).mono ?_; rintro e w1 ⟨_, rfl, rfl, b1⟩
    go_wp2
    go_ret
    exact ⟨_, rfl, by rw [thereAll, if_pos he]; rfl, b1⟩

theorem ofL_eq {l : List Commit} (h : DagOk l) (n : Nat) : ofL l n = (pars l n).foldl (fun s p => s ||| ofL l p.toNat) (2 ^ n) := by
  apply Nat.eq_of_testBit_eq
  intro k
  rw [ofL_bit, foldl_or_bit (fun p => ofL l p.toNat), ab_eq h, Nat.testBit_two_pow]
  congr 1
  · rw [Bool.eq_iff_iff, decide_eq_true_eq, beq_iff_eq]; exact eq_comm
  · congr 1
    funext p
    rw [ofL_bit]

theorem wrap_pow {n : Nat} (h : n < 14) : IntKind.u64.wrap ((2 : Int) ^ n) = ((2 ^ n : Nat) : Int) := by
  have : ∀ i : Fin 14, IntKind.u64.wrap ((2 : Int) ^ i.val) = ((2 ^ i.val : Nat) : Int) := by decide
  exact this ⟨n, h⟩
theorem pow_small {n : Nat} (h : n < 14) : 2 ^ n < 16384 := Nat.pow_lt_pow_right (by decide) (m := n) (n := 14) h

theorem pars_some {l : List Commit} {n : Nat} {r : List Row} {p : List Int} (hn : n < l.length) (h : l[n] = (r, p)) : pars l n = p := by
  rw [pars, List.getElem?_eq_getElem hn, h]; rfl

set_option maxHeartbeats 1000000 in
theorem dagOf {l : List Commit} (hok : DagOk l) : ∀ (n : Nat), n < l.length → ∀ (v : Value) (S : Blk) (w : World), Sl tCommit w S v l →
    Calls Try.prog 34 #[v, .int .i64 n] w (Quiet w (.int .u64 (ofL l n : Nat))) := by
  intro n
  induction n using Nat.strongRecOn with
  | _ n ih =>
    intro hn v S w h
    have hv := h
    have h14 := hok.1
    obtain ⟨ao, cap, rfl, hcap, hmax, hnil⟩ := h.shape
    unfold maxLen at hmax
    obtain ⟨rs, ps, hck⟩ : ∃ r p, l[n] = (r, p) := ⟨_, _, rfl⟩
    obtain ⟨b, o, a1, c1, a2, c2, hix, _, hbs, h1, h2, z1, z2, z3, z4, hc0, hc1⟩ := h.idxCommitAt aCom n n rfl hn rs ps hck
    have HP := keepBack (ofL_eq hok n)
    rw [pars_some hn hck] at HP
    have hmem : ∀ j (hj : j < ps.length), 0 ≤ ps[j] ∧ ps[j] < n := fun j hj => by
      have := pars_lt hok (n := n) (p := ps[j]) (by rw [pars_some hn hck]; exact List.getElem_mem hj)
      omega
    have HM := keepBack hmem
    clear hmem
    go_enter Try.func34, Try.ntmps34
    have hw : IntKind.u64.wrap ((2 : Int) ^ n) = ((2 ^ n : Nat) : Int) := wrap_pow (by omega)
    have h2n : 2 ^ n < 16384 := pow_small (by omega)
    go_wp2_with fail
    obtain ⟨m, hm⟩ : ∃ m, m = 2 ^ n := ⟨_, rfl⟩
    rw [← hm] at HP h2n
    go_loopw [5, 16] (fun s i wr => ∃ (j m : Nat), j ≤ ps.length ∧ i = .int .i64 j ∧ s = .int .u64 m ∧ m < 16384 ∧ Drawn w wr ∧ Hid (ofL l n = (ps.drop j).foldl (fun s p => s ||| ofL l p.toNat) m)) (fun _ i _ => ps.length - (intOf i).toNat)
    case atStart => exact ⟨0, m, Nat.zero_le _, rfl, by rw [hm]; simp, h2n, .refl _, HP.out⟩
    clear hm HP h2n hw m
    case round =>
      obtain ⟨j, m, hj, rfl, rfl, hm, hb, hr⟩ := hrel
      by_cases hlt : j < ps.length
      · obtain ⟨b', o', hix', _, hbs', ok1, hc'⟩ := (h2.call hb.below).idxInt aInt j j rfl hlt
        have hpj := HM.out j hlt
        obtain ⟨p, hp⟩ : ∃ p : Nat, ps[j] = p := ⟨ps[j].toNat, by omega⟩
        have hrs := hr.out
        rw [List.drop_eq_getElem_cons hlt, List.foldl_cons, hp, Int.toNat_natCast] at hrs
        have HR := keepBack hrs
        clear hr hrs
        rw [hp] at hc' hpj
        clear hp ok1
        go_wp2_with fail
        refine (ih p (by omega) (by omega) _ _ _ (h.call hb.below)).mono ?_; rintro e w1 ⟨rfl, b1⟩
        have hol := ofL_lt hok (n := p) (by omega)
        have hor := u64_or_nat m (ofL l p) (by omega) (by omega)
        have horl : m ||| ofL l p < 16384 := Nat.or_lt_two_pow (n := 14) hm hol
        go_wp2_with fail
        go_roundw
        case rel => exact ⟨j + 1, _, by omega, by go_num, rfl, horl, hb.trans b1, HR.out⟩
        case measure => simp [intOf]; omega
      · go_wp2
        go_ret
        exact ⟨by rw [hr.out, List.drop_of_length_le (by omega)]; rfl, hb⟩
theorem dagOf_of {l : List Commit} (hok : DagOk l) (n : Nat) (hn : n < l.length) (v : Value) (S : Blk) (w : World) (h : Sl tCommit w S v l) :
    Calls Try.prog 34 #[v, .int .i64 n] w (Quiet w (.int .u64 (ofL l n : Nat))) := dagOf hok n hn v S w h
end Go.Pch
