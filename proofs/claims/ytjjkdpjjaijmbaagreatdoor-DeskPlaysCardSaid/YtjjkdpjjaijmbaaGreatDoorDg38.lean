/- The walks of package desk: what is thrown; numbers. The walks of package desk: told; lists of texts. The walks of package desk: rows and changes as texts. The walks of package desk: lists of rows, of changes. (gen_dke.py) The walks of package desk: the table. -/
import Derived.Test.YtjjkdpjjaijmbaaGreatDoorDg11
import Derived.Test.YtjjkdpjjaijmbaaGreatDoorDg36
import Derived.Test.YtjjkdpjjaijmbaaGreatDoorDg37
import Derived.Lib.SmallJoins
section
namespace Go.Pch
open Go.RowKit Go.Proofs
set_option maxRecDepth 100000
structure Vars (w : World) : Prop where
  big : 8 ≤ w.heap.size
  tab : Lib.TabIs Tryz.prog w "internal/strconv.uint64pow10" .u64 Lib.pow10Tab
  syn : ∃ tp p, w.var? Tryz.prog "strconv.ErrSyntax" = some #[.iface tp p]
  ran : ∃ tp p, w.var? Tryz.prog "strconv.ErrRange" = some #[.iface tp p]
  mlen : ∃ m, w.cell? ⟨0, 0, none⟩ = some (.int .i64 m)
theorem gTab : Tryz.prog.globalNamed "internal/strconv.uint64pow10" = some 1 := by kernel_rfl
theorem gSyn : Tryz.prog.globalNamed "strconv.ErrSyntax" = some 4 := by kernel_rfl
theorem gRan : Tryz.prog.globalNamed "strconv.ErrRange" = some 5 := by kernel_rfl
theorem var_keep {w w' : World} {n : String} {g : Nat} {P : Program} (hg : P.globalNamed n = some g) (hk : w'.heap[g]? = w.heap[g]?) : w'.var? P n = w.var? P n := by
  simp only [World.var?, hg, Option.bind_some, hk]
theorem Vars.keep {w w' : World} (h : Vars w) (hs : w.heap.size ≤ w'.heap.size) (hk : ∀ k, k < 8 → w'.heap[k]? = w.heap[k]?) : Vars w' := by
  obtain ⟨h1, h2, ⟨a, b, h3⟩, ⟨c, d, h4⟩, ⟨m, h5⟩⟩ := h
  refine ⟨Nat.le_trans h1 hs, ?_, ⟨a, b, ?_⟩, ⟨c, d, ?_⟩, ⟨m, ?_⟩⟩
  · exact (var_keep gTab (hk _ (by decide))).trans h2
  · exact (var_keep gSyn (hk _ (by decide))).trans h3
  · exact (var_keep gRan (hk _ (by decide))).trans h4
  · exact (World.cell?_of_block (w := w) (hk _ (by decide))).trans h5
theorem Vars.call {w w' : World} (h : Vars w) (hb : Below w.heap.size w w') : Vars w' := h.keep hb.size fun k hk => hb.block k (Nat.lt_of_lt_of_le hk h.big)
theorem below_grow (w : World) (os : Array Obj) : Below w.heap.size w (Go.Sort.grow w os) :=
  ⟨rfl, rfl, rfl, by simp [Go.Sort.grow], fun k hk => by simp [Go.Sort.grow, Array.getElem?_append_left hk]⟩
theorem itoaC (n : Int) (hn : i64ok n) (w : World) (hV : Vars w) : Calls Tryz.prog 26 #[.int .i64 n] w (Ret w fun r _ => r = .string (bl (Lib.itoa n))) := by
  refine (Tryz.strconv_Itoa n hn.1 hn.2 w hV.tab).mono ?_
  rintro e w' ⟨rfl, k, os, rfl⟩
  exact ⟨_, rfl, rfl, (below_drewN (Below.refl _ _) k).trans ((below_grow (w.drewN k) os).mono (by simp))⟩
theorem atoiOk (s : ByteArray) (hs : s.size ≤ 1000000) (v : Int) (h : Lib.atoiAll s.data.toList = .ok v) (w : World) : Calls Tryz.prog 96 #[.string s] w (Ret w fun r _ => r = .tuple #[.int .i64 v, .nilIface]) := by
  refine (Tryz.strconv_Atoi_ok s (by omega) v h w).mono ?_
  rintro e w' ⟨rfl, h2⟩
  refine ⟨_, rfl, rfl, ?_⟩
  rcases h2 with rfl | ⟨t, rfl⟩
  · exact Below.refl _ _
  · exact Go.Joins.below_bytesWorld _ _ _ _ (Nat.le_refl _)
theorem atoiNo (s : ByteArray) (hs : s.size ≤ 1000000) (h : ∀ v, Lib.atoiAll s.data.toList ≠ .ok v) (w : World) (hV : Vars w) : Calls Tryz.prog 96 #[.string s] w (Ret w fun r _ => ∃ v te pe, r = .tuple #[.int .i64 v, .iface te pe]) := by
  obtain ⟨tp, p, h3⟩ := hV.syn
  obtain ⟨tq, q, h4⟩ := hV.ran
  cases ha : Lib.atoiAll s.data.toList with
  | ok v => exact absurd ha (h v)
  | range =>
    refine (Tryz.strconv_Atoi_range_var s (by omega) ha tq q w h4).mono ?_
    rintro e w' ⟨N, rfl, _, _, hb⟩
    exact ⟨_, rfl, ⟨_, _, _, rfl⟩, hb⟩
  | _ =>
    refine (Tryz.strconv_Atoi_syntax_var s (by omega) ⟨h, by rw [ha]; intro e; cases e⟩ tp p w h3).mono ?_
    rintro e w' ⟨N, rfl, _, _, hb⟩
    exact ⟨_, rfl, ⟨_, _, _, rfl⟩, hb⟩
def thrown (e : Int) : List PanicEntry := [{ v := .iface 63 (.agg #[.int .i64 e]), recovered := false }]
theorem mustOk (e : Int) (w : World) : Calls Tryz.prog 29 #[.bool true, .int .i64 e] w fun x w' => x = .returned (.tuple #[]) ∧ w = w' := by
  go_enter Tryz.func29, Tryz.ntmps29
  go_wp2
  go_end0
  exact ⟨rfl, rfl⟩
theorem mustNo (e : Int) (w : World) : Calls Tryz.prog 29 #[.bool false, .int .i64 e] w fun x w' => x = .panicked (thrown e) ∧ w = w' := by
  go_enter Tryz.func29, Tryz.ntmps29
  go_wp2
  exact ⟨rfl, rfl, rfl⟩
def NumPost (w : World) (o : Option Nat) (e : Ending) (w' : World) : Prop := Below w.heap.size w w' ∧ match o with
  | some n => e = .returned (.int .i64 n)
  | none => e = .panicked (thrown 1)
theorem bl_toList (l : Bytes) : (bl l).data.toList = l := by simp [bl]
set_option maxHeartbeats 1000000 in
theorem deskNum (s : Bytes) (hs : s.length ≤ 4096) (w : World) (hV : Vars w) : Calls Tryz.prog 50 #[.string (bl s)] w (NumPost w (numP s)) := by
  have hsz := bl_size s
  by_cases ha : ∃ v, Lib.atoiAll s = .ok v
  · obtain ⟨v, ha⟩ := ha
    have T := atoiOk (bl s) (by omega) v (by rw [bl_toList]; exact ha) w
    have HD := keepBack (num_desk s v ha)
    have HA := keepBack ha
    have hv : i64ok v := by have := Lib.atoiAll_bounds ha; exact ⟨by omega, by omega⟩
    clear ha
    by_cases h0 : 0 ≤ v
    · by_cases h6 : s.length ≤ 6
      · cases hq : decide (Lib.itoa v = s) with
        | true =>
          have hE := bl_same (Lib.itoa v) s
          rw [hq] at hE
          rw [decide_eq_true_eq] at hq
          have HN := keepBack ((HD.out.1 ⟨h0, h6, hq⟩).1)
          clear hq
          go_enter Tryz.func50, Tryz.ntmps50
          go_wp2_with fail
          refine T.mono ?_; rintro e w1 ⟨_, rfl, rfl, b1⟩
          clear T
          go_wp2_with fail
          refine (itoaC v hv w1 (hV.call b1)).mono ?_; rintro e w2 ⟨_, rfl, rfl, b2⟩
          go_wp2_with fail
          refine (mustOk 1 w2).mono ?_; rintro e w3 ⟨rfl, rfl⟩
          go_wp2
          go_ret
          refine ⟨b1.trans (b2.mono b1.size), ?_⟩
          rw [HN.out]
          show _ = Ending.returned (.int .i64 ((v.toNat : Nat) : Int))
          rw [Int.toNat_of_nonneg h0]
          rfl
        | false =>
          have hE := bl_same (Lib.itoa v) s
          rw [hq] at hE
          rw [decide_eq_false_iff_not] at hq
          have HN : Hid (numP s = none) := keepBack (numP_not HA.out fun h => hq h.2.2)
          clear hq
          go_enter Tryz.func50, Tryz.ntmps50
          go_wp2_with fail
          refine T.mono ?_; rintro e w1 ⟨_, rfl, rfl, b1⟩
          clear T
          go_wp2_with fail
          refine (itoaC v hv w1 (hV.call b1)).mono ?_; rintro e w2 ⟨_, rfl, rfl, b2⟩
          go_wp2_with fail
          refine (mustNo 1 w2).mono ?_; rintro e w3 ⟨rfl, rfl⟩
          go_wp2
          refine ⟨rfl, b1.trans (b2.mono b1.size), ?_⟩
          rw [HN.out]
      · have HN : Hid (numP s = none) := keepBack (numP_not HA.out fun h => h6 h.2.1)
        go_enter Tryz.func50, Tryz.ntmps50
        go_wp2_with fail
        refine T.mono ?_; rintro e w1 ⟨_, rfl, rfl, b1⟩
        clear T
        go_wp2_with fail
        refine (mustNo 1 w1).mono ?_; rintro e w3 ⟨rfl, rfl⟩
        go_wp2
        refine ⟨rfl, b1, ?_⟩
        rw [HN.out]
    · have HN : Hid (numP s = none) := keepBack (numP_not HA.out fun h => h0 h.1)
      go_enter Tryz.func50, Tryz.ntmps50
      go_wp2_with fail
      refine T.mono ?_; rintro e w1 ⟨_, rfl, rfl, b1⟩
      clear T
      go_wp2_with fail
      refine (mustNo 1 w1).mono ?_; rintro e w3 ⟨rfl, rfl⟩
      go_wp2
      refine ⟨rfl, b1, ?_⟩
      rw [HN.out]
  · have ha' : ∀ v, Lib.atoiAll s ≠ .ok v := fun v h => ha ⟨v, h⟩
    have HN : Hid (numP s = none) := keepBack (numP_err ha')
    have T := atoiNo (bl s) (by omega) (by rw [bl_toList]; exact ha') w hV
    clear ha ha'
    go_enter Tryz.func50, Tryz.ntmps50
    go_wp2_with fail
    refine T.mono ?_; rintro e w1 ⟨_, rfl, ⟨v, te, pe, rfl⟩, b1⟩
    clear T
    go_wp2_with fail
    refine (mustNo 1 w1).mono ?_; rintro e w3 ⟨rfl, rfl⟩
    go_wp2
    refine ⟨rfl, b1, ?_⟩
    rw [HN.out]
end Go.Pch
end

section
namespace Go.Pch
open Go.RowKit Go.Proofs
set_option maxRecDepth 100000
theorem deskTold (n : Int) (hn : i64ok n) (h : -1 ≤ n) (w : World) (hV : Vars w) : Calls Tryz.prog 64 #[.int .i64 n] w (Ret w fun r _ => r = .string (bl (dgL n))) := by
  by_cases h1 : n = -1
  · subst h1
    go_enter Tryz.func64, Tryz.ntmps64
    go_wp2
    go_ret
    exact ⟨_, rfl, rfl, Below.refl _ _⟩
  · have HD : Hid (Lib.itoa n = dgL n) := keepBack (dgL_itoa (by omega))
    have hne : (n == -1) = false := by rw [beq_eq_false_iff_ne]; exact h1
    go_enter Tryz.func64, Tryz.ntmps64
    go_wp2_with fail
    refine (itoaC n hn w hV).mono ?_; rintro e w1 ⟨_, rfl, rfl, b1⟩
    go_wp2
    go_ret
    exact ⟨_, rfl, congrArg (fun x => Value.string (bl x)) HD.out, b1⟩
theorem map_bl (l : List Bytes) : (l.map bl).map (fun s : ByteArray => s.data.toList) = l := by
  rw [List.map_map]
  exact (List.map_congr_left fun y _ => bl_toList y).trans (List.map_id l)
theorem joinC (v : Value) (l : List Bytes) (S : Blk) (w : World) (h : Sl tStr w S v (l.map bl)) (hl : l.length ≤ 1000000) (hj : (Lib.join l [32]).length ≤ 1000000000) :
    Calls Tryz.prog 107 #[v, .string (bl [32])] w (Ret w fun r _ => r = .string (bl (Lib.join l [32]))) := by
  obtain ⟨ao, cap, rfl, hc, hm, hn⟩ := h.shape
  cases l with
  | nil =>
    refine (Tryz.strings_Join_none ao cap (bl [32]) w).mono ?_
    rintro e w' ⟨rfl, rfl⟩
    exact ⟨_, rfl, rfl, Below.refl _ _⟩
  | cons x xs =>
    obtain ⟨b, o, cs, rfl, _, hb, _⟩ := h.get 0 (bl x) rfl
    have hmap := map_bl (x :: xs)
    have J := Tryz.strings_Join b o cap ((x :: xs).map bl) (bl [32]) w ?c1 hb (by rw [List.length_map]; omega) hc (by rw [hmap]; show (Lib.join _ [32]).length ≤ _; omega)
    case c1 =>
      intro j y hj
      obtain ⟨b', o', cs', e, _, _, ⟨rfl, _⟩, h7⟩ := h.get j y hj
      simp only [Option.some.injEq, Addr.mk.injEq, and_true] at e
      obtain ⟨rfl, rfl⟩ := e
      have := h7 0 _ rfl
      simpa [tStr, Ty.flat] using this
    refine J.mono ?_
    rintro e w' ⟨rfl, hb'⟩
    refine ⟨_, rfl, ?_, hb'⟩
    rw [hmap]
    rfl
theorem deskListInt (v : Value) (l : List Int) (S : Blk) (w : World) (hV : Vars w) (h : Sl tInt w S v l) (hl : l.length ≤ 1000) (h0 : ∀ n ∈ l, 0 ≤ n) :
    Calls Tryz.prog 70 #[v, .func (.func 26) #[] #[]] w (Ret w fun r _ => r = .string (bl (lsL (l.map dgL)))) := by
  have hv := h
  have hok := ints_ok h
  obtain ⟨ao, cap, hvv, _, _, _⟩ := h.shape
  obtain ⟨n, hn⟩ : ∃ n, n = l.length := ⟨_, rfl⟩
  rw [← hn] at hvv
  have HNL := keepBack hn
  have hn6 : n ≤ 1000 := by omega
  clear hn
  subst hvv
  go_enter Tryz.func70, Tryz.ntmps70
  by_cases hz0 : n = 0
  · have HN : Hid (l = []) := keepBack (List.eq_nil_of_length_eq_zero (by have := HNL.out; omega))
    subst hz0
    go_wp2
    go_ret
    exact ⟨_, rfl, by rw [HN.out]; rfl, Below.refl _ _⟩
  have hnz : ((n : Int) == 0) = false := by rw [beq_eq_false_iff_ne]; omega
  go_wp2
  go_loopw [5, 13] (fun out i wr => ∃ (k : Nat) (q : List ByteArray), k ≤ n ∧ i = .int .i64 k ∧ Below w.heap.size w wr ∧ Own tStr 9 wr w.heap.size (fun _ => False) out q ∧ Hid (q = (l.take k).map fun x => bl (dgL x))) (fun _ i _ => n - (intOf i).toNat)
  case atStart => exact ⟨0, [], Nat.zero_le _, rfl, Below.refl _ _, .nil, rfl⟩
  case round =>
    obtain ⟨k, q, hk, rfl, hb, ho, HQ⟩ := hrel
    have hz := hb.size
    by_cases hlt : k < n
    · obtain ⟨x, hx⟩ : ∃ x, l[k]? = some x := ⟨_, List.getElem?_eq_getElem (by have := HNL.out; omega)⟩
      obtain ⟨b, o, hix, _, hbs, hxk, hc⟩ := (hv.call hb).idxIntAt aInt k k x rfl hx
      have HI : Hid (Lib.itoa x = dgL x) := keepBack (dgL_itoa (h0 x (List.mem_of_getElem? hx)))
      have HN : Hid (q ++ [bl (dgL x)] = (l.take (k + 1)).map fun x => bl (dgL x)) := keepBack (by rw [HQ.out, List.take_add_one, hx]; simp)
      have hql : q.length ≤ k := by rw [HQ.out]; simp; omega
      clear hx
      obtain ⟨ag, cg, hvv, _, _⟩ := ho.shape
      obtain ⟨m, hm⟩ : ∃ m, m = q.length := ⟨_, rfl⟩
      rw [← hm] at hvv hql
      have HM := keepBack hm
      clear hm
      subst hvv
      go_wp2_with fail
      refine (itoaC x hxk wr (hV.call hb)).mono ?_; rintro e w1 ⟨_, rfl, rfl, b1⟩
      rw [HI.out]
      have ho1 := ho.call b1
      have hz1 := b1.size
      have hob := ho1.block
      have hb1 := hb.trans (b1.mono hz)
      have hsrc := fun t => Src.one (E := tStr) (w := w1) (D := fun _ => False) (cs := [.string (bl (dgL x))]) (a := bl (dgL x)) ⟨rfl, trivial⟩ t
      go_wp2_with (at_builtin; refine wpList_grow rfl (.tmp 17) (.tmp 21) rfl aStr rfl (ho1.alloc _) rfl rfl (hsrc _) (by simp) (fun _ h => h.elim) (by rw [← HM.out]; simp only [List.length_cons, List.length_nil]; omega) (by simp; omega) ?_)
      intro v2 w2 ho2 hg2
      have hb2 : Below w.heap.size w w2 := (hb1.alloc (by omega) _).grown hg2 (by simp; omega) (fun g hg => (hob g hg).1)
      go_wp2
      go_roundw
      case rel => exact ⟨k + 1, _, by omega, by go_num, hb2, ho2, HN⟩
      case measure => simp [intOf]; omega
    · obtain rfl : k = n := by omega
      have hq : q = (l.map dgL).map bl := by rw [HQ.out, HNL.out, List.take_length, List.map_map]; rfl
      rw [hq] at ho
      have hs := ho.sl (D := fun _ => True) (fun _ h => h.elim) (fun _ _ => trivial)
      have hj : (Lib.join (l.map dgL) [32]).length ≤ 1000000000 := by
        refine Nat.le_trans (join_len _ 20 fun x hx => ?_) (by rw [List.length_map]; omega)
        obtain ⟨y, hy, rfl⟩ := List.mem_map.1 hx
        exact dgL_len (hok y hy).2
      obtain ⟨ag, cg, hvv, _, _⟩ := ho.shape
      obtain ⟨m, hm⟩ : ∃ m, m = ((l.map dgL).map bl).length := ⟨_, rfl⟩
      rw [← hm] at hvv
      clear hm hq HQ
      subst hvv
      have HJ : Hid (Lib.join (l.map dgL) [32] = lsL (l.map dgL)) := keepBack (by rw [lsL, if_neg (by intro h; have := congrArg List.length h; rw [List.length_map, ← HNL.out] at this; exact hz0 this)])
      go_wp2_with fail
      refine (joinC _ (l.map dgL) _ wr hs (by rw [List.length_map]; omega) hj).mono ?_; rintro e w1 ⟨_, rfl, rfl, b1⟩
      go_wp2
      go_ret
      exact ⟨_, rfl, congrArg (fun x => Value.string (bl x)) HJ.out, hb.trans (b1.mono hz)⟩
end Go.Pch
end

section
namespace Go.Pch
open Go.RowKit Go.Proofs
set_option maxRecDepth 100000
def rowT (x : Row) : Bytes := dgL x.1 ++ 61 :: dgL x.2
theorem bl_append3 (a b : Bytes) (c : UInt8) : bl a ++ ByteArray.mk #[c] ++ bl b = bl (a ++ c :: b) := by
  show bl a ++ bl [c] ++ bl b = _
  rw [bl_append, bl_append]; simp
theorem below_onD {W0 W W' : World} (a : Below W0.heap.size W0 W) (b : Below W.heap.size W W') : Below W0.heap.size W0 W' := a.trans (b.mono a.size)
set_option maxHeartbeats 1000000 in
theorem deskRowT (a b : Int) (ha : i64ok a) (hb : i64ok b) (h1 : -1 ≤ a) (h2 : -1 ≤ b) (w : World) (hV : Vars w) :
    Calls Tryz.prog 63 #[.agg #[.int .i64 a, .int .i64 b]] w (Ret w fun r _ => r = .string (bl (rowT (a, b)))) := by
  obtain ⟨wA, hwA⟩ : ∃ wA, wA = w.alloc (.cells #[.int .i64 a, .int .i64 b] 86) := ⟨_, rfl⟩
  have bA : Below w.heap.size w wA := by rw [hwA]; exact (Below.refl _ _).alloc (Nat.le_refl _) _
  have zA : wA.heap.size = w.heap.size + 1 := by rw [hwA]; simp
  have k0 : wA.cell? ⟨w.heap.size, 0, none⟩ = some (.int .i64 a) := by rw [hwA]; simp
  have k1 : wA.cell? ⟨w.heap.size, 1, none⟩ = some (.int .i64 b) := by rw [hwA]; simp
  have KS : ∀ W, Below wA.heap.size wA W → Below wA.heap.size wA W ∧ W.cell? ⟨w.heap.size, 0, none⟩ = some (.int .i64 a) ∧ W.cell? ⟨w.heap.size, 1, none⟩ = some (.int .i64 b) := fun W hW =>
    ⟨hW, (hW.cell (p := ⟨w.heap.size, 0, none⟩) (by simp; omega)).trans k0, (hW.cell (p := ⟨w.heap.size, 1, none⟩) (by simp; omega)).trans k1⟩
  have hVA := hV.call bA
  have HWA := keepBack hwA
  have HZA := keepBack zA
  clear hwA k0 k1 zA
  have la := dgL_len ha.2
  have lb := dgL_len hb.2
  have q1 : (bl (dgL a)).size + (ByteArray.mk #[61]).size ≤ 9223372036854775807 := by show (bl (dgL a)).size + (bl [61]).size ≤ _; rw [bl_size, bl_size]; simp; omega
  have q2 : (bl (dgL a) ++ ByteArray.mk #[61]).size + (bl (dgL b)).size ≤ 9223372036854775807 := by show (bl (dgL a) ++ bl [61]).size + (bl (dgL b)).size ≤ _; rw [bl_append, bl_size, bl_size]; simp; omega
  replace q1 := Nat.not_lt.2 q1
  replace q2 := Nat.not_lt.2 q2
  have r1 : ¬ 9223372036854775807 < (bl (dgL a)).size + 1 := by rw [bl_size]; omega
  have r2 : ¬ 9223372036854775807 < (bl (dgL a)).size + 1 + (bl (dgL b)).size := by rw [bl_size, bl_size]; omega
  have r3 : ¬ (9223372036854775807 : Int) < ((bl (dgL a)).size : Int) + 1 := by rw [bl_size]; omega
  have r4 : ¬ (9223372036854775807 : Int) < ((bl (dgL a)).size : Int) + 1 + ((bl (dgL b)).size : Int) := by rw [bl_size, bl_size]; omega
  clear la lb
  go_enter Tryz.func63, Tryz.ntmps63
  go_wp2_with fail
  rw [← HWA.out]
  go_region_held3 (fun W => Below wA.heap.size wA W ∧ W.cell? ⟨w.heap.size, 0, none⟩ = some (.int .i64 a) ∧ W.cell? ⟨w.heap.size, 1, none⟩ = some (.int .i64 b))
    (first
      | exact KS _ (by assumption)
      | exact KS _ (Below.refl _ _)
      | exact KS _ (Below.refl _ _).drew
      | exact KS _ (Below.drew (by assumption))
      | fail)
    (first
      | (go_at_call 64; refine (deskTold _ (by first | exact ha | exact hb) (by first | exact h1 | exact h2) _ (hVA.call (by first | assumption | exact (Below.refl _ _).drew | exact Below.refl _ _ | exact Below.drew (by assumption)))).mono ?_; rintro e w1 ⟨_, rfl, rfl, b1⟩; have c1 : Below wA.heap.size wA w1 := below_onD (by first | assumption | exact (Below.refl _ _).drew | exact Below.refl _ _ | exact Below.drew (by assumption)) b1)
      | fail)
  go_wp2
  go_ret
  exact ⟨_, rfl, congrArg Value.string (bl_append3 _ _ _), below_onD bA (by assumption)⟩
set_option maxHeartbeats 2000000 in
theorem deskChgT (a b c : Int) (ha : i64ok a) (hb : i64ok b) (hc : i64ok c) (h1 : -1 ≤ a) (h2 : -1 ≤ b) (h3 : -1 ≤ c) (w : World) (hV : Vars w) :
    Calls Tryz.prog 74 #[.agg #[.int .i64 a, .int .i64 b, .int .i64 c]] w (Ret w fun r _ => r = .string (bl (chgL (a, b, c)))) := by
  obtain ⟨wA, hwA⟩ : ∃ wA, wA = w.alloc (.cells #[.int .i64 a, .int .i64 b, .int .i64 c] 95) := ⟨_, rfl⟩
  have bA : Below w.heap.size w wA := by rw [hwA]; exact (Below.refl _ _).alloc (Nat.le_refl _) _
  have zA : wA.heap.size = w.heap.size + 1 := by rw [hwA]; simp
  have k0 : wA.cell? ⟨w.heap.size, 0, none⟩ = some (.int .i64 a) := by rw [hwA]; simp
  have k1 : wA.cell? ⟨w.heap.size, 1, none⟩ = some (.int .i64 b) := by rw [hwA]; simp
  have k2 : wA.cell? ⟨w.heap.size, 2, none⟩ = some (.int .i64 c) := by rw [hwA]; simp
  have KS : ∀ W, Below wA.heap.size wA W → Below wA.heap.size wA W ∧ W.cell? ⟨w.heap.size, 0, none⟩ = some (.int .i64 a) ∧ W.cell? ⟨w.heap.size, 1, none⟩ = some (.int .i64 b) ∧ W.cell? ⟨w.heap.size, 2, none⟩ = some (.int .i64 c) := fun W hW =>
    ⟨hW, (hW.cell (p := ⟨w.heap.size, 0, none⟩) (by simp; omega)).trans k0, (hW.cell (p := ⟨w.heap.size, 1, none⟩) (by simp; omega)).trans k1, (hW.cell (p := ⟨w.heap.size, 2, none⟩) (by simp; omega)).trans k2⟩
  have hVA := hV.call bA
  have HWA := keepBack hwA
  clear hwA k0 k1 k2 zA
  have la := dgL_len ha.2
  have lb := dgL_len hb.2
  have lc := dgL_len hc.2
  have r1 : ¬ 9223372036854775807 < (bl (dgL a)).size + 1 := by rw [bl_size]; omega
  have r2 : ¬ 9223372036854775807 < (bl (dgL a)).size + 1 + (bl (dgL b)).size := by rw [bl_size, bl_size]; omega
  have r5 : ¬ 9223372036854775807 < (bl (dgL a)).size + 1 + (bl (dgL b)).size + 1 := by rw [bl_size, bl_size]; omega
  have r6 : ¬ 9223372036854775807 < (bl (dgL a)).size + 1 + (bl (dgL b)).size + 1 + (bl (dgL c)).size := by rw [bl_size, bl_size, bl_size]; omega
  have r3 : ¬ (9223372036854775807 : Int) < ((bl (dgL a)).size : Int) + 1 := by rw [bl_size]; omega
  have r4 : ¬ (9223372036854775807 : Int) < ((bl (dgL a)).size : Int) + 1 + ((bl (dgL b)).size : Int) := by rw [bl_size, bl_size]; omega
  have r7 : ¬ (9223372036854775807 : Int) < ((bl (dgL a)).size : Int) + 1 + ((bl (dgL b)).size : Int) + 1 := by rw [bl_size, bl_size]; omega
  have r8 : ¬ (9223372036854775807 : Int) < ((bl (dgL a)).size : Int) + 1 + ((bl (dgL b)).size : Int) + 1 + ((bl (dgL c)).size : Int) := by rw [bl_size, bl_size, bl_size]; omega
  clear la lb lc
  go_enter Tryz.func74, Tryz.ntmps74
  go_wp2_with fail
  rw [← HWA.out]
  go_region_held3 (fun W => Below wA.heap.size wA W ∧ W.cell? ⟨w.heap.size, 0, none⟩ = some (.int .i64 a) ∧ W.cell? ⟨w.heap.size, 1, none⟩ = some (.int .i64 b) ∧ W.cell? ⟨w.heap.size, 2, none⟩ = some (.int .i64 c))
    (first
      | exact KS _ (by assumption)
      | exact KS _ (Below.refl _ _)
      | exact KS _ (Below.refl _ _).drew
      | exact KS _ (Below.drew (by assumption))
      | fail)
    (first
      | (go_at_call 64; refine (deskTold _ (by first | exact ha | exact hb | exact hc) (by first | exact h1 | exact h2 | exact h3) _ (hVA.call (by first | assumption | exact (Below.refl _ _).drew | exact Below.refl _ _ | exact Below.drew (by assumption)))).mono ?_; rintro e w1 ⟨_, rfl, rfl, b1⟩; have c1 : Below wA.heap.size wA w1 := below_onD (by first | assumption | exact (Below.refl _ _).drew | exact Below.refl _ _ | exact Below.drew (by assumption)) b1)
      | fail)
  go_wp2
  go_ret
  exact ⟨_, rfl, congrArg Value.string (by rw [bl_append3, bl_append3]; simp [chgL]), below_onD bA (by assumption)⟩
end Go.Pch
end

section
namespace Go.Pch
open Go.RowKit Go.Proofs
set_option maxRecDepth 100000
theorem rowT_len {x : Row} (h : i64ok x.1 ∧ i64ok x.2) : (rowT x).length ≤ 62 := by
  have := dgL_len h.1.2; have := dgL_len h.2.2
  simp [rowT]; omega
theorem chgT_len {x : Change} (h : i64ok x.1 ∧ i64ok x.2.1 ∧ i64ok x.2.2) : (chgL x).length ≤ 62 := by
  have := dgL_len h.1.2; have := dgL_len h.2.1.2; have := dgL_len h.2.2.2
  simp [chgL]; omega
set_option maxHeartbeats 1000000 in
theorem deskListRow (v : Value) (l : List Row) (S : Blk) (w : World) (hV : Vars w) (h : Sl tRow w S v l) (hl : l.length ≤ 1000) (h0 : ∀ x ∈ l, -1 ≤ x.1 ∧ -1 ≤ x.2) :
    Calls Tryz.prog 61 #[v, .func (.func 63) #[] #[]] w (Ret w fun r _ => r = .string (bl (lsL (l.map rowT)))) := by
  have hv := h
  have hok : ∀ x ∈ l, i64ok x.1 ∧ i64ok x.2 := fun x hx => by
    obtain ⟨k, hk⟩ := List.getElem?_of_mem hx
    obtain ⟨_, _, _, _, _, h1, h2, _⟩ := h.idxRowAt aRow k k x rfl hk
    exact ⟨h1, h2⟩
  obtain ⟨ao, cap, hvv, _, _, _⟩ := h.shape
  obtain ⟨n, hn⟩ : ∃ n, n = l.length := ⟨_, rfl⟩
  rw [← hn] at hvv
  have HNL := keepBack hn
  have hn6 : n ≤ 1000 := by omega
  clear hn
  subst hvv
  go_enter Tryz.func61, Tryz.ntmps61
  by_cases hz0 : n = 0
  · have HN : Hid (l = []) := keepBack (List.eq_nil_of_length_eq_zero (by have := HNL.out; omega))
    subst hz0
    go_wp2
    go_ret
    exact ⟨_, rfl, by rw [HN.out]; rfl, Below.refl _ _⟩
  have hnz : ((n : Int) == 0) = false := by rw [beq_eq_false_iff_ne]; omega
  go_wp2
  go_loopw [5, 13] (fun out i wr => ∃ (k : Nat) (q : List ByteArray), k ≤ n ∧ i = .int .i64 k ∧ Below w.heap.size w wr ∧ Own tStr 9 wr w.heap.size (fun _ => False) out q ∧ Hid (q = (l.take k).map fun x => bl (rowT x))) (fun _ i _ => n - (intOf i).toNat)
  case atStart => exact ⟨0, [], Nat.zero_le _, rfl, Below.refl _ _, .nil, rfl⟩
  case round =>
    obtain ⟨k, q, hk, rfl, hb, ho, HQ⟩ := hrel
    have hz := hb.size
    by_cases hlt : k < n
    · obtain ⟨x, hx⟩ : ∃ x, l[k]? = some x := ⟨_, List.getElem?_eq_getElem (by have := HNL.out; omega)⟩
      obtain ⟨b, o, hix, _, hbs, hx1, hx2, hc0, hc1⟩ := (hv.call hb).idxRowAt aRow k k x rfl hx
      obtain ⟨y1, y2⟩ := h0 x (List.mem_of_getElem? hx)
      have HN : Hid (q ++ [bl (rowT x)] = (l.take (k + 1)).map fun x => bl (rowT x)) := keepBack (by rw [HQ.out, List.take_add_one, hx]; simp)
      have hql : q.length ≤ k := by rw [HQ.out]; simp; omega
      clear hx
      obtain ⟨ag, cg, hvv, _, _⟩ := ho.shape
      obtain ⟨m, hm⟩ : ∃ m, m = q.length := ⟨_, rfl⟩
      rw [← hm] at hvv hql
      have HM := keepBack hm
      clear hm
      subst hvv
      go_wp2_with fail
      have b0 := (Below.refl wr.heap.size wr).alloc (Nat.le_refl _) (.cells #[.int .i64 x.1, .int .i64 x.2] 86)
      refine (deskRowT x.1 x.2 hx1 hx2 y1 y2 _ ((hV.call hb).call b0)).mono ?_; rintro e w1 ⟨_, rfl, rfl, b1⟩
      have b1 := b0.trans (b1.mono b0.size)
      have ho1 := ho.call b1
      have hz1 := b1.size
      have hob := ho1.block
      have hb1 := hb.trans (b1.mono hz)
      have hsrc := fun t => Src.one (E := tStr) (w := w1) (D := fun _ => False) (cs := [.string (bl (rowT x))]) (a := bl (rowT x)) ⟨rfl, trivial⟩ t
      go_wp2_with (at_builtin; refine wpList_grow rfl (.tmp 17) (.tmp 21) rfl aStr rfl (ho1.alloc _) rfl rfl (hsrc _) (by simp) (fun _ h => h.elim) (by rw [← HM.out]; simp only [List.length_cons, List.length_nil]; omega) (by simp; omega) ?_)
      intro v2 w2 ho2 hg2
      have hb2 : Below w.heap.size w w2 := (hb1.alloc (by omega) _).grown hg2 (by simp; omega) (fun g hg => (hob g hg).1)
      go_wp2
      go_roundw
      case rel => exact ⟨k + 1, _, by omega, by go_num, hb2, ho2, HN⟩
      case measure => simp [intOf]; omega
    · obtain rfl : k = n := by omega
      have hq : q = (l.map rowT).map bl := by rw [HQ.out, HNL.out, List.take_length, List.map_map]; rfl
      rw [hq] at ho
      have hs := ho.sl (D := fun _ => True) (fun _ h => h.elim) (fun _ _ => trivial)
      have hj : (Lib.join (l.map rowT) [32]).length ≤ 1000000000 := by
        refine Nat.le_trans (join_len _ 62 fun x hx => ?_) (by rw [List.length_map]; omega)
        obtain ⟨y, hy, rfl⟩ := List.mem_map.1 hx
        exact rowT_len (hok y hy)
      obtain ⟨ag, cg, hvv, _, _⟩ := ho.shape
      obtain ⟨m, hm⟩ : ∃ m, m = ((l.map rowT).map bl).length := ⟨_, rfl⟩
      rw [← hm] at hvv
      clear hm hq HQ
      subst hvv
      have HJ : Hid (Lib.join (l.map rowT) [32] = lsL (l.map rowT)) := keepBack (by rw [lsL, if_neg (by intro h; have := congrArg List.length h; rw [List.length_map, ← HNL.out] at this; exact hz0 this)])
      go_wp2_with fail
      refine (joinC _ (l.map rowT) _ wr hs (by rw [List.length_map]; omega) hj).mono ?_; rintro e w1 ⟨_, rfl, rfl, b1⟩
      go_wp2
      go_ret
      exact ⟨_, rfl, congrArg (fun x => Value.string (bl x)) HJ.out, hb.trans (b1.mono hz)⟩
set_option maxHeartbeats 1000000 in
theorem deskListChg (v : Value) (l : List Change) (S : Blk) (w : World) (hV : Vars w) (h : Sl tChange w S v l) (hl : l.length ≤ 1000) (h0 : ∀ x ∈ l, -1 ≤ x.1 ∧ -1 ≤ x.2.1 ∧ -1 ≤ x.2.2) :
    Calls Tryz.prog 72 #[v, .func (.func 74) #[] #[]] w (Ret w fun r _ => r = .string (bl (lsL (l.map chgL)))) := by
  have hv := h
  have hok : ∀ x ∈ l, i64ok x.1 ∧ i64ok x.2.1 ∧ i64ok x.2.2 := fun x hx => by
    obtain ⟨k, hk⟩ := List.getElem?_of_mem hx
    obtain ⟨_, _, _, _, _, h1, h2, h3, _⟩ := h.idxChgAt aChg k k x rfl hk
    exact ⟨h1, h2, h3⟩
  obtain ⟨ao, cap, hvv, _, _, _⟩ := h.shape
  obtain ⟨n, hn⟩ : ∃ n, n = l.length := ⟨_, rfl⟩
  rw [← hn] at hvv
  have HNL := keepBack hn
  have hn6 : n ≤ 1000 := by omega
  clear hn
  subst hvv
  go_enter Tryz.func72, Tryz.ntmps72
  by_cases hz0 : n = 0
  · have HN : Hid (l = []) := keepBack (List.eq_nil_of_length_eq_zero (by have := HNL.out; omega))
    subst hz0
    go_wp2
    go_ret
    exact ⟨_, rfl, by rw [HN.out]; rfl, Below.refl _ _⟩
  have hnz : ((n : Int) == 0) = false := by rw [beq_eq_false_iff_ne]; omega
  go_wp2
  go_loopw [5, 13] (fun out i wr => ∃ (k : Nat) (q : List ByteArray), k ≤ n ∧ i = .int .i64 k ∧ Below w.heap.size w wr ∧ Own tStr 9 wr w.heap.size (fun _ => False) out q ∧ Hid (q = (l.take k).map fun x => bl (chgL x))) (fun _ i _ => n - (intOf i).toNat)
  case atStart => exact ⟨0, [], Nat.zero_le _, rfl, Below.refl _ _, .nil, rfl⟩
  case round =>
    obtain ⟨k, q, hk, rfl, hb, ho, HQ⟩ := hrel
    have hz := hb.size
    by_cases hlt : k < n
    · obtain ⟨x, hx⟩ : ∃ x, l[k]? = some x := ⟨_, List.getElem?_eq_getElem (by have := HNL.out; omega)⟩
      obtain ⟨b, o, hix, _, hbs, hx1, hx2, hx3, hc0, hc1, hc2⟩ := (hv.call hb).idxChgAt aChg k k x rfl hx
      obtain ⟨y1, y2, y3⟩ := h0 x (List.mem_of_getElem? hx)
      have HN : Hid (q ++ [bl (chgL x)] = (l.take (k + 1)).map fun x => bl (chgL x)) := keepBack (by rw [HQ.out, List.take_add_one, hx]; simp)
      have hql : q.length ≤ k := by rw [HQ.out]; simp; omega
      clear hx
      obtain ⟨ag, cg, hvv, _, _⟩ := ho.shape
      obtain ⟨m, hm⟩ : ∃ m, m = q.length := ⟨_, rfl⟩
      rw [← hm] at hvv hql
      have HM := keepBack hm
      clear hm
      subst hvv
      go_wp2_with fail
      have b0 := (Below.refl wr.heap.size wr).alloc (Nat.le_refl _) (.cells #[.int .i64 x.1, .int .i64 x.2.1, .int .i64 x.2.2] 95)
      refine (deskChgT x.1 x.2.1 x.2.2 hx1 hx2 hx3 y1 y2 y3 _ ((hV.call hb).call b0)).mono ?_; rintro e w1 ⟨_, rfl, rfl, b1⟩
      have b1 := b0.trans (b1.mono b0.size)
      have ho1 := ho.call b1
      have hz1 := b1.size
      have hob := ho1.block
      have hb1 := hb.trans (b1.mono hz)
      have hsrc := fun t => Src.one (E := tStr) (w := w1) (D := fun _ => False) (cs := [.string (bl (chgL x))]) (a := bl (chgL x)) ⟨rfl, trivial⟩ t
      go_wp2_with (at_builtin; refine wpList_grow rfl (.tmp 17) (.tmp 21) rfl aStr rfl (ho1.alloc _) rfl rfl (hsrc _) (by simp) (fun _ h => h.elim) (by rw [← HM.out]; simp only [List.length_cons, List.length_nil]; omega) (by simp; omega) ?_)
      intro v2 w2 ho2 hg2
      have hb2 : Below w.heap.size w w2 := (hb1.alloc (by omega) _).grown hg2 (by simp; omega) (fun g hg => (hob g hg).1)
      go_wp2
      go_roundw
      case rel => exact ⟨k + 1, _, by omega, by go_num, hb2, ho2, HN⟩
      case measure => simp [intOf]; omega
    · obtain rfl : k = n := by omega
      have hq : q = (l.map chgL).map bl := by rw [HQ.out, HNL.out, List.take_length, List.map_map]; rfl
      rw [hq] at ho
      have hs := ho.sl (D := fun _ => True) (fun _ h => h.elim) (fun _ _ => trivial)
      have hj : (Lib.join (l.map chgL) [32]).length ≤ 1000000000 := by
        refine Nat.le_trans (join_len _ 62 fun x hx => ?_) (by rw [List.length_map]; omega)
        obtain ⟨y, hy, rfl⟩ := List.mem_map.1 hx
        exact chgT_len (hok y hy)
      obtain ⟨ag, cg, hvv, _, _⟩ := ho.shape
      obtain ⟨m, hm⟩ : ∃ m, m = ((l.map chgL).map bl).length := ⟨_, rfl⟩
      rw [← hm] at hvv
      clear hm hq HQ
      subst hvv
      have HJ : Hid (Lib.join (l.map chgL) [32] = lsL (l.map chgL)) := keepBack (by rw [lsL, if_neg (by intro h; have := congrArg List.length h; rw [List.length_map, ← HNL.out] at this; exact hz0 this)])
      go_wp2_with fail
      refine (joinC _ (l.map chgL) _ wr hs (by rw [List.length_map]; omega) hj).mono ?_; rintro e w1 ⟨_, rfl, rfl, b1⟩
      go_wp2
      go_ret
      exact ⟨_, rfl, congrArg (fun x => Value.string (bl x)) HJ.out, hb.trans (b1.mono hz)⟩
end Go.Pch
end

section
namespace Go.Pch
open Go.RowKit Go.Proofs
set_option maxRecDepth 100000
class Zone where
  Z : Blk
def Away [Zone] (T : Nat) : Blk := fun k => k ≠ T ∧ ¬ Zone.Z k
def DeskTab [Zone] (w : World) (T : Nat) (r : Repo) : Prop := (∃ vc vh, w.heap[T]? = some (.cells #[vc, vh] 36) ∧ Sl tCommit w (Away T) vc r.1 ∧ Sl tHead w (Away T) vh r.2) ∧ ∀ k, Zone.Z k → k < w.heap.size
theorem DeskTab.zone [Zone] {w : World} {T : Nat} {r : Repo} (h : DeskTab w T r) : ∀ k, Zone.Z k → k < w.heap.size := h.2
theorem DeskTab.lt [Zone] {w : World} {T : Nat} {r : Repo} (h : DeskTab w T r) : T < w.heap.size := by
  obtain ⟨⟨_, _, h1, _⟩, _⟩ := h
  exact (Array.getElem?_eq_some_iff.1 h1).1
theorem DeskTab.keep [Zone] {w w' : World} {T : Nat} {r : Repo} (h : DeskTab w T r) (hk : ∀ k, k < w.heap.size → w'.heap[k]? = w.heap[k]?) : DeskTab w' T r := by
  have hl := h.lt
  obtain ⟨⟨vc, vh, h1, h2, h3⟩, hz⟩ := h
  exact ⟨⟨vc, vh, (hk T hl).trans h1, h2.keep fun k _ hk' => hk k hk', h3.keep fun k _ hk' => hk k hk'⟩, fun k hk' => by
    have h4 := hz k hk'
    have h5 := (hk k h4).trans (Array.getElem?_eq_getElem h4)
    exact (Array.getElem?_eq_some_iff.1 h5).1⟩
theorem DeskTab.call [Zone] {w w' : World} {T : Nat} {r : Repo} (h : DeskTab w T r) (hb : Below w.heap.size w w') : DeskTab w' T r := h.keep fun k hk => hb.block k hk
def RowsPost [Zone] (T : Nat) (w : World) (p : List Row × Int) (e : Ending) (w' : World) : Prop := Below w.heap.size w w' ∧
  if p.2 = 0 then ∃ v, e = .returned v ∧ Sl tRow w' (Away T) v p.1 else e = .panicked (thrown p.2)
set_option maxHeartbeats 1000000 in
theorem deskRows [Zone] (T : Nat) (r : Repo) (name : Bytes) (w : World) (h : DeskTab w T r) :
    Calls Tryz.prog 62 #[.pointer (some ⟨T, 0, none⟩), .string (bl name)] w (RowsPost T w (hdRows r name)) := by
  have hT := h.lt
  obtain ⟨⟨vc, vh, hrow, hc, hh⟩, _⟩ := h
  obtain ⟨ac, cc, hvc, _, _, _⟩ := hc.shape
  obtain ⟨ah, ch, hvh, _, _, _⟩ := hh.shape
  obtain ⟨nc, hnc⟩ : ∃ n, n = r.1.length := ⟨_, rfl⟩
  obtain ⟨nh, hnh⟩ : ∃ n, n = r.2.length := ⟨_, rfl⟩
  rw [← hnc] at hvc
  rw [← hnh] at hvh
  have HNC := keepBack hnc
  clear hnc hnh
  subst hvc hvh
  have k0 : w.cell? ⟨T, 0, none⟩ = some (.slice ac nc cc) := by rw [World.cell?, hrow]; rfl
  have k1 : w.cell? ⟨T, 1, none⟩ = some (.slice ah nh ch) := by rw [World.cell?, hrow]; rfl
  have hR : Rp w (Away T) (.agg #[.slice ac nc cc, .slice ah nh ch]) r := ⟨_, _, rfl, hc, hh⟩
  clear hrow
  by_cases hz : (headP r (bl name)).2 = 0
  · obtain ⟨he, n, hnn, hP, _⟩ := headP_at hz
    have HP : Hid (hdRows r name = (rowsN r.1 n, 0)) := keepBack (by rw [hdRows, if_pos hz, hP]; rfl)
    rw [HP.out]
    go_enter Tryz.func62, Tryz.ntmps62
    go_wp2_with fail
    refine (repoHead_of _ r _ _ w hR hP).mono ?_; rintro e w1 ⟨_, rfl, rfl, b1⟩
    have hc1 := hc.call b1
    have q0 := (b1.cell (p := ⟨T, 0, none⟩) hT).trans k0
    obtain ⟨b, o, x, y, hix, _, hbs, hx, _, c0, _⟩ := hc1.idxCommit aCom n n rfl hnn
    obtain ⟨ax, cx, rfl, _, _, _⟩ := hx.shape
    have HX : Hid (rowsN r.1 n = r.1[n].1) := keepBack (by rw [rowsN, List.getElem?_eq_getElem hnn]; rfl)
    generalize r.1[n].1 = X at *
    obtain ⟨m, hm⟩ : ∃ m, m = X.length := ⟨_, rfl⟩
    rw [← hm] at hx c0
    clear hm
    have hni : (0 : Int) ≤ n ∧ (n : Int) < nc := ⟨by omega, by rw [HNC.out]; omega⟩
    obtain ⟨hn0, hn1⟩ := hni
    clear k0
    go_wp2_with fail
    refine (mustOk 0 w1).mono ?_; rintro e w2 ⟨rfl, rfl⟩
    go_wp2
    go_ret
    exact ⟨b1, by rw [if_pos rfl]; exact ⟨_, rfl, by rw [HX.out]; exact hx⟩⟩
  · obtain ⟨c, hcd⟩ : ∃ c, c = headP r (bl name) := ⟨_, rfl⟩
    have HP : Hid (hdRows r name = ([], c.2)) := keepBack (by rw [hdRows, if_neg hz, hcd])
    rw [← hcd] at hz
    have HC := keepBack hcd
    clear hcd
    rw [HP.out]
    have hq : (c.2 == 0) = false := by rw [beq_eq_false_iff_ne]; exact hz
    go_enter Tryz.func62, Tryz.ntmps62
    go_wp2_with fail
    refine (repoHead_of _ r _ _ w hR HC.out.symm).mono ?_; rintro e w1 ⟨_, rfl, rfl, b1⟩
    go_wp2_with fail
    refine (mustNo c.2 w1).mono ?_; rintro e w2 ⟨rfl, rfl⟩
    go_wp2
    exact ⟨rfl, b1, by rw [if_neg hz]⟩
def Does [Zone] (T : Nat) (w : World) (r : Repo) (o : Out) (e : Ending) (w' : World) : Prop := Step (fun k => k = T) w w' ∧
  if o.2.2 = 0 then e = .returned (.string (bl o.2.1)) ∧ DeskTab w' T o.1 else e = .panicked (thrown o.2.2) ∧ DeskTab w' T r
theorem Does.ok [Zone] {T : Nat} {w w' : World} {r : Repo} {o : Out} {e : Ending} (h : o.2.2 = 0) (hs : Step (fun k => k = T) w w') (he : e = .returned (.string (bl o.2.1))) (ht : DeskTab w' T o.1) : Does T w r o e w' := ⟨hs, by rw [if_pos h]; exact ⟨he, ht⟩⟩
theorem Does.no [Zone] {T : Nat} {w w' : World} {r : Repo} {o : Out} {e : Ending} (h : o.2.2 ≠ 0) (hs : Step (fun k => k = T) w w') (he : e = .panicked (thrown o.2.2)) (ht : DeskTab w' T r) : Does T w r o e w' := ⟨hs, by rw [if_neg h]; exact ⟨he, ht⟩⟩
theorem Does.after [Zone] {T : Nat} {w w1 w' : World} {r : Repo} {o : Out} {e : Ending} (h : Does T w1 r o e w') (hs : Step (fun k => k = T) w w1) : Does T w r o e w' := ⟨hs.on h.1, h.2⟩
set_option maxHeartbeats 1000000 in
theorem deskTurn [Zone] (T : Nat) (r : Repo) (p : Repo × Int) (y : Value) (w : World) (h : DeskTab w T r) (hy : Rp w (Away T) y p.1) :
    Calls Tryz.prog 54 #[.pointer (some ⟨T, 0, none⟩), y, .int .i64 p.2] w (Does T w r (okO p)) := by
  have hT := h.lt
  have hD := h
  obtain ⟨⟨vc, vh, hrow, _, _⟩, _⟩ := h
  obtain ⟨yc, yh, rfl, hc, hh⟩ := hy
  obtain ⟨ac, cc, hvc, _, _, _⟩ := hc.shape
  obtain ⟨ah, ch, hvh, _, _, _⟩ := hh.shape
  obtain ⟨nc, hnc⟩ : ∃ n, n = p.1.1.length := ⟨_, rfl⟩
  obtain ⟨nh, hnh⟩ : ∃ n, n = p.1.2.length := ⟨_, rfl⟩
  rw [← hnc] at hvc
  rw [← hnh] at hvh
  clear hnc hnh
  subst hvc hvh
  obtain ⟨wA, hwA⟩ : ∃ wA, wA = w.alloc (.cells #[.slice ac nc cc, .slice ah nh ch] 33) := ⟨_, rfl⟩
  have bA : Below w.heap.size w wA := by rw [hwA]; exact (Below.refl _ _).alloc (Nat.le_refl _) _
  have zA : wA.heap.size = w.heap.size + 1 := by rw [hwA]; simp
  have k0 : wA.cell? ⟨w.heap.size, 0, none⟩ = some (.slice ac nc cc) := by rw [hwA]; simp
  have k1 : wA.cell? ⟨w.heap.size, 1, none⟩ = some (.slice ah nh ch) := by rw [hwA]; simp
  have HWA := keepBack hwA
  have HZA := keepBack zA
  clear hwA zA
  have hrA := (bA.block T hT).trans hrow
  have hcA := hc.call bA
  have hhA := hh.call bA
  have hDA := hD.call bA
  by_cases he : p.2 = 0
  · have HE : Hid (p.2 = 0) := he
    rw [he]
    have t0 : wA.cell? ⟨T, 0, none⟩ = some vc := by rw [World.cell?, hrA]; rfl
    have t1 : wA.cell? ⟨T, 1, none⟩ = some vh := by rw [World.cell?, hrA]; rfl
    have tf : ∀ i, wA.frozen? ⟨T, i, none⟩ = false := fun i => frozen_of_row wA T i _ _ hrA
    have tf0 := tf 0
    have tf1 := tf 1
    clear he tf
    go_enter Tryz.func54, Tryz.ntmps54
    go_wp2_with fail
    rw [← HWA.out]
    refine (mustOk 0 wA).mono ?_; rintro e w2 ⟨rfl, rfl⟩
    go_wp2
    go_ret
    have hr2 := heap_setCell_same (wA.setCell ⟨T, 0, none⟩ (.slice ac nc cc)) T 1 _ _ (.slice ah nh ch) (heap_setCell_same wA T 0 _ _ (.slice ac nc cc) hrA)
    have hk : ∀ k, k ≠ T → ((wA.setCell ⟨T, 0, none⟩ (.slice ac nc cc)).setCell ⟨T, 1, none⟩ (.slice ah nh ch)).heap[k]? = wA.heap[k]? := fun k hk => (heap_setCell_other _ _ _ _ hk).trans (heap_setCell_other _ _ _ _ hk)
    refine Does.ok HE.out ((Step.of_below bA).on ((Step.setCell (X := fun k => k = T) ⟨T, 0, none⟩ _ rfl).on (Step.setCell ⟨T, 1, none⟩ _ rfl))) rfl ⟨⟨_, _, hr2, hcA.keep fun k h1 _ => hk k h1.1, hhA.keep fun k h1 _ => hk k h1.1⟩, fun k hk => by have := hDA.zone k hk; simpa [World.setCell] using this⟩
  · have hq : (p.2 == 0) = false := by rw [beq_eq_false_iff_ne]; exact he
    go_enter Tryz.func54, Tryz.ntmps54
    go_wp2_with fail
    rw [← HWA.out]
    refine (mustNo p.2 wA).mono ?_; rintro e w2 ⟨rfl, rfl⟩
    go_wp2
    exact ⟨rfl, Does.no he (Step.of_below bA) rfl hDA⟩
end Go.Pch
end
