/- The walks of a pen: Put, Text. The walks of a pen: Text; append of a text. The walks of names: strings.ContainsFunc at the program's predicate, repo.Name. -/
import Derived.Test.YtdclpbdmdpakkaaGreatLb4
import Derived.Deep.Cut
import Derived.Deep.CutRange
import Derived.Deep.LoopGhost
import Derived.Lib.OthersKept
import Derived.Lib.TrimU
section
namespace Go.Pch
open Go.RowKit Go.Proofs
set_option maxRecDepth 100000
set_option linter.unusedSimpArgs false

/-- append, for the walk; where the grown block is. -/
theorem wpList_growB {α : Type} {E : Ty α} {e T : TypeId} {w : World} {B : Nat} {C D : Blk} {v : Value} {l m : List α} {P : Program} {ops : Array Oper} {rest : List Oper} {o : Oper} {a : Go.Act} {Q : Exit → Go.Act → World → Prop} (hgd : o.guard = none) (s x : Operand)
    (ho : o.op = .call { callee := .builtin .append, args := #[s, x], argTypes := #[T, T] }) (hA : At P E T e) (hs : a.eval s = v) (h : Own E e w B C v l) {ao : Option Addr} {c n : Nat} (hx : a.eval x = .slice ao n c) (hnm : n = m.length) (hsrc : Src E w D ao m) (hc : ao = none → c = 0)
    (hD : ∀ k, D k → k < w.heap.size → C k ∧ some k ≠ v.ownBlock) (hn : l.length + m.length ≤ 1000000000000) (hB : B ≤ w.heap.size)
    (hK : ∀ v' w', Own E e w' B C v' (l ++ m) → w.grownBy w' v.ownBlock → (∀ g, v'.ownBlock = some g → v.ownBlock = some g ∨ w.heap.size ≤ g) → wpList P ops Q rest (a.put o.dst v') w') : wpList P ops Q (o :: rest) a w := by
  refine wpList_plain hgd fun K hK' => ?_
  subst hnm
  obtain ⟨v', w', hrun, h1, h2, h3⟩ := h.run hA hsrc hc o.type hD hn hB
  unfold Oper.wp
  simp [execOp, ho, resolve, invoke, builtin, hs, hx, hrun, Result.andThen]
  refine hK' _ _ (hK v' w' h1 h2 fun g hg => ?_)
  rcases h3 with h3 | h3
  · exact .inl (h3 ▸ hg)
  · rw [hg] at h3
    exact .inr (by simp at h3; omega)

theorem flatMap_next {α β : Type} (f : α → List β) {l : List α} {k : Nat} (h : k < l.length) : (l.take (k + 1)).flatMap f = (l.take k).flatMap f ++ f l[k] := by
  rw [List.take_succ_eq_append_getElem h, List.flatMap_append, List.flatMap_cons, List.flatMap_nil, List.append_nil]
theorem any_next {α : Type} (f : α → Bool) {l : List α} {k : Nat} (h : k < l.length) : (l.take (k + 1)).any f = ((l.take k).any f || f l[k]) := by
  rw [List.take_succ_eq_append_getElem h, List.any_append, List.any_cons, List.any_nil, Bool.or_false]

theorem len_enc1 (l : List Int) : (l.flatMap enc1).length = l.length := by
  induction l with
  | nil => rfl
  | cons a l ih => rw [List.flatMap_cons, List.length_append, ih]; simp [enc1]; omega
theorem len_enc2 (l : List Int) : (l.flatMap enc2).length = 2 * l.length := by
  induction l with
  | nil => rfl
  | cons a l ih => rw [List.flatMap_cons, List.length_append, ih]; simp [enc2]; omega

/-- One byte more: the run of append, and what it leaves. -/
theorem PenAt.byte {w : World} {B pb : Nat} {v : Value} {bs : Bytes} {bad : Bool} (h : PenAt w B pb v bs bad) (c : UInt8) (hl : bs.length ≤ 10000000000) :
    ∃ (a2 : Option Addr) (L c2 : Nat) (w2 : World), (Builtin.append_ #[86, 86] 86 #[v, .slice (some ⟨w.heap.size, 0, none⟩) 1 1]).run Tryz.prog (w.drew.alloc (.cells #[.int .u8 (c.toNat : Int)] 5)) = .ok (.slice a2 L c2) w2 ∧
      w2.cell? ⟨pb, 0, none⟩ = some v ∧ w2.frozen? ⟨pb, 0, none⟩ = false ∧ PenAt (w2.setCell ⟨pb, 0, none⟩ (.slice a2 L c2)) B pb (.slice a2 L c2) (bs ++ [c]) bad ∧
      (∀ v0 w0, PenOn pb v0 v w0 w → PenOn pb v0 (.slice a2 L c2) w0 (w2.setCell ⟨pb, 0, none⟩ (.slice a2 L c2))) ∧ (w.alloc (.cells #[.int .u8 (c.toNat : Int)] 5)).cell? ⟨pb, 0, none⟩ = some v := by
  obtain ⟨W1, hW1⟩ : ∃ W1, W1 = w.drew.alloc (.cells #[.int .u8 (c.toNat : Int)] 5) := ⟨_, rfl⟩
  have hb1 : Below w.heap.size w W1 := by rw [hW1]; exact (Below.refl _ _).drew.alloc (Nat.le_refl _) _
  have hp1 := h.call hb1
  have hsrc : Src tByte W1 (fun _ => False) (some ⟨w.heap.size, 0, none⟩) [c] := by
    refine ⟨[[.int .u8 (c.toNat : Int)]], Each.one _ _ ⟨rfl, trivial⟩, by simp, fun ad had j u hj => ?_⟩
    obtain rfl := (Option.some.inj had).symm
    rw [hW1]
    cases j with
    | zero =>
      simp at hj; subst hj
      show (w.drew.alloc _).cell? ⟨w.drew.heap.size, 0, none⟩ = _
      rw [World.cell?_alloc_new]; rfl
    | succ j => simp at hj
  obtain ⟨v2, w2, hrun, ho2, hg2, hn2⟩ := hp1.own.run aByte hsrc (fun h => by cases h) 86 (fun _ h => h.elim) (c := 1) (by simp; omega) (Nat.le_trans hp1.low (Nat.le_of_lt hp1.lt))
  obtain ⟨a2, c2, rfl, _, _⟩ := ho2.shape
  have hr2 : w2.heap[pb]? = some (.cells #[v, .bool bad] 88) := (hg2.block pb hp1.lt fun e => hp1.apart e.symm).trans hp1.row
  refine ⟨a2, _, c2, w2, by rw [← hW1]; exact hrun, by rw [World.cell?, hr2]; rfl, frozen_of_row w2 pb 0 _ _ hr2, hp1.setB ho2 hg2, fun v0 w0 hon => ?_, ((((Below.refl w.heap.size w)).alloc (Nat.le_refl _) _).cell (p := ⟨pb, 0, none⟩) h.lt).trans h.cell0⟩
  exact (hon.trans ⟨Step.of_below hb1, fun g hg => .inl hg⟩).setB hg2 (fun g hg => by
    rcases hn2 with h | h
    · exact .inl (h ▸ hg)
    · rw [h] at hg; exact .inr (Nat.le_of_eq (Option.some.inj hg))) _

set_option maxHeartbeats 2000000 in
theorem penPut1 (pb B : Nat) (vl : Value) (l : List Int) (S : Blk) (w : World) (v : Value) (bs : Bytes) (bad : Bool)
    (hp : PenAt w B pb v bs bad) (hl : Sl tInt w S vl l) (hS : ∀ k, S k → ¬ penX pb v k) (hlen : l.length ≤ 1000) (hbs : bs.length ≤ 1000000000) :
    Calls Tryz.prog 46 #[.pointer (some ⟨pb, 0, none⟩), .int .i64 1, vl] w fun e w' => e = .returned (.tuple #[]) ∧ ∃ v', PenAt w' B pb v' (bs ++ l.flatMap enc1) (bad || l.any (outN 1)) ∧ PenOn pb v v' w w' := by
  obtain ⟨ao, cap, rfl, hcap, hmax, hnil⟩ := hl.shape
  go_enter Tryz.func46, Tryz.ntmps46
  go_wp2
  go_loopw [7, 8, 11] (fun _ _ i wr => ∃ (k : Nat) (vr : Value), k ≤ l.length ∧ i = .int .i64 k ∧ PenAt wr B pb vr (bs ++ (l.take k).flatMap enc1) (bad || (l.take k).any (outN 1)) ∧ PenOn pb v vr w wr) (fun _ _ i _ => l.length - (intOf i).toNat)
  case atStart => exact ⟨0, v, Nat.zero_le _, rfl, by simpa using hp, PenOn.refl _ _ _⟩
  case round =>
    obtain ⟨k, vr, hk, rfl, hpr, hon⟩ := hrel
    by_cases hlt : k < l.length
    · obtain ⟨b, o, hix, _, hbs, ok, hc0⟩ := (hl.step hon.1 hS).idxInt aInt k k rfl hlt
      have p1 := hpr.cell1
      have pf1 := hpr.free 1
      have ht : (l.take (k + 1)).flatMap enc1 = (l.take k).flatMap enc1 ++ enc1 l[k] := flatMap_next _ hlt
      have ha : (l.take (k + 1)).any (outN 1) = ((l.take k).any (outN 1) || outN 1 l[k]) := any_next _ hlt
      have hdl : ((l.take k).flatMap enc1).length ≤ 1000 := by rw [len_enc1, List.length_take]; omega
      have HT := keepBack ht
      have HA := keepBack ha
      clear ht ha
      generalize (l.take k).flatMap enc1 = done at *
      generalize hn : l[k] = n at *
      generalize hbr : (bad || (l.take k).any (outN 1)) = br at *
      have HBR := keepBack hbr
      clear hbr hn
      go_upto_region 3 with fail
      go_cut [7] from 12 to 53 (fun nv wc => nv = .int .i64 n ∧ PenAt wc B pb vr (bs ++ done) (br || outN 1 n) ∧ PenOn pb v vr w wc)
      case first =>
        have key : ∀ x, (br || outN 1 n) = x → PenAt (wr.setCell ⟨pb, 1, none⟩ (.bool x)) B pb vr (bs ++ done) (br || outN 1 n) ∧ PenOn pb v vr w (wr.setCell ⟨pb, 1, none⟩ (.bool x)) := fun x hx => by rw [hx]; exact ⟨hpr.setBad x, hon.setBad _⟩
        have KEY := keepBack key
        clear key
        cases br with
        | true =>
          go_wp2_with fail
          go_meet
          case rel => exact ⟨rfl, KEY.out true (by simp)⟩
        | false =>
          by_cases h0 : n < 0
          · go_wp2_with fail
            go_meet
            case rel => exact ⟨rfl, KEY.out true (by simp [outN, h0])⟩
          · by_cases h1 : 256 ≤ n
            · go_wp2_with fail
              go_meet
              case rel => exact ⟨rfl, KEY.out true (by simp [outN, h1])⟩
            · go_wp2_with fail
              go_meet
              case rel => exact ⟨rfl, KEY.out false (by simp [outN]; omega)⟩
      case rest =>
        obtain ⟨rfl, hpc, honc⟩ := hcut
        obtain ⟨wo, rfl⟩ : ∃ wo : World, wo = wr := ⟨_, rfl⟩
        go_wp2
        go_loopw [8] (fun iv wr => ∃ (j : Nat) (vx : Value) (bx : Bytes), j ≤ 1 ∧ iv = .int .i64 ((j : Int) - 1) ∧ PenAt wr B pb vx bx (br || outN 1 n) ∧ PenOn pb v vx w wr ∧ Hid (bx = bs ++ done ++ (enc1 n).take (1 - j))) (fun iv _ => (intOf iv + 1).toNat)
        case atStart => exact ⟨1, vr, _, Nat.le_refl _, rfl, hpc, honc, by simp [Hid]⟩
        case round =>
          obtain ⟨j, vx, bx, hj, rfl, hpx, honx, hbx⟩ := hrel
          by_cases hj0 : j = 0
          · subst hj0
            go_wp2
            have hbx1 := hbx.out
            simp only [enc1, Nat.sub_zero, List.take_succ_cons, List.take_zero] at hbx1
            go_roundw
            case rel => exact ⟨k + 1, vx, by omega, by go_num, by rw [HT.out, HA.out, ← Bool.or_assoc, HBR.out, ← List.append_assoc]; rw [hbx1] at hpx; exact hpx, honx⟩
            case measure => simp [intOf]; omega
          · obtain rfl : j = 1 := by omega
            have q0 := hpx.cell0
            have qf := hpx.free 0
            have hsh : ∀ W, Sem.run Tryz.prog (Op.shift BinOp.shr IntKind.i64 n IntKind.i64 (IntKind.i64.wrap 0)) W = .ok (.int .i64 (n)) W := fun W => by
              rw [show IntKind.i64.wrap 0 = 0 from by decide, shift_shr .i64 .i64 n 0 (by decide) (by decide)]
              simp [Sem.run_pure]
            have hw8 : IntKind.u8.wrap (n) = ((byteOf (n)).toNat : Int) := by rw [byteOf_nat, IntKind.wrap_u8]
            have hlx : bx.length ≤ 10000000000 := by rw [hbx.out]; simp [enc1, enc2]; omega
            obtain ⟨a2, L, c2, w2, hrun, r0, rf, hpn, hon2, q0'⟩ := hpx.byte (byteOf (n)) hlx
            have honn := hon2 _ _ honx
            clear hon2
            go_wp2
            go_region_law (refine step_append_is rfl (.tmp 43) (.tmp 49) 86 86 rfl _ _ rfl rfl hrun ?_)
            all_goals
              go_wp2
              go_roundw
              case rel => exact ⟨0, _, _, by omega, by go_num, hpn, honn, by rw [hbx.out]; simp [Hid, enc1, enc2]⟩
              case measure => simp [intOf]
    · go_wp2
      go_end0
      rw [List.take_of_length_le (by omega)] at hpr
      exact ⟨rfl, vr, hpr, hon⟩

set_option maxHeartbeats 2000000 in
theorem penPut2 (pb B : Nat) (vl : Value) (l : List Int) (S : Blk) (w : World) (v : Value) (bs : Bytes) (bad : Bool)
    (hp : PenAt w B pb v bs bad) (hl : Sl tInt w S vl l) (hS : ∀ k, S k → ¬ penX pb v k) (hlen : l.length ≤ 1000) (hbs : bs.length ≤ 1000000000) :
    Calls Tryz.prog 46 #[.pointer (some ⟨pb, 0, none⟩), .int .i64 2, vl] w fun e w' => e = .returned (.tuple #[]) ∧ ∃ v', PenAt w' B pb v' (bs ++ l.flatMap enc2) (bad || l.any (outN 2)) ∧ PenOn pb v v' w w' := by
  obtain ⟨ao, cap, rfl, hcap, hmax, hnil⟩ := hl.shape
  go_enter Tryz.func46, Tryz.ntmps46
  go_wp2
  go_loopw [7, 8, 11] (fun _ _ i wr => ∃ (k : Nat) (vr : Value), k ≤ l.length ∧ i = .int .i64 k ∧ PenAt wr B pb vr (bs ++ (l.take k).flatMap enc2) (bad || (l.take k).any (outN 2)) ∧ PenOn pb v vr w wr) (fun _ _ i _ => l.length - (intOf i).toNat)
  case atStart => exact ⟨0, v, Nat.zero_le _, rfl, by simpa using hp, PenOn.refl _ _ _⟩
  case round =>
    obtain ⟨k, vr, hk, rfl, hpr, hon⟩ := hrel
    by_cases hlt : k < l.length
    · obtain ⟨b, o, hix, _, hbs, ok, hc0⟩ := (hl.step hon.1 hS).idxInt aInt k k rfl hlt
      have p1 := hpr.cell1
      have pf1 := hpr.free 1
      have ht : (l.take (k + 1)).flatMap enc2 = (l.take k).flatMap enc2 ++ enc2 l[k] := flatMap_next _ hlt
      have ha : (l.take (k + 1)).any (outN 2) = ((l.take k).any (outN 2) || outN 2 l[k]) := any_next _ hlt
      have hdl : ((l.take k).flatMap enc2).length ≤ 2000 := by rw [len_enc2, List.length_take]; omega
      have HT := keepBack ht
      have HA := keepBack ha
      clear ht ha
      generalize (l.take k).flatMap enc2 = done at *
      generalize hn : l[k] = n at *
      generalize hbr : (bad || (l.take k).any (outN 2)) = br at *
      have HBR := keepBack hbr
      clear hbr hn
      go_upto_region 3 with fail
      go_cut [7] from 12 to 53 (fun nv wc => nv = .int .i64 n ∧ PenAt wc B pb vr (bs ++ done) (br || outN 2 n) ∧ PenOn pb v vr w wc)
      case first =>
        have key : ∀ x, (br || outN 2 n) = x → PenAt (wr.setCell ⟨pb, 1, none⟩ (.bool x)) B pb vr (bs ++ done) (br || outN 2 n) ∧ PenOn pb v vr w (wr.setCell ⟨pb, 1, none⟩ (.bool x)) := fun x hx => by rw [hx]; exact ⟨hpr.setBad x, hon.setBad _⟩
        have KEY := keepBack key
        clear key
        cases br with
        | true =>
          go_wp2_with fail
          go_meet
          case rel => exact ⟨rfl, KEY.out true (by simp)⟩
        | false =>
          by_cases h0 : n < 0
          · go_wp2_with fail
            go_meet
            case rel => exact ⟨rfl, KEY.out true (by simp [outN, h0])⟩
          · by_cases h1 : 65536 ≤ n
            · go_wp2_with fail
              go_meet
              case rel => exact ⟨rfl, KEY.out true (by simp [outN, h1])⟩
            · go_wp2_with fail
              go_meet
              case rel => exact ⟨rfl, KEY.out false (by simp [outN]; omega)⟩
      case rest =>
        obtain ⟨rfl, hpc, honc⟩ := hcut
        obtain ⟨wo, rfl⟩ : ∃ wo : World, wo = wr := ⟨_, rfl⟩
        go_wp2
        go_loopw [8] (fun iv wr => ∃ (j : Nat) (vx : Value) (bx : Bytes), j ≤ 2 ∧ iv = .int .i64 ((j : Int) - 1) ∧ PenAt wr B pb vx bx (br || outN 2 n) ∧ PenOn pb v vx w wr ∧ Hid (bx = bs ++ done ++ (enc2 n).take (2 - j))) (fun iv _ => (intOf iv + 1).toNat)
        case atStart => exact ⟨2, vr, _, Nat.le_refl _, rfl, hpc, honc, by simp [Hid]⟩
        case round =>
          obtain ⟨j, vx, bx, hj, rfl, hpx, honx, hbx⟩ := hrel
          by_cases hj0 : j = 0
          · subst hj0
            go_wp2
            have hbx1 := hbx.out
            simp only [enc2, Nat.sub_zero, List.take_succ_cons, List.take_zero] at hbx1
            go_roundw
            case rel => exact ⟨k + 1, vx, by omega, by go_num, by rw [HT.out, HA.out, ← Bool.or_assoc, HBR.out, ← List.append_assoc]; rw [hbx1] at hpx; exact hpx, honx⟩
            case measure => simp [intOf]; omega
          · have q0 := hpx.cell0
            have qf := hpx.free 0
            by_cases hj1 : j = 1
            · subst hj1
              have hsh : ∀ W, Sem.run Tryz.prog (Op.shift BinOp.shr IntKind.i64 n IntKind.i64 (IntKind.i64.wrap 0)) W = .ok (.int .i64 (n)) W := fun W => by
                rw [show IntKind.i64.wrap 0 = 0 from by decide, shift_shr .i64 .i64 n 0 (by decide) (by decide)]
                simp [Sem.run_pure]
              have hw8 : IntKind.u8.wrap (n) = ((byteOf (n)).toNat : Int) := by rw [byteOf_nat, IntKind.wrap_u8]
              have hlx : bx.length ≤ 10000000000 := by rw [hbx.out]; simp [enc1, enc2]; omega
              obtain ⟨a2, L, c2, w2, hrun, r0, rf, hpn, hon2, q0'⟩ := hpx.byte (byteOf (n)) hlx
              have honn := hon2 _ _ honx
              clear hon2
              go_wp2
              go_region_law (refine step_append_is rfl (.tmp 43) (.tmp 49) 86 86 rfl _ _ rfl rfl hrun ?_)
              all_goals
                go_wp2
                go_roundw
                case rel => exact ⟨0, _, _, by omega, by go_num, hpn, honn, by rw [hbx.out]; simp [Hid, enc1, enc2]⟩
                case measure => simp [intOf]
            · obtain rfl : j = 2 := by omega
              have hsh : ∀ W, Sem.run Tryz.prog (Op.shift BinOp.shr IntKind.i64 n IntKind.i64 (IntKind.i64.wrap 8)) W = .ok (.int .i64 (n / 256)) W := fun W => by
                rw [show IntKind.i64.wrap 8 = 8 from by decide, shift_shr .i64 .i64 n 8 (by decide) (by decide)]
                simp [Sem.run_pure]
              have hw8 : IntKind.u8.wrap (n / 256) = ((byteOf (n / 256)).toNat : Int) := by rw [byteOf_nat, IntKind.wrap_u8]
              have hlx : bx.length ≤ 10000000000 := by rw [hbx.out]; simp [enc1, enc2]; omega
              obtain ⟨a2, L, c2, w2, hrun, r0, rf, hpn, hon2, q0'⟩ := hpx.byte (byteOf (n / 256)) hlx
              have honn := hon2 _ _ honx
              clear hon2
              go_wp2
              go_region_law (refine step_append_is rfl (.tmp 43) (.tmp 49) 86 86 rfl _ _ rfl rfl hrun ?_)
              all_goals
                go_wp2
                go_roundw
                case rel => exact ⟨1, _, _, by omega, by go_num, hpn, honn, by rw [hbx.out]; simp [Hid, enc1, enc2]⟩
                case measure => simp [intOf]
    · go_wp2
      go_end0
      rw [List.take_of_length_le (by omega)] at hpr
      exact ⟨rfl, vr, hpr, hon⟩

end Go.Pch
end

section
namespace Go.Pch
open Go.RowKit Go.Proofs
set_option maxRecDepth 100000

theorem byteInfo : (Tryz.prog.info? 5).map (fun i => (i.zero, i.size, i.bytes)) = some (some (.int .u8 0), 1, 1) := by kernel_rfl
theorem strEach (w : World) (D : Blk) : ∀ l : Bytes, Each tByte w D (l.map fun b => [Value.int .u8 (b.toNat : Int)]) l
  | [] => Each.nil
  | b :: l => by
    have := (Each.one (E := tByte) (w := w) (D := D) [Value.int .u8 (b.toNat : Int)] b ⟨rfl, trivial⟩).app (strEach w D l)
    simpa using this
theorem flat_one {α β : Type} (f : α → β) : ∀ l : List α, (l.map fun b => [f b]).flatten = l.map f
  | [] => rfl
  | b :: l => by rw [List.map_cons, List.flatten_cons, flat_one f l]; rfl
/-- append of a text's bytes. -/
theorem Own.runS {w : World} {B : Nat} {C : Blk} {v : Value} {l : Bytes} (h : Own tByte 5 w B C v l) (s : ByteArray) (ty : TypeId) (hn : l.length + s.size ≤ 1000000000000) (hB : B ≤ w.heap.size) :
    ∃ v' w', (Builtin.append_ #[86, 9] ty #[v, .string s]).run Tryz.prog w = .ok v' w' ∧ Own tByte 5 w' B C v' (l ++ s.data.toList) ∧ w.grownBy w' v.ownBlock ∧ (v'.ownBlock = v.ownBlock ∨ v'.ownBlock = some w.heap.size) := by
  obtain ⟨q, i1, i2, i3, i4⟩ := info_parts byteInfo
  obtain ⟨xs, hr, hE⟩ := h
  have h63 : l.length + s.size ≤ maxLen := by unfold maxLen; omega
  have hs1 : tByte.size = 1 := rfl
  rw [hs1] at hr
  have hxl : xs.flatten.length = l.length := by simpa using hr.1
  obtain ⟨v', w', hrun, hown, hgrow, hnil⟩ := Lib.run_append_own_string (P := Tryz.prog) w B 86 9 ty 5 q Tryz.underlying86 Tryz.underlying9 i1 i2 i3 i4 v l.length xs.flatten hr s h63 (by omega) hB
  have hblk : v'.ownBlock = v.ownBlock ∨ v'.ownBlock = some w.heap.size := by
    rcases hr.2 with ⟨rfl, h0⟩ | ⟨g, cap, cur, rfl, hb, hg, h1, h2, h3, h4⟩
    · by_cases hm : s.size = 0
      · obtain rfl := hnil.2 ⟨rfl, hm⟩
        exact .inl rfl
      · have hr2 := run_append_nil_string (P := Tryz.prog) w 86 9 ty 5 q (.int .u8 0) Tryz.underlying86 Tryz.underlying9 i1 i2 s (by omega) (by unfold maxLen at h63; omega) (by rw [i4]; omega)
        rw [hrun] at hr2
        simp only [Result.ok.injEq] at hr2
        rw [hr2.1]
        exact .inr rfl
    · by_cases hroom : l.length + s.size ≤ cap
      · have hr2 := Lib.run_append_room_string (P := Tryz.prog) w 86 9 ty 5 q Tryz.underlying86 Tryz.underlying9 i1 i3 g l.length cap cur hg s hroom (by omega)
        rw [hrun] at hr2
        simp only [Result.ok.injEq] at hr2
        rw [hr2.1]
        exact .inl rfl
      · have holds := hr.cells (g := g) rfl
        have hr2 := Lib.run_append_grow_string (P := Tryz.prog) w 86 9 ty 5 q (.int .u8 0) Tryz.underlying86 Tryz.underlying9 i1 i2 ⟨g, 0, none⟩ l.length cap xs.flatten (by rw [i3]; omega) holds s (by omega) (by unfold maxLen at h63; omega) (by rw [i4]; exact growslice_fits (by omega) (by omega))
        rw [hrun] at hr2
        simp only [Result.ok.injEq] at hr2
        rw [hr2.1]
        exact .inr rfl
  refine ⟨v', w', hrun, ⟨xs ++ s.data.toList.map fun b => [Value.int .u8 (b.toNat : Int)], ?_, ?_⟩, hgrow, hblk⟩
  · have e1 : (xs ++ s.data.toList.map fun b => [Value.int .u8 (b.toNat : Int)]).flatten = xs.flatten ++ Lib.strCells s := by
      rw [List.flatten_append]
      congr 1
      exact flat_one _ _
    rw [e1, List.length_append, show s.data.toList.length = s.size from Array.length_toList]
    exact hown
  · have hE' : Each tByte w' (fun k => C k ∧ some k ≠ v'.ownBlock) xs l := ⟨hE.1, fun i cs a hc ha => hE.2 i cs a hc ha⟩
    exact hE'.app (strEach w' _ s.data.toList)

/-- One number for a pen: Put, handed a row of one that has just been laid. -/
theorem penOne (pb B : Nat) (vl : Value) (n : Int) (w W : World) (v : Value) (bs : Bytes) (bad : Bool) (hp : PenAt w B pb v bs bad) (hb : Below w.heap.size w W) (hs : Sl tInt W (fun k => w.heap.size ≤ k) vl [n]) (hbs : bs.length ≤ 1000000000) :
    Calls Tryz.prog 46 #[.pointer (some ⟨pb, 0, none⟩), .int .i64 1, vl] W fun e w' => e = .returned (.tuple #[]) ∧ ∃ v', PenAt w' B pb v' (bs ++ enc1 n) (bad || outN 1 n) ∧ PenOn pb v v' w w' := by
  have hS : ∀ k, w.heap.size ≤ k → ¬ penX pb v k := by
    intro k hk hx
    have := hp.lt
    rcases hx with rfl | hx
    · omega
    · have := (hp.own.block k hx).2; omega
  refine (penPut1 pb B vl [n] _ W v bs bad (hp.call hb) hs hS (by simp) hbs).mono ?_
  rintro e w' ⟨rfl, v', h1, h2⟩
  exact ⟨rfl, v', by simpa using h1, PenOn.trans (v' := v) ⟨Step.of_below hb, fun g hg => .inl hg⟩ h2⟩
theorem penTwo (pb B : Nat) (vl : Value) (n : Int) (w W : World) (v : Value) (bs : Bytes) (bad : Bool) (hp : PenAt w B pb v bs bad) (hb : Below w.heap.size w W) (hs : Sl tInt W (fun k => w.heap.size ≤ k) vl [n]) (hbs : bs.length ≤ 1000000000) :
    Calls Tryz.prog 46 #[.pointer (some ⟨pb, 0, none⟩), .int .i64 2, vl] W fun e w' => e = .returned (.tuple #[]) ∧ ∃ v', PenAt w' B pb v' (bs ++ enc2 n) (bad || outN 2 n) ∧ PenOn pb v v' w w' := by
  have hS : ∀ k, w.heap.size ≤ k → ¬ penX pb v k := by
    intro k hk hx
    have := hp.lt
    rcases hx with rfl | hx
    · omega
    · have := (hp.own.block k hx).2; omega
  refine (penPut2 pb B vl [n] _ W v bs bad (hp.call hb) hs hS (by simp) hbs).mono ?_
  rintro e w' ⟨rfl, v', h1, h2⟩
  exact ⟨rfl, v', by simpa using h1, PenOn.trans (v' := v) ⟨Step.of_below hb, fun g hg => .inl hg⟩ h2⟩
/-- A row of one number, just laid. -/
theorem litOne (w : World) (n : Int) (hn : i64ok n) : Sl tInt (w.alloc (.cells #[.int .i64 n] 3)) (fun k => w.heap.size ≤ k) (.slice (some ⟨w.heap.size, 0, none⟩) 1 1) [n] :=
  (Own.lit (E := tInt) (e := 3) (B := w.heap.size) (C := fun _ => False) (Each.one _ _ ⟨rfl, hn⟩) rfl (by simp [maxLen]) (Nat.le_refl _)).sl (fun _ h => h.elim) (fun _ h => h)

theorem litOneAt (w : World) (n : Int) (hn : i64ok n) (k : Nat) (hk : k = w.heap.size) : Sl tInt (w.alloc (.cells #[.int .i64 n] 3)) (fun k => w.heap.size ≤ k) (.slice (some ⟨k, 0, none⟩) 1 1) [n] := by
  subst hk
  exact litOne w n hn

theorem penOneL (pb B : Nat) (n : Int) (w : World) (k : Nat) (hk : k = w.heap.size) (v : Value) (bs : Bytes) (bad : Bool) (hp : PenAt w B pb v bs bad) (hn : i64ok n) (hbs : bs.length ≤ 1000000000) :
    Calls Tryz.prog 46 #[.pointer (some ⟨pb, 0, none⟩), .int .i64 1, .slice (some ⟨k, 0, none⟩) 1 1] (w.alloc (.cells #[.int .i64 n] 3)) fun e w' => e = .returned (.tuple #[]) ∧ ∃ v', PenAt w' B pb v' (bs ++ enc1 n) (bad || outN 1 n) ∧ PenOn pb v v' w w' :=
  penOne pb B _ n w _ v bs bad hp ((Below.refl _ _).alloc (Nat.le_refl _) _) (litOneAt w n hn k hk) hbs
theorem penTwoL (pb B : Nat) (n : Int) (w : World) (k : Nat) (hk : k = w.heap.size) (v : Value) (bs : Bytes) (bad : Bool) (hp : PenAt w B pb v bs bad) (hn : i64ok n) (hbs : bs.length ≤ 1000000000) :
    Calls Tryz.prog 46 #[.pointer (some ⟨pb, 0, none⟩), .int .i64 2, .slice (some ⟨k, 0, none⟩) 1 1] (w.alloc (.cells #[.int .i64 n] 3)) fun e w' => e = .returned (.tuple #[]) ∧ ∃ v', PenAt w' B pb v' (bs ++ enc2 n) (bad || outN 2 n) ∧ PenOn pb v v' w w' :=
  penTwo pb B _ n w _ v bs bad hp ((Below.refl _ _).alloc (Nat.le_refl _) _) (litOneAt w n hn k hk) hbs
theorem PenOn.cell {pb : Nat} {v v' : Value} {w w' : World} (h : PenOn pb v v' w w') {p : Addr} (hp : p.block < w.heap.size) (hx : ¬ penX pb v p.block) : w'.cell? p = w.cell? p := h.1.cell hp hx
theorem PenAt.notNew {w : World} {B pb : Nat} {v : Value} {bs : Bytes} {bad : Bool} (h : PenAt w B pb v bs bad) {k : Nat} (hk : w.heap.size ≤ k) : ¬ penX pb v k := by
  intro hx
  have := h.lt
  rcases hx with rfl | hx
  · omega
  · have := (h.own.block k hx).2; omega
theorem PenAt.notOld {w : World} {B pb : Nat} {v : Value} {bs : Bytes} {bad : Bool} (h : PenAt w B pb v bs bad) {k : Nat} (hk : k < B) : ¬ penX pb v k := by
  intro hx
  have := h.low
  rcases hx with rfl | hx
  · omega
  · have := (h.own.block k hx).1; omega
theorem PenOn.alloc {pb : Nat} {v v' : Value} {w w' : World} (h : PenOn pb v v' w w') (o : Obj) : PenOn pb v v' w (w'.alloc o) :=
  h.trans ⟨Step.of_below ((Below.refl _ _).alloc (Nat.le_refl _) _), fun _ h => .inl h⟩
/-- Bytes as a text. -/
theorem Own.text {w : World} {B : Nat} {v : Value} {bs : Bytes} (h : Own tByte 5 w B (fun _ => False) v bs) (h0 : 0 < bs.length) : (convert 86 9 v).run Tryz.prog w = .ok (.string (bl bs)) w := by
  have hs := h.sl (D := fun _ => True) (fun _ h => h.elim) (fun _ _ => trivial)
  obtain ⟨ao, cap, rfl, _, _, _⟩ := hs.shape
  obtain ⟨b, o, cs, rfl, _, _, _, _⟩ := hs.get 0 bs[0] (List.getElem?_eq_getElem h0)
  have := run_convert_bytes_back (P := Tryz.prog) w 86 9 5 ⟨b, o, none⟩ cap bs Tryz.underlying86 Tryz.underlying5 Tryz.underlying9 (fun j hj => by
    obtain ⟨b', o', cs', hbo, _, _, hrd, hc⟩ := hs.get j bs[j] (List.getElem?_eq_getElem hj)
    simp only [Option.some.injEq, Addr.mk.injEq] at hbo
    obtain ⟨rfl, rfl, _⟩ := hbo
    obtain ⟨rfl, _⟩ := hrd
    have := hc 0 _ rfl
    rw [Addr.add_lit]
    simpa [tByte, Ty.flat] using this)
  exact this

theorem PenAt.text {w : World} {B pb : Nat} {v : Value} {bs : Bytes} {bad : Bool} (h : PenAt w B pb v bs bad) (h0 : 0 < bs.length) : (convert 86 9 v).run Tryz.prog w = .ok (.string (bl bs)) w := h.own.text h0

set_option maxHeartbeats 2000000 in
theorem penText (pb B : Nat) (s : ByteArray) (w : World) (v : Value) (bs : Bytes) (bad : Bool) (hp : PenAt w B pb v bs bad) (hbs : bs.length ≤ 900000000) (hs : s.size ≤ 100000000000) :
    Calls Tryz.prog 47 #[.pointer (some ⟨pb, 0, none⟩), .string s] w fun e w' => e = .returned (.tuple #[]) ∧ ∃ v', PenAt w' B pb v' (bs ++ enc1 s.size ++ s.data.toList) (bad || outN 1 s.size) ∧ PenOn pb v v' w w' := by
  have hok : i64ok (s.size : Int) := by unfold i64ok; omega
  have hlit := litOne w (s.size : Int) hok
  have hb0 := (Below.refl w.heap.size w).alloc (Nat.le_refl _) (.cells #[.int .i64 (s.size : Int)] 3)
  go_enter Tryz.func47, Tryz.ntmps47
  go_wp2_with fail
  refine (penOne pb B _ _ w _ v bs bad hp hb0 hlit (by omega)).mono ?_; rintro e w1 ⟨rfl, v1, hp1, hon1⟩
  have q0 := hp1.cell0
  have qf := hp1.free 0
  obtain ⟨v2, w2, hrun, ho2, hg2, hn2⟩ := hp1.own.runS s 86 (by simp [enc1]; omega) (Nat.le_trans hp1.low (Nat.le_of_lt hp1.lt))
  obtain ⟨a2, c2, rfl, _, _⟩ := ho2.shape
  generalize (bs ++ enc1 ↑s.size ++ s.data.toList).length = L at *
  have hr2 : w2.heap[pb]? = some (.cells #[v1, .bool (bad || outN 1 s.size)] 88) := (hg2.block pb hp1.lt fun e => hp1.apart e.symm).trans hp1.row
  have r0 : w2.cell? ⟨pb, 0, none⟩ = some v1 := by rw [World.cell?, hr2]; rfl
  have rf := frozen_of_row w2 pb 0 _ _ hr2
  have hpn := hp1.setB ho2 hg2
  have honn := hon1.setB hg2 (fun g hg => by
    rcases hn2 with h | h
    · exact .inl (h ▸ hg)
    · rw [h] at hg; exact .inr (Nat.le_of_eq (Option.some.inj hg))) (.slice a2 L c2)
  clear hr2
  go_wp2_with (at_builtin; refine Lib.wpList_append_run _ rfl _ _ _ _ rfl _ _ rfl rfl _ _ hrun ?_)
  go_end0
  exact ⟨rfl, _, hpn, honn⟩

end Go.Pch
end

section
namespace Go.Pch
open Go.RowKit Go.Proofs
set_option maxRecDepth 100000

/-- A byte that is no letter opens a rune that is none. -/
theorem decodeN_high (n b0 b1 b2 b3 : Nat) (h0 : 128 ≤ b0) : 128 ≤ (Lib.decodeN n b0 b1 b2 b3).1 := by
  unfold Lib.decodeN
  repeat' split
  all_goals (simp only; omega)
theorem rune_out (s : ByteArray) (pos : Nat) (h : pos < s.size) (hb : letB (s[pos]'h) = false) : (Utf8.decode s pos).1 < 97 ∨ 122 < (Utf8.decode s pos).1 := by
  by_cases ha : (s[pos]'h).toNat < 128
  · rw [decode_ascii s pos h ha]
    simp [letB] at hb
    by_cases h1 : (s[pos]'h).toNat < 97
    · exact .inl h1
    · exact .inr (hb (by omega))
  · refine .inr ?_
    rw [Lib.decode_at]
    have := decodeN_high (s.size - pos) (s.get! pos).toNat (s.get! (pos + 1)).toNat (s.get! (pos + 2)).toNat (s.get! (pos + 3)).toNat (by
      have e : s.get! pos = s[pos]'h := by
        cases s with
        | mk d =>
          have hd : pos < d.size := h
          simp [ByteArray.get!, hd]
          rfl
      rw [e]; omega)
    omega
theorem rune_in (s : ByteArray) (pos : Nat) (h : pos < s.size) (hb : letB (s[pos]'h) = true) : Utf8.decode s pos = ((s[pos]'h).toNat, 1) ∧ 97 ≤ (s[pos]'h).toNat ∧ (s[pos]'h).toNat ≤ 122 := by
  simp [letB] at hb
  exact ⟨decode_ascii s pos h (by omega), hb.1, hb.2⟩
theorem letters_next {s : ByteArray} {pos : Nat} (h : pos < s.size) (hl : (s.toList.take pos).all letB = true) (hb : letB (s[pos]'h) = true) : (s.toList.take (pos + 1)).all letB = true := by
  rw [ByteArray.toList_eq] at *
  have hp : pos < s.data.toList.length := by simpa using h
  rw [List.take_add_one, List.getElem?_eq_getElem hp, List.all_append, hl]
  have hb' : letB (s.data[pos]'h) = true := hb
  simpa using hb'
theorem letters_not {s : ByteArray} {pos : Nat} (h : pos < s.size) (hb : letB (s[pos]'h) = false) : s.toList.all letB = false := by
  rw [ByteArray.toList_eq]
  have hp : pos < s.data.toList.length := by simpa using h
  rw [List.all_eq_false]
  have hb' : letB (s.data[pos]'h) = false := hb
  exact ⟨s.data.toList[pos], List.getElem_mem hp, by simpa using hb'⟩
theorem letters_all {s : ByteArray} {pos : Nat} (h : ¬ pos < s.size) (hl : (s.toList.take pos).all letB = true) : s.toList.all letB = true := by
  rw [List.take_of_length_le] at hl
  · exact hl
  · rw [ByteArray.toList_eq]; simp; have : s.data.size = s.size := rfl; omega

theorem nameRune (R : Nat) (w : World) : Calls Tryz.prog 89 #[.int .i32 R] w fun e w' => e = .returned (.bool (decide (R < 97) || decide (122 < R))) ∧ w = w' := by
  by_cases h1 : R < 97 <;> by_cases h2 : 122 < R
  all_goals
    have z1 : (R : Int) < 97 ↔ R < 97 := by omega
    have z2 : (122 : Int) < R ↔ 122 < R := by omega
    go_enter Tryz.func89, Tryz.ntmps89
    go_wp2
    all_goals first | (exfalso; omega) | (go_ret; exact ⟨by simp [h1, h2], rfl⟩)
theorem nameRune_of {c : Bool} (R : Nat) (w : World) (h : (decide (R < 97) || decide (122 < R)) = c) : Calls Tryz.prog 89 #[.int .i32 R] w fun e w' => e = .returned (.bool c) ∧ w = w' := h ▸ nameRune R w

set_option maxHeartbeats 2000000 in
theorem nameIndex (s : ByteArray) (w : World) :
    Calls Tryz.prog 129 #[.string s, .func (.func 89) #[] #[], .bool true] w (Ret w fun r _ => ∃ i : Int, r = .int .i64 i ∧ decide (0 ≤ i) = !(s.toList.all letB)) := by
  go_enter Tryz.func129, Tryz.ntmps129
  go_wp2
  go_loopg [] s.size (fun gf wx => ∃ pos : Nat, wx.heap[w.heap.size]? = some (.stringIter s pos) ∧ Below w.heap.size w wx ∧ Hid ((s.toList.take pos).all letB = true) ∧ s.size ≤ pos + gf)
  case atStart => exact ⟨0, World.iter_heap w s 0, (Below.refl _ w).alloc (Nat.le_refl _) _, keepBack (by simp), by omega⟩
  case round =>
    obtain ⟨pos, hit, hbw, HL, hfu⟩ := hrel
    by_cases hps : pos < s.size
    · obtain ⟨g', rfl⟩ : ∃ g', gk = g' + 1 := ⟨gk - 1, by omega⟩
      have hnx : ∀ ty, (Instr.next (.pointer (some ⟨w.heap.size, 0, none⟩)) true ty).run Tryz.prog wr = _ := fun ty => Lib.run_next_any_at wr w.heap.size s pos ty hit hps
      cases hb : letB (s[pos]'hps) with
      | true =>
        obtain ⟨e1, e2, e3⟩ := rune_in s pos hps hb
        rw [e1] at hnx
        have HN := keepBack (letters_next hps HL.out hb)
        have hit2 := Lib.iterAt_heap wr w.heap.size s pos (pos + 1) hit
        have hbw2 := Lib.below_iterAt hbw (k := w.heap.size) (Nat.le_refl _) s (pos + 1)
        obtain ⟨W, hWd⟩ : ∃ W, wr.iterAt w.heap.size s (pos + 1) = W := ⟨_, rfl⟩
        simp only [hWd] at hnx hit2 hbw2
        generalize (s[pos]'hps).toNat = R at *
        clear hb e1 hWd
        have cS := nameRune_of (c := false) R W (by simp; omega)
        go_wp2_with (go_at_call 89; refine cS.mono ?_; rintro e W' ⟨rfl, rfl⟩)
        go_roundg g'
        case measure => omega
        case rel => exact ⟨pos + 1, hit2, hbw2, HN, by omega⟩
      | false =>
        have HN := keepBack (letters_not hps hb)
        have ho := rune_out s pos hps hb
        have hbw2 := Lib.below_iterAt hbw (k := w.heap.size) (Nat.le_refl _) s (pos + (Utf8.decode s pos).2)
        obtain ⟨W, hWd⟩ : ∃ W, wr.iterAt w.heap.size s (pos + (Utf8.decode s pos).2) = W := ⟨_, rfl⟩
        rw [hWd] at hbw2
        simp only [hWd] at hnx
        generalize (Utf8.decode s pos).1 = R at *
        clear hb hWd
        have cS := nameRune_of (c := true) R W (by simp; omega)
        go_wp2_with (go_at_call 89; refine cS.mono ?_; rintro e W' ⟨rfl, rfl⟩)
        go_ret
        exact ⟨_, rfl, ⟨_, rfl, by rw [HN.out]; simp⟩, hbw2⟩
    · have hnx : ∀ ty, (Instr.next (.pointer (some ⟨w.heap.size, 0, none⟩)) true ty).run Tryz.prog wr = _ := fun ty => Lib.run_next_end_at wr w.heap.size s pos ty hit hps
      have HN := keepBack (letters_all hps HL.out)
      go_wp2
      go_ret
      exact ⟨_, rfl, ⟨_, rfl, by rw [HN.out]; rfl⟩, hbw⟩

theorem nameIndexF (s : ByteArray) (w : World) :
    Calls Tryz.prog 110 #[.string s, .func (.func 89) #[] #[]] w (Ret w fun r _ => ∃ i : Int, r = .int .i64 i ∧ decide (0 ≤ i) = !(s.toList.all letB)) := by
  go_enter Tryz.func110, Tryz.ntmps110
  go_wp2_with fail
  refine (nameIndex s w).mono ?_; rintro e w1 ⟨_, rfl, ⟨i, rfl, hi⟩, b1⟩
  go_wp2
  go_ret
  exact ⟨_, rfl, ⟨_, rfl, hi⟩, b1⟩
theorem nameContains (s : ByteArray) (w : World) :
    Calls Tryz.prog 88 #[.string s, .func (.func 89) #[] #[]] w (Ret w fun r _ => r = .bool (!(s.toList.all letB))) := by
  go_enter Tryz.func88, Tryz.ntmps88
  go_wp2_with fail
  refine (nameIndexF s w).mono ?_; rintro e w1 ⟨_, rfl, ⟨i, rfl, hi⟩, b1⟩
  go_wp2
  go_ret
  exact ⟨_, rfl, by rw [← hi]; rfl, b1⟩
theorem nameContains_of {c : Bool} (s : ByteArray) (w : World) (h : s.toList.all letB = c) :
    Calls Tryz.prog 88 #[.string s, .func (.func 89) #[] #[]] w (Ret w fun r _ => r = .bool (!c)) := h ▸ nameContains s w

theorem repoName (s : ByteArray) (w : World) : Calls Tryz.prog 59 #[.string s] w (Ret w fun r _ => r = .bool (nameB s)) := by
  by_cases h1 : 1 ≤ s.size
  · by_cases h2 : s.size ≤ 8
    · cases hc : s.toList.all letB with
      | true =>
        have HN := keepBack (show nameB s = true by simp [nameB, h1, h2, hc])
        go_enter Tryz.func59, Tryz.ntmps59
        go_wp2_with (go_at_call 88; refine (nameContains_of s w hc).mono ?_; rintro e w1 ⟨_, rfl, rfl, b1⟩)
        go_ret
        exact ⟨_, rfl, by rw [HN.out]; rfl, b1⟩
      | false =>
        have HN := keepBack (show nameB s = false by simp [nameB, hc])
        go_enter Tryz.func59, Tryz.ntmps59
        go_wp2_with (go_at_call 88; refine (nameContains_of s w hc).mono ?_; rintro e w1 ⟨_, rfl, rfl, b1⟩)
        go_ret
        exact ⟨_, rfl, by rw [HN.out]; rfl, b1⟩
    · have HN := keepBack (show nameB s = false by simp [nameB, h2])
      go_enter Tryz.func59, Tryz.ntmps59
      go_wp2_with fail
      go_ret
      exact ⟨_, rfl, by rw [HN.out]; rfl, Below.refl _ _⟩
  · have HN := keepBack (show nameB s = false by simp [nameB, h1])
    go_enter Tryz.func59, Tryz.ntmps59
    go_wp2_with fail
    go_ret
    exact ⟨_, rfl, by rw [HN.out]; rfl, Below.refl _ _⟩

end Go.Pch
end
