/- The walk of log.read. The walk of log.Replay. The walk of log.Recover. -/
import Derived.Test.YtdclpbdmdpakkaaMm43
import Derived.Test.YtdclpbdmdpakkaaMm32
section
namespace Go.Pch
open Go.RowKit Go.Proofs
set_option maxRecDepth 100000

theorem actG_n1 {t : Bytes} (h1 : num1 t = none) : actG t = none := by rw [actG, h1]; rfl
theorem actG_n2 {t t1 : Bytes} {k : Int} (h1 : num1 t = some (k, t1)) (h2 : textG t1 = none) : actG t = none := by rw [actG, h1]; simp [h2]
theorem actG_n3 {t t1 t2 : Bytes} {k : Int} {a : ByteArray} (h1 : num1 t = some (k, t1)) (h2 : textG t1 = some (a, t2)) (h3 : textG t2 = none) : actG t = none := by rw [actG, h1]; simp [h2, h3]
theorem actG_n4 {t t1 t2 t3 : Bytes} {k : Int} {a b : ByteArray} (h1 : num1 t = some (k, t1)) (h2 : textG t1 = some (a, t2)) (h3 : textG t2 = some (b, t3)) (h4 : listG chgG t3 = none) : actG t = none := by rw [actG, h1]; simp [h2, h3, h4]
theorem actG_y {t t1 t2 t3 t4 : Bytes} {k : Int} {a b : ByteArray} {d : List Change} (h1 : num1 t = some (k, t1)) (h2 : textG t1 = some (a, t2)) (h3 : textG t2 = some (b, t3)) (h4 : listG chgG t3 = some (d, t4)) : actG t = some ((k, a, b, d), t4) := by rw [actG, h1]; simp [h2, h3, h4]

theorem keepSets (W : World) (n k : Nat) (a b c d e f : Value) (hk : n + 6 ≤ k) : ((((((W.setCell ⟨n + 1, 0, none⟩ a).setCell ⟨n + 1, 1, none⟩ b).setCell ⟨n + 1, 2, none⟩ c).setCell ⟨n + 1, 3, none⟩ d).setCell ⟨n + 1 + 1, 0, none⟩ e).setCell ⟨n + 1 + 1 + 1, 0, none⟩ f).drew.heap[k]? = W.heap[k]? := by
  rw [show ∀ X : World, X.drew.heap = X.heap from fun _ => rfl]
  rw [heap_setCell_other, heap_setCell_other, heap_setCell_other, heap_setCell_other, heap_setCell_other, heap_setCell_other]
  all_goals (simp <;> omega)
theorem rdFin {w W8 : World} {t t4 : Bytes} {k : Int} {a b : ByteArray} {vd : Value} {d : List Change} (r8 : RdBox w W8 t k a b vd ⟨#[]⟩ false) (hd : Sl tChange W8 (fun k => w.heap.size + 6 ≤ k) vd d) :
    RdBox w (((((((W8.setCell ⟨w.heap.size + 1, 0, none⟩ (.int .i64 k)).setCell ⟨w.heap.size + 1, 1, none⟩ (.string a)).setCell ⟨w.heap.size + 1, 2, none⟩ (.string b)).setCell ⟨w.heap.size + 1, 3, none⟩ vd).setCell ⟨w.heap.size + 1 + 1, 0, none⟩ (.string (bl t4))).setCell ⟨w.heap.size + 1 + 1 + 1, 0, none⟩ (.bool true)).drew) t k a b vd (bl t4) true ∧
    Sl tChange (((((((W8.setCell ⟨w.heap.size + 1, 0, none⟩ (.int .i64 k)).setCell ⟨w.heap.size + 1, 1, none⟩ (.string a)).setCell ⟨w.heap.size + 1, 2, none⟩ (.string b)).setCell ⟨w.heap.size + 1, 3, none⟩ vd).setCell ⟨w.heap.size + 1 + 1, 0, none⟩ (.string (bl t4))).setCell ⟨w.heap.size + 1 + 1 + 1, 0, none⟩ (.bool true)).drew) (fun k => w.heap.size ≤ k) vd d :=
  ⟨((((((r8.setK k).setA a).setB b).setD vd).setR (bl t4)).setC true).next (GOn.of (Below.refl _ _).drew), (hd.keep fun k hk _ => keepSets W8 w.heap.size k _ _ _ _ _ _ hk).mono fun k hk _ => by omega⟩

set_option maxHeartbeats 4000000 in
theorem logRead (t : Bytes) (w : World) : Calls Try.prog 59 #[.string (bl t)] w (ActPost w t (actG t)) := by
  obtain ⟨O, hO⟩ : ∃ O, actG t = O := ⟨_, rfl⟩
  rw [hO]
  have HO := keepBack hO
  clear hO
  have hmf : ∀ (fn : Fn) (first cap : Array Value) (w : World), (Instr.makeFunc fn first cap).run Try.prog w = .ok (.func fn first cap) w := fun _ _ _ _ => rfl
  have h0 := rdStart w t
  generalize hW6 : (((((w.alloc (.cells #[.string (bl t)] 9)).alloc (.cells #[.int .i64 0, .string ⟨#[]⟩, .string ⟨#[]⟩, .slice none 0 0] 46)).alloc (.cells #[.string ⟨#[]⟩] 9)).alloc (.cells #[.bool false] 4)).alloc (.cells #[.string (bl t)] 136)).alloc (.cells #[.pointer (some ⟨w.heap.size + 1 + 1 + 1 + 1, 0, none⟩)] 134) = W6 at h0
  have HW6 := keepBack hW6
  clear hW6
  go_enter_defers Try.func59, Try.ntmps59
  go_wp2_with fail
  rw [HW6.out]
  refine (numOne _ t _ h0.gl.glass).mono ?_; intro e w1 hT
  cases h1 : num1 t with
  | none =>
    obtain ⟨rfl, on1⟩ := hT.no h1
    clear hT
    have hD := HO.out
    rw [actG_n1 h1] at hD
    subst hD
    clear HO
    go_wp2
    exact rdDies _ (h0.box.next on1) rfl rfl rfl
  | some x =>
    obtain ⟨k, t1⟩ := x
    obtain ⟨_, rfl, rfl, g1, on1⟩ := hT.ok h1
    clear hT
    have r1 := h0.next on1 g1
    obtain ⟨p1, p2⟩ := r1.ptrs
    obtain ⟨⟨c0, c1, c2, c3, c4⟩, ⟨c5, c6⟩, f1, f2, f3⟩ := r1.box.cells
    have r2 := r1.setK k
    have p3 := r2.ptrs.1
    obtain ⟨w2, hw2⟩ : ∃ w2, w2 = w1.setCell ⟨w.heap.size + 1, 0, none⟩ (.int .i64 k) := ⟨_, rfl⟩
    rw [← hw2] at r2
    have HW2 := keepBack hw2
    clear hw2
    go_wp2_with fail
    rw [← HW2.out]
    clear p1 p2 c0 c1 c2 c3 c4 c5 c6 f1 f2 f3 p3
    refine (glaText _ t1 _ r2.gl.glass).mono ?_; intro e w3 hT
    cases h2 : textG t1 with
    | none =>
      obtain ⟨rfl, on1⟩ := hT.no h2
      clear hT
      have hD := HO.out
      rw [actG_n2 h1 h2] at hD
      subst hD
      clear HO
      go_wp2
      exact rdDies _ (r2.box.next on1) rfl rfl rfl
    | some x =>
      obtain ⟨a, t2⟩ := x
      obtain ⟨_, rfl, rfl, g3, on3⟩ := hT.ok h2
      clear hT
      have r3 := r2.next on3 g3
      obtain ⟨p1, p2⟩ := r3.ptrs
      obtain ⟨⟨c0, c1, c2, c3, c4⟩, ⟨c5, c6⟩, f1, f2, f3⟩ := r3.box.cells
      have r4 := r3.setA a
      have p3 := r4.ptrs.1
      obtain ⟨w4, hw4⟩ : ∃ w4, w4 = w3.setCell ⟨w.heap.size + 1, 1, none⟩ (.string a) := ⟨_, rfl⟩
      rw [← hw4] at r4
      have HW4 := keepBack hw4
      clear hw4
      go_wp2_with fail
      rw [← HW4.out]
      clear p1 p2 c0 c1 c2 c3 c4 c5 c6 f1 f2 f3 p3
      refine (glaText _ t2 _ r4.gl.glass).mono ?_; intro e w5 hT
      cases h3 : textG t2 with
      | none =>
        obtain ⟨rfl, on1⟩ := hT.no h3
        clear hT
        have hD := HO.out
        rw [actG_n3 h1 h2 h3] at hD
        subst hD
        clear HO
        go_wp2
        exact rdDies _ (r4.box.next on1) rfl rfl rfl
      | some x =>
        obtain ⟨b, t3⟩ := x
        obtain ⟨_, rfl, rfl, g5, on5⟩ := hT.ok h3
        clear hT
        have r5 := r4.next on5 g5
        obtain ⟨p1, p2⟩ := r5.ptrs
        obtain ⟨⟨c0, c1, c2, c3, c4⟩, ⟨c5, c6⟩, f1, f2, f3⟩ := r5.box.cells
        have r6 := r5.setB b
        have p3 := r6.ptrs.1
        obtain ⟨w6, hw6⟩ : ∃ w6, w6 = w5.setCell ⟨w.heap.size + 1, 2, none⟩ (.string b) := ⟨_, rfl⟩
        rw [← hw6] at r6
        have HW6 := keepBack hw6
        clear hw6
        go_wp2_with fail
        rw [← HW6.out]
        clear p1 p2 c0 c1 c2 c3 c4 c5 c6 f1 f2 f3 p3
        refine (listChg chgG _ _ (readChg _ _) t3 _ r6.gl).mono ?_; intro e w7 hT
        cases h4 : listG chgG t3 with
        | none =>
          obtain ⟨rfl, on1⟩ := hT.no h4
          clear hT
          have hD := HO.out
          rw [actG_n4 h1 h2 h3 h4] at hD
          subst hD
          clear HO
          go_wp2
          exact rdDies _ (r6.box.next on1) rfl rfl rfl
        | some x =>
          obtain ⟨d, t4⟩ := x
          obtain ⟨vd, rfl, hvd, g7, on7⟩ := hT.ok h4
          clear hT
          have r7 := r6.next on7 g7
          have z6 := r6.box.size
          obtain ⟨ad, cd, hv, _, _, _⟩ := hvd.shape
          generalize d.length = nd at hv
          subst hv
          obtain ⟨p1, p2⟩ := r7.ptrs
          obtain ⟨⟨c0, c1, c2, c3, c4⟩, ⟨c5, c6⟩, f1, f2, f3⟩ := r7.box.cells
          have r8 := r7.setD (.slice ad nd cd)
          have p3 := r8.ptrs.1
          obtain ⟨w8, hw8⟩ : ∃ w8, w8 = w7.setCell ⟨w.heap.size + 1, 3, none⟩ (.slice ad nd cd) := ⟨_, rfl⟩
          rw [← hw8] at r8
          have HW8 := keepBack hw8
          clear hw8
          go_wp2_with fail
          rw [← HW8.out]
          clear p1 p2 c0 c1 c2 c3 c4 c5 c6 f1 f2 f3 p3
          have b8 : Below w8.heap.size w8 w8.drew := (Below.refl _ _).drew
          obtain ⟨q1, q2⟩ := r8.ptrs
          obtain ⟨⟨d0, d1, d2, d3, d4⟩, ⟨d5, d6⟩, e1, e2, e3⟩ := r8.box.cells
          have r8d := r8.next (GOn.of b8) (r8.gl.glass.call b8)
          have r9 := ((((r8d.setK k).setA a).setB b).setD (.slice ad nd cd))
          obtain ⟨u1, u2⟩ := r9.ptrs
          obtain ⟨⟨_, _, _, _, _⟩, ⟨m5, m6⟩, _, m2, m3⟩ := r9.box.cells
          have r10 := r9.box.setR (bl t4)
          obtain ⟨⟨_, _, _, _, _⟩, ⟨_, n6⟩, _, _, n3⟩ := r10.cells
          have r11 := r10.setC true
          go_region
          all_goals go_wp2
          have hd8 : Sl tChange w8 (fun k => w.heap.size + 6 ≤ k) (.slice ad nd cd) d := by
            rw [HW8.out]
            exact (hvd.keep fun k hk _ => heap_setCell_other _ _ _ _ (by simp <;> omega)).mono fun k hk _ => by omega
          obtain ⟨rG, hG⟩ := rdFin (t4 := t4) r8.box hd8
          have hD := HO.out
          rw [actG_y h1 h2 h3 h4] at hD
          subst hD
          exact rdLives _ rG hG rfl rfl rfl

end Go.Pch
end

section
namespace Go.Pch
open Go.RowKit Go.Proofs
set_option maxRecDepth 100000

theorem replayF_no {n : Nat} {s : Bytes} (h : actG s = none) : replayF (n + 1) s = ([], s) := by rw [replayF, h]
theorem replayF_ok {n : Nat} {s t : Bytes} {x : Act} (h : actG s = some (x, t)) : replayF (n + 1) s = (x :: (replayF n t).1, (replayF n t).2) := by rw [replayF, h]
/-- The numbers of an act that is read are small. -/
theorem actG_fit {t s : Bytes} {x : Act} (h : actG t = some (x, s)) : i64ok x.1 ∧ x.2.1.size ≤ maxLen ∧ x.2.2.1.size ≤ maxLen ∧ s.length < t.length := by
  refine ⟨?_, ?_, ?_, (ext_act _ _ _ h).2⟩
  all_goals
    rw [actG] at h
    cases h1 : num1 t with
    | none => rw [h1] at h; simp at h
    | some p =>
      obtain ⟨k, t1⟩ := p
      rw [h1] at h
      simp only [Option.bind_some] at h
      cases h2 : textG t1 with
      | none => rw [h2] at h; simp at h
      | some p =>
        obtain ⟨a, t2⟩ := p
        rw [h2] at h
        simp only [Option.bind_some] at h
        cases h3 : textG t2 with
        | none => rw [h3] at h; simp at h
        | some p =>
          obtain ⟨b, t3⟩ := p
          rw [h3] at h
          simp only [Option.bind_some] at h
          cases h4 : listG chgG t3 with
          | none => rw [h4] at h; simp at h
          | some p =>
            obtain ⟨d, t4⟩ := p
            rw [h4] at h
            simp only [Option.map_some, Option.some.injEq, Prod.mk.injEq] at h
            obtain ⟨rfl, rfl⟩ := h
            first
              | exact textG_fit h2
              | exact textG_fit h3
              | (have := num1_fit h1; unfold i64ok; simp only; omega)

set_option maxHeartbeats 1000000 in
theorem logReplay (t : Bytes) (w : World) (ht : t.length ≤ maxLen) : Calls Try.prog 26 #[.string (bl t)] w (Ret w fun y W => ∃ v, y = .tuple #[v, .int .i64 (replayP t).2.1, .int .i64 (replayP t).2.2] ∧ Sl tAct W (fun k => w.heap.size ≤ k) v (replayP t).1) := by
  obtain ⟨O, hO⟩ : ∃ O, replayP t = O := ⟨_, rfl⟩
  rw [hO]
  have HO := keepBack hO
  clear hO
  have hsz := bl_size t
  unfold maxLen at ht
  by_cases hb : 4096 < t.length
  · have hD := HO.out
    rw [replayP, if_pos hb] at hD
    subst hD
    clear HO
    go_enter Try.func26, Try.ntmps26
    go_wp2
    go_ret3
    exact ⟨_, rfl, ⟨_, rfl, Sl.nil _ _ _⟩, Below.refl _ _⟩
  · have hD := HO.out
    rw [replayP, if_neg hb] at hD
    subst hD
    clear HO
    go_enter Try.func26, Try.ntmps26
    go_wp2_with fail
    go_loopw [5, 6, 7, 8, 9] (fun ul us _ _ _ wr => ∃ (k : Nat) (vl : Value) (l : List Act) (s' : Bytes), vl = ul ∧ k ≤ 60 ∧ us = .string (bl s') ∧ l.length = k ∧ s'.length ≤ t.length ∧ Own tAct 46 wr w.heap.size (fun k => w.heap.size ≤ k) vl l ∧ Below w.heap.size w wr ∧
      Hid (replayF 60 t = (l ++ (replayF (60 - k) s').1, (replayF (60 - k) s').2))) (fun ul _ _ _ _ _ => match ul with | .slice _ n _ => 60 - n | _ => 0)
    case atStart => exact ⟨0, _, [], t, rfl, Nat.zero_le _, rfl, rfl, Nat.le_refl _, Own.nil, Below.refl _ _, by simp [Hid]⟩
    case round =>
      obtain ⟨k, vl, l, s', rfl, hk, rfl, hl, hs', ho, bW, hrep⟩ := hrel
      have zW := bW.size
      obtain ⟨al, cl, hvl, _, _⟩ := ho.shape
      rw [hl] at hvl
      have hsz' := bl_size s'
      by_cases hlt : k < 60
      · obtain ⟨m, hm⟩ : ∃ m, 60 - k = m + 1 := ⟨60 - k - 1, by omega⟩
        rw [hm] at hrep
        have hkI : (k : Int) < 60 := by omega
        have HM := keepBack hm
        have HLL := keepBack hl
        have HVL := keepBack hvl
        subst hvl
        clear hm hl
        have T := logRead s' wr
        cases hA : actG s' with
        | none =>
          rw [hA] at T
          have HN : Hid (replayF 60 t = (l, s')) := by rw [hrep.out, replayF_no hA]; simp [Hid]
          clear hA
          go_wp2_with fail
          refine T.mono ?_; rintro e w1 ⟨_, rfl, rfl, b1⟩
          clear T
          go_wp2
          go_ret3
          have b2 := b1.alloc (by have := b1.size; omega) (.cells #[.int .i64 0, .string ⟨#[]⟩, .string ⟨#[]⟩, .slice none 0 0] 46)
          refine ⟨_, rfl, ⟨.slice al k cl, by rw [HN.out]; rfl, ?_⟩, bW.trans (b2.mono zW)⟩
          rw [HN.out]
          exact (ho.sl (fun _ h => h) (fun _ h => h)).call b2
        | some x =>
          obtain ⟨⟨kk, a, b, d⟩, u⟩ := x
          have hfit := actG_fit hA
          rw [hA] at T
          have HN : Hid (replayF 60 t = (l ++ [(kk, a, b, d)] ++ (replayF m u).1, (replayF m u).2)) := by rw [hrep.out, replayF_ok hA]; simp [Hid]
          clear hA
          simp only at hfit
          obtain ⟨ok1, ok2, ok3, hul⟩ := hfit
          go_wp2_with fail
          refine T.mono ?_; rintro e w1 ⟨_, rfl, ⟨vd, rfl, hd⟩, b1⟩
          clear T
          obtain ⟨ad, cd, hvd, _, _, _⟩ := hd.shape
          simp only at hd hvd
          have HDD : Hid (d.length = d.length) := rfl
          generalize d.length = nd at hvd
          subst hvd
          clear HDD
          have s1 := b1.size
          have b1B := b1.alloc (by omega) (.cells #[.int .i64 kk, .string a, .string b, .slice ad nd cd] 46)
          have hrd : tAct.rd (w1.alloc (.cells #[.int .i64 kk, .string a, .string b, .slice ad nd cd] 46)) (fun k => wr.heap.size ≤ k) [.int .i64 kk, .string a, .string b, .slice ad nd cd] (kk, a, b, d) := ⟨_, rfl, ok1, ok2, ok3, hd.call ((Below.refl _ _).alloc (Nat.le_refl _) _)⟩
          have ho2 : Own tAct 46 (w1.alloc (.cells #[.int .i64 kk, .string a, .string b, .slice ad nd cd] 46)) w.heap.size (fun k => w.heap.size ≤ k) (.slice al k cl) l := ho.keep fun j _ hlt => b1B.block j hlt
          have hsrc := Src.one hrd 46
          rw [show (w1.alloc (.cells #[.int .i64 kk, .string a, .string b, .slice ad nd cd] 46)).heap.size = w1.heap.size + 1 by simp] at hsrc
          have hvb : ∀ g, (Value.slice al k cl).ownBlock = some g → g < wr.heap.size := fun g hg => (ho.block g hg).2
          have hD : ∀ j, wr.heap.size ≤ j → j < ((w1.alloc (.cells #[.int .i64 kk, .string a, .string b, .slice ad nd cd] 46)).alloc (.cells #[.int .i64 kk, .string a, .string b, .slice ad nd cd] 46)).heap.size → w.heap.size ≤ j ∧ some j ≠ (Value.slice al k cl).ownBlock := fun j hj _ => ⟨by omega, fun e => by have := hvb j e.symm; omega⟩
          have hNN : l.length + [(kk, a, b, d)].length ≤ 1000000000000 := by have := HLL.out; rw [List.length_singleton]; omega
          have hBB : w.heap.size ≤ ((w1.alloc (.cells #[.int .i64 kk, .string a, .string b, .slice ad nd cd] 46)).alloc (.cells #[.int .i64 kk, .string a, .string b, .slice ad nd cd] 46)).heap.size := by simp; omega
          go_wp2_with (at_builtin; refine wpList_grow rfl (.tmp 25) (.tmp 27) rfl aAct rfl (ho2.alloc _) rfl (by simp) hsrc (by simp) hD hNN hBB ?_; intro v3 w3 ho3 hg3)
          have bL := (b1B.alloc (by simp; omega) (.cells #[.int .i64 kk, .string a, .string b, .slice ad nd cd] 46))
          have b3 : Below w.heap.size w w3 := (bW.trans (bL.mono zW)).grown hg3 hBB fun g hg => (ho.block g hg).1
          go_roundw
          case rel => exact ⟨k + 1, v3, l ++ [(kk, a, b, d)], u, rfl, by omega, rfl, by simp; exact HLL.out, by omega, ho3, b3, by rw [show 60 - (k + 1) = m from by have := HM.out; omega]; exact HN⟩
          case measure =>
            obtain ⟨a3, c3, hv3, _, _⟩ := ho3.shape
            have := HLL.out
            rw [hv3]
            simp
            omega
      · have hkn : 60 - k = 0 := by omega
        rw [hkn] at hrep
        have HN : Hid (replayF 60 t = (l, s')) := by rw [hrep.out]; simp [replayF, Hid]
        have hkI : ¬ (k : Int) < 60 := by omega
        clear hkn
        subst hvl
        go_wp2
        go_ret3
        refine ⟨_, rfl, ⟨.slice al k cl, by rw [HN.out]; rfl, ?_⟩, bW⟩
        rw [HN.out]
        exact ho.sl (fun _ h => h) (fun _ h => h)

end Go.Pch
end

section
namespace Go.Pch
open Go.RowKit Go.Proofs
set_option maxRecDepth 100000

set_option maxHeartbeats 1000000 in
theorem logRecover (t : Bytes) (w : World) (ht : t.length ≤ maxLen) : Calls Try.prog 24 #[.string (bl t)] w (Ret w fun y W => ∃ v, y = .tuple #[v, .int .i64 (recP t).2.1, .int .i64 (recP t).2.2] ∧ Rp W (fun k => w.heap.size ≤ k) v (recP t).1) := by
  obtain ⟨O, hO⟩ : ∃ O, recP t = O := ⟨_, rfl⟩
  rw [hO]
  have HO := keepBack hO
  clear hO
  obtain ⟨wA, hwA⟩ : ∃ wA, wA = w.alloc (.cells #[.slice none 0 0, .slice none 0 0] 25) := ⟨_, rfl⟩
  have hX : wA.heap[w.heap.size]? = some (.cells #[.slice none 0 0, .slice none 0 0] 25) := by rw [hwA]; exact heap_alloc_new _ _
  have zA : wA.heap.size = w.heap.size + 1 := by rw [hwA]; simp
  have bA : Below w.heap.size w wA := by rw [hwA]; exact (Below.refl _ _).alloc (Nat.le_refl _) _
  have HWA := keepBack hwA
  clear hwA
  have T := logReplay t wA ht
  by_cases hb : 4096 < t.length
  · have hD := HO.out
    rw [recP, if_pos hb] at hD
    subst hD
    clear HO
    rw [replayP, if_pos hb] at T
    go_enter Try.func24, Try.ntmps24
    go_wp2_with fail
    rw [← HWA.out]
    refine T.mono ?_; rintro e w1 ⟨_, rfl, ⟨v1, rfl, h1⟩, b1⟩
    clear T
    have e1 := (b1.block w.heap.size (by omega)).trans hX
    have y0 : w1.cell? ⟨w.heap.size, 0, none⟩ = some (.slice none 0 0) := by rw [World.cell?, e1]; rfl
    have y1 : w1.cell? ⟨w.heap.size, 1, none⟩ = some (.slice none 0 0) := by rw [World.cell?, e1]; rfl
    have yf := fun i => frozen_of_row w1 w.heap.size i _ _ e1
    go_wp2
    have hF := heap_setCell_same _ w.heap.size 1 _ _ (.slice none 0 0) (heap_setCell_same w1 w.heap.size 0 _ _ (.slice none 0 0) e1)
    refine bodyPost_ret (joinResults rfl _ _ _ _ _ _ _ _ rfl rfl rfl hF) rfl ?_
    exact ⟨_, rfl, ⟨_, rfl, ⟨_, _, rfl, Sl.nil _ _ _, Sl.nil _ _ _⟩⟩, ((bA.trans (b1.mono (by omega))).setCell (Nat.le_refl _) _).setCell (Nat.le_refl _) _⟩
  · have hD := HO.out
    rw [recP, if_neg hb] at hD
    subst hD
    clear HO
    rw [replayP, if_neg hb] at T
    generalize hL : (replayF 60 t).1 = L at *
    generalize ((t.length : Int) - (replayF 60 t).2.length) = M at T
    go_enter Try.func24, Try.ntmps24
    go_wp2_with fail
    rw [← HWA.out]
    refine T.mono ?_; rintro e w1 ⟨_, rfl, ⟨v1, rfl, h1⟩, b1⟩
    clear T
    have z1 := b1.size
    obtain ⟨al, cl, hv1, hcl, hml, _⟩ := h1.shape
    unfold maxLen at hml
    try simp only at h1 hv1
    obtain ⟨nl, hnl⟩ : ∃ n, n = L.length := ⟨_, rfl⟩
    rw [← hnl] at hv1 hcl
    have HNL := keepBack hnl
    clear hnl
    subst hv1
    go_wp2_with fail
    refine (repoBegin w1).mono ?_; rintro e w2 ⟨_, rfl, hR2, b2⟩
    have z2 := b2.size
    obtain ⟨v2, v3, rfl, hc2, hh2⟩ := hR2
    obtain ⟨a2, c2, hv2, _, _, _⟩ := hc2.shape
    obtain ⟨a3, c3, hv3, _, _, _⟩ := hh2.shape
    generalize ([([], [])] : List Commit).length = n2 at hv2
    generalize ([((ByteArray.mk #[109, 97, 105, 110]), 0)] : List Head).length = n3 at hv3
    subst hv2 hv3
    go_wp2_with fail
    obtain ⟨w3, hw3⟩ : ∃ w3, w3 = w2.alloc (.cells #[.slice a2 n2 c2, .slice a3 n3 c3] 25) := ⟨_, rfl⟩
    rw [← hw3]
    have z3 : w3.heap.size = w2.heap.size + 1 := by rw [hw3]; simp
    have b3 : Below w2.heap.size w2 w3 := by rw [hw3]; exact (Below.refl _ _).alloc (Nat.le_refl _) _
    have e3 : w3.heap[w2.heap.size]? = some (.cells #[.slice a2 n2 c2, .slice a3 n3 c3] 25) := by rw [hw3]; exact heap_alloc_new _ _
    clear hw3
    have hX3 : w3.heap[w.heap.size]? = some (.cells #[.slice none 0 0, .slice none 0 0] 25) := (b3.block _ (by omega)).trans ((b2.block _ (by omega)).trans ((b1.block _ (by omega)).trans hX))
    have low3 : Below w.heap.size w w3 := bA.trans ((b1.trans ((b2.trans (b3.mono z2)).mono z1)).mono (by omega))
    have hR3 : Rp w3 (fun j => w.heap.size < j ∧ j ≠ w2.heap.size) (.agg #[.slice a2 n2 c2, .slice a3 n3 c3]) (doneP (L.take 0)) :=
      ⟨_, _, rfl, (hc2.mono fun j hj hl => by omega).call b3, (hh2.mono fun j hj hl => by omega).call b3⟩
    have hA3 : Sl tAct w3 (fun j => j < w1.heap.size) (.slice al nl cl) L := ((h1.old).call b2).call b3
    have zb : w1.heap.size ≤ w2.heap.size := z2
    generalize hrb : w2.heap.size = rb at *
    clear hrb hc2 hh2 h1
    go_loopw [10, 11, 12, 26] (fun _ _ _ iv wr => ∃ (k : Nat) (x0 x1 : Value), k ≤ nl ∧ iv = .int .i64 k ∧ Step (fun j => j = rb) w3 wr ∧ wr.heap[rb]? = some (.cells #[x0, x1] 25) ∧ Rp wr (fun j => w.heap.size < j ∧ j ≠ rb) (.agg #[x0, x1]) (doneP (L.take k))) (fun _ _ _ iv _ => nl - (intOf iv).toNat)
    case atStart => exact ⟨0, _, _, Nat.zero_le _, rfl, Step.refl _ _, e3, hR3⟩
    case round =>
      obtain ⟨k, x0, x1, hk, rfl, hS, er, hRr⟩ := hrel
      have zr := hS.size
      have hAr := hA3.step hS fun j hj e => by omega
      have hXr := (hS.block w.heap.size (by omega) (by omega)).trans hX3
      have hrl : rb < wr.heap.size := by omega
      have hRr' := hRr
      obtain ⟨v4, v5, hv, hc4, hh4⟩ := hRr'
      simp only [Value.agg.injEq, Array.mk.injEq, List.cons.injEq, and_true] at hv
      obtain ⟨rfl, rfl⟩ := hv
      obtain ⟨a4, c4, hv4, _, _, _⟩ := hc4.shape
      obtain ⟨a5, c5, hv5, _, _, _⟩ := hh4.shape
      generalize (doneP (L.take k)).1.length = n4 at hv4
      generalize (doneP (L.take k)).2.length = n5 at hv5
      subst hv4 hv5
      by_cases hlt : k < nl
      · obtain ⟨y, hy⟩ : ∃ y, L[k]? = some y := ⟨L[k]'(by have := HNL.out; omega), List.getElem?_eq_getElem _⟩
        have HD := keepBack (doneP_next hy)
        generalize doneP (L.take k) = R at *
        obtain ⟨b, o, ad, cd, hix, _, hbs, ok1, ok2, ok3, hd, _, _, q0, q1, q2, q3⟩ := hAr.idxAct aAct k k y rfl hy
        obtain ⟨kk, s1, s2, d⟩ := y
        simp only at ok1 ok2 ok3 hd q0 q1 q2 q3
        generalize hnd : d.length = nd at *
        clear hnd
        have hkI : (k : Int) < nl := by omega
        have bX := (Below.refl wr.heap.size wr).alloc (Nat.le_refl _) (.cells #[.int .i64 kk, .string s1, .string s2, .slice ad nd cd] 46)
        have eX := heap_alloc_new wr (.cells #[.int .i64 kk, .string s1, .string s2, .slice ad nd cd] 46)
        have r0 : wr.cell? ⟨rb, 0, none⟩ = some (.slice a4 n4 c4) := by rw [World.cell?, er]; rfl
        have r1 : wr.cell? ⟨rb, 1, none⟩ = some (.slice a5 n5 c5) := by rw [World.cell?, er]; rfl
        have T := logDo _ _ R (kk, s1, s2, d) _ _ _ (hRr.call bX) ⟨_, rfl, hd.call bX⟩
        have R0 := (bX.cell (p := ⟨rb, 0, none⟩) hrl).trans r0
        have R1 := (bX.cell (p := ⟨rb, 1, none⟩) hrl).trans r1
        obtain ⟨P, hP⟩ : ∃ P, doP R (kk, s1, s2, d) = P := ⟨_, rfl⟩
        rw [hP] at T
        have HP := keepBack hP
        clear hP
        go_wp2_with fail
        refine T.mono ?_; rintro e w4 ⟨_, rfl, hret, b4⟩
        clear T
        obtain ⟨y, rfl, hy'⟩ := hret
        obtain ⟨v6, v7, rfl, hc6, hh6⟩ := hy'
        obtain ⟨a6, c6, hv6, _, _, _⟩ := hc6.shape
        obtain ⟨a7, c7, hv7, _, _, _⟩ := hh6.shape
        obtain ⟨⟨p1, p2⟩, p3⟩ := P
        simp only at hc6 hh6 hv6 hv7
        generalize p1.length = n6 at hv6
        generalize p2.length = n7 at hv7
        subst hv6 hv7
        have sX : (wr.alloc (.cells #[.int .i64 kk, .string s1, .string s2, .slice ad nd cd] 46)).heap.size = wr.heap.size + 1 := by simp
        have z4 := b4.size
        rw [sX] at z4 hc6 hh6
        have e4 : w4.heap[rb]? = some (.cells #[.slice a4 n4 c4, .slice a5 n5 c5] 25) := (b4.block rb (by rw [sX]; omega)).trans ((bX.block rb hrl).trans er)
        have bN := (Below.refl w4.heap.size w4).alloc (Nat.le_refl _) (.cells #[.slice a6 n6 c6, .slice a7 n7 c7] 25)
        have eN : (w4.alloc (.cells #[.slice a6 n6 c6, .slice a7 n7 c7] 25)).heap[rb]? = some (.cells #[.slice a4 n4 c4, .slice a5 n5 c5] 25) := (bN.block rb (by omega)).trans e4
        have g0 : (w4.alloc (.cells #[.slice a6 n6 c6, .slice a7 n7 c7] 25)).cell? ⟨rb, 0, none⟩ = some (.slice a4 n4 c4) := by rw [World.cell?, eN]; rfl
        have g1 : (w4.alloc (.cells #[.slice a6 n6 c6, .slice a7 n7 c7] 25)).cell? ⟨rb, 1, none⟩ = some (.slice a5 n5 c5) := by rw [World.cell?, eN]; rfl
        have gf := fun i => frozen_of_row _ rb i _ _ eN
        have sN : Step (fun j => j = rb) w3 (w4.alloc (.cells #[.slice a6 n6 c6, .slice a7 n7 c7] 25)) := ((hS.on (Step.of_below bX)).on (Step.of_below b4)).on (Step.of_below bN)
        by_cases h0 : p3 = 0
        · subst h0
          have hst : stepP R (kk, s1, s2, d) = (p1, p2) := by rw [stepP, HP.out]; rfl
          have HST := keepBack hst
          clear hst
          go_wp2_with fail
          go_roundw
          case rel =>
            have hF := heap_setCell_same _ rb 1 _ _ (.slice a7 n7 c7) (heap_setCell_same _ rb 0 _ _ (.slice a6 n6 c6) eN)
            refine ⟨k + 1, _, _, by omega, by go_num, (sN.on (Step.setCell _ _ rfl)).on (Step.setCell _ _ rfl), hF, ?_⟩
            rw [HD.out, HST.out]
            have hk : ∀ j, wr.heap.size + 1 ≤ j → j < w4.heap.size → (((w4.alloc (.cells #[.slice a6 n6 c6, .slice a7 n7 c7] 25)).setCell ⟨rb, 0, none⟩ (.slice a6 n6 c6)).setCell ⟨rb, 1, none⟩ (.slice a7 n7 c7)).heap[j]? = w4.heap[j]? := fun j hj hl =>
              (heap_setCell_other _ _ _ _ (by simp; omega)).trans ((heap_setCell_other _ _ _ _ (by simp; omega)).trans (bN.block j hl))
            exact ⟨_, _, rfl, (hc6.keep hk).mono fun j hj _ => by omega, (hh6.keep hk).mono fun j hj _ => by omega⟩
          case measure => simp [intOf]; omega
        · have hst : stepP R (kk, s1, s2, d) = R := by rw [stepP, HP.out]; exact if_neg h0
          have HST := keepBack hst
          clear hst
          go_wp2_with fail
          go_roundw
          case rel =>
            refine ⟨k + 1, _, _, by omega, by go_num, sN, eN, ?_⟩
            rw [HD.out, HST.out]
            exact ((hRr.call bX).call b4).call bN
          case measure => simp [intOf]; omega
      · have hkl : L.take k = L := List.take_of_length_le (by have := HNL.out; omega)
        rw [hkl] at hRr
        clear hkl
        have r0 : wr.cell? ⟨rb, 0, none⟩ = some (.slice a4 n4 c4) := by rw [World.cell?, er]; rfl
        have r1 : wr.cell? ⟨rb, 1, none⟩ = some (.slice a5 n5 c5) := by rw [World.cell?, er]; rfl
        have y0 : wr.cell? ⟨w.heap.size, 0, none⟩ = some (.slice none 0 0) := by rw [World.cell?, hXr]; rfl
        have y1 : wr.cell? ⟨w.heap.size, 1, none⟩ = some (.slice none 0 0) := by rw [World.cell?, hXr]; rfl
        have yf := fun i => frozen_of_row wr w.heap.size i _ _ hXr
        go_wp2_with fail
        have hF := heap_setCell_same _ w.heap.size 1 _ _ (.slice a5 n5 c5) (heap_setCell_same wr w.heap.size 0 _ _ (.slice a4 n4 c4) hXr)
        refine bodyPost_ret (joinResults rfl _ _ _ _ _ _ _ _ rfl rfl rfl hF) rfl ?_
        refine ⟨_, rfl, ⟨_, by rw [HNL.out]; rfl, ?_⟩, ((low3.trans ((hS.below (fun j hj => by omega) (by omega)).mono (Nat.le_refl _))).setCell (Nat.le_refl _) _).setCell (Nat.le_refl _) _⟩
        obtain ⟨_, _, hv, x1, x2⟩ := hRr.keep (w' := (wr.setCell ⟨w.heap.size, 0, none⟩ (.slice a4 n4 c4)).setCell ⟨w.heap.size, 1, none⟩ (.slice a5 n5 c5)) fun j hj _ => (heap_setCell_other _ _ _ _ (by simp; omega)).trans (heap_setCell_other _ _ _ _ (by simp; omega))
        exact ⟨_, _, hv, x1.mono fun j hj _ => by omega, x2.mono fun j hj _ => by omega⟩

end Go.Pch
end
