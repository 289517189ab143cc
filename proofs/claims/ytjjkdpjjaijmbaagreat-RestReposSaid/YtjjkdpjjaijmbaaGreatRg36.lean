/- The walk of log.Replay. The walk of log.Recover. Chapter 11: an act's bytes, by their places: plain words and laws. What logBegun looks at: plain facts. The walk of logBegun. -/
import Derived.Test.YtjjkdpjjaijmbaaGreatRg35
import Derived.Test.YtjjkdpjjaijmbaaGreatRg25
import Derived.Test.YtjjkdpjjaijmbaaGreatRg13
import Derived.Test.YtjjkdpjjaijmbaaGreatRg30
import Derived.Test.YtjjkdpjjaijmbaaGreatRg29
section
namespace Go.Pch
open Go.RowKit Go.Proofs
set_option maxRecDepth 100000

theorem replayF_no {n : Nat} {s : Bytes} (h : actG s = none) : replayF (n + 1) s = ([], s) := by rw [replayF, h]
theorem replayF_ok {n : Nat} {s t : Bytes} {x : Act} (h : actG s = some (x, t)) : replayF (n + 1) s = (x :: (replayF n t).1, (replayF n t).2) := by rw [replayF, h]
/-- The numbers of an act that is read are small. -/
theorem actG_fit {t s : Bytes} {x : Act} (h : actG t = some (x, s)) : i64ok x.1 ∧ x.2.1.size ≤ maxLen ∧ x.2.2.1.size ≤ maxLen ∧ s.length < t.length := by
  refine ⟨?_, ?_, ?_, (ext_act _ _ _ h).2⟩
  all_goals
    rw [actG] at h
    cases h1 : num1 t with
    | none => rw [h1] at h; simp at h
    | some p =>
      obtain ⟨k, t1⟩ := p
      rw [h1] at h
      simp only [Option.bind_some] at h
      cases h2 : textG t1 with
      | none => rw [h2] at h; simp at h
      | some p =>
        obtain ⟨a, t2⟩ := p
        rw [h2] at h
        simp only [Option.bind_some] at h
        cases h3 : textG t2 with
        | none => rw [h3] at h; simp at h
        | some p =>
          obtain ⟨b, t3⟩ := p
          rw [h3] at h
          simp only [Option.bind_some] at h
          cases h4 : listG chgG t3 with
          | none => rw [h4] at h; simp at h
          | some p =>
            obtain ⟨d, t4⟩ := p
            rw [h4] at h
            simp only [Option.map_some, Option.some.injEq, Prod.mk.injEq] at h
            obtain ⟨rfl, rfl⟩ := h
            first
              | exact textG_fit h2
              | exact textG_fit h3
              | (have := num1_fit h1; unfold i64ok; simp only; omega)

set_option maxHeartbeats 1000000 in
theorem logReplay (t : Bytes) (w : World) (ht : t.length ≤ maxLen) : Calls Tryz.prog 20 #[.string (bl t)] w (Ret w fun y W => ∃ v, y = .tuple #[v, .int .i64 (replayP t).2.1, .int .i64 (replayP t).2.2] ∧ Sl tAct W (fun k => w.heap.size ≤ k) v (replayP t).1) := by
  obtain ⟨O, hO⟩ : ∃ O, replayP t = O := ⟨_, rfl⟩
  rw [hO]
  have HO := keepBack hO
  clear hO
  have hsz := bl_size t
  unfold maxLen at ht
  by_cases hb : 4096 < t.length
  · have hD := HO.out
    rw [replayP, if_pos hb] at hD
    subst hD
    clear HO
    go_enter Tryz.func20, Tryz.ntmps20
    go_wp2
    go_ret3
    exact ⟨_, rfl, ⟨_, rfl, Sl.nil _ _ _⟩, Below.refl _ _⟩
  · have hD := HO.out
    rw [replayP, if_neg hb] at hD
    subst hD
    clear HO
    go_enter Tryz.func20, Tryz.ntmps20
    go_wp2_with fail
    go_loopw [5, 6, 7, 8, 9] (fun ul us _ _ _ wr => ∃ (k : Nat) (vl : Value) (l : List Act) (s' : Bytes), vl = ul ∧ k ≤ 60 ∧ us = .string (bl s') ∧ l.length = k ∧ s'.length ≤ t.length ∧ Own tAct 28 wr w.heap.size (fun k => w.heap.size ≤ k) vl l ∧ Below w.heap.size w wr ∧
      Hid (replayF 60 t = (l ++ (replayF (60 - k) s').1, (replayF (60 - k) s').2))) (fun ul _ _ _ _ _ => match ul with | .slice _ n _ => 60 - n | _ => 0)
    case atStart => exact ⟨0, _, [], t, rfl, Nat.zero_le _, rfl, rfl, Nat.le_refl _, Own.nil, Below.refl _ _, by simp [Hid]⟩
    case round =>
      obtain ⟨k, vl, l, s', rfl, hk, rfl, hl, hs', ho, bW, hrep⟩ := hrel
      have zW := bW.size
      obtain ⟨al, cl, hvl, _, _⟩ := ho.shape
      rw [hl] at hvl
      have hsz' := bl_size s'
      by_cases hlt : k < 60
      · obtain ⟨m, hm⟩ : ∃ m, 60 - k = m + 1 := ⟨60 - k - 1, by omega⟩
        rw [hm] at hrep
        have hkI : (k : Int) < 60 := by omega
        have HM := keepBack hm
        have HLL := keepBack hl
        have HVL := keepBack hvl
        subst hvl
        clear hm hl
        have T := logRead s' wr
        cases hA : actG s' with
        | none =>
          rw [hA] at T
          have HN : Hid (replayF 60 t = (l, s')) := by rw [hrep.out, replayF_no hA]; simp [Hid]
          clear hA
          go_wp2_with fail
          refine T.mono ?_; rintro e w1 ⟨_, rfl, rfl, b1⟩
          clear T
          go_wp2
          go_ret3
          have b2 := b1.alloc (by have := b1.size; omega) (.cells #[.int .i64 0, .string ⟨#[]⟩, .string ⟨#[]⟩, .slice none 0 0] 28)
          refine ⟨_, rfl, ⟨.slice al k cl, by rw [HN.out]; rfl, ?_⟩, bW.trans (b2.mono zW)⟩
          rw [HN.out]
          exact (ho.sl (fun _ h => h) (fun _ h => h)).call b2
        | some x =>
          obtain ⟨⟨kk, a, b, d⟩, u⟩ := x
          have hfit := actG_fit hA
          rw [hA] at T
          have HN : Hid (replayF 60 t = (l ++ [(kk, a, b, d)] ++ (replayF m u).1, (replayF m u).2)) := by rw [hrep.out, replayF_ok hA]; simp [Hid]
          clear hA
          simp only at hfit
          obtain ⟨ok1, ok2, ok3, hul⟩ := hfit
          go_wp2_with fail
          refine T.mono ?_; rintro e w1 ⟨_, rfl, ⟨vd, rfl, hd⟩, b1⟩
          clear T
          obtain ⟨ad, cd, hvd, _, _, _⟩ := hd.shape
          simp only at hd hvd
          have HDD : Hid (d.length = d.length) := rfl
          generalize d.length = nd at hvd
          subst hvd
          clear HDD
          have s1 := b1.size
          have b1B := b1.alloc (by omega) (.cells #[.int .i64 kk, .string a, .string b, .slice ad nd cd] 28)
          have hrd : tAct.rd (w1.alloc (.cells #[.int .i64 kk, .string a, .string b, .slice ad nd cd] 28)) (fun k => wr.heap.size ≤ k) [.int .i64 kk, .string a, .string b, .slice ad nd cd] (kk, a, b, d) := ⟨_, rfl, ok1, ok2, ok3, hd.call ((Below.refl _ _).alloc (Nat.le_refl _) _)⟩
          have ho2 : Own tAct 28 (w1.alloc (.cells #[.int .i64 kk, .string a, .string b, .slice ad nd cd] 28)) w.heap.size (fun k => w.heap.size ≤ k) (.slice al k cl) l := ho.keep fun j _ hlt => b1B.block j hlt
          have hsrc := Src.one hrd 28
          rw [show (w1.alloc (.cells #[.int .i64 kk, .string a, .string b, .slice ad nd cd] 28)).heap.size = w1.heap.size + 1 by simp] at hsrc
          have hvb : ∀ g, (Value.slice al k cl).ownBlock = some g → g < wr.heap.size := fun g hg => (ho.block g hg).2
          have hD : ∀ j, wr.heap.size ≤ j → j < ((w1.alloc (.cells #[.int .i64 kk, .string a, .string b, .slice ad nd cd] 28)).alloc (.cells #[.int .i64 kk, .string a, .string b, .slice ad nd cd] 28)).heap.size → w.heap.size ≤ j ∧ some j ≠ (Value.slice al k cl).ownBlock := fun j hj _ => ⟨by omega, fun e => by have := hvb j e.symm; omega⟩
          have hNN : l.length + [(kk, a, b, d)].length ≤ 1000000000000 := by have := HLL.out; rw [List.length_singleton]; omega
          have hBB : w.heap.size ≤ ((w1.alloc (.cells #[.int .i64 kk, .string a, .string b, .slice ad nd cd] 28)).alloc (.cells #[.int .i64 kk, .string a, .string b, .slice ad nd cd] 28)).heap.size := by simp; omega
          go_wp2_with (at_builtin; refine wpList_grow rfl (.tmp 25) (.tmp 27) rfl aAct rfl (ho2.alloc _) rfl (by simp) hsrc (by simp) hD hNN hBB ?_; intro v3 w3 ho3 hg3)
          have bL := (b1B.alloc (by simp; omega) (.cells #[.int .i64 kk, .string a, .string b, .slice ad nd cd] 28))
          have b3 : Below w.heap.size w w3 := (bW.trans (bL.mono zW)).grown hg3 hBB fun g hg => (ho.block g hg).1
          go_roundw
          case rel => exact ⟨k + 1, v3, l ++ [(kk, a, b, d)], u, rfl, by omega, rfl, by simp; exact HLL.out, by omega, ho3, b3, by rw [show 60 - (k + 1) = m from by have := HM.out; omega]; exact HN⟩
          case measure =>
            obtain ⟨a3, c3, hv3, _, _⟩ := ho3.shape
            have := HLL.out
            rw [hv3]
            simp
            omega
      · have hkn : 60 - k = 0 := by omega
        rw [hkn] at hrep
        have HN : Hid (replayF 60 t = (l, s')) := by rw [hrep.out]; simp [replayF, Hid]
        have hkI : ¬ (k : Int) < 60 := by omega
        clear hkn
        subst hvl
        go_wp2
        go_ret3
        refine ⟨_, rfl, ⟨.slice al k cl, by rw [HN.out]; rfl, ?_⟩, bW⟩
        rw [HN.out]
        exact ho.sl (fun _ h => h) (fun _ h => h)

end Go.Pch
end

section
namespace Go.Pch
open Go.RowKit Go.Proofs
set_option maxRecDepth 100000

set_option maxHeartbeats 1000000 in
theorem logRecover (t : Bytes) (w : World) (ht : t.length ≤ maxLen) : Calls Tryz.prog 21 #[.string (bl t)] w (Ret w fun y W => ∃ v, y = .tuple #[v, .int .i64 (recP t).2.1, .int .i64 (recP t).2.2] ∧ Rp W (fun k => w.heap.size ≤ k) v (recP t).1) := by
  obtain ⟨O, hO⟩ : ∃ O, recP t = O := ⟨_, rfl⟩
  rw [hO]
  have HO := keepBack hO
  clear hO
  obtain ⟨wA, hwA⟩ : ∃ wA, wA = w.alloc (.cells #[.slice none 0 0, .slice none 0 0] 25) := ⟨_, rfl⟩
  have hX : wA.heap[w.heap.size]? = some (.cells #[.slice none 0 0, .slice none 0 0] 25) := by rw [hwA]; exact heap_alloc_new _ _
  have zA : wA.heap.size = w.heap.size + 1 := by rw [hwA]; simp
  have bA : Below w.heap.size w wA := by rw [hwA]; exact (Below.refl _ _).alloc (Nat.le_refl _) _
  have HWA := keepBack hwA
  clear hwA
  have T := logReplay t wA ht
  by_cases hb : 4096 < t.length
  · have hD := HO.out
    rw [recP, if_pos hb] at hD
    subst hD
    clear HO
    rw [replayP, if_pos hb] at T
    go_enter Tryz.func21, Tryz.ntmps21
    go_wp2_with fail
    rw [← HWA.out]
    refine T.mono ?_; rintro e w1 ⟨_, rfl, ⟨v1, rfl, h1⟩, b1⟩
    clear T
    have e1 := (b1.block w.heap.size (by omega)).trans hX
    have y0 : w1.cell? ⟨w.heap.size, 0, none⟩ = some (.slice none 0 0) := by rw [World.cell?, e1]; rfl
    have y1 : w1.cell? ⟨w.heap.size, 1, none⟩ = some (.slice none 0 0) := by rw [World.cell?, e1]; rfl
    have yf := fun i => frozen_of_row w1 w.heap.size i _ _ e1
    go_wp2
    have hF := heap_setCell_same _ w.heap.size 1 _ _ (.slice none 0 0) (heap_setCell_same w1 w.heap.size 0 _ _ (.slice none 0 0) e1)
    refine bodyPost_ret (joinResults rfl _ _ _ _ _ _ _ _ rfl rfl rfl hF) rfl ?_
    exact ⟨_, rfl, ⟨_, rfl, ⟨_, _, rfl, Sl.nil _ _ _, Sl.nil _ _ _⟩⟩, ((bA.trans (b1.mono (by omega))).setCell (Nat.le_refl _) _).setCell (Nat.le_refl _) _⟩
  · have hD := HO.out
    rw [recP, if_neg hb] at hD
    subst hD
    clear HO
    rw [replayP, if_neg hb] at T
    generalize hL : (replayF 60 t).1 = L at *
    generalize ((t.length : Int) - (replayF 60 t).2.length) = M at T
    go_enter Tryz.func21, Tryz.ntmps21
    go_wp2_with fail
    rw [← HWA.out]
    refine T.mono ?_; rintro e w1 ⟨_, rfl, ⟨v1, rfl, h1⟩, b1⟩
    clear T
    have z1 := b1.size
    obtain ⟨al, cl, hv1, hcl, hml, _⟩ := h1.shape
    unfold maxLen at hml
    try simp only at h1 hv1
    obtain ⟨nl, hnl⟩ : ∃ n, n = L.length := ⟨_, rfl⟩
    rw [← hnl] at hv1 hcl
    have HNL := keepBack hnl
    clear hnl
    subst hv1
    go_wp2_with fail
    refine (repoBegin w1).mono ?_; rintro e w2 ⟨_, rfl, hR2, b2⟩
    have z2 := b2.size
    obtain ⟨v2, v3, rfl, hc2, hh2⟩ := hR2
    obtain ⟨a2, c2, hv2, _, _, _⟩ := hc2.shape
    obtain ⟨a3, c3, hv3, _, _, _⟩ := hh2.shape
    generalize ([([], [])] : List Commit).length = n2 at hv2
    generalize ([((ByteArray.mk #[109, 97, 105, 110]), 0)] : List Head).length = n3 at hv3
    subst hv2 hv3
    go_wp2_with fail
    obtain ⟨w3, hw3⟩ : ∃ w3, w3 = w2.alloc (.cells #[.slice a2 n2 c2, .slice a3 n3 c3] 25) := ⟨_, rfl⟩
    rw [← hw3]
    have z3 : w3.heap.size = w2.heap.size + 1 := by rw [hw3]; simp
    have b3 : Below w2.heap.size w2 w3 := by rw [hw3]; exact (Below.refl _ _).alloc (Nat.le_refl _) _
    have e3 : w3.heap[w2.heap.size]? = some (.cells #[.slice a2 n2 c2, .slice a3 n3 c3] 25) := by rw [hw3]; exact heap_alloc_new _ _
    clear hw3
    have hX3 : w3.heap[w.heap.size]? = some (.cells #[.slice none 0 0, .slice none 0 0] 25) := (b3.block _ (by omega)).trans ((b2.block _ (by omega)).trans ((b1.block _ (by omega)).trans hX))
    have low3 : Below w.heap.size w w3 := bA.trans ((b1.trans ((b2.trans (b3.mono z2)).mono z1)).mono (by omega))
    have hR3 : Rp w3 (fun j => w.heap.size < j ∧ j ≠ w2.heap.size) (.agg #[.slice a2 n2 c2, .slice a3 n3 c3]) (doneP (L.take 0)) :=
      ⟨_, _, rfl, (hc2.mono fun j hj hl => by omega).call b3, (hh2.mono fun j hj hl => by omega).call b3⟩
    have hA3 : Sl tAct w3 (fun j => j < w1.heap.size) (.slice al nl cl) L := ((h1.old).call b2).call b3
    have zb : w1.heap.size ≤ w2.heap.size := z2
    generalize hrb : w2.heap.size = rb at *
    clear hrb hc2 hh2 h1
    go_loopw [10, 11, 12, 26] (fun _ _ _ iv wr => ∃ (k : Nat) (x0 x1 : Value), k ≤ nl ∧ iv = .int .i64 k ∧ Step (fun j => j = rb) w3 wr ∧ wr.heap[rb]? = some (.cells #[x0, x1] 25) ∧ Rp wr (fun j => w.heap.size < j ∧ j ≠ rb) (.agg #[x0, x1]) (doneP (L.take k))) (fun _ _ _ iv _ => nl - (intOf iv).toNat)
    case atStart => exact ⟨0, _, _, Nat.zero_le _, rfl, Step.refl _ _, e3, hR3⟩
    case round =>
      obtain ⟨k, x0, x1, hk, rfl, hS, er, hRr⟩ := hrel
      have zr := hS.size
      have hAr := hA3.step hS fun j hj e => by omega
      have hXr := (hS.block w.heap.size (by omega) (by omega)).trans hX3
      have hrl : rb < wr.heap.size := by omega
      have hRr' := hRr
      obtain ⟨v4, v5, hv, hc4, hh4⟩ := hRr'
      simp only [Value.agg.injEq, Array.mk.injEq, List.cons.injEq, and_true] at hv
      obtain ⟨rfl, rfl⟩ := hv
      obtain ⟨a4, c4, hv4, _, _, _⟩ := hc4.shape
      obtain ⟨a5, c5, hv5, _, _, _⟩ := hh4.shape
      generalize (doneP (L.take k)).1.length = n4 at hv4
      generalize (doneP (L.take k)).2.length = n5 at hv5
      subst hv4 hv5
      by_cases hlt : k < nl
      · obtain ⟨y, hy⟩ : ∃ y, L[k]? = some y := ⟨L[k]'(by have := HNL.out; omega), List.getElem?_eq_getElem _⟩
        have HD := keepBack (doneP_next hy)
        generalize doneP (L.take k) = R at *
        obtain ⟨b, o, ad, cd, hix, _, hbs, ok1, ok2, ok3, hd, _, _, q0, q1, q2, q3⟩ := hAr.idxAct aAct k k y rfl hy
        obtain ⟨kk, s1, s2, d⟩ := y
        simp only at ok1 ok2 ok3 hd q0 q1 q2 q3
        generalize hnd : d.length = nd at *
        clear hnd
        have hkI : (k : Int) < nl := by omega
        have bX := (Below.refl wr.heap.size wr).alloc (Nat.le_refl _) (.cells #[.int .i64 kk, .string s1, .string s2, .slice ad nd cd] 28)
        have eX := heap_alloc_new wr (.cells #[.int .i64 kk, .string s1, .string s2, .slice ad nd cd] 28)
        have r0 : wr.cell? ⟨rb, 0, none⟩ = some (.slice a4 n4 c4) := by rw [World.cell?, er]; rfl
        have r1 : wr.cell? ⟨rb, 1, none⟩ = some (.slice a5 n5 c5) := by rw [World.cell?, er]; rfl
        have T := logDo _ _ R (kk, s1, s2, d) _ _ _ (hRr.call bX) ⟨_, rfl, hd.call bX⟩
        have R0 := (bX.cell (p := ⟨rb, 0, none⟩) hrl).trans r0
        have R1 := (bX.cell (p := ⟨rb, 1, none⟩) hrl).trans r1
        obtain ⟨P, hP⟩ : ∃ P, doP R (kk, s1, s2, d) = P := ⟨_, rfl⟩
        rw [hP] at T
        have HP := keepBack hP
        clear hP
        go_wp2_with fail
        refine T.mono ?_; rintro e w4 ⟨_, rfl, hret, b4⟩
        clear T
        obtain ⟨y, rfl, hy'⟩ := hret
        obtain ⟨v6, v7, rfl, hc6, hh6⟩ := hy'
        obtain ⟨a6, c6, hv6, _, _, _⟩ := hc6.shape
        obtain ⟨a7, c7, hv7, _, _, _⟩ := hh6.shape
        obtain ⟨⟨p1, p2⟩, p3⟩ := P
        simp only at hc6 hh6 hv6 hv7
        generalize p1.length = n6 at hv6
        generalize p2.length = n7 at hv7
        subst hv6 hv7
        have sX : (wr.alloc (.cells #[.int .i64 kk, .string s1, .string s2, .slice ad nd cd] 28)).heap.size = wr.heap.size + 1 := by simp
        have z4 := b4.size
        rw [sX] at z4 hc6 hh6
        have e4 : w4.heap[rb]? = some (.cells #[.slice a4 n4 c4, .slice a5 n5 c5] 25) := (b4.block rb (by rw [sX]; omega)).trans ((bX.block rb hrl).trans er)
        have bN := (Below.refl w4.heap.size w4).alloc (Nat.le_refl _) (.cells #[.slice a6 n6 c6, .slice a7 n7 c7] 25)
        have eN : (w4.alloc (.cells #[.slice a6 n6 c6, .slice a7 n7 c7] 25)).heap[rb]? = some (.cells #[.slice a4 n4 c4, .slice a5 n5 c5] 25) := (bN.block rb (by omega)).trans e4
        have g0 : (w4.alloc (.cells #[.slice a6 n6 c6, .slice a7 n7 c7] 25)).cell? ⟨rb, 0, none⟩ = some (.slice a4 n4 c4) := by rw [World.cell?, eN]; rfl
        have g1 : (w4.alloc (.cells #[.slice a6 n6 c6, .slice a7 n7 c7] 25)).cell? ⟨rb, 1, none⟩ = some (.slice a5 n5 c5) := by rw [World.cell?, eN]; rfl
        have gf := fun i => frozen_of_row _ rb i _ _ eN
        have sN : Step (fun j => j = rb) w3 (w4.alloc (.cells #[.slice a6 n6 c6, .slice a7 n7 c7] 25)) := ((hS.on (Step.of_below bX)).on (Step.of_below b4)).on (Step.of_below bN)
        by_cases h0 : p3 = 0
        · subst h0
          have hst : stepP R (kk, s1, s2, d) = (p1, p2) := by rw [stepP, HP.out]; rfl
          have HST := keepBack hst
          clear hst
          go_wp2_with fail
          go_roundw
          case rel =>
            have hF := heap_setCell_same _ rb 1 _ _ (.slice a7 n7 c7) (heap_setCell_same _ rb 0 _ _ (.slice a6 n6 c6) eN)
            refine ⟨k + 1, _, _, by omega, by go_num, (sN.on (Step.setCell _ _ rfl)).on (Step.setCell _ _ rfl), hF, ?_⟩
            rw [HD.out, HST.out]
            have hk : ∀ j, wr.heap.size + 1 ≤ j → j < w4.heap.size → (((w4.alloc (.cells #[.slice a6 n6 c6, .slice a7 n7 c7] 25)).setCell ⟨rb, 0, none⟩ (.slice a6 n6 c6)).setCell ⟨rb, 1, none⟩ (.slice a7 n7 c7)).heap[j]? = w4.heap[j]? := fun j hj hl =>
              (heap_setCell_other _ _ _ _ (by simp; omega)).trans ((heap_setCell_other _ _ _ _ (by simp; omega)).trans (bN.block j hl))
            exact ⟨_, _, rfl, (hc6.keep hk).mono fun j hj _ => by omega, (hh6.keep hk).mono fun j hj _ => by omega⟩
          case measure => simp [intOf]; omega
        · have hst : stepP R (kk, s1, s2, d) = R := by rw [stepP, HP.out]; exact if_neg h0
          have HST := keepBack hst
          clear hst
          go_wp2_with fail
          go_roundw
          case rel =>
            refine ⟨k + 1, _, _, by omega, by go_num, sN, eN, ?_⟩
            rw [HD.out, HST.out]
            exact ((hRr.call bX).call b4).call bN
          case measure => simp [intOf]; omega
      · have hkl : L.take k = L := List.take_of_length_le (by have := HNL.out; omega)
        rw [hkl] at hRr
        clear hkl
        have r0 : wr.cell? ⟨rb, 0, none⟩ = some (.slice a4 n4 c4) := by rw [World.cell?, er]; rfl
        have r1 : wr.cell? ⟨rb, 1, none⟩ = some (.slice a5 n5 c5) := by rw [World.cell?, er]; rfl
        have y0 : wr.cell? ⟨w.heap.size, 0, none⟩ = some (.slice none 0 0) := by rw [World.cell?, hXr]; rfl
        have y1 : wr.cell? ⟨w.heap.size, 1, none⟩ = some (.slice none 0 0) := by rw [World.cell?, hXr]; rfl
        have yf := fun i => frozen_of_row wr w.heap.size i _ _ hXr
        go_wp2_with fail
        have hF := heap_setCell_same _ w.heap.size 1 _ _ (.slice a5 n5 c5) (heap_setCell_same wr w.heap.size 0 _ _ (.slice a4 n4 c4) hXr)
        refine bodyPost_ret (joinResults rfl _ _ _ _ _ _ _ _ rfl rfl rfl hF) rfl ?_
        refine ⟨_, rfl, ⟨_, by rw [HNL.out]; rfl, ?_⟩, ((low3.trans ((hS.below (fun j hj => by omega) (by omega)).mono (Nat.le_refl _))).setCell (Nat.le_refl _) _).setCell (Nat.le_refl _) _⟩
        obtain ⟨_, _, hv, x1, x2⟩ := hRr.keep (w' := (wr.setCell ⟨w.heap.size, 0, none⟩ (.slice a4 n4 c4)).setCell ⟨w.heap.size, 1, none⟩ (.slice a5 n5 c5)) fun j hj _ => (heap_setCell_other _ _ _ _ (by simp; omega)).trans (heap_setCell_other _ _ _ _ (by simp; omega))
        exact ⟨_, _, hv, x1.mono fun j hj _ => by omega, x2.mono fun j hj _ => by omega⟩

end Go.Pch
end

section
namespace Go.Pch
open Go.RowKit Go.Proofs

/-- The byte at a place. -/
def bAt (t : Bytes) (i : Nat) : Nat := (t.getD i 0).toNat
theorem bAt_lt (t : Bytes) (i : Nat) : bAt t i < 256 := (t.getD i 0).toNat_lt
theorem drop_at {t : Bytes} {i : Nat} (h : i < t.length) : t.drop i = t.getD i 0 :: t.drop (i + 1) := by
  rw [List.drop_eq_getElem_cons h, List.getD_eq_getElem?_getD, List.getElem?_eq_getElem h]; rfl
theorem drop_no {t : Bytes} {i : Nat} (h : ¬ i < t.length) : t.drop i = [] := List.drop_eq_nil_of_le (by omega)
theorem num1_at (t : Bytes) (i : Nat) : num1 (t.drop i) = if i < t.length then some ((bAt t i : Int), t.drop (i + 1)) else none := by
  split
  · rename_i h; rw [drop_at h]; rfl
  · rename_i h; rw [drop_no h]; rfl
theorem num2_at (t : Bytes) (i : Nat) : num2 (t.drop i) = if i + 1 < t.length then some (256 * (bAt t i : Int) + bAt t (i + 1), t.drop (i + 2)) else none := by
  split
  · rename_i h; rw [drop_at (i := i) (by omega), drop_at (i := i + 1) h]; rfl
  · rename_i h
    by_cases h0 : i < t.length
    · rw [drop_at h0, drop_no h]; rfl
    · rw [drop_no h0]; rfl
/-- The change at a place. -/
def chgAt (t : Bytes) (i : Nat) : Change := ((bAt t i : Int), 256 * (bAt t (i + 1) : Int) + bAt t (i + 2) - 1, 256 * (bAt t (i + 3) : Int) + bAt t (i + 4) - 1)
theorem chgG_at (t : Bytes) (i : Nat) : chgG (t.drop i) = if i + 5 ≤ t.length then some (chgAt t i, t.drop (i + 5)) else none := by
  rw [chgG, num1_at]
  by_cases h0 : i < t.length
  · rw [if_pos h0]
    simp only [Option.bind_some]
    rw [num2_at]
    by_cases h1 : i + 1 + 1 < t.length
    · rw [if_pos h1]
      simp only [Option.bind_some]
      rw [num2_at]
      by_cases h2 : i + 1 + 2 + 1 < t.length
      · rw [if_pos h2, if_pos (by omega)]; rfl
      · rw [if_neg h2, if_neg (by omega)]; rfl
    · rw [if_neg h1, if_neg (by omega)]; rfl
  · rw [if_neg h0, if_neg (by omega)]; rfl
/-- Changes from a place. -/
def chgsAt (t : Bytes) (i n : Nat) : List Change := (List.range n).map fun j => chgAt t (i + 5 * j)
theorem chgsAt_len (t : Bytes) (i n : Nat) : (chgsAt t i n).length = n := by simp [chgsAt]
theorem chgsAt_next (t : Bytes) (i n : Nat) : chgsAt t i (n + 1) = chgsAt t i n ++ [chgAt t (i + 5 * n)] := by simp [chgsAt, List.range_succ]
theorem chgsAt_cons (t : Bytes) (i n : Nat) : chgsAt t i (n + 1) = chgAt t i :: chgsAt t (i + 5) n := by
  rw [chgsAt, List.range_succ_eq_map, List.map_cons, List.map_map]
  congr 1
  apply List.map_congr_left
  intro j _
  show chgAt t (i + 5 * (j + 1)) = chgAt t (i + 5 + 5 * j)
  congr 1
  omega
theorem repG_at (t : Bytes) : ∀ (n i : Nat), i ≤ t.length → repG chgG n (t.drop i) = if i + 5 * n ≤ t.length then some (chgsAt t i n, t.drop (i + 5 * n)) else none
  | 0, i, h => by rw [if_pos (by omega)]; rfl
  | n + 1, i, h => by
    rw [repG, chgG_at]
    by_cases h0 : i + 5 ≤ t.length
    · rw [if_pos h0]
      simp only [Option.bind_some]
      rw [repG_at t n (i + 5) h0, chgsAt_cons]
      by_cases h1 : i + 5 + 5 * n ≤ t.length
      · rw [if_pos h1, if_pos (by omega), show i + 5 * (n + 1) = i + 5 + 5 * n by omega]; rfl
      · rw [if_neg h1, if_neg (by omega)]; rfl
    · rw [if_neg h0, if_neg (by omega)]; rfl
theorem takeG_at (t : Bytes) (m i : Nat) (h : i ≤ t.length) : takeG m (t.drop i) = if i + m ≤ t.length then some ((t.drop i).take m, t.drop (i + m)) else none := by
  rw [takeG, List.length_drop, List.drop_drop]
  by_cases h0 : i + m ≤ t.length
  · rw [if_pos h0, if_pos (by omega)]
  · rw [if_neg h0, if_neg (by omega)]
theorem textG_at (t : Bytes) (i : Nat) : textG (t.drop i) = if i < t.length ∧ i + 1 + bAt t i ≤ t.length then some (bl ((t.drop (i + 1)).take (bAt t i)), t.drop (i + 1 + bAt t i)) else none := by
  rw [textG, num1_at]
  by_cases h0 : i < t.length
  · rw [if_pos h0]
    simp only [Option.bind_some, Int.toNat_natCast]
    rw [takeG_at t _ _ (by omega)]
    by_cases h1 : i + 1 + bAt t i ≤ t.length
    · rw [if_pos h1, if_pos ⟨h0, h1⟩]; rfl
    · rw [if_neg h1, if_neg (by omega)]; rfl
  · rw [if_neg h0, if_neg (by omega)]; rfl
/-- Where an act's parts end. -/
def oneA (t : Bytes) : Nat := 2 + bAt t 1
def twoA (t : Bytes) : Nat := oneA t + 1 + bAt t (oneA t)
def endA (t : Bytes) : Nat := twoA t + 1 + 5 * bAt t (twoA t)
/-- The act that a text begins with, and how many bytes it has; 0: there is none. -/
def actF (t : Bytes) : Act × Nat := match actG t with
  | some (x, s) => (x, t.length - s.length)
  | none => ((0, ⟨#[]⟩, ⟨#[]⟩, []), 0)
theorem actG_at (t : Bytes) : actG t = if 4 ≤ t.length ∧ oneA t < t.length ∧ twoA t < t.length ∧ endA t ≤ t.length then
    some (((bAt t 0 : Int), bl ((t.drop 2).take (bAt t 1)), bl ((t.drop (oneA t + 1)).take (bAt t (oneA t))), chgsAt t (twoA t + 1) (bAt t (twoA t))), t.drop (endA t)) else none := by
  have hA : oneA t = 2 + bAt t 1 := rfl
  have hB : twoA t = oneA t + 1 + bAt t (oneA t) := rfl
  have hC : endA t = twoA t + 1 + 5 * bAt t (twoA t) := rfl
  have e0 := num1_at t 0
  rw [List.drop_zero] at e0
  rw [actG, e0]
  by_cases h0 : 0 < t.length
  · rw [if_pos h0]
    simp only [Option.bind_some]
    rw [textG_at]
    by_cases h1 : 0 + 1 < t.length ∧ 0 + 1 + 1 + bAt t (0 + 1) ≤ t.length
    · rw [if_pos h1]
      simp only [Option.bind_some]
      rw [show 0 + 1 + 1 + bAt t (0 + 1) = oneA t from rfl, textG_at]
      simp only [Nat.zero_add] at h1
      by_cases h2 : oneA t < t.length ∧ oneA t + 1 + bAt t (oneA t) ≤ t.length
      · rw [if_pos h2]
        simp only [Option.bind_some]
        rw [← hB, listG, num1_at]
        by_cases h3 : twoA t < t.length
        · rw [if_pos h3]
          simp only [Option.bind_some, Int.toNat_natCast]
          rw [repG_at t _ _ (by omega), ← hC]
          by_cases h4 : endA t ≤ t.length
          · rw [if_pos h4, if_pos ⟨by omega, h2.1, h3, h4⟩]; rfl
          · rw [if_neg h4, if_neg (by omega)]; rfl
        · rw [if_neg h3, if_neg (by omega)]; rfl
      · rw [if_neg h2, if_neg (by omega)]; rfl
    · rw [if_neg h1, if_neg (by simp only [Nat.zero_add] at h1; omega)]; rfl
  · rw [if_neg h0, if_neg (by omega)]; rfl
def noAct : Act := (0, ⟨#[]⟩, ⟨#[]⟩, [])
theorem actF_no {t : Bytes} (h : ¬ (4 ≤ t.length ∧ oneA t < t.length ∧ twoA t < t.length ∧ endA t ≤ t.length)) : actF t = (noAct, 0) := by
  rw [actF, actG_at, if_neg h]; rfl
theorem actF_ok {t : Bytes} (h0 : 4 ≤ t.length) (h1 : oneA t < t.length) (h2 : twoA t < t.length) (h3 : endA t ≤ t.length) :
    actF t = (((bAt t 0 : Int), bl ((t.drop 2).take (bAt t 1)), bl ((t.drop (oneA t + 1)).take (bAt t (oneA t))), chgsAt t (twoA t + 1) (bAt t (twoA t))), endA t) := by
  rw [actF, actG_at, if_pos ⟨h0, h1, h2, h3⟩]
  simp only [List.length_drop]
  congr 1
  omega
theorem actG_of {t : Bytes} (h : (actF t).2 = 0) : actG t = none := by
  cases hc : actG t with
  | none => rfl
  | some x =>
    obtain ⟨x, s⟩ := x
    have := (ext_act _ _ _ hc).2
    rw [actF, hc] at h
    simp only at h
    omega
theorem actG_some {t : Bytes} (h : (actF t).2 ≠ 0) : actG t = some ((actF t).1, t.drop (actF t).2) ∧ (actF t).2 ≤ t.length := by
  rw [actF, actG_at] at *
  by_cases hc : 4 ≤ t.length ∧ oneA t < t.length ∧ twoA t < t.length ∧ endA t ≤ t.length
  · rw [if_pos hc] at *
    simp only [List.length_drop] at *
    refine ⟨?_, by omega⟩
    rw [show t.length - (t.length - endA t) = endA t by omega]
  · rw [if_neg hc] at h
    exact absurd rfl h

end Go.Pch
end

section
namespace Go.Pch
open Go.RowKit Go.Proofs

def nMain : ByteArray := ByteArray.mk #[109, 97, 105, 110]
def nB : ByteArray := ByteArray.mk #[98]
def actOne : Act := (1, nMain, ⟨#[]⟩, [(3, -1, 700)])
def actTwo : Act := (2, nB, nMain, [])
def actBig : Act := (256, ⟨#[]⟩, ⟨#[]⟩, [])
def bsOne : Bytes := actBy actOne
def bsTwo : Bytes := actBy actTwo
theorem wpOne : actWP actOne = (bsOne, 0) := by rw [actWP, if_neg (by decide +kernel)]; rfl
theorem wpTwo : actWP actTwo = (bsTwo, 0) := by rw [actWP, if_neg (by decide +kernel)]; rfl
theorem wpBig : actWP actBig = ([], 3) := by rw [actWP, if_pos (by decide +kernel)]
theorem lenOne : bsOne.length = 13 := by decide +kernel
theorem lenTwo : bsTwo.length = 9 := by decide +kernel
theorem badOne : actBad actOne = false := by decide +kernel
theorem badTwo : actBad actTwo = false := by decide +kernel
theorem rpBegun : replayP (bsOne ++ bsTwo ++ [1]) = ([actOne, actTwo], 22, 0) := by
  have h := replay_acts [actOne, actTwo] 60 [1] (fun x hx => by
    simp only [List.mem_cons, List.not_mem_nil, or_false] at hx
    rcases hx with rfl | rfl
    · exact badOne
    · exact badTwo) (by decide)
  have e : [actOne, actTwo].flatMap actBy ++ [1] = bsOne ++ bsTwo ++ [1] := by simp [bsOne, bsTwo]
  have e2 : replayF (60 - [actOne, actTwo].length) [1] = ([], [1]) := rfl
  rw [e, e2] at h
  have hl : (bsOne ++ bsTwo ++ [1]).length = 23 := by rw [List.length_append, List.length_append, lenOne, lenTwo]; rfl
  rw [replayP, if_neg (by rw [hl]; decide), h, hl]
  rfl
theorem rcBegun : ∃ r, recP (bsOne ++ bsTwo) = (r, 2, 0) ∧ r.1.length = 2 ∧ r.2.length = 2 := by
  have h : (recP (bsOne ++ bsTwo)).2 = (2, 0) ∧ (recP (bsOne ++ bsTwo)).1.1.length = 2 ∧ (recP (bsOne ++ bsTwo)).1.2.length = 2 := by decide +kernel
  exact ⟨_, by rw [← h.1], h.2⟩
theorem doNone (r : Repo) : doP r (0, ⟨#[]⟩, ⟨#[]⟩, []) = (noRepo, 8) := rfl

end Go.Pch
end

section
namespace Go.Pch
open Go.RowKit Go.Proofs
set_option maxRecDepth 100000

theorem bl_app (a b : Bytes) : bl a ++ bl b = bl (a ++ b) := by
  apply ByteArray.ext
  simp [bl, ByteArray.data_append]

set_option maxHeartbeats 2000000 in
theorem logBegun (w : World) : Calls Tryz.prog 6 #[] w (Ret w fun r _ => r = .bool true) := by
  have lo := lenOne
  have lt := lenTwo
  obtain ⟨wl, hwl⟩ : ∃ wl, wl = w.alloc (.cells #[.int .i64 3, .int .i64 (-1), .int .i64 700] 59) := ⟨_, rfl⟩
  have bl1 : Below w.heap.size w wl := by rw [hwl]; exact (Below.refl _ _).alloc (Nat.le_refl _) _
  have sl1 : Sl tChange wl (fun k => w.heap.size ≤ k) (.slice (some ⟨w.heap.size, 0, none⟩) 1 1) [(3, -1, 700)] := by rw [hwl]; exact oneChg w 3 (-1) 700 (ok_small (by decide)) (by unfold i64ok; omega) (ok_small (by decide))
  have HWL := keepBack hwl
  clear hwl
  go_enter Tryz.func6, Tryz.ntmps6
  go_wp2_with fail
  rw [← HWL.out]
  have T := logWrite _ actOne _ wl ⟨_, rfl, sl1⟩ (ok_small (by decide)) (by decide) (by decide) (by decide)
  rw [wpOne] at T
  refine T.mono ?_; rintro e p1 ⟨_, rfl, rfl, b1⟩
  clear T
  have low1 := bl1.trans (b1.mono bl1.size)
  have z1 := low1.size
  go_wp2_with fail
  have T := logWrite _ actTwo (fun _ => True) p1 ⟨_, rfl, Sl.nil _ _ _⟩ (ok_small (by decide)) (by decide) (by decide) (by decide)
  rw [wpTwo] at T
  refine T.mono ?_; rintro e p2 ⟨_, rfl, rfl, b2⟩
  clear T
  have low2 := low1.trans (b2.mono z1)
  have z2 := low2.size
  go_wp2_with fail
  rw [show bl bsOne ++ bl bsTwo ++ { data := #[1] } = bl (bsOne ++ bsTwo ++ [1]) by rw [← bl_app, ← bl_app]; rfl]
  have T := logReplay (bsOne ++ bsTwo ++ [1]) p2 (by rw [List.length_append, List.length_append, lo, lt]; decide)
  rw [rpBegun] at T
  refine T.mono ?_; rintro e p3 ⟨_, rfl, ⟨v3, rfl, h3⟩, b3⟩
  clear T
  have low3 := low2.trans (b3.mono z2)
  have z3 := low3.size
  obtain ⟨a3, c3, rfl, _, _, _⟩ := h3.shapeAt 2 rfl
  go_wp2_with fail
  rw [show bl bsOne ++ bl bsTwo = bl (bsOne ++ bsTwo) from bl_app _ _]
  obtain ⟨r, hr, hr1, hr2⟩ := rcBegun
  have T := logRecover (bsOne ++ bsTwo) p3 (by rw [List.length_append, lo, lt]; decide)
  rw [hr] at T
  clear hr
  refine T.mono ?_; rintro e p4 ⟨_, rfl, ⟨v4, rfl, h4⟩, b4⟩
  clear T
  have low4 := low3.trans (b4.mono z3)
  have z4 := low4.size
  have h3_4 := h3.call b4
  obtain ⟨vc, vh, rfl, hc, hh⟩ := h4
  obtain ⟨ac, cc, hvc, _, _, _⟩ := hc.shape
  obtain ⟨ah, ch, hvh, _, _, _⟩ := hh.shape
  simp only at hvc hvh
  rw [hr1] at hvc
  rw [hr2] at hvh
  subst hvc hvh
  clear hr1 hr2 h3 hc hh
  have eB := heap_alloc_new p4 (.cells #[.slice ac 2 cc, .slice ah 2 ch] 25)
  have bB := (Below.refl p4.heap.size p4).alloc (Nat.le_refl _) (.cells #[.slice ac 2 cc, .slice ah 2 ch] 25)
  obtain ⟨wb, hwb⟩ : ∃ wb, wb = p4.alloc (.cells #[.slice ac 2 cc, .slice ah 2 ch] 25) := ⟨_, rfl⟩
  rw [← hwb] at eB bB
  have HWB := keepBack hwb
  clear hwb
  have lowB := low4.trans (bB.mono z4)
  have zB := lowB.size
  have h3_B := h3_4.call bB
  clear h3_4
  go_wp2_with fail
  rw [← HWB.out]
  have T := logWrite _ actBig (fun _ => True) wb ⟨_, rfl, Sl.nil _ _ _⟩ (ok_small (by decide)) (by decide) (by decide) (by decide)
  rw [wpBig] at T
  refine T.mono ?_; rintro e p5 ⟨_, rfl, rfl, b5⟩
  clear T
  have low5 := lowB.trans (b5.mono zB)
  have z5 := low5.size
  go_wp2_with fail
  refine (shopAt _).mono ?_; rintro e s6 ⟨_, rfl, ⟨a6, c6, g6, rfl, h6⟩, b6⟩
  have low6 := low5.trans (b6.mono z5)
  have z6 := low6.size
  go_wp2_with fail
  refine (logDo _ _ shopR (0, ⟨#[]⟩, ⟨#[]⟩, []) _ (fun _ => True) s6 (h6.rp (by decide) (by decide)) ⟨_, rfl, Sl.nil _ _ _⟩).mono ?_; rintro e p7 ⟨_, rfl, hret, b7⟩
  rw [doNone] at hret
  obtain ⟨y7, rfl, vc7, vh7, rfl, hc7, hh7⟩ := hret
  obtain ⟨ac7, cc7, rfl, _, _, _⟩ := hc7.shapeAt 0 rfl
  obtain ⟨ah7, ch7, rfl, _, _, _⟩ := hh7.shapeAt 0 rfl
  have low7 := low6.trans (b7.mono z6)
  have z7 := low7.size
  have b57 := b5.trans ((b6.trans (b7.mono b6.size)).mono b5.size)
  have bE := (Below.refl p7.heap.size p7).alloc (Nat.le_refl _) (.cells #[.slice ac7 0 cc7, .slice ah7 0 ch7] 25)
  have bBE := b57.trans (bE.mono b57.size)
  have eE := (bBE.block p4.heap.size (by rw [HWB.out]; simp)).trans eB
  have hE := h3_B.call bBE
  have x0 : (p7.alloc (.cells #[.slice ac7 0 cc7, .slice ah7 0 ch7] 25)).cell? ⟨p4.heap.size, 0, none⟩ = some (.slice ac 2 cc) := by rw [World.cell?, eE]; rfl
  have x1 : (p7.alloc (.cells #[.slice ac7 0 cc7, .slice ah7 0 ch7] 25)).cell? ⟨p4.heap.size, 1, none⟩ = some (.slice ah 2 ch) := by rw [World.cell?, eE]; rfl
  obtain ⟨b, o, ad, cd, hix, _, hbs, _, _, _, hd, hcd, hcm, q0, q1, q2, q3⟩ := hE.idxAct aAct 0 0 actOne rfl rfl
  simp only [actOne, List.length_singleton] at hd hcd hcm q0 q1 q2 q3
  obtain ⟨bb, oo, hixx, _, hbb, _, _, _, w0, w1, w2⟩ := hd.idxChgAt aChg 0 0 (3, -1, 700) rfl rfl
  have hq := chgEqual (3, -1, 700) (3, -1, 700) (p7.alloc (.cells #[.slice ac7 0 cc7, .slice ah7 0 ch7] 25))
  have hg := chgGuard
  simp only [decide_true] at hq
  have so := bl_size bsOne
  have st := bl_size bsTwo
  rw [lo] at so
  rw [lt] at st
  clear lo lt
  go_wp2
  go_ret
  exact ⟨_, rfl, rfl, low7.trans (bE.mono z7)⟩

end Go.Pch
end
