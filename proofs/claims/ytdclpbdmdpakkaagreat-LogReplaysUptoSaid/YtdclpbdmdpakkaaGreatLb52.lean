/- The walk of the document's SameActs. The law LogReplays: the walk. -/
import Derived.Test.YtdclpbdmdpakkaaGreatLb38
import Derived.Test.YtdclpbdmdpakkaaGreatLb41
import Derived.Deep.RegionHeld3
import Derived.Test.YtdclpbdmdpakkaaGreatLb51
import Derived.Test.YtdclpbdmdpakkaaGreatLb49
section
namespace Go.Pch
open Go.RowKit Go.Proofs
set_option maxRecDepth 100000

set_option maxHeartbeats 2000000 in
theorem refSameActs (v u : Value) (l : List Act) (S S' : Blk) (w : World) (h : Sl tAct w S v l) (g : Sl tAct w S' u l) : Calls Tryz.prog 20 #[v, u] w fun e w' => e = .returned (.bool true) ∧ Below w.heap.size w w' := by
  obtain ⟨al, cl, hv, hcl, hml, _⟩ := h.shape
  obtain ⟨am, cm, hu, hcm, hmm, _⟩ := g.shape
  unfold maxLen at hml hmm
  obtain ⟨nl, hnl⟩ : ∃ n, n = l.length := ⟨_, rfl⟩
  rw [← hnl] at hv hcl hu hcm
  have HNL := keepBack hnl
  clear hnl
  subst hv hu
  go_enter Tryz.func20, Tryz.ntmps20
  go_wp2_with fail
  go_loopw [5] (fun uk wr => ∃ j : Nat, j ≤ nl ∧ uk = .int .i64 j ∧ Below w.heap.size w wr) (fun uk _ => nl - (intOf uk).toNat)
  case atStart => exact ⟨0, Nat.zero_le _, rfl, Below.refl _ _⟩
  case round =>
    obtain ⟨j, hj, rfl, bW⟩ := hrel
    by_cases hlt : j < nl
    · have hjI : (j : Int) < nl := by omega
      obtain ⟨y, hy⟩ : ∃ y, l[j]? = some y := ⟨l[j]'(by have := HNL.out; omega), List.getElem?_eq_getElem _⟩
      obtain ⟨b, o, ad, cd, hix, _, hbs, ok1, ok2, ok3, hd, _, _, q0, q1, q2, q3⟩ := (h.call bW).idxAct aAct j j y rfl hy
      obtain ⟨b', o', ad', cd', hix', _, hbs', _, _, _, hd', _, _, p0, p1, p2, p3⟩ := (g.call bW).idxAct aAct j j y rfl hy
      clear hy
      have zW := bW.size
      have T : ∀ W, Below wr.heap.size wr W → Calls Tryz.prog 53 #[.slice ad' y.2.2.2.length cd', .slice ad y.2.2.2.length cd] W (Quiet W (.bool true)) ∧ Calls Tryz.prog 53 #[.slice ad y.2.2.2.length cd, .slice ad' y.2.2.2.length cd'] W (Quiet W (.bool true)) := fun W hW => by
        have t1 := refSameChanges _ _ y.2.2.2 y.2.2.2 _ _ W (hd'.call hW) (hd.call hW)
        have t2 := refSameChanges _ _ y.2.2.2 y.2.2.2 _ _ W (hd.call hW) (hd'.call hW)
        rw [decide_eq_true rfl] at t1 t2
        exact ⟨t1, t2⟩
      have KS : ∀ W, Below wr.heap.size wr W → (W.cell? ⟨b, o, none⟩ = some (.int .i64 y.1) ∧ W.cell? ⟨b, o + 1, none⟩ = some (.string y.2.1) ∧ W.cell? ⟨b, o + 2, none⟩ = some (.string y.2.2.1) ∧ W.cell? ⟨b, o + 3, none⟩ = some (.slice ad y.2.2.2.length cd)) ∧
          W.cell? ⟨b', o', none⟩ = some (.int .i64 y.1) ∧ W.cell? ⟨b', o' + 1, none⟩ = some (.string y.2.1) ∧ W.cell? ⟨b', o' + 2, none⟩ = some (.string y.2.2.1) ∧ W.cell? ⟨b', o' + 3, none⟩ = some (.slice ad' y.2.2.2.length cd') := fun W hW =>
        ⟨⟨(hW.cell (p := ⟨b, o, none⟩) hbs).trans q0, (hW.cell (p := ⟨b, o + 1, none⟩) hbs).trans q1, (hW.cell (p := ⟨b, o + 2, none⟩) hbs).trans q2, (hW.cell (p := ⟨b, o + 3, none⟩) hbs).trans q3⟩,
          (hW.cell (p := ⟨b', o', none⟩) hbs').trans p0, (hW.cell (p := ⟨b', o' + 1, none⟩) hbs').trans p1, (hW.cell (p := ⟨b', o' + 2, none⟩) hbs').trans p2, (hW.cell (p := ⟨b', o' + 3, none⟩) hbs').trans p3⟩
      generalize y.2.2.2.length = nd at *
      generalize y.1 = kk at *
      generalize y.2.1 = s1 at *
      generalize y.2.2.1 = s2 at *
      go_wp2_with fail
      go_region_held3 (fun W => (W.cell? ⟨b, o, none⟩ = some (.int .i64 kk) ∧ W.cell? ⟨b, o + 1, none⟩ = some (.string s1) ∧ W.cell? ⟨b, o + 2, none⟩ = some (.string s2) ∧ W.cell? ⟨b, o + 3, none⟩ = some (.slice ad nd cd)) ∧
          W.cell? ⟨b', o', none⟩ = some (.int .i64 kk) ∧ W.cell? ⟨b', o' + 1, none⟩ = some (.string s1) ∧ W.cell? ⟨b', o' + 2, none⟩ = some (.string s2) ∧ W.cell? ⟨b', o' + 3, none⟩ = some (.slice ad' nd cd'))
        (first
          | exact KS _ (Below.refl _ _).drew
          | exact KS _ (by assumption)
          | fail)
        (first
          | (go_at_call 53; refine (T _ (Below.refl _ _).drew).2.mono ?_; rintro e w2 ⟨rfl, d2⟩; have b2 : Below wr.heap.size wr w2 := (Below.refl wr.heap.size wr).drew.trans d2.below)
          | fail)
      all_goals
        go_wp2_with fail
        go_roundw
        case rel => exact ⟨j + 1, by omega, by go_num, bW.trans (b2.mono zW)⟩
        case measure => simp [intOf]; omega
    · have hjI : ¬ (j : Int) < nl := by omega
      go_wp2
      go_ret
      exact ⟨rfl, bW⟩

end Go.Pch
end

section
namespace Go.Pch
open Go.RowKit Go.Proofs
set_option maxRecDepth 100000

theorem refActBytes_of {B : Bytes} {F : Int} (u : Value) (x : Act) (S : Blk) (w : World) (g : AtAct w S u x) (hz : ActSmall x) (h : actWP x = (B, F)) : Calls Tryz.prog 17 #[u] w (Ret w fun y _ => y = .tuple #[.string (bl B), .int .i64 F]) := by
  have := refActBytes u x S w g hz
  rwa [h] at this

set_option maxHeartbeats 2000000 in
theorem lawLogReplays (u : Value) (x : Act) (s : ByteArray) (w : World) (g : AtAct w (fun _ => True) u x) (hs : s.size ≤ maxLen) (hz : ActSmall x) : Calls Tryz.prog 5 #[u, .string s] w (Ret w fun y _ => y = .bool true) := by
  obtain ⟨t, ht⟩ : ∃ t, t = s.data.toList := ⟨_, rfl⟩
  obtain rfl : s = bl t := by rw [ht, bl_data]
  clear ht
  rw [bl_size] at hs
  obtain ⟨B, F, hW⟩ : ∃ B F, actWP x = (B, F) := ⟨_, _, rfl⟩
  obtain ⟨L, M, G, hP⟩ : ∃ L M G, replayP t = (L, M, G) := ⟨_, _, _, rfl⟩
  have HW := keepBack hW
  have HP := keepBack hP
  clear hW hP
  have hzz := hz
  obtain ⟨k, a, b, d⟩ := x
  obtain ⟨vd, rfl, hd⟩ := g
  obtain ⟨ad, cd, hvd, _, _, _⟩ := hd.shape
  simp only at hvd hd
  generalize d.length = nd at hvd
  subst hvd
  simp only
  obtain ⟨xA, hxA⟩ : ∃ xA, xA = w.alloc (.cells #[.int .i64 k, .string a, .string b, .slice ad nd cd] 36) := ⟨_, rfl⟩
  have bA : Below w.heap.size w xA := by rw [hxA]; exact (Below.refl _ _).alloc (Nat.le_refl _) _
  have X0 : ActBox xA w.heap.size k a b (.slice ad nd cd) := by rw [hxA]; exact ⟨heap_alloc_new _ _⟩
  obtain ⟨m0, m1, m2, m3⟩ := X0.cells
  rw [hxA] at m0 m1 m2 m3
  have HA := keepBack hxA
  clear hxA
  have zA := bA.size
  go_enter Tryz.func5, Tryz.ntmps5
  go_wp2_with fail
  rw [← HA.out]
  clear m0 m1 m2 m3
  refine (logWrite_is _ (k, a, b, d) _ xA ⟨_, rfl, hd.call bA⟩ hzz HW.out).mono ?_; rintro e w1 ⟨_, rfl, rfl, b1⟩
  have low1 := bA.trans (b1.mono zA)
  obtain ⟨m0, m1, m2, m3⟩ := (X0.call b1).cells
  go_wp2_with fail
  clear m0 m1 m2 m3
  refine (refActBytes_of _ (k, a, b, d) _ w1 ⟨_, rfl, hd.call low1⟩ hzz HW.out).mono ?_; rintro e w2 ⟨_, rfl, rfl, b2⟩
  have low2 := low1.trans (b2.mono low1.size)
  go_wp2_with fail
  refine (logReplay_is t w2 hs HP.out).mono ?_; rintro e w3 ⟨_, rfl, ⟨a3, c3, rfl, h3⟩, b3⟩
  have low3 := low2.trans (b3.mono low2.size)
  go_wp2_with fail
  refine (refReplayOf_of t w3 hs HP.out).mono ?_; rintro e w4 ⟨_, rfl, ⟨a4, c4, rfl, h4⟩, b4⟩
  have low4 := low3.trans (b4.mono low3.size)
  have h3' := h3.call b4
  go_wp2_with fail
  refine (logBegun _).mono ?_; rintro e w5 ⟨_, rfl, rfl, b5⟩
  have low5 := low4.trans (b5.mono low4.size)
  go_wp2_with fail
  refine (refSameActs _ _ L _ _ w5 (h3'.call b5) (h4.call b5)).mono ?_; rintro e w6 ⟨rfl, b6⟩
  go_wp2
  go_ret
  exact ⟨_, rfl, rfl, low5.trans (b6.mono low5.size)⟩

end Go.Pch
end
