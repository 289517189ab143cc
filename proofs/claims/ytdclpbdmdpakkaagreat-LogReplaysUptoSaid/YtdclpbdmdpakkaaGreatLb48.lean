/- The walk of the document's actFrom. The walk of the document's ReplayOf. -/
import Derived.Test.YtdclpbdmdpakkaaGreatLb39
import Derived.Test.YtdclpbdmdpakkaaGreatLb38
import Derived.Test.YtdclpbdmdpakkaaGreatLb28
section
namespace Go.Pch
open Go.RowKit Go.Proofs
set_option maxRecDepth 100000
set_option linter.unusedSimpArgs false

theorem bl_at (t : Bytes) (i : Nat) (h : i < (bl t).size) : ((bl t)[i]'h) = t.getD i 0 := by
  have h' : i < t.length := by rwa [bl_size] at h
  rw [List.getD_eq_getElem?_getD, List.getElem?_eq_getElem h']
  rfl
theorem bl_atN (t : Bytes) (i : Nat) (h : i < (bl t).size) : ((bl t)[i]'h).toNat = bAt t i := by rw [bl_at]; rfl

theorem bl_cut (t : Bytes) (a b : Nat) : (bl t).extract a b = bl ((t.drop a).take (b - a)) := by
  apply ByteArray.ext
  simp only [bl, ByteArray.data_extract]
  apply Array.ext'
  simp [List.take_drop]
theorem actResults {fn : Func} {p q : Tmp} (h : fn.results = #[.cell p 36, .tmp q]) (tmps : Array Value) (W : World) (g : Nat) (x y z u v : Value) (t : TypeId) (hp : tmps.getD p undef = .pointer (some ⟨g, 0, none⟩)) (hv : tmps.getD q undef = v) (hr : W.heap[g]? = some (.cells #[x, y, z, u] t)) :
    (results fn tmps).run Tryz.prog W = .ok (.tuple #[.agg #[x, y, z, u], v]) W := by
  have hp' : tmps[p]?.getD undef = .pointer (some ⟨g, 0, none⟩) := by simpa using hp
  have hv' : tmps[q]?.getD undef = v := by simpa using hv
  have r0 : W.cell? ⟨g, 0, none⟩ = some x := by rw [World.cell?, hr]; rfl
  have r1 : W.cell? ⟨g, 1, none⟩ = some y := by rw [World.cell?, hr]; rfl
  have r2 : W.cell? ⟨g, 2, none⟩ = some z := by rw [World.cell?, hr]; rfl
  have r3 : W.cell? ⟨g, 3, none⟩ = some u := by rw [World.cell?, hr]; rfl
  simp [results, h, hp', hv', asAddr, go_sem, r0, r1, r2, r3, Result.andThen]

/-- append of one element just laid. -/
theorem Own.pushG {α : Type} {E : Ty α} {e T : TypeId} {w : World} {B : Nat} {C D : Blk} {v : Value} {l : List α} {P : Program} (hA : At P E T e) (h : Own E e w B C v l) (cs : List Value) (a : α) (hrd : E.rd w D cs a) (hD : ∀ k, D k → k < w.heap.size → C k ∧ some k ≠ v.ownBlock)
    (hn : l.length ≤ 1000000) (hB : B ≤ w.heap.size) (kk : Nat) (hkk : kk = w.heap.size) :
    ∃ (a2 : Option Addr) (L c2 : Nat) (w2 : World), (Builtin.append_ #[T, T] T #[v, .slice (some ⟨kk, 0, none⟩) 1 1]).run P (w.alloc (.cells cs.toArray e)) = .ok (.slice a2 L c2) w2 ∧ Own E e w2 B C (.slice a2 L c2) (l ++ [a]) ∧
      Step (fun k => v.ownBlock = some k) w w2 := by
  subst hkk
  have bL := (Below.refl w.heap.size w).alloc (Nat.le_refl _) (.cells cs.toArray e)
  obtain ⟨v', w', hrun, ho, hg, _⟩ := (h.call bL).run (D := fun k => D k ∧ k < w.heap.size) hA (c := 1) (m := [a]) (Src.one (E.mono hrd fun k hk hlt => ⟨hk, hlt⟩) e) (fun h => by cases h) T (fun k hk _ => hD k hk.1 hk.2) (by simp; omega) (Nat.le_trans hB bL.size)
  obtain ⟨a2, c2, rfl, _, _⟩ := ho.shape
  exact ⟨a2, _, c2, w', hrun, ho, (Step.of_below bL).on (Step.grown hg fun k hk => hk)⟩
theorem chgNums (i b1 b2 : Nat) (hi : i ≤ 100000) (h1 : b1 < 256) (h2 : b2 < 256) :
    IntKind.i64.wrap (256 * (b1 : Int)) = 256 * (b1 : Int) ∧ IntKind.i64.wrap (256 * (b1 : Int) + (b2 : Int)) = 256 * (b1 : Int) + (b2 : Int) ∧ IntKind.i64.wrap (256 * (b1 : Int) + (b2 : Int) - 1) = 256 * (b1 : Int) + (b2 : Int) - 1 ∧
    IntKind.i64.wrap ((i : Int) + 1) = (i : Int) + 1 ∧ IntKind.i64.wrap ((i : Int) + 2) = (i : Int) + 2 ∧ IntKind.i64.wrap ((i : Int) + 3) = (i : Int) + 3 ∧ IntKind.i64.wrap ((i : Int) + 4) = (i : Int) + 4 ∧ wrap64 ((i : Int) + 5) = (i : Int) + 5 := by
  simp only [IntKind.wrap_i64]
  unfold wrap64
  refine ⟨?_, ?_, ?_, ?_, ?_, ?_, ?_, ?_⟩ <;> omega
theorem wrapByte' (n : Nat) (h : n < 256) : IntKind.i64.wrap (n : Int) = n := by rw [IntKind.wrap_i64]; omega

theorem placeNums (one two en b1 b2 b3 : Nat) (hA : one = 2 + b1) (hB : two = one + 1 + b2) (hC : en = two + 1 + 5 * b3) (l1 : b1 < 256) (l2 : b2 < 256) (l3 : b3 < 256) :
    (wrap64 (2 + (b1 : Int)) = (one : Int) ∧ wrap64 ((one : Int) + 1) = (one : Int) + 1 ∧ wrap64 ((one : Int) + 1 + (b2 : Int)) = (two : Int)) ∧
    (wrap64 (5 * (b3 : Int)) = 5 * (b3 : Int) ∧ wrap64 ((two : Int) + 1) = (two : Int) + 1 ∧ wrap64 ((two : Int) + 1 + 5 * (b3 : Int)) = (en : Int)) ∧ (one : Int) + 1 ≤ two ∧ (2 : Int) ≤ one ∧ (two : Int) + 1 ≤ en ∧ one = 2 + b1 ∧ two = one + 1 + b2 ∧ en = two + 1 + 5 * b3 := by
  subst hA hB hC
  unfold wrap64
  refine ⟨⟨?_, ?_, ?_⟩, ⟨?_, ?_, ?_⟩, ?_, ?_, ?_, rfl, rfl, rfl⟩ <;> omega
theorem wrapByte (n : Nat) (h : n < 256) : wrap64 (n : Int) = n := by unfold wrap64; omega

theorem actRound {w wr w2 : World} {x0 x1 x2 vl : Value} {T e : TypeId} {R : Obj} {u2 : Option Addr} {L c2 : Nat} {l : List Change} (hX2 : w2.heap[w.heap.size + 1]? = some (.cells #[x0, x1, x2, vl] T)) (hR2 : w2.heap[w.heap.size]? = some R) (bW : Below w.heap.size w wr)
    (on : Step (fun k => vl.ownBlock = some k) wr w2) (hvb : ∀ g, vl.ownBlock = some g → w.heap.size + 2 ≤ g) (zW : w.heap.size + 2 ≤ wr.heap.size) (ho2 : Own tChange e w2 (w.heap.size + 2) (fun _ => False) (.slice u2 L c2) l) :
    (w2.setCell ⟨w.heap.size + 1, 3, none⟩ (.slice u2 L c2)).heap[w.heap.size + 1]? = some (.cells #[x0, x1, x2, .slice u2 L c2] T) ∧ (w2.setCell ⟨w.heap.size + 1, 3, none⟩ (.slice u2 L c2)).heap[w.heap.size]? = some R ∧ Below w.heap.size w (w2.setCell ⟨w.heap.size + 1, 3, none⟩ (.slice u2 L c2)) ∧
      w.heap.size + 2 ≤ (w2.setCell ⟨w.heap.size + 1, 3, none⟩ (.slice u2 L c2)).heap.size ∧ Own tChange e (w2.setCell ⟨w.heap.size + 1, 3, none⟩ (.slice u2 L c2)) (w.heap.size + 2) (fun _ => False) (.slice u2 L c2) l := by
  have k2 : ∀ k, k ≠ w.heap.size + 1 → (w2.setCell ⟨w.heap.size + 1, 3, none⟩ (.slice u2 L c2)).heap[k]? = w2.heap[k]? := fun k hk => heap_setCell_other _ _ _ _ hk
  have z2 := on.size
  refine ⟨heap_setCell_same w2 _ 3 _ _ (.slice u2 L c2) hX2, (k2 _ (by omega)).trans hR2, (bW.trans ((on.below hvb zW).mono (by omega))).setCell (by simp) _, by simp [World.setCell]; omega, ho2.keep fun k hk _ => k2 k ?_⟩
  rcases hk with hk | hk
  · exact hk.elim
  · have := (ho2.block k hk).1
    omega

set_option maxHeartbeats 500000 in
theorem refActFrom (t : Bytes) (w : World) (ht : t.length ≤ 4096) : Calls Tryz.prog 52 #[.string (bl t)] w
    (Ret w fun y W => ∃ vd, y = .tuple #[.agg #[.int .i64 (actF t).1.1, .string (actF t).1.2.1, .string (actF t).1.2.2.1, vd], .int .i64 (actF t).2] ∧ Sl tChange W (fun k => w.heap.size ≤ k) vd (actF t).1.2.2.2) := by
  obtain ⟨O, hO⟩ : ∃ O, actF t = O := ⟨_, rfl⟩
  rw [hO]
  have HO := keepBack hO
  clear hO
  have hsz := bl_size t
  have hat := bl_atN t
  have hw : ∀ i, wrap64 (bAt t i : Int) = (bAt t i : Int) := fun i => wrapByte _ (bAt_lt t i)
  have hN := keepBack (placeNums (oneA t) (twoA t) (endA t) (bAt t 1) (bAt t (oneA t)) (bAt t (twoA t)) rfl rfl rfl (bAt_lt t _) (bAt_lt t _) (bAt_lt t _))
  have NO : Hid (¬ (4 ≤ t.length ∧ oneA t < t.length ∧ twoA t < t.length ∧ endA t ≤ t.length) → O = (noAct, 0)) := keepBack fun h => HO.out.symm.trans (actF_no h)
  have YES : Hid (4 ≤ t.length → oneA t < t.length → twoA t < t.length → endA t ≤ t.length → O = (((bAt t 0 : Int), bl ((t.drop 2).take (bAt t 1)), bl ((t.drop (oneA t + 1)).take (bAt t (oneA t))), chgsAt t (twoA t + 1) (bAt t (twoA t))), endA t)) := keepBack fun a b c d => HO.out.symm.trans (actF_ok a b c d)
  clear HO
  generalize oneA t = one at *
  generalize twoA t = two at *
  generalize endA t = en at *
  obtain ⟨⟨e2, e4, e5⟩, ⟨e7, e8, e9⟩, k1, k2, k3, hA, hB, hC⟩ := hN.out
  clear hN
  have HA := keepBack hA
  have HB := keepBack hB
  have HC := keepBack hC
  clear hA hB hC
  have hbox := heap_alloc_new w (.cells #[.int .i64 0, .string ⟨#[]⟩, .string ⟨#[]⟩, .slice none 0 0] 36)
  have hbel := (Below.refl w.heap.size w).alloc (Nat.le_refl _) (.cells #[.int .i64 0, .string ⟨#[]⟩, .string ⟨#[]⟩, .slice none 0 0] 36)
  by_cases h0 : (t.length : Int) < 4
  · go_enter Tryz.func52, Tryz.ntmps52
    go_wp2_with fail
    have hD := NO.out (by omega)
    subst hD
    refine bodyPost_ret (actResults rfl _ _ _ _ _ _ _ _ _ rfl rfl hbox) rfl ?_
    exact ⟨_, rfl, ⟨_, rfl, Sl.nil _ _ _⟩, hbel⟩
  · by_cases h1 : (t.length : Int) ≤ one
    · go_enter Tryz.func52, Tryz.ntmps52
      go_wp2_with fail
      have hD := NO.out (by omega)
      subst hD
      refine bodyPost_ret (actResults rfl _ _ _ _ _ _ _ _ _ rfl rfl hbox) rfl ?_
      exact ⟨_, rfl, ⟨_, rfl, Sl.nil _ _ _⟩, hbel⟩
    · by_cases h2 : (t.length : Int) ≤ two
      · go_enter Tryz.func52, Tryz.ntmps52
        go_wp2_with fail
        have hD := NO.out (by omega)
        subst hD
        refine bodyPost_ret (actResults rfl _ _ _ _ _ _ _ _ _ rfl rfl hbox) rfl ?_
        exact ⟨_, rfl, ⟨_, rfl, Sl.nil _ _ _⟩, hbel⟩
      · by_cases h3 : (t.length : Int) < en
        · go_enter Tryz.func52, Tryz.ntmps52
          go_wp2_with fail
          have hD := NO.out (by omega)
          subst hD
          refine bodyPost_ret (actResults rfl _ _ _ _ _ _ _ _ _ rfl rfl hbox) rfl ?_
          exact ⟨_, rfl, ⟨_, rfl, Sl.nil _ _ _⟩, hbel⟩
        · have hD := YES.out (by omega) (by omega) (by omega) (by omega)
          subst hD
          clear YES NO
          have HS1 : Hid (bl ((t.drop 2).take (bAt t 1)) = (bl t).extract 2 one) := keepBack (by rw [bl_cut, show one - 2 = bAt t 1 by have := HA.out; omega])
          have HS2 : Hid (bl ((t.drop (one + 1)).take (bAt t one)) = (bl t).extract (one + 1) two) := keepBack (by rw [bl_cut, show two - (one + 1) = bAt t one by have := HB.out; omega])
          rw [HS1.out, HS2.out]
          clear HS1 HS2
          generalize hS1 : (bl t).extract 2 one = S1
          generalize hS2 : (bl t).extract (one + 1) two = S2
          go_enter Tryz.func52, Tryz.ntmps52
          go_wp2_with fail
          have h1' : (one : Int) ≤ t.length := by omega
          have h2' : (two : Int) ≤ t.length := by omega
          have h0' : (0 : Int) < t.length := by omega
          have k0 : (0 : Int) ≤ (one : Int) + 1 := by omega
          have hw' : ∀ i, IntKind.i64.wrap (bAt t i : Int) = (bAt t i : Int) := fun i => wrapByte' _ (bAt_lt t i)
          have e4' : IntKind.i64.wrap ((one : Int) + 1) = (one : Int) + 1 := by rw [IntKind.wrap_i64]; omega
          go_region
          go_wp2_with fail
          clear hS1 hS2
          clear e2 e4 e5 e7 e8 e9 k0 h0' h1' h2' hw hw' e4'
          have hX := heap_alloc_new (w.alloc (.cells #[.int .i64 0, .string ⟨#[]⟩, .string ⟨#[]⟩, .slice none 0 0] 36)) (.cells #[.int .i64 (bAt t 0 : Int), .string S1, .string S2, .slice none 0 0] 36)
          rw [show (w.alloc (.cells #[.int .i64 0, .string ⟨#[]⟩, .string ⟨#[]⟩, .slice none 0 0] 36)).heap.size = w.heap.size + 1 by simp] at hX
          have hR := (Below.heap_alloc (w.alloc (.cells #[.int .i64 0, .string ⟨#[]⟩, .string ⟨#[]⟩, .slice none 0 0] 36)) (.cells #[.int .i64 (bAt t 0 : Int), .string S1, .string S2, .slice none 0 0] 36) w.heap.size (by simp)).trans hbox
          have bE := (hbel.alloc (by simp) (.cells #[.int .i64 (bAt t 0 : Int), .string S1, .string S2, .slice none 0 0] 36)).drew
          have zE : ((w.alloc (.cells #[.int .i64 0, .string ⟨#[]⟩, .string ⟨#[]⟩, .slice none 0 0] 36)).alloc (.cells #[.int .i64 (bAt t 0 : Int), .string S1, .string S2, .slice none 0 0] 36)).drew.heap.size = w.heap.size + 2 := by simp [World.drew]
          go_loopw [8] (fun iv wr => ∃ (j i : Nat) (vl : Value), j ≤ bAt t two ∧ i = two + 1 + 5 * j ∧ iv = .int .i64 i ∧ wr.heap[w.heap.size + 1]? = some (.cells #[.int .i64 (bAt t 0 : Int), .string S1, .string S2, vl] 36) ∧ wr.heap[w.heap.size]? = some (.cells #[.int .i64 0, .string ⟨#[]⟩, .string ⟨#[]⟩, .slice none 0 0] 36) ∧
            Below w.heap.size w wr ∧ w.heap.size + 2 ≤ wr.heap.size ∧ Own tChange 81 wr (w.heap.size + 2) (fun _ => False) vl (chgsAt t (two + 1) j)) (fun iv _ => en - (intOf iv).toNat)
          case atStart => exact ⟨0, two + 1, _, Nat.zero_le _, rfl, by simp, hX, hR, bE, by omega, Own.nil⟩
          case round =>
            obtain ⟨j, i, vl, hj, hi, rfl, hXr, hRr, bW, zW, ho⟩ := hrel
            have hen := HC.out
            by_cases hlt : j < bAt t two
            · have hik : (i : Int) < en := by omega
              have p0 : (i : Int) < t.length := by omega
              have p1 : (i : Int) + 1 < t.length := by omega
              have p2 : (i : Int) + 2 < t.length := by omega
              have p3 : (i : Int) + 3 < t.length := by omega
              have p4 : (i : Int) + 4 < t.length := by omega
              have g1 : (0 : Int) ≤ (i : Int) + 1 := by omega
              have g2 : (0 : Int) ≤ (i : Int) + 2 := by omega
              have g3 : (0 : Int) ≤ (i : Int) + 3 := by omega
              have g4 : (0 : Int) ≤ (i : Int) + 4 := by omega
              have t1 : ((i : Int) + 1).toNat = i + 1 := by omega
              have t2 : ((i : Int) + 2).toNat = i + 2 := by omega
              have t3 : ((i : Int) + 3).toNat = i + 3 := by omega
              have t4 : ((i : Int) + 4).toNat = i + 4 := by omega
              have i5 : i ≤ 100000 := by omega
              have hj1 : j + 1 ≤ bAt t two := hlt
              have hi1 : i + 5 = two + 1 + 5 * (j + 1) := by omega
              have hm1 : en - (i + 5) < en - i := by omega
              have hb0 := bAt_lt t i
              have hb1 := bAt_lt t (i + 1)
              have hb2 := bAt_lt t (i + 2)
              have hb3 := bAt_lt t (i + 3)
              have hb4 := bAt_lt t (i + 4)
              have HN : Hid (chgsAt t (two + 1) (j + 1) = chgsAt t (two + 1) j ++ [((bAt t i : Int), 256 * (bAt t (i + 1) : Int) + (bAt t (i + 2) : Int) - 1, 256 * (bAt t (i + 3) : Int) + (bAt t (i + 4) : Int) - 1)]) := keepBack (by rw [chgsAt_next, hi]; rfl)
              have HI := keepBack hi
              have HEN := keepBack hen
              clear hi hen
              have q3 : wr.cell? ⟨w.heap.size + 1, 3, none⟩ = some vl := by rw [World.cell?, hXr]; rfl
              have zD : wr.drew.heap.size = wr.heap.size := rfl
              have hoD : Own tChange 81 wr.drew (w.heap.size + 2) (fun _ => False) vl (chgsAt t (two + 1) j) := ho.call (Below.refl _ _).drew
              obtain ⟨u2, L, c2, w2, hrun, ho2, on2⟩ := hoD.pushG aChg [.int .i64 (bAt t i : Int), .int .i64 (256 * (bAt t (i + 1) : Int) + (bAt t (i + 2) : Int) - 1), .int .i64 (256 * (bAt t (i + 3) : Int) + (bAt t (i + 4) : Int) - 1)] ((bAt t i : Int), 256 * (bAt t (i + 1) : Int) + (bAt t (i + 2) : Int) - 1, 256 * (bAt t (i + 3) : Int) + (bAt t (i + 4) : Int) - 1) (D := fun _ => False) ⟨rfl, by unfold i64ok; simp only; omega, by unfold i64ok; simp only; omega, by unfold i64ok; simp only; omega⟩ (fun _ h => h.elim) (by rw [chgsAt_len]; have := bAt_lt t two; omega) (by rw [zD]; exact zW) wr.heap.size rfl
              have hvb : ∀ g, vl.ownBlock = some g → w.heap.size + 2 ≤ g := fun g hg => (ho.block g hg).1
              have hX2 := (on2.block (w.heap.size + 1) (by rw [zD]; omega) fun e => by have := hvb _ e; omega).trans hXr
              have hR2 := (on2.block w.heap.size (by rw [zD]; omega) fun e => by have := hvb _ e; omega).trans hRr
              have r3 : w2.cell? ⟨w.heap.size + 1, 3, none⟩ = some vl := by rw [World.cell?, hX2]; rfl
              have rf := frozen_of_row w2 (w.heap.size + 1) 3 _ _ hX2
              have q3D : (wr.alloc (.cells #[.int .i64 (bAt t i : Int), .int .i64 (256 * (bAt t (i + 1) : Int) + (bAt t (i + 2) : Int) - 1), .int .i64 (256 * (bAt t (i + 3) : Int) + (bAt t (i + 4) : Int) - 1)] 81)).cell? ⟨w.heap.size + 1, 3, none⟩ = some vl := (((Below.refl wr.heap.size wr).alloc (Nat.le_refl _) _).cell (p := ⟨w.heap.size + 1, 3, none⟩) (by simp; omega)).trans q3
              have q3E : (wr.alloc (.cells #[.int .i64 (bAt t i : Int), .int .i64 (256 * (bAt t (i + 1) : Int) + (bAt t (i + 2) : Int) - 1), .int .i64 (256 * (bAt t (i + 3) : Int) + (bAt t (i + 4) : Int) - 1)] 81)).drew.cell? ⟨w.heap.size + 1, 3, none⟩ = some vl := q3D
              have on2' : Step (fun k => vl.ownBlock = some k) wr w2 := (Step.of_below (Below.refl wr.heap.size wr).drew).on on2
              have hw : ∀ i, wrap64 (bAt t i : Int) = (bAt t i : Int) := fun i => wrapByte _ (bAt_lt t i)
              have hw' : ∀ i, IntKind.i64.wrap (bAt t i : Int) = (bAt t i : Int) := fun i => wrapByte' _ (bAt_lt t i)
              obtain ⟨m1, m2, m3, a1, a2, a3, a4, a5⟩ := chgNums i (bAt t (i + 1)) (bAt t (i + 2)) i5 (bAt_lt _ _) (bAt_lt _ _)
              obtain ⟨n1, n2, n3, -⟩ := chgNums i (bAt t (i + 3)) (bAt t (i + 4)) i5 (bAt_lt _ _) (bAt_lt _ _)
              go_wp2_with fail
              -- TAKES
              refine wp_region_any (by kernel_rfl) ?_
              change wpAny _ _ _ _ _ _ _ (World.drew _)
              refine wpAny_take (i := 0) (v := ?_) rfl (by kernel_rfl) (by kernel_rfl) (by kernel_rfl) (fun _ _ _ h => h) (Or.inl ⟨by rfl, ?hy1⟩) ?rest1
              case hy1 => (intro W; go_simp; try with_reducible rfl)
              try simp only [Go.Act.put, List.setIfInBounds_toArray, List.set_cons_zero, List.set_cons_succ]
              refine wpAny_take (i := 2) (v := ?_) rfl (by kernel_rfl) (by kernel_rfl) (by kernel_rfl) (fun _ _ _ h => h) (Or.inl ⟨by rfl, ?hy2⟩) ?rest2
              case hy2 => (intro W; go_simp; try with_reducible rfl)
              try simp only [Go.Act.put, List.setIfInBounds_toArray, List.set_cons_zero, List.set_cons_succ]
              refine wpAny_take (i := 3) (v := ?_) rfl (by kernel_rfl) (by kernel_rfl) (by kernel_rfl) (fun _ _ _ h => h) (Or.inl ⟨by rfl, ?hy3⟩) ?rest3
              case hy3 => (intro W; go_simp; try with_reducible rfl)
              try simp only [Go.Act.put, List.setIfInBounds_toArray, List.set_cons_zero, List.set_cons_succ]
              refine wpAny_take (i := 4) (v := ?_) rfl (by kernel_rfl) (by kernel_rfl) (by kernel_rfl) (fun _ _ _ h => h) (Or.inl ⟨by rfl, ?hy4⟩) ?rest4
              case hy4 => (intro W; go_simp; try with_reducible rfl)
              try simp only [Go.Act.put, List.setIfInBounds_toArray, List.set_cons_zero, List.set_cons_succ]
              refine wpAny_take (i := 5) (v := ?_) rfl (by kernel_rfl) (by kernel_rfl) (by kernel_rfl) (fun _ _ _ h => h) (Or.inl ⟨by rfl, ?hy5⟩) ?rest5
              case hy5 => (intro W; go_simp; try with_reducible rfl)
              try simp only [Go.Act.put, List.setIfInBounds_toArray, List.set_cons_zero, List.set_cons_succ]
              refine wpAny_take (i := 6) (v := ?_) rfl (by kernel_rfl) (by kernel_rfl) (by kernel_rfl) (fun _ _ _ h => h) (Or.inl ⟨by rfl, ?hy6⟩) ?rest6
              case hy6 => (intro W; go_simp; try with_reducible rfl)
              try simp only [Go.Act.put, List.setIfInBounds_toArray, List.set_cons_zero, List.set_cons_succ]
              refine wpAny_take (i := 7) (v := ?_) rfl (by kernel_rfl) (by kernel_rfl) (by kernel_rfl) (fun _ _ _ h => h) (Or.inl ⟨by rfl, ?hy7⟩) ?rest7
              case hy7 => (intro W; go_simp; try with_reducible rfl)
              try simp only [Go.Act.put, List.setIfInBounds_toArray, List.set_cons_zero, List.set_cons_succ]
              refine wpAny_take (i := 8) (v := ?_) rfl (by kernel_rfl) (by kernel_rfl) (by kernel_rfl) (fun _ _ _ h => h) (Or.inl ⟨by rfl, ?hy8⟩) ?rest8
              case hy8 => (intro W; go_simp; try with_reducible rfl)
              try simp only [Go.Act.put, List.setIfInBounds_toArray, List.set_cons_zero, List.set_cons_succ]
              refine wpAny_take (i := 9) (v := ?_) rfl (by kernel_rfl) (by kernel_rfl) (by kernel_rfl) (fun _ _ _ h => h) (Or.inl ⟨by rfl, ?hy9⟩) ?rest9
              case hy9 => (intro W; go_simp; try with_reducible rfl)
              try simp only [Go.Act.put, List.setIfInBounds_toArray, List.set_cons_zero, List.set_cons_succ]
              refine wpAny_take (i := 10) (v := ?_) rfl (by kernel_rfl) (by kernel_rfl) (by kernel_rfl) (fun _ _ _ h => h) (Or.inl ⟨by rfl, ?hy10⟩) ?rest10
              case hy10 => (intro W; go_simp; try with_reducible rfl)
              try simp only [Go.Act.put, List.setIfInBounds_toArray, List.set_cons_zero, List.set_cons_succ]
              refine wpAny_take (i := 11) (v := ?_) rfl (by kernel_rfl) (by kernel_rfl) (by kernel_rfl) (fun _ _ _ h => h) (Or.inl ⟨by rfl, ?hy11⟩) ?rest11
              case hy11 => (intro W; go_simp; try with_reducible rfl)
              try simp only [Go.Act.put, List.setIfInBounds_toArray, List.set_cons_zero, List.set_cons_succ]
              refine wpAny_take (i := 12) (v := ?_) rfl (by kernel_rfl) (by kernel_rfl) (by kernel_rfl) (fun _ _ _ h => h) (Or.inl ⟨by rfl, ?hy12⟩) ?rest12
              case hy12 => (intro W; go_simp; try with_reducible rfl)
              try simp only [Go.Act.put, List.setIfInBounds_toArray, List.set_cons_zero, List.set_cons_succ]
              refine wpAny_take (i := 13) (v := ?_) rfl (by kernel_rfl) (by kernel_rfl) (by kernel_rfl) (fun _ _ _ h => h) (Or.inl ⟨by rfl, ?hy13⟩) ?rest13
              case hy13 => (intro W; go_simp; try with_reducible rfl)
              try simp only [Go.Act.put, List.setIfInBounds_toArray, List.set_cons_zero, List.set_cons_succ]
              refine wpAny_take (i := 14) (v := ?_) rfl (by kernel_rfl) (by kernel_rfl) (by kernel_rfl) (fun _ _ _ h => h) (Or.inl ⟨by rfl, ?hy14⟩) ?rest14
              case hy14 => (intro W; go_simp; try with_reducible rfl)
              try simp only [Go.Act.put, List.setIfInBounds_toArray, List.set_cons_zero, List.set_cons_succ]
              refine wpAny_take (i := 15) (v := ?_) rfl (by kernel_rfl) (by kernel_rfl) (by kernel_rfl) (fun _ _ _ h => h) (Or.inl ⟨by rfl, ?hy15⟩) ?rest15
              case hy15 => (intro W; go_simp; try with_reducible rfl)
              try simp only [Go.Act.put, List.setIfInBounds_toArray, List.set_cons_zero, List.set_cons_succ]
              refine wpAny_take (i := 16) (v := ?_) rfl (by kernel_rfl) (by kernel_rfl) (by kernel_rfl) (fun _ _ _ h => h) (Or.inl ⟨by rfl, ?hy16⟩) ?rest16
              case hy16 => (intro W; go_simp; try with_reducible rfl)
              try simp only [Go.Act.put, List.setIfInBounds_toArray, List.set_cons_zero, List.set_cons_succ]
              refine wpAny_take (i := 17) (v := ?_) rfl (by kernel_rfl) (by kernel_rfl) (by kernel_rfl) (fun _ _ _ h => h) (Or.inl ⟨by rfl, ?hy17⟩) ?rest17
              case hy17 => (intro W; go_simp; try with_reducible rfl)
              try simp only [Go.Act.put, List.setIfInBounds_toArray, List.set_cons_zero, List.set_cons_succ]
              refine wpAny_take (i := 18) (v := ?_) rfl (by kernel_rfl) (by kernel_rfl) (by kernel_rfl) (fun _ _ _ h => h) (Or.inl ⟨by rfl, ?hy18⟩) ?rest18
              case hy18 => (intro W; go_simp; try with_reducible rfl)
              try simp only [Go.Act.put, List.setIfInBounds_toArray, List.set_cons_zero, List.set_cons_succ]
              refine wpAny_take (i := 19) (v := ?_) rfl (by kernel_rfl) (by kernel_rfl) (by kernel_rfl) (fun _ _ _ h => h) (Or.inl ⟨by rfl, ?hy19⟩) ?rest19
              case hy19 => (intro W; go_simp; try with_reducible rfl)
              try simp only [Go.Act.put, List.setIfInBounds_toArray, List.set_cons_zero, List.set_cons_succ]
              refine wpAny_take (i := 20) (v := ?_) rfl (by kernel_rfl) (by kernel_rfl) (by kernel_rfl) (fun _ _ _ h => h) (Or.inl ⟨by rfl, ?hy20⟩) ?rest20
              case hy20 => (intro W; go_simp; try with_reducible rfl)
              try simp only [Go.Act.put, List.setIfInBounds_toArray, List.set_cons_zero, List.set_cons_succ]
              refine wpAny_take (i := 21) (v := ?_) rfl (by kernel_rfl) (by kernel_rfl) (by kernel_rfl) (fun _ _ _ h => h) (Or.inl ⟨by rfl, ?hy21⟩) ?rest21
              case hy21 => (intro W; go_simp; try with_reducible rfl)
              try simp only [Go.Act.put, List.setIfInBounds_toArray, List.set_cons_zero, List.set_cons_succ]
              refine wpAny_take (i := 22) (v := ?_) rfl (by kernel_rfl) (by kernel_rfl) (by kernel_rfl) (fun _ _ _ h => h) (Or.inl ⟨by rfl, ?hy22⟩) ?rest22
              case hy22 => (intro W; go_simp; try with_reducible rfl)
              try simp only [Go.Act.put, List.setIfInBounds_toArray, List.set_cons_zero, List.set_cons_succ]
              refine wpAny_take (i := 23) (v := ?_) rfl (by kernel_rfl) (by kernel_rfl) (by kernel_rfl) (fun _ _ _ h => h) (Or.inl ⟨by rfl, ?hy23⟩) ?rest23
              case hy23 => (intro W; go_simp; try with_reducible rfl)
              try simp only [Go.Act.put, List.setIfInBounds_toArray, List.set_cons_zero, List.set_cons_succ]
              refine wpAny_take (i := 24) (v := ?_) rfl (by kernel_rfl) (by kernel_rfl) (by kernel_rfl) (fun _ _ _ h => h) (Or.inl ⟨by rfl, ?hy24⟩) ?rest24
              case hy24 => (intro W; go_simp; try with_reducible rfl)
              try simp only [Go.Act.put, List.setIfInBounds_toArray, List.set_cons_zero, List.set_cons_succ]
              refine wpAny_take (i := 25) (v := ?_) rfl (by kernel_rfl) (by kernel_rfl) (by kernel_rfl) (fun _ _ _ h => h) (Or.inl ⟨by rfl, ?hy25⟩) ?rest25
              case hy25 => (intro W; go_simp; try with_reducible rfl)
              try simp only [Go.Act.put, List.setIfInBounds_toArray, List.set_cons_zero, List.set_cons_succ]
              refine wpAny_take (i := 26) (v := ?_) rfl (by kernel_rfl) (by kernel_rfl) (by kernel_rfl) (fun _ _ _ h => h) (Or.inl ⟨by rfl, ?hy26⟩) ?rest26
              case hy26 => (intro W; go_simp; try with_reducible rfl)
              try simp only [Go.Act.put, List.setIfInBounds_toArray, List.set_cons_zero, List.set_cons_succ]
              refine wpAny_take (i := 27) (v := ?_) rfl (by kernel_rfl) (by kernel_rfl) (by kernel_rfl) (fun _ _ _ h => h) (Or.inl ⟨by rfl, ?hy27⟩) ?rest27
              case hy27 => (intro W; go_simp; try with_reducible rfl)
              try simp only [Go.Act.put, List.setIfInBounds_toArray, List.set_cons_zero, List.set_cons_succ]
              refine wpAny_take (i := 28) (v := ?_) rfl (by kernel_rfl) (by kernel_rfl) (by kernel_rfl) (fun _ _ _ h => h) (Or.inl ⟨by rfl, ?hy28⟩) ?rest28
              case hy28 => (intro W; go_simp; try with_reducible rfl)
              try simp only [Go.Act.put, List.setIfInBounds_toArray, List.set_cons_zero, List.set_cons_succ]
              refine wpAny_take (i := 29) (v := ?_) rfl (by kernel_rfl) (by kernel_rfl) (by kernel_rfl) (fun _ _ _ h => h) (Or.inl ⟨by rfl, ?hy29⟩) ?rest29
              case hy29 => (intro W; go_simp; try with_reducible rfl)
              try simp only [Go.Act.put, List.setIfInBounds_toArray, List.set_cons_zero, List.set_cons_succ]
              refine wpAny_take (i := 30) (v := ?_) rfl (by kernel_rfl) (by kernel_rfl) (by kernel_rfl) (fun _ _ _ h => h) (Or.inl ⟨by rfl, ?hy30⟩) ?rest30
              case hy30 => (intro W; go_simp; try with_reducible rfl)
              try simp only [Go.Act.put, List.setIfInBounds_toArray, List.set_cons_zero, List.set_cons_succ]
              refine wpAny_take (i := 31) (v := ?_) rfl (by kernel_rfl) (by kernel_rfl) (by kernel_rfl) (fun _ _ _ h => h) (Or.inl ⟨by rfl, ?hy31⟩) ?rest31
              case hy31 => (intro W; go_simp; try with_reducible rfl)
              try simp only [Go.Act.put, List.setIfInBounds_toArray, List.set_cons_zero, List.set_cons_succ]
              refine wpAny_take (i := 32) (v := ?_) rfl (by kernel_rfl) (by kernel_rfl) (by kernel_rfl) (fun _ _ _ h => h) (Or.inl ⟨by rfl, ?hy32⟩) ?rest32
              case hy32 => (intro W; go_simp; try with_reducible rfl)
              try simp only [Go.Act.put, List.setIfInBounds_toArray, List.set_cons_zero, List.set_cons_succ]
              refine wpAny_ready (rs := [1, 33]) (by kernel_rfl) (by simp) ?_
              refine AllReady.cons rfl (fun K hK => ?_) (AllReady.cons rfl (fun K hK => ?_) AllReady.nil)
              · go_simp
                refine hK _ _ ?_
                clear hK K
                refine wpAny_ready (rs := [33]) (by kernel_rfl) (by simp) ?_
                refine AllReady.cons rfl (fun K hK => ?_) AllReady.nil
                go_simp
                refine hK _ _ ?_
                clear hK K
                refine wpAny_ready (rs := [34]) (by kernel_rfl) (by simp) ?_
                refine AllReady.cons rfl (fun K hK => ?_) AllReady.nil
                refine step_append_is rfl (.tmp 67) (.tmp 99) 34 34 rfl _ _ rfl rfl hrun ?_
                refine hK _ _ ?_
                clear hK K
                refine wpAny_take (i := 35) (v := ?_) rfl (by kernel_rfl) (by kernel_rfl) (by kernel_rfl) (fun _ _ _ h => h) (Or.inl ⟨by rfl, ?hy33⟩) ?rest33
                case hy33 => (intro W; go_simp; try with_reducible rfl)
                try simp only [Go.Act.put, List.setIfInBounds_toArray, List.set_cons_zero, List.set_cons_succ]
                refine wpAny_ready (rs := [36]) (by kernel_rfl) (by simp) ?_
                refine AllReady.cons rfl (fun K hK => ?_) AllReady.nil
                go_simp
                refine hK _ _ ?_
                clear hK K
                refine wpAny_done (by kernel_rfl) ?_ _
                have HF := keepBack (actRound hX2 hR2 bW on2' hvb zW ho2)
                have HG := keepBack (And.intro hj1 (And.intro hi1 hm1))
                clear m1 m2 m3 a1 a2 a3 a4 a5 n1 n2 n3 t1 t2 t3 t4 hw hw' hat p0 p1 p2 p3 p4 g1 g2 g3 g4 hrun hj1 hi1 hm1 on2' q3E q3D rf r3 hR2 hX2 hvb on2 ho2 hoD zD q3 hb0 hb1 hb2 hb3 hb4 hik hlt ho zW bW hRr hXr hj zE bE
                clear hX hR hbox hbel h0 h1 h2 h3 k1 k2 k3 hsz
                go_wp2_with fail
                obtain ⟨f1, f2, f3, f4, f5⟩ := HF.out
                obtain ⟨hj1, hi1, hm1⟩ := HG.out
                go_roundw
                case rel => exact ⟨j + 1, i + 5, _, hj1, hi1, by simp, f1, f2, f3, f4, by rw [HN.out]; exact f5⟩
                case measure => simp [intOf]; exact hm1
              · go_simp
                refine hK _ _ ?_
                clear hK K
                refine wpAny_ready (rs := [1]) (by kernel_rfl) (by simp) ?_
                refine AllReady.cons rfl (fun K hK => ?_) AllReady.nil
                go_simp
                refine hK _ _ ?_
                clear hK K
                refine wpAny_ready (rs := [34]) (by kernel_rfl) (by simp) ?_
                refine AllReady.cons rfl (fun K hK => ?_) AllReady.nil
                refine step_append_is rfl (.tmp 67) (.tmp 99) 34 34 rfl _ _ rfl rfl hrun ?_
                refine hK _ _ ?_
                clear hK K
                refine wpAny_take (i := 35) (v := ?_) rfl (by kernel_rfl) (by kernel_rfl) (by kernel_rfl) (fun _ _ _ h => h) (Or.inl ⟨by rfl, ?hy34⟩) ?rest34
                case hy34 => (intro W; go_simp; try with_reducible rfl)
                try simp only [Go.Act.put, List.setIfInBounds_toArray, List.set_cons_zero, List.set_cons_succ]
                refine wpAny_ready (rs := [36]) (by kernel_rfl) (by simp) ?_
                refine AllReady.cons rfl (fun K hK => ?_) AllReady.nil
                go_simp
                refine hK _ _ ?_
                clear hK K
                refine wpAny_done (by kernel_rfl) ?_ _
                have HF := keepBack (actRound hX2 hR2 bW on2' hvb zW ho2)
                have HG := keepBack (And.intro hj1 (And.intro hi1 hm1))
                clear m1 m2 m3 a1 a2 a3 a4 a5 n1 n2 n3 t1 t2 t3 t4 hw hw' hat p0 p1 p2 p3 p4 g1 g2 g3 g4 hrun hj1 hi1 hm1 on2' q3E q3D rf r3 hR2 hX2 hvb on2 ho2 hoD zD q3 hb0 hb1 hb2 hb3 hb4 hik hlt ho zW bW hRr hXr hj zE bE
                clear hX hR hbox hbel h0 h1 h2 h3 k1 k2 k3 hsz
                go_wp2_with fail
                obtain ⟨f1, f2, f3, f4, f5⟩ := HF.out
                obtain ⟨hj1, hi1, hm1⟩ := HG.out
                go_roundw
                case rel => exact ⟨j + 1, i + 5, _, hj1, hi1, by simp, f1, f2, f3, f4, by rw [HN.out]; exact f5⟩
                case measure => simp [intOf]; exact hm1
              -- END
            · have hje : j = bAt t two := by omega
              rw [hje] at ho
              have hik : ¬ (i : Int) < en := by omega
              clear hi hen hje
              obtain ⟨al, cl, hvl, _, _⟩ := ho.shape
              generalize (chgsAt t (two + 1) (bAt t two)).length = nl at hvl
              subst hvl
              have x0 : wr.cell? ⟨w.heap.size + 1, 0, none⟩ = some (.int .i64 (bAt t 0 : Int)) := by rw [World.cell?, hXr]; rfl
              have x1 : wr.cell? ⟨w.heap.size + 1, 1, none⟩ = some (.string S1) := by rw [World.cell?, hXr]; rfl
              have x2 : wr.cell? ⟨w.heap.size + 1, 2, none⟩ = some (.string S2) := by rw [World.cell?, hXr]; rfl
              have x3 : wr.cell? ⟨w.heap.size + 1, 3, none⟩ = some (.slice al nl cl) := by rw [World.cell?, hXr]; rfl
              have y0 : wr.cell? ⟨w.heap.size, 0, none⟩ = some (.int .i64 0) := by rw [World.cell?, hRr]; rfl
              have y1 : wr.cell? ⟨w.heap.size, 1, none⟩ = some (.string ⟨#[]⟩) := by rw [World.cell?, hRr]; rfl
              have y2 : wr.cell? ⟨w.heap.size, 2, none⟩ = some (.string ⟨#[]⟩) := by rw [World.cell?, hRr]; rfl
              have y3 : wr.cell? ⟨w.heap.size, 3, none⟩ = some (.slice none 0 0) := by rw [World.cell?, hRr]; rfl
              have yf := fun i => frozen_of_row wr w.heap.size i _ _ hRr
              have hF := heap_setCell_same _ w.heap.size 3 _ _ (.slice al nl cl) (heap_setCell_same _ w.heap.size 2 _ _ (.string S2) (heap_setCell_same _ w.heap.size 1 _ _ (.string S1) (heap_setCell_same wr w.heap.size 0 _ _ (.int .i64 (bAt t 0 : Int)) hRr)))
              go_wp2_with fail
              refine bodyPost_ret (actResults rfl _ _ _ _ _ _ _ _ _ rfl rfl hF) rfl ?_
              refine ⟨_, rfl, ⟨_, rfl, ?_⟩, (((bW.setCell (Nat.le_refl _) _).setCell (Nat.le_refl _) _).setCell (Nat.le_refl _) _).setCell (Nat.le_refl _) _⟩
              exact ((ho.sl (D := fun k => w.heap.size + 2 ≤ k) (fun _ h => h.elim) (fun _ h => h)).keep fun k hk _ => (heap_setCell_other _ _ _ _ (by simp <;> omega)).trans ((heap_setCell_other _ _ _ _ (by simp <;> omega)).trans ((heap_setCell_other _ _ _ _ (by simp <;> omega)).trans (heap_setCell_other _ _ _ _ (by simp <;> omega))))).mono fun k hk _ => by omega

end Go.Pch
end

section
namespace Go.Pch
open Go.RowKit Go.Proofs
set_option maxRecDepth 100000

set_option maxHeartbeats 1000000 in
theorem refReplayOf (t : Bytes) (w : World) (ht : t.length ≤ maxLen) : Calls Tryz.prog 19 #[.string (bl t)] w (Ret w fun y W => ∃ v, y = .tuple #[v, .int .i64 (replayP t).2.1, .int .i64 (replayP t).2.2] ∧ Sl tAct W (fun k => w.heap.size ≤ k) v (replayP t).1) := by
  obtain ⟨O, hO⟩ : ∃ O, replayP t = O := ⟨_, rfl⟩
  rw [hO]
  have HO := keepBack hO
  clear hO
  have hsz := bl_size t
  unfold maxLen at ht
  by_cases hb : 4096 < t.length
  · have hD := HO.out
    rw [replayP, if_pos hb] at hD
    subst hD
    clear HO
    go_enter Tryz.func19, Tryz.ntmps19
    go_wp2
    go_ret3
    exact ⟨_, rfl, ⟨_, rfl, Sl.nil _ _ _⟩, Below.refl _ _⟩
  · have hD := HO.out
    rw [replayP, if_neg hb] at hD
    subst hD
    clear HO
    go_enter Tryz.func19, Tryz.ntmps19
    go_wp2_with fail
    go_loopw [5, 6, 7, 8] (fun ul ua _ _ wr => ∃ (k : Nat) (vl : Value) (l : List Act) (at' : Nat), vl = ul ∧ k ≤ 60 ∧ ua = .int .i64 at' ∧ l.length = k ∧ at' ≤ t.length ∧ Own tAct 36 wr w.heap.size (fun k => w.heap.size ≤ k) vl l ∧ Below w.heap.size w wr ∧
      Hid (replayF 60 t = (l ++ (replayF (60 - k) (t.drop at')).1, (replayF (60 - k) (t.drop at')).2))) (fun ul _ _ _ _ => match ul with | .slice _ n _ => 60 - n | _ => 0)
    case atStart => exact ⟨0, _, [], 0, rfl, Nat.zero_le _, rfl, rfl, Nat.zero_le _, Own.nil, Below.refl _ _, by simp [Hid]⟩
    case round =>
      obtain ⟨k, vl, l, at', rfl, hk, rfl, hl, hs', ho, bW, hrep⟩ := hrel
      have zW := bW.size
      obtain ⟨al, cl, hvl, _, _⟩ := ho.shape
      rw [hl] at hvl
      by_cases hlt : k < 60
      · obtain ⟨m, hm⟩ : ∃ m, 60 - k = m + 1 := ⟨60 - k - 1, by omega⟩
        rw [hm] at hrep
        have hkI : (k : Int) < 60 := by omega
        have hsI : (at' : Int) ≤ t.length := by omega
        have HM := keepBack hm
        have HLL := keepBack hl
        have HVL := keepBack hvl
        subst hvl
        clear hm hl
        have T := refActFrom (t.drop at') wr (by rw [List.length_drop]; omega)
        have hdr : (bl t).extract at' t.length = bl (t.drop at') := bl_drop t at'
        by_cases hn : (actF (t.drop at')).2 = 0
        · have hA := actG_of hn
          have HN : Hid (replayF 60 t = (l, t.drop at')) := by rw [hrep.out, replayF_no hA]; simp [Hid]
          have HD : Hid ((t.drop at').length = t.length - at') := keepBack (List.length_drop)
          clear hA hrep
          generalize actF (t.drop at') = F at *
          obtain ⟨⟨kk, a, b, d⟩, n⟩ := F
          simp only at hn T
          subst hn
          go_wp2_with fail
          refine T.mono ?_; rintro e w1 ⟨_, rfl, ⟨vd, rfl, hd⟩, b1⟩
          clear T
          obtain ⟨ad, cd, hvd, _, _, _⟩ := hd.shape
          generalize d.length = nd at hvd
          subst hvd
          go_wp2
          go_ret3
          have b2 := b1.alloc (by have := b1.size; omega) (.cells #[.int .i64 kk, .string a, .string b, .slice ad nd cd] 36)
          refine ⟨_, rfl, ⟨.slice al k cl, by rw [HN.out]; show _ = Value.tuple #[_, .int .i64 ((t.length : Int) - ((t.drop at').length : Int)), _]; rw [HD.out, show (t.length : Int) - ((t.length - at' : Nat) : Int) = at' by omega]; rfl, ?_⟩, bW.trans (b2.mono zW)⟩
          rw [HN.out]
          exact (ho.sl (fun _ h => h) (fun _ h => h)).call b2
        · obtain ⟨hA, hnl⟩ := actG_some hn
          have hfit := actG_fit hA
          rw [List.length_drop] at hnl
          generalize actF (t.drop at') = F at *
          obtain ⟨⟨kk, a, b, d⟩, n⟩ := F
          simp only at hn T hA hnl hfit
          rw [List.drop_drop] at hA
          have HN : Hid (replayF 60 t = (l ++ [(kk, a, b, d)] ++ (replayF m (t.drop (at' + n))).1, (replayF m (t.drop (at' + n))).2)) := by rw [hrep.out, replayF_ok hA]; simp [Hid]
          clear hA hrep
          obtain ⟨ok1, ok2, ok3, _⟩ := hfit
          have hnI : ¬ (n : Int) = 0 := by omega
          have hnB : at' + n ≤ t.length := by omega
          go_wp2_with fail
          refine T.mono ?_; rintro e w1 ⟨_, rfl, ⟨vd, rfl, hd⟩, b1⟩
          clear T
          obtain ⟨ad, cd, hvd, _, _, _⟩ := hd.shape
          try simp only at hd hvd
          have HDD : Hid (d.length = d.length) := rfl
          generalize d.length = nd at hvd
          subst hvd
          clear HDD
          have s1 := b1.size
          have b1B := b1.alloc (by omega) (.cells #[.int .i64 kk, .string a, .string b, .slice ad nd cd] 36)
          have hrd : tAct.rd (w1.alloc (.cells #[.int .i64 kk, .string a, .string b, .slice ad nd cd] 36)) (fun k => wr.heap.size ≤ k) [.int .i64 kk, .string a, .string b, .slice ad nd cd] (kk, a, b, d) := ⟨_, rfl, ok1, ok2, ok3, hd.call ((Below.refl _ _).alloc (Nat.le_refl _) _)⟩
          have ho2 : Own tAct 36 (w1.alloc (.cells #[.int .i64 kk, .string a, .string b, .slice ad nd cd] 36)) w.heap.size (fun k => w.heap.size ≤ k) (.slice al k cl) l := ho.keep fun j _ hlt => b1B.block j hlt
          have hsrc := Src.one hrd 36
          rw [show (w1.alloc (.cells #[.int .i64 kk, .string a, .string b, .slice ad nd cd] 36)).heap.size = w1.heap.size + 1 by simp] at hsrc
          have hvb : ∀ g, (Value.slice al k cl).ownBlock = some g → g < wr.heap.size := fun g hg => (ho.block g hg).2
          have hD : ∀ j, wr.heap.size ≤ j → j < ((w1.alloc (.cells #[.int .i64 kk, .string a, .string b, .slice ad nd cd] 36)).alloc (.cells #[.int .i64 kk, .string a, .string b, .slice ad nd cd] 36)).heap.size → w.heap.size ≤ j ∧ some j ≠ (Value.slice al k cl).ownBlock := fun j hj _ => ⟨by omega, fun e => by have := hvb j e.symm; omega⟩
          have hNN : l.length + [(kk, a, b, d)].length ≤ 1000000000000 := by have := HLL.out; rw [List.length_singleton]; omega
          have hBB : w.heap.size ≤ ((w1.alloc (.cells #[.int .i64 kk, .string a, .string b, .slice ad nd cd] 36)).alloc (.cells #[.int .i64 kk, .string a, .string b, .slice ad nd cd] 36)).heap.size := by simp; omega
          go_wp2_with (at_builtin; refine wpList_grow rfl (.tmp 24) (.tmp 26) rfl aAct rfl (ho2.alloc _) rfl (by simp) hsrc (by simp) hD hNN hBB ?_; intro v3 w3 ho3 hg3)
          have bL := (b1B.alloc (by simp; omega) (.cells #[.int .i64 kk, .string a, .string b, .slice ad nd cd] 36))
          have b3 : Below w.heap.size w w3 := (bW.trans (bL.mono zW)).grown hg3 hBB fun g hg => (ho.block g hg).1
          go_roundw
          case rel => exact ⟨k + 1, v3, l ++ [(kk, a, b, d)], at' + n, rfl, by omega, by go_num, by simp; exact HLL.out, hnB, ho3, b3, by rw [show 60 - (k + 1) = m from by have := HM.out; omega]; exact HN⟩
          case measure =>
            obtain ⟨a3, c3, hv3, _, _⟩ := ho3.shape
            have := HLL.out
            rw [hv3]
            simp
            omega
      · have hkn : 60 - k = 0 := by omega
        rw [hkn] at hrep
        have HN : Hid (replayF 60 t = (l, t.drop at')) := by rw [hrep.out]; simp [replayF, Hid]
        have HD : Hid ((t.drop at').length = t.length - at') := keepBack (List.length_drop)
        have hkI : ¬ (k : Int) < 60 := by omega
        clear hkn
        subst hvl
        go_wp2
        go_ret3
        refine ⟨_, rfl, ⟨.slice al k cl, by rw [HN.out]; show _ = Value.tuple #[_, .int .i64 ((t.length : Int) - ((t.drop at').length : Int)), _]; rw [HD.out, show (t.length : Int) - ((t.length - at' : Nat) : Int) = at' by omega]; rfl, ?_⟩, bW⟩
        rw [HN.out]
        exact ho.sl (fun _ h => h) (fun _ h => h)

end Go.Pch
end
