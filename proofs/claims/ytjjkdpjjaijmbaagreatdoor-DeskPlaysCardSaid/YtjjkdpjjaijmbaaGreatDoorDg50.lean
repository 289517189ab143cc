/- The document's desk: scripts. The walk of a builder's WriteString: just what it changes. The walk of Play. (gen_dkx.py) -/
import Derived.Test.YtjjkdpjjaijmbaaGreatDoorDg49
import Derived.Test.YtjjkdpjjaijmbaaGreatDoorDg48
import Derived.Test.YtjjkdpjjaijmbaaGreatDoorDg47
import Derived.Test.YtjjkdpjjaijmbaaGreatDoorDg9
import Derived.Shelf.Strings.BuilderK
import Derived.OrdersIn
import Derived.RangeFuncCalls
section
namespace Go.Pch
open Go.RowKit Go.Proofs
set_option maxRecDepth 100000
theorem lin_none : ∀ s : Bytes, (∀ c ∈ s, c ≠ 10) → lin s = []
  | [], _ => rfl
  | c :: s, h => by rw [lin, if_neg (h c (by simp)), lin_none s fun d hd => h d (by simp [hd])]
theorem lin_cut : ∀ (a b : Bytes), (∀ c ∈ a, c ≠ 10) → lin (a ++ 10 :: b) = a :: lin b
  | [], b, _ => by simp [lin]
  | c :: a, b, h => by rw [List.cons_append, lin, if_neg (h c (by simp)), lin_cut a b fun d hd => h d (by simp [hd])]
def NoLf (t : Bytes) (f k : Nat) : Prop := ∀ j c, f ≤ j → j < k → t[j]? = some c → c ≠ 10
theorem NoLf.next {t : Bytes} {f k : Nat} {c : UInt8} (h : NoLf t f k) (hc : t[k]? = some c) (hn : c ≠ 10) : NoLf t f (k + 1) := fun j d h1 h2 hd => by
  by_cases e : j = k
  · subst e; rw [hc] at hd; cases hd; exact hn
  · exact h j d h1 (by omega) hd
theorem NoLf.piece {t : Bytes} {f k : Nat} (h : NoLf t f k) : ∀ c ∈ (t.drop f).take (k - f), c ≠ 10 := by
  intro c hc
  obtain ⟨j, hj⟩ := List.getElem?_of_mem hc
  rw [List.getElem?_take] at hj
  split at hj
  · rename_i hlt
    rw [List.getElem?_drop] at hj
    exact h (f + j) c (by omega) (by omega) hj
  · cases hj
theorem lin_line {t : Bytes} {f k : Nat} (h : NoLf t f k) (hf : f ≤ k) (hc : t[k]? = some 10) : lin (t.drop f) = (t.drop f).take (k - f) :: lin (t.drop (k + 1)) := by
  obtain ⟨hk, hck⟩ := List.getElem?_eq_some_iff.1 hc
  have e : t.drop f = (t.drop f).take (k - f) ++ 10 :: t.drop (k + 1) := by
    conv => lhs; rw [← List.take_append_drop (k - f) (t.drop f)]
    rw [List.drop_drop, show f + (k - f) = k by omega, List.drop_eq_getElem_cons hk, hck]
  conv => lhs; rw [e]
  exact lin_cut _ _ h.piece
theorem lin_end {t : Bytes} {f : Nat} (h : NoLf t f t.length) : lin (t.drop f) = [] := by
  refine lin_none _ fun c hc => ?_
  refine h.piece c ?_
  rw [List.take_of_length_le (by simp)]
  exact hc
theorem count_next {t : Bytes} {k m : Nat} {c : UInt8} (h : (t.take k).count 10 = m) (hc : t[k]? = some c) : (t.take (k + 1)).count 10 = if c = 10 then m + 1 else m := by
  rw [List.take_add_one, hc, List.count_append, h]
  by_cases e : c = 10
  · subst e; simp
  · rw [if_neg e]; simp [e]
theorem count_le_all (t : Bytes) (k : Nat) : (t.take k).count 10 ≤ t.count 10 := (List.take_sublist k t).count_le _
theorem playP_nil : playP [] = ([], 0) := by decide +kernel
set_option maxHeartbeats 4000000 in
theorem refPlayOfNil (w : World) : Calls Tryz.prog 5 #[.string (bl [])] w (Ret w fun x _ => x = .tuple #[.string (bl (playP []).1), .int .i64 (playP []).2]) := by
  rw [playP_nil]
  have hsz : (bl []).size = 0 := rfl
  go_enter Tryz.func5, Tryz.ntmps5
  go_wp2_with fail
  go_loop [4, 5] (fun c i => i = .int .i64 0 ∧ c = .int .i64 0) (fun _ _ => 0)
  case atStart => exact ⟨rfl, rfl⟩
  case round =>
    obtain ⟨rfl, rfl⟩ := hrel
    go_wp2_with fail
    refine (refBegin w).mono ?_; rintro e w2 ⟨_, rfl, hR2, b2⟩
    obtain ⟨a2, n2, c2, a3, n3, c3, rfl⟩ := hR2.shape'
    go_wp2_with fail
    go_loopw [7, 9] (fun out i wr => out = .string (bl []) ∧ i = .int .i64 0 ∧ Below w.heap.size w wr) (fun _ _ _ => 0)
    case atStart => exact ⟨rfl, rfl, b2.alloc b2.size _⟩
    case round =>
      obtain ⟨rfl, rfl, hb⟩ := hrel
      go_wp2
      go_ret2
      exact ⟨_, rfl, rfl, hb⟩
set_option maxHeartbeats 4000000 in
theorem refPlayOfMany (t : Bytes) (w : World) (ht : t.length ≤ maxLen) (h : 4096 < t.length ∨ 60 < t.count 10) : Calls Tryz.prog 5 #[.string (bl t)] w (Ret w fun x _ => x = .tuple #[.string (bl (playP t).1), .int .i64 (playP t).2]) := by
  rw [playP, if_pos h]
  have hsz := bl_size t
  unfold maxLen at ht
  have HH := keepBack h
  clear h
  go_enter Tryz.func5, Tryz.ntmps5
  go_wp2_with fail
  go_loop [4, 5] (fun c i => ∃ (k m : Nat), k ≤ t.length ∧ m ≤ 61 ∧ i = .int .i64 k ∧ c = .int .i64 m ∧ Hid ((t.take k).count 10 = m)) (fun _ i => t.length - (intOf i).toNat)
  case atStart => exact ⟨0, 0, Nat.zero_le _, Nat.zero_le _, rfl, rfl, rfl⟩
  case round =>
    obtain ⟨k, m, hk, hm, rfl, rfl, HM⟩ := hrel
    by_cases hlt : k < t.length
    · by_cases hm60 : m ≤ 60
      · obtain ⟨c, hck⟩ : ∃ c, t[k]? = some c := ⟨_, List.getElem?_eq_getElem hlt⟩
        have hc := fun h' => bl_get hck h'
        have HN := keepBack (count_next HM.out hck)
        clear hck
        by_cases h10 : c = 10
        · subst h10
          go_wp2
          go_round
          case rel => exact ⟨k + 1, m + 1, by omega, by omega, by go_num, by go_num, HN⟩
          case measure => simp [intOf]; omega
        · have h10' : ((c.toNat : Int) == 10) = false := by rw [beq_eq_false_iff_ne]; intro h; exact h10 (UInt8.toNat_inj.1 (by simpa using Int.natCast_inj.1 (show (c.toNat : Int) = ((10 : Nat) : Int) from h)))
          have HN2 : Hid ((t.take (k + 1)).count 10 = m) := keepBack (by have := HN.out; rwa [if_neg h10] at this)
          clear h10
          go_wp2
          go_round
          case rel => exact ⟨k + 1, m, by omega, by omega, by go_num, by go_num, HN2⟩
          case measure => simp [intOf]; omega
      · by_cases hb : 4096 < t.length
        · go_wp2
          go_ret2
          exact ⟨_, rfl, rfl, Below.refl _ _⟩
        · go_wp2
          go_ret2
          exact ⟨_, rfl, rfl, Below.refl _ _⟩
    · by_cases hb : 4096 < t.length
      · go_wp2
        go_ret2
        exact ⟨_, rfl, rfl, Below.refl _ _⟩
      · have hm60 : 60 < m := by
          have h1 := HM.out
          rw [List.take_of_length_le (by omega)] at h1
          have h2 := HH.out
          omega
        go_wp2
        go_ret2
        exact ⟨_, rfl, rfl, Below.refl _ _⟩
theorem boxCells {W : World} {g : Nat} {x y : Value} {T : TypeId} (h : W.heap[g]? = some (.cells #[x, y] T)) : W.cell? ⟨g, 0, none⟩ = some x ∧ W.cell? ⟨g, 1, none⟩ = some y ∧ ∀ i, W.frozen? ⟨g, i, none⟩ = false :=
  ⟨by rw [World.cell?, h]; rfl, by rw [World.cell?, h]; rfl, fun i => frozen_of_row W g i _ _ h⟩
theorem play_next {t X s : Bytes} {f k : Nat} {R : Repo} (h : playL beginR (lin t) = X ++ playL R (lin (t.drop f))) (hl : lin (t.drop f) = s :: lin (t.drop (k + 1))) {R' : Repo} {Y : Bytes} (hp : lineP R s = (R', Y)) :
    playL beginR (lin t) = (X ++ Y ++ [10]) ++ playL R' (lin (t.drop (k + 1))) := by
  rw [h, hl, playL, hp]
  simp
theorem begin_right : repoErr beginR = 0 := by decide +kernel
structure LineW (w w3 W : World) (rb nb : Nat) (x0 x1 y0 y1 : Value) (R : Repo) (tx : ByteArray) (p : Out) : Prop where
  row : W.heap[rb]? = some (.cells #[x0, x1] 33)
  new : W.heap[nb]? = some (.cells #[y0, y1] 33)
  step : Step (fun j => j = rb) w3 W
  ne : nb ≠ rb
  rep : Rp W (fun j => w.heap.size ≤ j ∧ j ≠ rb) (.agg #[x0, x1]) R
  got : p.2.2 = 0 → tx = bl p.2.1 ∧ Rp W (fun j => w.heap.size ≤ j ∧ j ≠ rb) (.agg #[y0, y1]) p.1
theorem lineOne {w w3 wr w4 : World} {rb : Nat} {x0 x1 y0 y1 : Value} {R : Repo} {tx : ByteArray} {p : Out} (hS : Step (fun j => j = rb) w3 wr) (er : wr.heap[rb]? = some (.cells #[x0, x1] 33)) (hR : Rp wr (fun j => w.heap.size ≤ j ∧ j ≠ rb) (.agg #[x0, x1]) R) (hn : w.heap.size ≤ wr.heap.size)
    (b4 : Below wr.drew.heap.size wr.drew w4) (hq : p.2.2 = 0 → tx = bl p.2.1 ∧ Rp w4 (fun j => ((w.heap.size ≤ j ∧ j ≠ rb) ∧ j < wr.heap.size) ∨ wr.drew.heap.size ≤ j) (.agg #[y0, y1]) p.1) : LineW w w3 (w4.alloc (.cells #[y0, y1] 33)) rb w4.heap.size x0 x1 y0 y1 R tx p := by
  have hl := (Array.getElem?_eq_some_iff.1 er).1
  have b : Below wr.heap.size wr w4 := (Below.refl wr.heap.size wr).drew.trans b4
  have z4 := b.size
  have bN := (Below.refl w4.heap.size w4).alloc (Nat.le_refl _) (.cells #[y0, y1] 33)
  have bb : Below wr.heap.size wr (w4.alloc (.cells #[y0, y1] 33)) := b.trans (bN.mono z4)
  have zd : wr.drew.heap.size = wr.heap.size := rfl
  refine ⟨(bb.block rb hl).trans er, heap_alloc_new _ _, hS.on (Step.of_below bb), by omega, hR.call bb, fun h0 => ?_⟩
  obtain ⟨h1, h2⟩ := hq h0
  exact ⟨h1, (h2.call bN).more fun j hj _ => by omega⟩
theorem lineTwo {w w3 wr w4 : World} {rb : Nat} {x0 x1 y0 y1 : Value} {R : Repo} {tx : ByteArray} {p : Out} (hS : Step (fun j => j = rb) w3 wr) (er : wr.heap[rb]? = some (.cells #[x0, x1] 33)) (hR : Rp wr (fun j => w.heap.size ≤ j ∧ j ≠ rb) (.agg #[x0, x1]) R) (hn : w.heap.size ≤ wr.heap.size)
    (b4 : Below (wr.alloc (.cells #[.slice none 0 0, .slice none 0 0] 33)).drew.heap.size (wr.alloc (.cells #[.slice none 0 0, .slice none 0 0] 33)).drew w4)
    (hq : p.2.2 = 0 → tx = bl p.2.1 ∧ Rp w4 (fun j => ((w.heap.size ≤ j ∧ j ≠ rb) ∧ j < wr.heap.size) ∨ (wr.alloc (.cells #[.slice none 0 0, .slice none 0 0] 33)).drew.heap.size ≤ j) (.agg #[y0, y1]) p.1) :
    LineW w w3 ((w4.setCell ⟨wr.heap.size, 0, none⟩ y0).setCell ⟨wr.heap.size, 1, none⟩ y1) rb wr.heap.size x0 x1 y0 y1 R tx p := by
  have hl := (Array.getElem?_eq_some_iff.1 er).1
  have zd : (wr.alloc (.cells #[.slice none 0 0, .slice none 0 0] 33)).drew.heap.size = wr.heap.size + 1 := by show (wr.alloc (.cells #[.slice none 0 0, .slice none 0 0] 33)).heap.size = _; simp
  have b1 : Below wr.heap.size wr (wr.alloc (.cells #[.slice none 0 0, .slice none 0 0] 33)).drew := ((Below.refl _ _).alloc (Nat.le_refl _) _).drew
  have b : Below wr.heap.size wr w4 := b1.trans (b4.mono (by rw [zd]; omega))
  have en : w4.heap[wr.heap.size]? = some (.cells #[.slice none 0 0, .slice none 0 0] 33) := (b4.block wr.heap.size (by rw [zd]; omega)).trans (heap_alloc_new wr (.cells #[.slice none 0 0, .slice none 0 0] 33))
  have bb : Below wr.heap.size wr ((w4.setCell ⟨wr.heap.size, 0, none⟩ y0).setCell ⟨wr.heap.size, 1, none⟩ y1) := (b.setCell (by simp) _).setCell (by simp) _
  have hk : ∀ j, j ≠ wr.heap.size → ((w4.setCell ⟨wr.heap.size, 0, none⟩ y0).setCell ⟨wr.heap.size, 1, none⟩ y1).heap[j]? = w4.heap[j]? := fun j hj => (heap_setCell_other _ _ _ _ hj).trans (heap_setCell_other _ _ _ _ hj)
  refine ⟨(bb.block rb hl).trans er, heap_setCell_same _ _ 1 _ _ y1 (heap_setCell_same w4 _ 0 _ _ y0 en), hS.on (Step.of_below bb), by omega, hR.call bb, fun h0 => ?_⟩
  obtain ⟨h1, h2⟩ := hq h0
  rw [zd] at h2
  exact ⟨h1, (h2.keep fun j hj _ => hk j (by omega)).more fun j hj _ => by omega⟩
set_option maxHeartbeats 4000000 in
theorem refPlayOf (t : Bytes) (w : World) (hb : t.length ≤ 4096) (hcnt : t.count 10 ≤ 60) (h0 : 0 < t.length) : Calls Tryz.prog 5 #[.string (bl t)] w (Ret w fun x _ => x = .tuple #[.string (bl (playP t).1), .int .i64 (playP t).2]) := by
  obtain ⟨O, hO⟩ : ∃ O, playP t = O := ⟨_, rfl⟩
  rw [hO]
  have HO := keepBack hO
  clear hO
  have hsz := bl_size t
  obtain ⟨cl, hcl⟩ : ∃ c, t[t.length - 1]? = some c := ⟨_, List.getElem?_eq_getElem (by omega)⟩
  have hlast : t.getLast? = some cl := by rw [List.getLast?_eq_getElem?, hcl]
  have hcx := fun h' => bl_get hcl h'
  have HCL := keepBack hlast
  clear hlast hcl
  go_enter Tryz.func5, Tryz.ntmps5
  go_wp2_with fail
  go_loop [4, 5] (fun c i => ∃ (k m : Nat), k ≤ t.length ∧ m ≤ 60 ∧ i = .int .i64 k ∧ c = .int .i64 m ∧ Hid ((t.take k).count 10 = m)) (fun _ i => t.length - (intOf i).toNat)
  case atStart => exact ⟨0, 0, Nat.zero_le _, Nat.zero_le _, rfl, rfl, rfl⟩
  case round =>
    obtain ⟨k, m, hk, hm, rfl, rfl, HM⟩ := hrel
    by_cases hlt : k < t.length
    · obtain ⟨c, hck⟩ : ∃ c, t[k]? = some c := ⟨_, List.getElem?_eq_getElem hlt⟩
      have hc := fun h' => bl_get hck h'
      have HN := keepBack (count_next HM.out hck)
      have hle := count_le_all t (k + 1)
      clear hck
      by_cases h10 : c = 10
      · subst h10
        have hm1 : m + 1 ≤ 60 := by have := HN.out; rw [if_pos rfl] at this; omega
        clear hle
        go_wp2
        go_round
        case rel => exact ⟨k + 1, m + 1, by omega, hm1, by go_num, by go_num, HN⟩
        case measure => simp [intOf]; omega
      · have h10' : ((c.toNat : Int) == 10) = false := by rw [beq_eq_false_iff_ne]; intro h; exact h10 (UInt8.toNat_inj.1 (by simpa using Int.natCast_inj.1 (show (c.toNat : Int) = ((10 : Nat) : Int) from h)))
        have HN2 : Hid ((t.take (k + 1)).count 10 = m) := keepBack (by have := HN.out; rwa [if_neg h10] at this)
        clear h10 hle
        go_wp2
        go_round
        case rel => exact ⟨k + 1, m, by omega, by omega, by go_num, by go_num, HN2⟩
        case measure => simp [intOf]; omega
    · by_cases h10 : cl = 10
      · subst h10
        have hP : O = (playL beginR (lin t), 0) := by
          rw [← HO.out, playP, if_neg (by omega), if_neg (fun h => h.2 HCL.out)]
        have HP := keepBack hP
        clear hP HO
        go_wp2_with fail
        refine (refBegin w).mono ?_; rintro e w2 ⟨_, rfl, hR2, b2⟩
        have z2 := b2.size
        obtain ⟨a2, n2, c2, a3, n3, c3, rfl⟩ := hR2.shape'
        go_wp2_with fail
        obtain ⟨w3, hw3⟩ : ∃ w3, w3 = w2.alloc (.cells #[.slice a2 n2 c2, .slice a3 n3 c3] 33) := ⟨_, rfl⟩
        rw [← hw3]
        have z3 : w3.heap.size = w2.heap.size + 1 := by rw [hw3]; simp
        have b3 : Below w2.heap.size w2 w3 := by rw [hw3]; exact (Below.refl _ _).alloc (Nat.le_refl _) _
        have e3 : w3.heap[w2.heap.size]? = some (.cells #[.slice a2 n2 c2, .slice a3 n3 c3] 33) := by rw [hw3]; exact heap_alloc_new _ _
        clear hw3
        have low3 : Below w.heap.size w w3 := b2.trans (b3.mono z2)
        have hR3 : Rp w3 (fun j => w.heap.size ≤ j ∧ j ≠ w2.heap.size) (.agg #[.slice a2 n2 c2, .slice a3 n3 c3]) beginR := (hR2.more fun j hj hl => ⟨hj, by omega⟩).call b3
        have hwrb : w.heap.size ≤ w2.heap.size := z2
        generalize hrb : w2.heap.size = rb at *
        clear hrb hR2 b2 b3 hlt
        go_loopw [7, 8, 9] (fun out fr iv wr => ∃ (k f : Nat) (R : Repo) (X : Bytes) (x0 x1 : Value), k ≤ t.length ∧ f ≤ k ∧ iv = .int .i64 k ∧ fr = .int .i64 f ∧ out = .string (bl X) ∧ Step (fun j => j = rb) w3 wr ∧ wr.heap[rb]? = some (.cells #[x0, x1] 33) ∧ Rp wr (fun j => w.heap.size ≤ j ∧ j ≠ rb) (.agg #[x0, x1]) R ∧ Hid (repoErr R = 0) ∧ X.length ≤ k * 100001 ∧ Hid (playL beginR (lin t) = X ++ playL R (lin (t.drop f))) ∧ Hid (NoLf t f k)) (fun _ _ iv _ => t.length - (intOf iv).toNat)
        case atStart => exact ⟨0, 0, beginR, [], _, _, Nat.zero_le _, Nat.le_refl _, rfl, rfl, rfl, Step.refl _ _, e3, hR3, begin_right, Nat.zero_le _, keepBack (by rw [List.drop_zero, List.nil_append]), keepBack fun j c _ h => by omega⟩
        case round =>
          obtain ⟨k, f, R, X, x0, x1, hk, hf, rfl, rfl, rfl, hS, er, hRr, HRE, hXl, HPL, HNF⟩ := hrel
          have zr := hS.size
          obtain ⟨a4, n4, c4, a5, n5, c5, hv⟩ := hRr.shape'
          simp only [Value.agg.injEq, Array.mk.injEq, List.cons.injEq, and_true] at hv
          obtain ⟨rfl, rfl⟩ := hv
          by_cases hlt : k < t.length
          · obtain ⟨c, hck⟩ : ∃ c, t[k]? = some c := ⟨_, List.getElem?_eq_getElem hlt⟩
            have hc := fun h' => bl_get hck h'
            by_cases h10 : c = 10
            · subst h10
              have HLN := keepBack (lin_line HNF.out hf hck)
              have HXT := keepBack (bl_cut t f k)
              obtain ⟨s, hs⟩ : ∃ s, s = (t.drop f).take (k - f) := ⟨_, rfl⟩
              rw [← hs] at HLN HXT
              have hsl : s.length ≤ 4096 := by rw [hs, List.length_take]; have := List.length_drop (i := f) (l := t); omega
              clear hs hck HNF
              obtain ⟨p, hp⟩ : ∃ p, p = wordsO R (spl s) := ⟨_, rfl⟩
              have hpb := wordsO_b HRE.out (spl s)
              rw [← hp] at hpb
              obtain ⟨pb0, pb1⟩ := hpb
              have hwr : w.heap.size ≤ wr.heap.size := by omega
              have T : ∀ W, Below wr.heap.size wr W → Calls Tryz.prog 16 #[.agg #[.slice a4 n4 c4, .slice a5 n5 c5], .string (bl s)] W (Ret W (PlayedPost W.heap.size (fun j => (w.heap.size ≤ j ∧ j ≠ rb) ∧ j < wr.heap.size) p)) := fun W hW => by
                rw [hp]
                exact refPlayed _ R s hsl HRE.out _ W ((hRr.more fun j hj hl => ⟨hj, hl⟩).call hW)
              have HPP := keepBack hp
              clear hp
              have hrl := (Array.getElem?_eq_some_iff.1 er).1
              have KR : ∀ W, Below wr.heap.size wr W → Below wr.heap.size wr W ∧ W.cell? ⟨rb, 0, none⟩ = some (.slice a4 n4 c4) ∧ W.cell? ⟨rb, 1, none⟩ = some (.slice a5 n5 c5) := fun W hW => by
                have e := (hW.block rb hrl).trans er
                exact ⟨hW, by rw [World.cell?, e]; rfl, by rw [World.cell?, e]; rfl⟩
              obtain ⟨_, y0, y1⟩ := KR wr (Below.refl _ _)
              have B0 : Below wr.heap.size wr wr.drew := (Below.refl _ _).drew
              have BN : Below wr.heap.size wr (wr.alloc (.cells #[.slice none 0 0, .slice none 0 0] 33)) := (Below.refl _ _).alloc (Nat.le_refl _) _
              have B2 : Below wr.heap.size wr (wr.alloc (.cells #[.slice none 0 0, .slice none 0 0] 33)).drew := BN.drew
              have hkf : (f : Int) ≤ k := by omega
              have hXT := HXT.out
              go_wp2_with fail
              go_cut [10, 11, 12] from 48 to 79 (fun ux ut ue wc => ∃ (nb : Nat) (a : Option Addr) (n c : Nat) (a' : Option Addr) (n' c' : Nat) (tx : ByteArray), ux = .pointer (some ⟨nb, 0, none⟩) ∧ ut = .string tx ∧ ue = .int .i64 p.2.2 ∧ LineW w w3 wc rb nb (.slice a4 n4 c4) (.slice a5 n5 c5) (.slice a n c) (.slice a' n' c') R tx p)
              case first =>
                go_region_held3 (fun W => Below wr.heap.size wr W ∧ W.cell? ⟨rb, 0, none⟩ = some (.slice a4 n4 c4) ∧ W.cell? ⟨rb, 1, none⟩ = some (.slice a5 n5 c5))
                  (first
                    | exact KR _ (Below.refl _ _)
                    | exact KR _ B0
                    | exact KR _ BN
                    | exact KR _ B2
                    | exact KR _ b34
                    | exact KR _ (b34.alloc b34.size _)
                    | exact KR _ ((b34.setCell (by simp) _).setCell (by simp) _)
                    | fail)
                  (first
                    | (go_at_call 16; refine (T _ B2).mono ?_; rintro e w4 ⟨_, rfl, ⟨a, n, c, a', n', c', tx, rfl, hq⟩, b4⟩; have b34 := B2.trans (b4.mono B2.size); obtain ⟨nb0, nb1, nbf⟩ := newBox b4; have DW := lineTwo hS er hRr hwr b4 hq)
                    | (go_at_call 16; refine (T _ B0).mono ?_; rintro e w4 ⟨_, rfl, ⟨a, n, c, a', n', c', tx, rfl, hq⟩, b4⟩; have b34 := B0.trans (b4.mono B0.size); have DW := lineOne hS er hRr hwr b4 hq)
                    | fail)
                all_goals
                  clear T KR y0 y1
                  go_wp2_with fail
                  go_meet
                  case rel => exact ⟨_, _, _, _, _, _, _, _, rfl, rfl, rfl, DW⟩
              case rest =>
                obtain ⟨nb, a, n, c, a', n', c', tx, rfl, rfl, rfl, DW⟩ := hcut
                clear T KR y0 y1 B0 BN B2 hRr er hS hc
                obtain ⟨dr, dn, ds, dne, drep, dgot⟩ := DW
                obtain ⟨g0, g1, gf⟩ := boxCells dr
                obtain ⟨n0, n1, nf⟩ := boxCells dn
                have hlen := lineP_len HRE.out s
                by_cases hz : p.2.2 = 0
                · obtain ⟨htx, hgot⟩ := dgot hz
                  subst htx
                  have hLP : lineP R s = (p.1, p.2.1) := by rw [HPP.out] at hz ⊢; exact lineP_ok hz
                  replace hlen : p.2.1.length ≤ 100000 := by rw [hLP] at hlen; exact hlen
                  have HRE2 : Hid (repoErr p.1 = 0) := keepBack (by have := lineP_right HRE.out s; rwa [hLP] at this)
                  have HPL2 := keepBack (play_next HPL.out HLN.out hLP)
                  have r1 : ¬ 9223372036854775807 < (bl X).size + (bl p.2.1).size := by rw [bl_size, bl_size]; omega
                  have r2 : ¬ 9223372036854775807 < (bl X).size + (bl p.2.1).size + 1 := by rw [bl_size, bl_size]; omega
                  have hXl2 : (X ++ p.2.1 ++ [10]).length ≤ (k + 1) * 100001 := by simp only [List.length_append, List.length_cons, List.length_nil]; omega
                  clear hLP hlen dgot hcx pb0 pb1
                  go_wp2_with fail
                  go_roundw
                  case rel =>
                    refine ⟨k + 1, k + 1, p.1, X ++ p.2.1 ++ [10], _, _, by omega, Nat.le_refl _, by go_num, by go_num, by rw [← bl_append, ← bl_append]; rfl, (ds.on (Step.setCell _ _ rfl)).on (Step.setCell _ _ rfl), heap_setCell_same _ rb 1 _ _ _ (heap_setCell_same _ rb 0 _ _ _ dr), ?_, HRE2, hXl2, HPL2, keepBack fun j c h1 h2 _ => by omega⟩
                    exact hgot.keep fun j hj _ => (heap_setCell_other _ _ _ _ (by simpa using hj.2)).trans (heap_setCell_other _ _ _ _ (by simpa using hj.2))
                  case measure => simp [intOf]; omega
                · have hLP : lineP R s = (R, [101, 114, 114, 111, 114, 32] ++ dgL p.2.2) := by rw [HPP.out] at hz ⊢; exact lineP_no hz
                  replace hlen : ([101, 114, 114, 111, 114, 32] ++ dgL p.2.2).length ≤ 100000 := by rw [hLP] at hlen; exact hlen
                  have HPL2 := keepBack (play_next HPL.out HLN.out hLP)
                  have hdl := dgL_len (n := p.2.2) (by omega)
                  have r0 : ¬ 9223372036854775807 < 6 + (bl (dgL p.2.2)).size := by rw [bl_size]; omega
                  have r1 : ¬ 9223372036854775807 < (bl X).size + (bl (101 :: 114 :: 114 :: 111 :: 114 :: 32 :: dgL p.2.2)).size := by rw [bl_size, bl_size]; simp only [List.length_cons]; omega
                  have r2 : ¬ 9223372036854775807 < (bl X).size + (bl (101 :: 114 :: 114 :: 111 :: 114 :: 32 :: dgL p.2.2)).size + 1 := by rw [bl_size, bl_size]; simp only [List.length_cons]; omega
                  have hXl2 : (X ++ ([101, 114, 114, 111, 114, 32] ++ dgL p.2.2) ++ [10]).length ≤ (k + 1) * 100001 := by simp only [List.length_append, List.length_cons, List.length_nil]; omega
                  clear hLP hlen dgot hcx
                  go_wp2_with fail
                  refine (refDigits p.2.2 wc (by unfold i64ok; omega)).mono ?_; rintro e w6 ⟨_, rfl, rfl, b6⟩
                  have e6 := (b6.block rb (Array.getElem?_eq_some_iff.1 dr).1).trans dr
                  have hstr : ByteArray.mk #[101, 114, 114, 111, 114, 32] ++ bl (dgL p.2.2) = bl ([101, 114, 114, 111, 114, 32] ++ dgL p.2.2) := bl_append _ _
                  have d6 := ds.on (Step.of_below (X := fun j => j = rb) b6)
                  have R6 := drep.call b6
                  clear g0 g1 gf n0 n1 nf
                  go_wp2_with fail
                  go_roundw
                  case rel =>
                    exact ⟨k + 1, k + 1, R, X ++ ([101, 114, 114, 111, 114, 32] ++ dgL p.2.2) ++ [10], _, _, by omega, Nat.le_refl _, by go_num, by go_num, by rw [← bl_append, ← bl_append]; rfl, d6, e6, R6, HRE, hXl2, HPL2, keepBack fun j c h1 h2 _ => by omega⟩
                  case measure => simp [intOf]; omega
            · have h10' : ((c.toNat : Int) == 10) = false := by rw [beq_eq_false_iff_ne]; intro h; exact h10 (UInt8.toNat_inj.1 (by simpa using Int.natCast_inj.1 (show (c.toNat : Int) = ((10 : Nat) : Int) from h)))
              have HNF2 := keepBack (HNF.out.next hck h10)
              have hXl2 : X.length ≤ (k + 1) * 100001 := Nat.le_trans hXl (Nat.mul_le_mul_right _ (Nat.le_succ k))
              clear h10 hck
              go_wp2
              go_roundw
              case rel => exact ⟨k + 1, f, R, X, _, _, by omega, by omega, by go_num, rfl, rfl, hS, er, hRr, HRE, hXl2, HPL, HNF2⟩
              case measure => simp [intOf]; omega
          · obtain rfl : k = t.length := by omega
            have HE : Hid (O = (X, 0)) := keepBack (by rw [HP.out, HPL.out, lin_end HNF.out]; simp [playL])
            clear hXl
            go_wp2
            go_ret2
            exact ⟨_, rfl, by rw [HE.out]; rfl, low3.trans (hS.below (fun j hj => by omega) (by omega))⟩
      · have h10' : ((cl.toNat : Int) == 10) = false := by rw [beq_eq_false_iff_ne]; intro h; exact h10 (UInt8.toNat_inj.1 (by simpa using Int.natCast_inj.1 (show (cl.toNat : Int) = ((10 : Nat) : Int) from h)))
        have hP : O = ([], 1) := by
          rw [← HO.out, playP, if_neg (by omega), if_pos ⟨by rintro rfl; simp at h0, by rw [HCL.out]; simpa using h10⟩]
        subst hP
        go_wp2
        go_ret2
        exact ⟨_, rfl, rfl, Below.refl _ _⟩
end Go.Pch
end

section
namespace Go.Pch
open Go.RowKit Go.Proofs
set_option maxRecDepth 100000
structure Bld (w : World) (B b : Nat) (v : Value) (l : Bytes) : Prop where
  low : B ≤ b
  row : ∃ p, (p = .pointer none ∨ p = .pointer (some ⟨b, 0, none⟩)) ∧ w.heap[b]? = some (.cells #[p, v] 40)
  own : Own tByte 5 w B (fun _ => False) v l
  ne : v.ownBlock ≠ some b
theorem Bld.lt {w : World} {B b : Nat} {v : Value} {l : Bytes} (h : Bld w B b v l) : b < w.heap.size := by
  obtain ⟨p, _, h1⟩ := h.row
  exact (Array.getElem?_eq_some_iff.1 h1).1
set_option maxHeartbeats 1000000 in
theorem deskWrite (B b : Nat) (v : Value) (l : Bytes) (s : ByteArray) (w : World) (h : Bld w B b v l) (hn : l.length + s.size ≤ 1000000000000) :
    Calls Tryz.prog 11 #[.pointer (some ⟨b, 0, none⟩), .string s] w fun e w' => (∃ x, e = .returned x) ∧ ∃ v', Bld w' B b v' (l ++ s.data.toList) ∧ (v'.ownBlock = v.ownBlock ∨ v'.ownBlock = some w.heap.size) ∧ Step (fun k => k = b ∨ some k = v.ownBlock) w w' := by
  have hlt := h.lt
  obtain ⟨hlow, ⟨p, hp, hrow⟩, ho, hne⟩ := h
  have hself : Hid (∃ w1, Calls Tryz.prog 24 #[.pointer (some ⟨b, 0, none⟩)] w (fun e w' => e = .returned (.tuple #[]) ∧ w' = w1) ∧ w1.heap.size = w.heap.size ∧ w1.heap[b]? = some (.cells #[.pointer (some ⟨b, 0, none⟩), v] 40) ∧ Step (fun k => k = b) w w1 ∧ Own tByte 5 w1 B (fun _ => False) v l) := keepBack (by
    rcases hp with rfl | rfl
    · refine ⟨w.setCell ⟨b, 0, none⟩ (.pointer (some ⟨b, 0, none⟩)), Any.Builder_copyCheck_fresh (ρ := Tryz.lays156_ren) { Tryz.lays156 with } Tryz.Builder_Extra_156.toX72 b w (by rw [World.cell?, hrow]; rfl) (by simp [World.shape?, hrow]; rfl) (frozen_of_row w b 0 _ _ hrow), by simp [World.setCell], heap_setCell_same w b 0 _ _ _ hrow, Step.setCell (X := fun k => k = b) ⟨b, 0, none⟩ _ rfl, ?_⟩
      exact Own.keep ho fun k hk _ => heap_setCell_other _ _ _ _ (by rcases hk with hk | hk; exact hk.elim; rintro rfl; exact hne hk)
    · exact ⟨w, Any.Builder_copyCheck_used (ρ := Tryz.lays156_ren) { Tryz.lays156 with } Tryz.Builder_Extra_156.toX72 b w (by rw [World.cell?, hrow]; rfl), rfl, hrow, Step.refl _ _, ho⟩)
  obtain ⟨w1, hcc, z1, hr1, st1, ho1⟩ := hself.out
  obtain ⟨v2, w2, hrun, ho2, hg2, hnb⟩ := ho1.runS s 38 hn (by omega)
  have hCC := keepBack hcc
  have hob := ho1.block
  clear hcc hself hp hrow ho
  have c1 : w1.cell? ⟨b, 1, none⟩ = some v := by rw [World.cell?, hr1]; rfl
  have hr2 : w2.heap[b]? = some (.cells #[.pointer (some ⟨b, 0, none⟩), v] 40) := (hg2.block b (by omega) (fun e => hne e.symm)).trans hr1
  have d1 : w2.cell? ⟨b, 1, none⟩ = some v := by rw [World.cell?, hr2]; rfl
  have f1 := frozen_of_row w2 b 1 _ _ hr2
  obtain ⟨a2, c2, hv2, _, _⟩ := ho2.shape
  obtain ⟨n2, hn2'⟩ : ∃ n2, n2 = (l ++ s.data.toList).length := ⟨_, rfl⟩
  rw [← hn2'] at hv2
  clear hn2'
  subst hv2
  go_enter Tryz.func11, Tryz.ntmps11
  go_wp2_with fail
  refine hCC.out.mono ?_; rintro e w1' ⟨rfl, rfl⟩
  have hrun' := keepBack hrun
  clear hrun
  go_wp2_with (at_builtin; refine Lib.wpList_append_run _ rfl _ _ _ _ rfl _ _ rfl rfl _ _ hrun'.out ?_)
  go_ret2
  have hr3 := heap_setCell_same w2 b 1 _ _ (.slice a2 n2 c2) hr2
  have hv2b : (Value.slice a2 n2 c2).ownBlock ≠ some b := by
    intro e
    rcases hnb with h | h
    · exact hne (h ▸ e)
    · rw [h] at e
      have := Option.some.inj e
      omega
  refine ⟨⟨_, rfl⟩, .slice a2 n2 c2, ⟨hlow, ⟨_, .inr rfl, hr3⟩, Own.keep ho2 fun k hk _ => heap_setCell_other _ _ _ _ (by rcases hk with hk | hk; exact hk.elim; rintro rfl; exact hv2b hk), hv2b⟩, by rw [← z1]; exact hnb, ?_⟩
  exact ((st1.mono fun k _ hk => .inl hk).on (Step.grown hg2 fun k hk => .inr hk.symm)).on (Step.setCell (X := fun k => k = b ∨ some k = v.ownBlock) ⟨b, 1, none⟩ _ (.inl rfl))
end Go.Pch
end

section
namespace Go.Pch
open Go.RowKit Go.Proofs
attribute [local go_sem] Oper.semAt_some
set_option maxRecDepth 100000
set_option linter.unusedVariables false
theorem countLF (t : Bytes) (w : World) : Calls Tryz.prog 7 #[.string (bl t), .string ⟨#[10]⟩] w fun e w' => e = .returned (.int .i64 (t.count 10 : Nat)) ∧ w' = w := Tryz.strings_Count_one (bl t) 10 w
theorem suffLF (t : Bytes) (ht : t.length ≤ 4096) (w : World) : Calls Tryz.prog 8 #[.string (bl t), .string ⟨#[10]⟩] w fun e w' => e = .returned (.bool (Lib.hasSuffix t [10])) ∧ w' = w := Tryz.strings_HasSuffix (bl t) ⟨#[10]⟩ w (by rw [bl_size]; omega)
theorem trimLF (t : Bytes) (ht : t.length ≤ 4096) (w : World) : Calls Tryz.prog 13 #[.string (bl t), .string ⟨#[10]⟩] w fun e w' => e = .returned (.string (bl (Lib.trimSuffix t [10]))) ∧ w' = w := Tryz.strings_TrimSuffix (bl t) ⟨#[10]⟩ w (by rw [bl_size]; omega)
theorem bl_none (u : Bytes) : (bl u).toList.isEmpty = u.isEmpty := by rw [ByteArray.toList_eq]; simp [bl]
theorem wpAnyIn_one {F : Fence} {n : Nat} {P : Program} {ops : Array Oper} {Q : Exit → Act → World → Prop} {md : Region.Mode} {i : Nat} {o : Oper} {fuel : Nat} {listed : Array Bool} {a : Act} {w : World} (hr : Region.ready md ops listed = [i]) (ho : ops[i]? = some o)
    (h : ∀ K' : Act → World → Prop, (∀ a w, wpAnyIn F n P md ops Q fuel (listed.setIfInBounds i true) a w → K' a w) → if Region.wanted o (yielded ops a.tmps) = true then Oper.wpIn F n P o a w K' Q else (∀ f, o.about P w a.eval = some f → F.fn f) ∧ K' (a.put o.dst undef) w) :
    wpAnyIn F n P md ops Q (fuel + 1) listed a w := wpAnyIn_all hr (by simp) fun j hj => by
  obtain rfl : j = i := by simpa using hj
  exact wpOpIn_step ho h
theorem wpAnyIn_two {F : Fence} {n : Nat} {P : Program} {ops : Array Oper} {Q : Exit → Act → World → Prop} {md : Region.Mode} {i k : Nat} {o o' : Oper} {fuel : Nat} {listed : Array Bool} {a : Act} {w : World} (hr : Region.ready md ops listed = [i, k]) (ho : ops[i]? = some o) (ho' : ops[k]? = some o')
    (h : ∀ K' : Act → World → Prop, (∀ a w, wpAnyIn F n P md ops Q fuel (listed.setIfInBounds i true) a w → K' a w) → if Region.wanted o (yielded ops a.tmps) = true then Oper.wpIn F n P o a w K' Q else (∀ f, o.about P w a.eval = some f → F.fn f) ∧ K' (a.put o.dst undef) w)
    (g : ∀ K' : Act → World → Prop, (∀ a w, wpAnyIn F n P md ops Q fuel (listed.setIfInBounds k true) a w → K' a w) → if Region.wanted o' (yielded ops a.tmps) = true then Oper.wpIn F n P o' a w K' Q else (∀ f, o'.about P w a.eval = some f → F.fn f) ∧ K' (a.put o'.dst undef) w) :
    wpAnyIn F n P md ops Q (fuel + 1) listed a w := wpAnyIn_all hr (by simp) fun j hj => by
  have : j = i ∨ j = k := by simpa using hj
  rcases this with rfl | rfl
  · exact wpOpIn_step ho h
  · exact wpOpIn_step ho' g
def DeskIn (w : World) (T : Nat) (R : Blk) (r : Repo) : Prop := ∃ vc vh, w.heap[T]? = some (.cells #[vc, vh] 36) ∧ Sl tCommit w R vc r.1 ∧ Sl tHead w R vh r.2
theorem Sl.there {α : Type} {E : Ty α} {w : World} {S : Blk} {v : Value} {l : List α} (hE : ∀ S cs a, E.rd w S cs a → E.rd w (fun k => S k ∧ k < w.heap.size) cs a) (h : Sl E w S v l) : Sl E w (fun k => S k ∧ k < w.heap.size) v l := by
  obtain ⟨ao, len, cap, hv, h1, h2, h3, h4, h5⟩ := h
  refine ⟨ao, len, cap, hv, h1, h2, h3, h4, fun i a hi => ?_⟩
  obtain ⟨b, o, hb, hS, cs, hrd, hc⟩ := h5 i a hi
  refine ⟨b, o, hb, ⟨hS, ?_⟩, cs, hE S cs a hrd, hc⟩
  have hp := E.pos
  have hl := E.len hrd
  cases cs with
  | nil => rw [List.length_nil] at hl; omega
  | cons u cs => exact World.block_lt_of_cell? _ _ (hc 0 u rfl).1
theorem DeskIn.there {w : World} {T : Nat} {R : Blk} {r : Repo} (h : DeskIn w T R r) : DeskIn w T (fun k => R k ∧ k < w.heap.size) r := by
  obtain ⟨vc, vh, h1, h2, h3⟩ := h
  refine ⟨vc, vh, h1, h2.there fun S cs a hrd => ?_, h3.there fun S cs a hrd => hrd⟩
  obtain ⟨x', y', rfl, hr, hi⟩ := rd_commit hrd
  obtain ⟨_, _, rfl, _, _, _⟩ := hr.shape
  obtain ⟨_, _, rfl, _, _, _⟩ := hi.shape
  exact ⟨_, _, rfl, hr.there fun S cs a hrd => hrd, hi.there fun S cs a hrd => hrd⟩
theorem DeskIn.mono {w : World} {T : Nat} {R R' : Blk} {r : Repo} (h : DeskIn w T R r) (hR : ∀ k, R k → k < w.heap.size → R' k) : DeskIn w T R' r := by
  obtain ⟨vc, vh, h1, h2, h3⟩ := h
  exact ⟨vc, vh, h1, h2.mono hR, h3.mono hR⟩
theorem DeskIn.keep {w w' : World} {T : Nat} {R : Blk} {r : Repo} (h : DeskIn w T R r) (hT : w'.heap[T]? = w.heap[T]?) (hk : ∀ k, R k → k < w.heap.size → w'.heap[k]? = w.heap[k]?) : DeskIn w' T R r := by
  obtain ⟨vc, vh, h1, h2, h3⟩ := h
  exact ⟨vc, vh, hT.trans h1, h2.keep hk, h3.keep hk⟩
theorem DeskIn.lt {w : World} {T : Nat} {R : Blk} {r : Repo} (h : DeskIn w T R r) : T < w.heap.size := by
  obtain ⟨_, _, h1, _⟩ := h
  exact (Array.getElem?_eq_some_iff.1 h1).1
def PZ (T : Nat) (v : Value) : Blk := fun k => (T < k ∧ k ≤ T + 5) ∨ some k = v.ownBlock
structure PlayI (S : World) (T : Nat) (l : List Bytes) (W : World) (v : Value) : Prop where
  desk : DeskIn W T (fun k => k ≠ T ∧ ¬ PZ T v k) (runS l).1
  held : Held W (T + 1) T
  bld : Bld W T (T + 2) v (runS l).2
  far : ∀ g, v.ownBlock = some g → T + 6 ≤ g
  vars : Vars W
  old : Below S.heap.size S W
  low : S.heap.size ≤ T
  big : 8 ≤ T
theorem PlayI.keep {S A B : World} {T : Nat} {l : List Bytes} {v : Value} (h : PlayI S T l A v) (hww : B.os = A.os ∧ B.tape = A.tape ∧ B.output = A.output) (hsz : A.heap.size ≤ B.heap.size) (hk : ∀ k, k < A.heap.size → k ≠ T + 3 → k ≠ T + 4 → k ≠ T + 5 → B.heap[k]? = A.heap[k]?) : PlayI S T l B v := by
  have hT := h.desk.lt
  have hl1 := h.held.lt
  have hl2 := h.bld.lt
  have hbig := h.vars.big
  have hob := h.bld.own.block
  have hfar := h.far
  refine ⟨h.desk.keep (hk T hT (by omega) (by omega) (by omega)) fun k hR hlt => hk k hlt (fun e => hR.2 (.inl (by omega))) (fun e => hR.2 (.inl (by omega))) (fun e => hR.2 (.inl (by omega))), (hk (T + 1) hl1 (by omega) (by omega) (by omega)).trans h.held, ⟨h.bld.low, ?_, ?_, h.bld.ne⟩, h.far, ?_, ?_, h.low, h.big⟩
  · obtain ⟨p, hp, hr⟩ := h.bld.row
    exact ⟨p, hp, (hk (T + 2) hl2 (by omega) (by omega) (by omega)).trans hr⟩
  · refine Own.keep h.bld.own fun k hk' hlt => ?_
    rcases hk' with hk' | hk'
    · exact hk'.elim
    · have := hfar k hk'
      exact hk k hlt (by omega) (by omega) (by omega)
  · have h3 := h.big
    exact h.vars.keep hsz fun k hk' => hk k (by omega) (by omega) (by omega) (by omega)
  · have h1 := h.low
    refine ⟨hww.1.trans h.old.os, hww.2.1.trans h.old.tape, hww.2.2.trans h.old.output, Nat.le_trans h.old.size hsz, fun k hk' => ?_⟩
    have h2 := h.old.size
    exact (hk k (by omega) (by omega) (by omega) (by omega)).trans (h.old.block k hk')
theorem PlayI.tab {S W : World} {T : Nat} {l : List Bytes} {v : Value} (h : PlayI S T l W v) (hz : T + 5 < W.heap.size) : @DeskTab ⟨PZ T v⟩ W T (runS l).1 := by
  refine ⟨h.desk, fun k hk => ?_⟩
  rcases hk with hk | hk
  · omega
  · exact (h.bld.own.block k hk.symm).2
theorem PlayI.next {S W w3 w4 : World} {T : Nat} {l : List Bytes} {y : Bytes} {v v' : Value} (h : PlayI S T l W v) (hz : T + 5 < W.heap.size) (h3 : Step (fun k => k = T) W w3) (hd : @DeskTab ⟨PZ T v⟩ w3 T (stepS (runS l) y).1)
    (h4 : Step (fun k => k = T + 1 + 1 ∨ some k = v.ownBlock) w3 w4) (hb : Bld w4 T (T + 1 + 1) v' (stepS (runS l) y).2) (hv : v'.ownBlock = v.ownBlock ∨ v'.ownBlock = some w3.heap.size) :
    PlayI S T (l ++ [y]) w4 v' ∧ KeepX (T + 4) (fun k => k = T ∨ k = T + 2) W w4 ∧ w4.heap[T + 5]? = W.heap[T + 5]? ∧ w4.heap[T + 4]? = W.heap[T + 4]? := by
  replace h4 : Step (fun k => k = T + 2 ∨ some k = v.ownBlock) w3 w4 := h4
  replace hb : Bld w4 T (T + 2) v' (stepS (runS l) y).2 := hb
  have hf := h.far
  have hob := h.bld.own.block
  have z3 := h3.size
  have z4 := h4.size
  have hlow := h.low
  have hold := h.old.size
  have hbig := h.big
  have hown : ∀ k, k < T + 6 → ¬ some k = v.ownBlock := fun k hk e => by have := hf k e.symm; omega
  have hk : ∀ k, k < T + 6 → k ≠ T → k ≠ T + 2 → w4.heap[k]? = W.heap[k]? := fun k h1 h2 h5 =>
    (h4.block k (by omega) (fun e => by rcases e with e | e; exact h5 e; exact hown k h1 e)).trans (h3.block k (by omega) h2)
  refine ⟨⟨?_, ?_, ?_, ?_, ?_, ?_, hlow, hbig⟩, ⟨h4.os.trans h3.os, h4.tape.trans h3.tape, h4.output.trans h3.output, Nat.le_trans z3 z4, fun k h1 h2 => hk k (by omega) (fun e => h2 (.inl e)) (fun e => h2 (.inr e))⟩, hk _ (by omega) (by omega) (by omega), hk _ (by omega) (by omega) (by omega)⟩
  · rw [runS_next]
    have hd1 : DeskIn w3 T (fun k => k ≠ T ∧ ¬ PZ T v k) (stepS (runS l) y).1 := hd.1
    have hd2 := hd1.there.keep (w' := w4) (h4.block T (by omega) (fun e => by rcases e with e | e; omega; exact hown T (by omega) e)) fun k hR hlt => h4.block k hlt fun e => hR.1.2 (by rcases e with e | e; exact .inl (by omega); exact .inr e)
    refine hd2.mono fun k hR _ => ⟨hR.1.1, fun e => ?_⟩
    rcases e with e | e
    · exact hR.1.2 (.inl e)
    · rcases hv with hv | hv
      · exact hR.1.2 (.inr (e.trans hv))
      · have := Option.some.inj (e.trans hv)
        have := hR.2
        omega
  · exact (hk (T + 1) (by omega) (by omega) (by omega)).trans h.held
  · rw [runS_next]; exact hb
  · intro g hg
    rcases hv with hv | hv
    · exact hf g (hv ▸ hg)
    · have := Option.some.inj (hg.symm.trans hv)
      omega
  · exact h.vars.keep (Nat.le_trans z3 z4) fun k hk' => hk k (by omega) (by omega) (by omega)
  · refine ⟨(h4.os.trans h3.os).trans h.old.os, (h4.tape.trans h3.tape).trans h.old.tape, (h4.output.trans h3.output).trans h.old.output, Nat.le_trans hold (Nat.le_trans z3 z4), fun k hk' => ?_⟩
    exact (hk k (by omega) (by omega) (by omega)).trans (h.old.block k hk')
theorem pre_line {l : List Bytes} {x : ByteArray} {L : List Bytes} (h : l <+: L) (hx : l.map bl ++ [x] <+: L.map bl) : ∃ y, x = bl y ∧ l ++ [y] <+: L := by
  obtain ⟨q, rfl⟩ := h
  obtain ⟨m, hm⟩ := hx
  rw [List.map_append, List.append_assoc] at hm
  have hm := List.append_cancel_left hm
  cases q with
  | nil => cases hm
  | cons y q =>
    simp only [List.map_cons, List.cons_append, List.nil_append, List.cons.injEq] at hm
    exact ⟨y, hm.1, q, by simp⟩
end Go.Pch
end
