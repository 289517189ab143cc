/- The walk of wire.Read. -/
import Derived.Test.YtklgejafblocjaaGlaC
import Derived.Defers
import Derived.Recover
import Derived.Laws.Pointers
namespace Go.Pch
open Go.RowKit Go.Proofs
set_option maxRecDepth 100000

set_option maxHeartbeats 400000 in
theorem catchIdle (p q : Addr) (w : World) :
    CallsD Try.prog 46 #[.pointer (some p), .pointer (some q)] .returning w fun e u' w' => e = .returned (.tuple #[]) ∧ u' = .returning ∧ w' = w := by
  refine callsD_of_wpS Try.func46 rfl fun c₀ cs hu => ?_
  apply wpS_seq
  apply wpS_region
  simp [wpOpsS, go_sem, recoverD, hu, Try.ntmps46, Exit.thenS]
  refine wpS_cond (t := false) (by simp [Act.eval, Array.replicate]) ?_
  simp only [Bool.false_eq_true, if_false]
  refine wpS_of_wp (wp_skip ?_)
  cases c₀
  simp_all [bodyPostS, results, Try.results46]

set_option maxHeartbeats 400000 in
theorem catchShort (r e : Nat) (a b c : Value) (older : List PanicEntry) (w : World) (hr : w.heap[r]? = some (.cells #[a, b] 43)) (he : w.heap[e]? = some (.cells #[c] 24)) (hne : r ≠ e) :
    CallsD Try.prog 46 #[.pointer (some ⟨r, 0, none⟩), .pointer (some ⟨e, 0, none⟩)] (.panicking ({ v := .iface 95 (.agg #[]), recovered := false } :: older)) w fun x u' w' =>
      x = .returned (.tuple #[]) ∧ u' = .panicking ({ v := .iface 95 (.agg #[]), recovered := true } :: older) ∧ w' = ((w.setCell ⟨r, 0, none⟩ (.slice none 0 0)).setCell ⟨r, 1, none⟩ (.slice none 0 0)).setCell ⟨e, 0, none⟩ (.int .i64 1) := by
  refine callsD_of_wpS Try.func46 rfl fun c₀ cs hu => ?_
  apply wpS_seq
  apply wpS_region
  simp [wpOpsS, go_sem, recoverD, hu, Try.ntmps46, Exit.thenS]
  refine wpS_cond (t := true) (by simp [Act.eval, Array.replicate]) ?_
  simp only [if_true]
  have r0 : w.cell? ⟨r, 0, none⟩ = some a := by rw [World.cell?, hr]; rfl
  have r1 : w.cell? ⟨r, 1, none⟩ = some b := by rw [World.cell?, hr]; rfl
  have rf : ∀ i, w.frozen? ⟨r, i, none⟩ = false := fun i => frozen_of_row w r i _ _ hr
  have hr1 := heap_setCell_same (w.setCell ⟨r, 0, none⟩ (.slice none 0 0)) r 1 _ _ (.slice none 0 0) (heap_setCell_same w r 0 _ _ (.slice none 0 0) hr)
  have he1 : ((w.setCell ⟨r, 0, none⟩ (.slice none 0 0)).setCell ⟨r, 1, none⟩ (.slice none 0 0)).heap[e]? = some (.cells #[c] 24) := (heap_setCell_other _ _ _ _ (by simp; omega)).trans ((heap_setCell_other _ _ _ _ (by simp; omega)).trans he)
  have e0 : ((w.setCell ⟨r, 0, none⟩ (.slice none 0 0)).setCell ⟨r, 1, none⟩ (.slice none 0 0)).cell? ⟨e, 0, none⟩ = some c := by rw [World.cell?, he1]; rfl
  have ef := frozen_of_row _ e 0 _ _ he1
  refine wpS_of_wp ?_
  have ha : ({ tmps := #[Value.pointer (some { block := r, off := 0 }), Value.pointer (some { block := e, off := 0 })] ++ ((Array.replicate 3 undef).setIfInBounds 0 (Value.iface 95 (Value.agg #[]))).setIfInBounds 1 (Value.bool true), defers := [] } : Act) =
      { tmps := #[Value.pointer (some { block := r, off := 0 }), Value.pointer (some { block := e, off := 0 }), Value.iface 95 (Value.agg #[]), Value.bool true, undef], defers := [] } := by rfl
  rw [ha]
  clear ha
  go_wp2
  simp [bodyPostS, results, Try.results46]

/-- Read's named results, as they lie in their variables. -/
theorem readResults (tmps : Array Value) (W : World) (r e : Nat) (x y : Value) (n : Int) (h2 : tmps.getD 2 undef = .pointer (some ⟨r, 0, none⟩)) (h3 : tmps.getD 3 undef = .pointer (some ⟨e, 0, none⟩))
    (hr : W.heap[r]? = some (.cells #[x, y] 43)) (he : W.heap[e]? = some (.cells #[.int .i64 n] 24)) : (results Try.f23 tmps).run Try.prog W = .ok (.tuple #[.agg #[x, y], .int .i64 n]) W := by
  have e0 : W.cell? ⟨e, 0, none⟩ = some (.int .i64 n) := by rw [World.cell?, he]; rfl
  have h2' : tmps[2]?.getD undef = .pointer (some ⟨r, 0, none⟩) := by simpa using h2
  have h3' : tmps[3]?.getD undef = .pointer (some ⟨e, 0, none⟩) := by simpa using h3
  have r0 : W.cell? ⟨r, 0, none⟩ = some x := by rw [World.cell?, hr]; rfl
  have r1 : W.cell? ⟨r, 1, none⟩ = some y := by rw [World.cell?, hr]; rfl
  simp [results, Try.results23, h2', h3', asAddr, go_sem, e0, r0, r1, Result.andThen]

set_option maxHeartbeats 400000 in
theorem wireReadBig (bs : Bytes) (w : World) (hb : 4096 < bs.length) (hm : bs.length ≤ maxLen) :
    Calls Try.prog 23 #[.string (bl bs)] w (Ret w fun x W => ∃ v, x = .tuple #[v, .int .i64 2] ∧ Rp W (fun k => w.heap.size ≤ k) v ([], [])) := by
  have hsz := bl_size bs
  unfold maxLen at hm
  have hr : ((w.alloc (.cells #[.slice none 0 0, .slice none 0 0] 43)).alloc (.cells #[.int .i64 2] 24)).heap[w.heap.size]? = some (.cells #[.slice none 0 0, .slice none 0 0] 43) := (Below.heap_alloc _ _ _ (by simp)).trans (heap_alloc_new _ _)
  have he : ((w.alloc (.cells #[.slice none 0 0, .slice none 0 0] 43)).alloc (.cells #[.int .i64 2] 24)).heap[w.heap.size + 1]? = some (.cells #[.int .i64 2] 24) := by
    have := heap_alloc_new (w.alloc (.cells #[.slice none 0 0, .slice none 0 0] 43)) (.cells #[.int .i64 2] 24)
    rwa [show (w.alloc (.cells #[.slice none 0 0, .slice none 0 0] 43)).heap.size = w.heap.size + 1 by simp] at this
  have hB : Below w.heap.size w ((w.alloc (.cells #[.slice none 0 0, .slice none 0 0] 43)).alloc (.cells #[.int .i64 2] 24)) := ((Below.refl _ _).alloc (Nat.le_refl _) _).alloc (by simp) _
  go_enter_defers Try.func23, Try.ntmps23
  go_wp2
  refine ⟨_, readResults _ _ w.heap.size (w.heap.size + 1) _ _ 2 rfl rfl hr he, _, rfl, ⟨_, rfl, ⟨_, _, rfl, Sl.nil _ _ _, Sl.nil _ _ _⟩⟩, hB⟩

/-- What Read leaves. -/
def ReadPost (w : World) (a : Repo × Int) : Ending → World → Prop := Ret w fun x W => ∃ v, x = .tuple #[v, .int .i64 a.2] ∧ Rp W (fun k => w.heap.size ≤ k) v a.1
theorem readDies (tmps : Array Value) (w W : World) (x y c : Value) (h2 : tmps.getD 2 undef = .pointer (some ⟨w.heap.size, 0, none⟩)) (h3 : tmps.getD 3 undef = .pointer (some ⟨w.heap.size + 1, 0, none⟩))
    (hr : W.heap[w.heap.size]? = some (.cells #[x, y] 43)) (he : W.heap[w.heap.size + 1]? = some (.cells #[c] 24)) (hB : Below w.heap.size w W) :
    Leaves Try.prog Try.f23 tmps (ReadPost w (([], []), 1)) [{ target := .fn (.func 46) #[.pointer (some ⟨w.heap.size, 0, none⟩), .pointer (some ⟨w.heap.size + 1, 0, none⟩)], args := #[] }] (.panicking short) W := by
  refine leaves_cons (f := 46) (args := #[.pointer (some ⟨w.heap.size, 0, none⟩), .pointer (some ⟨w.heap.size + 1, 0, none⟩)]) (by simp) (by simp [go_sem]) ?_
  refine (catchShort w.heap.size (w.heap.size + 1) x y c [] W hr he (by omega)).mono ?_
  rintro e u' w'' ⟨rfl, rfl, rfl⟩
  have hr1 := heap_setCell_same (W.setCell ⟨w.heap.size, 0, none⟩ (.slice none 0 0)) w.heap.size 1 _ _ (.slice none 0 0) (heap_setCell_same W w.heap.size 0 _ _ (.slice none 0 0) hr)
  have he1 : ((W.setCell ⟨w.heap.size, 0, none⟩ (.slice none 0 0)).setCell ⟨w.heap.size, 1, none⟩ (.slice none 0 0)).heap[w.heap.size + 1]? = some (.cells #[c] 24) := (heap_setCell_other _ _ _ _ (by simp)).trans ((heap_setCell_other _ _ _ _ (by simp)).trans he)
  have hr2 : (((W.setCell ⟨w.heap.size, 0, none⟩ (.slice none 0 0)).setCell ⟨w.heap.size, 1, none⟩ (.slice none 0 0)).setCell ⟨w.heap.size + 1, 0, none⟩ (.int .i64 1)).heap[w.heap.size]? = some (.cells #[.slice none 0 0, .slice none 0 0] 43) := (heap_setCell_other _ _ _ _ (by simp)).trans hr1
  have he2 := heap_setCell_same _ (w.heap.size + 1) 0 _ _ (.int .i64 1) he1
  exact ⟨_, readResults tmps _ w.heap.size (w.heap.size + 1) _ _ 1 h2 h3 hr2 he2, _, rfl, ⟨_, rfl, ⟨_, _, rfl, Sl.nil _ _ _, Sl.nil _ _ _⟩⟩, ((hB.setCell (Nat.le_refl _) _).setCell (Nat.le_refl _) _).setCell (by simp) _⟩
theorem readLives (tmps : Array Value) (w W : World) (x y : Value) (r : Repo) (h2 : tmps.getD 2 undef = .pointer (some ⟨w.heap.size, 0, none⟩)) (h3 : tmps.getD 3 undef = .pointer (some ⟨w.heap.size + 1, 0, none⟩))
    (hr : W.heap[w.heap.size]? = some (.cells #[x, y] 43)) (he : W.heap[w.heap.size + 1]? = some (.cells #[.int .i64 0] 24)) (hB : Below w.heap.size w W) (hx : Rp W (fun k => w.heap.size ≤ k) (.agg #[x, y]) r) :
    Leaves Try.prog Try.f23 tmps (ReadPost w (r, 0)) [{ target := .fn (.func 46) #[.pointer (some ⟨w.heap.size, 0, none⟩), .pointer (some ⟨w.heap.size + 1, 0, none⟩)], args := #[] }] .returning W := by
  refine leaves_cons (f := 46) (args := #[.pointer (some ⟨w.heap.size, 0, none⟩), .pointer (some ⟨w.heap.size + 1, 0, none⟩)]) (by simp) (by simp [go_sem]) ?_
  refine (catchIdle ⟨w.heap.size, 0, none⟩ ⟨w.heap.size + 1, 0, none⟩ W).mono ?_
  rintro e u' w'' ⟨rfl, rfl, rfl⟩
  exact ⟨_, readResults tmps _ w.heap.size (w.heap.size + 1) _ _ 0 h2 h3 hr he, _, rfl, ⟨_, rfl, hx⟩, hB⟩

theorem repoG_none1 {s : Bytes} (h : listG comG s = none) : repoG s = none := by rw [repoG, h]; rfl
theorem repoG_of {s t : Bytes} {cs : List Commit} (h : listG comG s = some (cs, t)) : repoG s = (listG headG t).map fun y => ((cs, y.1), y.2) := by rw [repoG, h]; rfl
theorem readP_no {bs : Bytes} (hf : ¬ 4096 < bs.length) (h : repoG bs = none) : readP bs = (([], []), 1) := by rw [readP, if_neg hf, h]
theorem readP_rest {bs : Bytes} (hf : ¬ 4096 < bs.length) {r : Repo} {c : UInt8} {u : Bytes} (h : repoG bs = some (r, c :: u)) : readP bs = (([], []), 1) := by rw [readP, if_neg hf, h]
theorem readP_bad {bs : Bytes} (hf : ¬ 4096 < bs.length) {r : Repo} (h : repoG bs = some (r, [])) (he : repoErr r ≠ 0) : readP bs = (([], []), 1) := by rw [readP, if_neg hf, h]; exact if_neg he
theorem readP_ok {bs : Bytes} (hf : ¬ 4096 < bs.length) {r : Repo} (h : repoG bs = some (r, [])) (he : repoErr r = 0) : readP bs = (r, 0) := by rw [readP, if_neg hf, h]; exact if_pos he
theorem bl_empty (u : Bytes) : (bl u).toList.isEmpty = u.isEmpty := by rw [ByteArray.toList_eq]; simp [bl]

set_option maxHeartbeats 1000000 in
/-- Read, of not too many bytes. -/
theorem wireReadFew (bs : Bytes) (w : World) (hb : bs.length ≤ 4096) : Calls Try.prog 23 #[.string (bl bs)] w (ReadPost w (readP bs)) := by
  have hmf : ∀ (fn : Fn) (first cap : Array Value) (w : World), (Instr.makeFunc fn first cap).run Try.prog w = .ok (.func fn first cap) w := fun _ _ _ _ => rfl
  have hsz := bl_size bs
  obtain ⟨W4, hW4⟩ : ∃ W4, W4 = (((w.alloc (.cells #[.slice none 0 0, .slice none 0 0] 43)).alloc (.cells #[.int .i64 0] 24)).alloc (.cells #[.string (bl bs)] 83)).alloc (.cells #[.pointer (some ⟨w.heap.size + 1 + 1, 0, none⟩)] 81) := ⟨_, rfl⟩
  have z4 : W4.heap.size = w.heap.size + 4 := by rw [hW4]; simp
  have b4 : Below w.heap.size w W4 := by rw [hW4]; exact ((((Below.refl _ _).alloc (Nat.le_refl _) _).alloc (by simp) _).alloc (by simp; omega) _).alloc (by simp; omega) _
  have hr4 : W4.heap[w.heap.size]? = some (.cells #[.slice none 0 0, .slice none 0 0] 43) := by
    rw [hW4]
    exact (Below.heap_alloc _ _ _ (by simp; omega)).trans ((Below.heap_alloc _ _ _ (by simp; omega)).trans ((Below.heap_alloc _ _ _ (by simp)).trans (heap_alloc_new _ _)))
  have he4 : W4.heap[w.heap.size + 1]? = some (.cells #[.int .i64 0] 24) := by
    rw [hW4]
    refine (Below.heap_alloc _ _ _ (by simp)).trans ((Below.heap_alloc _ _ _ (by simp)).trans ?_)
    have := heap_alloc_new (w.alloc (.cells #[.slice none 0 0, .slice none 0 0] 43)) (.cells #[.int .i64 0] 24)
    rwa [show (w.alloc (.cells #[.slice none 0 0, .slice none 0 0] 43)).heap.size = w.heap.size + 1 by simp] at this
  have hg4 : GlassAt W4 (w.heap.size + 1 + 1) bs := by
    rw [hW4]
    refine (Below.heap_alloc _ _ _ (by simp)).trans ?_
    have := heap_alloc_new ((w.alloc (.cells #[.slice none 0 0, .slice none 0 0] 43)).alloc (.cells #[.int .i64 0] 24)) (.cells #[.string (bl bs)] 83)
    rwa [show ((w.alloc (.cells #[.slice none 0 0, .slice none 0 0] 43)).alloc (.cells #[.int .i64 0] 24)).heap.size = w.heap.size + 1 + 1 by simp] at this
  have hv4 : W4.heap[w.heap.size + 1 + 1 + 1]? = some (.cells #[.pointer (some ⟨w.heap.size + 1 + 1, 0, none⟩)] 81) := by
    rw [hW4]
    have := heap_alloc_new (((w.alloc (.cells #[.slice none 0 0, .slice none 0 0] 43)).alloc (.cells #[.int .i64 0] 24)).alloc (.cells #[.string (bl bs)] 83)) (.cells #[.pointer (some ⟨w.heap.size + 1 + 1, 0, none⟩)] 81)
    rwa [show (((w.alloc (.cells #[.slice none 0 0, .slice none 0 0] 43)).alloc (.cells #[.int .i64 0] 24)).alloc (.cells #[.string (bl bs)] 83)).heap.size = w.heap.size + 1 + 1 + 1 by simp] at this
  have g4 : GVar W4 (w.heap.size + 1 + 1 + 1) (w.heap.size + 1 + 1) bs := ⟨hg4, by rw [World.cell?, hv4]; rfl, by omega⟩
  have HW4 := keepBack hW4
  clear hW4 hv4 hg4
  have hfew : ¬ 4096 < bs.length := by omega
  cases h1 : listG comG bs with
  | none =>
    have HP : Hid (readP bs = (([], []), 1)) := by rw [readP, if_neg hfew, repoG, h1]; rfl
    rw [HP.out]
    go_enter_defers Try.func23, Try.ntmps23
    go_wp2_with fail
    rw [← HW4.out]
    refine (listCom comG _ _ (readCom _ _) bs _ g4).mono ?_; intro e w1 hT
    obtain ⟨rfl, on1⟩ := hT.no h1
    clear hT
    go_wp2
    exact readDies _ w w1 _ _ _ rfl rfl ((on1.block _ (by omega) (by omega)).trans hr4) ((on1.block _ (by omega) (by omega)).trans he4) (b4.trans (on1.below (fun k hk => by omega) (by omega)))
  | some x =>
    obtain ⟨cs, t⟩ := x
    go_enter_defers Try.func23, Try.ntmps23
    go_wp2_with fail
    rw [← HW4.out]
    refine (listCom comG _ _ (readCom _ _) bs _ g4).mono ?_; intro e w1 hT
    obtain ⟨v1, rfl, hv1, g1, on1⟩ := hT.ok h1
    replace g1 := g4.next on1 g1
    clear hT
    have z1 := on1.size
    have hv1' : Sl tCommit w1 (fun k => w.heap.size + 4 ≤ k) v1 cs := hv1.mono fun k hk _ => by omega
    obtain ⟨a1, c1, rfl, _, _, _⟩ := hv1'.shape
    have hr1 := (on1.block w.heap.size (by omega) (by omega)).trans hr4
    have he1 := (on1.block (w.heap.size + 1) (by omega) (by omega)).trans he4
    have b1 : Below w.heap.size w w1 := b4.trans (on1.below (fun k hk => by omega) (by omega))
    have r0 : w1.cell? ⟨w.heap.size, 0, none⟩ = some (.slice none 0 0) := by rw [World.cell?, hr1]; rfl
    have rf := frozen_of_row w1 w.heap.size 0 _ _ hr1
    have HCS : Hid (cs.length = cs.length) := rfl
    generalize hn1 : cs.length = n1 at hv1 hv1' ⊢
    clear HCS hn1 hv1
    obtain ⟨w2, hw2⟩ : ∃ w2, w2 = w1.setCell ⟨w.heap.size, 0, none⟩ (.slice a1 n1 c1) := ⟨_, rfl⟩
    have z2 : w2.heap.size = w1.heap.size := by rw [hw2]; simp [World.setCell]
    have hr2 : w2.heap[w.heap.size]? = some (.cells #[.slice a1 n1 c1, .slice none 0 0] 43) := by rw [hw2]; exact heap_setCell_same w1 _ 0 _ _ _ hr1
    have he2 : w2.heap[w.heap.size + 1]? = some (.cells #[.int .i64 0] 24) := by rw [hw2]; exact (heap_setCell_other _ _ _ _ (by simp)).trans he1
    have b2 : Below w.heap.size w w2 := by rw [hw2]; exact b1.setCell (Nat.le_refl _) _
    have k2 : Sl tCommit w2 (fun k => w.heap.size + 4 ≤ k) (.slice a1 n1 c1) cs := by rw [hw2]; exact hv1'.keep fun k hk _ => heap_setCell_other _ _ _ _ (by simp; omega)
    have g2 : GVar w2 (w.heap.size + 1 + 1 + 1) (w.heap.size + 1 + 1) t := by
      rw [hw2]
      refine ⟨(heap_setCell_other _ _ _ _ (by simp; omega)).trans g1.glass, ?_, g1.ne⟩
      exact (World.cell?_of_block (w := w1) (heap_setCell_other _ _ _ _ (by simp; omega))).trans g1.ptr
    have p1 := g1.ptr
    have p2 := g2.ptr
    rw [hw2] at p2
    have HW2 := keepBack hw2
    clear hw2
    cases h2 : listG headG t with
    | none =>
      have HP : Hid (readP bs = (([], []), 1)) := readP_no hfew (by rw [repoG_of h1, h2]; rfl)
      go_wp2_with fail
      rw [← HW2.out]
      refine (listHead headG _ _ (readHeadE _ _) t _ g2).mono ?_; intro e w3 hT
      obtain ⟨rfl, on3⟩ := hT.no h2
      clear hT
      go_wp2
      rw [HP.out]; exact readDies _ w w3 _ _ _ rfl rfl ((on3.block _ (by omega) (by omega)).trans hr2) ((on3.block _ (by omega) (by omega)).trans he2) (b2.trans (on3.below (fun k hk => by omega) (by omega)))
    | some y =>
      obtain ⟨hs, u⟩ := y
      go_wp2_with fail
      rw [← HW2.out]
      refine (listHead headG _ _ (readHeadE _ _) t _ g2).mono ?_; intro e w3 hT
      obtain ⟨v3, rfl, hv3, g3, on3⟩ := hT.ok h2
      replace g3 := g2.next on3 g3
      clear hT
      have z3 := on3.size
      have hv3' : Sl tHead w3 (fun k => w.heap.size + 4 ≤ k) v3 hs := hv3.mono fun k hk _ => by omega
      obtain ⟨a3, c3, rfl, _, _, _⟩ := hv3'.shape
      have k3 : Sl tCommit w3 (fun k => w.heap.size + 4 ≤ k) (.slice a1 n1 c1) cs := k2.step on3 fun k hk e => by omega
      have hr3 := (on3.block w.heap.size (by omega) (by omega)).trans hr2
      have he3 := (on3.block (w.heap.size + 1) (by omega) (by omega)).trans he2
      have b3 : Below w.heap.size w w3 := b2.trans (on3.below (fun k hk => by omega) (by omega))
      clear r0 rf
      have r1 : w3.cell? ⟨w.heap.size, 1, none⟩ = some (.slice none 0 0) := by rw [World.cell?, hr3]; rfl
      have rf := frozen_of_row w3 w.heap.size 1 _ _ hr3
      generalize hn3 : hs.length = n3 at hv3 hv3' ⊢
      clear hn3 hv3
      obtain ⟨w4, hw4⟩ : ∃ w4, w4 = w3.setCell ⟨w.heap.size, 1, none⟩ (.slice a3 n3 c3) := ⟨_, rfl⟩
      have z4' : w4.heap.size = w3.heap.size := by rw [hw4]; simp [World.setCell]
      have hr5 : w4.heap[w.heap.size]? = some (.cells #[.slice a1 n1 c1, .slice a3 n3 c3] 43) := by rw [hw4]; exact heap_setCell_same w3 _ 1 _ _ _ hr3
      have he5 : w4.heap[w.heap.size + 1]? = some (.cells #[.int .i64 0] 24) := by rw [hw4]; exact (heap_setCell_other _ _ _ _ (by simp)).trans he3
      have b5 : Below w.heap.size w w4 := by rw [hw4]; exact b3.setCell (Nat.le_refl _) _
      have k5 : Sl tCommit w4 (fun k => w.heap.size + 4 ≤ k) (.slice a1 n1 c1) cs := by rw [hw4]; exact k3.keep fun k hk _ => heap_setCell_other _ _ _ _ (by simp; omega)
      have m5 : Sl tHead w4 (fun k => w.heap.size + 4 ≤ k) (.slice a3 n3 c3) hs := by rw [hw4]; exact hv3'.keep fun k hk _ => heap_setCell_other _ _ _ _ (by simp; omega)
      have R5 : Rp w4 (fun k => w.heap.size + 4 ≤ k) (.agg #[.slice a1 n1 c1, .slice a3 n3 c3]) (cs, hs) := ⟨_, _, rfl, k5, m5⟩
      have g5 : GVar w4 (w.heap.size + 1 + 1 + 1) (w.heap.size + 1 + 1) u := by
        rw [hw4]
        refine ⟨(heap_setCell_other _ _ _ _ (by simp; omega)).trans g3.glass, ?_, g3.ne⟩
        exact (World.cell?_of_block (w := w3) (heap_setCell_other _ _ _ _ (by simp; omega))).trans g3.ptr
      have p3 := g3.ptr
      have p5 := g5.ptr
      have s5 := g5.glass.cell
      have c0 : w4.cell? ⟨w.heap.size, 0, none⟩ = some (.slice a1 n1 c1) := by rw [World.cell?, hr5]; rfl
      have c1' : w4.cell? ⟨w.heap.size, 1, none⟩ = some (.slice a3 n3 c3) := by rw [World.cell?, hr5]; rfl
      have e5 : w4.cell? ⟨w.heap.size + 1, 0, none⟩ = some (.int .i64 0) := by rw [World.cell?, he5]; rfl
      rw [hw4] at p5 s5 c0 c1' e5
      have HW4' := keepBack hw4
      clear hw4
      have hem := bl_empty u
      have hrg : repoG bs = some ((cs, hs), u) := by rw [repoG_of h1, h2]; rfl
      have HRG := keepBack hrg
      clear hrg
      cases u with
      | cons c u =>
        have HP : Hid (readP bs = (([], []), 1)) := readP_rest hfew HRG.out
        simp only [List.isEmpty_cons] at hem
        go_wp2_with fail
        rw [← HW4'.out]
        rw [HP.out]; exact readDies _ w w4 _ _ _ rfl rfl hr5 he5 b5
      | nil =>
        simp only [List.isEmpty_nil] at hem
        by_cases hE : repoErr (cs, hs) = 0
        · have HP : Hid (readP bs = ((cs, hs), 0)) := readP_ok hfew HRG.out hE
          go_wp2_with fail
          rw [← HW4'.out]
          refine (repoCheck_of _ _ _ w4 R5 hE).mono ?_; rintro e w6 ⟨_, rfl, rfl, b6⟩
          have hr6 := (b6.block w.heap.size (by omega)).trans hr5
          have he6 := (b6.block (w.heap.size + 1) (by omega)).trans he5
          have d0 : w6.cell? ⟨w.heap.size, 0, none⟩ = some (.slice a1 n1 c1) := by rw [World.cell?, hr6]; rfl
          have d1 : w6.cell? ⟨w.heap.size, 1, none⟩ = some (.slice a3 n3 c3) := by rw [World.cell?, hr6]; rfl
          have df := fun i => frozen_of_row w6 w.heap.size i _ _ hr6
          have e6 : w6.cell? ⟨w.heap.size + 1, 0, none⟩ = some (.int .i64 0) := by rw [World.cell?, he6]; rfl
          have ef6 := frozen_of_row w6 (w.heap.size + 1) 0 _ _ he6
          have R6 : Rp w6 (fun k => w.heap.size + 4 ≤ k) (.agg #[.slice a1 n1 c1, .slice a3 n3 c3]) (cs, hs) := R5.call b6
          have b06 : Below w.heap.size w w6 := b5.trans (b6.mono (by omega))
          clear c0 c1' e5 p5 s5
          go_wp2
          have hr7 := heap_setCell_same (w6.setCell ⟨w.heap.size, 0, none⟩ (.slice a1 n1 c1)) w.heap.size 1 _ _ (.slice a3 n3 c3) (heap_setCell_same w6 w.heap.size 0 _ _ (.slice a1 n1 c1) hr6)
          have he7 : ((w6.setCell ⟨w.heap.size, 0, none⟩ (.slice a1 n1 c1)).setCell ⟨w.heap.size, 1, none⟩ (.slice a3 n3 c3)).heap[w.heap.size + 1]? = some (.cells #[.int .i64 0] 24) := (heap_setCell_other _ _ _ _ (by simp)).trans ((heap_setCell_other _ _ _ _ (by simp)).trans he6)
          have hr8 : (((w6.setCell ⟨w.heap.size, 0, none⟩ (.slice a1 n1 c1)).setCell ⟨w.heap.size, 1, none⟩ (.slice a3 n3 c3)).setCell ⟨w.heap.size + 1, 0, none⟩ (.int .i64 0)).heap[w.heap.size]? = some (.cells #[.slice a1 n1 c1, .slice a3 n3 c3] 43) := (heap_setCell_other _ _ _ _ (by simp)).trans hr7
          have he8 := heap_setCell_same _ (w.heap.size + 1) 0 _ _ (.int .i64 0) he7
          have R8 : Rp (((w6.setCell ⟨w.heap.size, 0, none⟩ (.slice a1 n1 c1)).setCell ⟨w.heap.size, 1, none⟩ (.slice a3 n3 c3)).setCell ⟨w.heap.size + 1, 0, none⟩ (.int .i64 0)) (fun k => w.heap.size ≤ k) (.agg #[.slice a1 n1 c1, .slice a3 n3 c3]) (cs, hs) := by
            obtain ⟨_, _, hv, x1, x2⟩ := R6
            simp only [Value.agg.injEq] at hv
            have hk : ∀ k, w.heap.size + 4 ≤ k → k < w6.heap.size → (((w6.setCell ⟨w.heap.size, 0, none⟩ (.slice a1 n1 c1)).setCell ⟨w.heap.size, 1, none⟩ (.slice a3 n3 c3)).setCell ⟨w.heap.size + 1, 0, none⟩ (.int .i64 0)).heap[k]? = w6.heap[k]? := fun k hk _ =>
              (heap_setCell_other _ _ _ _ (by simp; omega)).trans ((heap_setCell_other _ _ _ _ (by simp; omega)).trans (heap_setCell_other _ _ _ _ (by simp; omega)))
            exact ⟨_, _, by rw [hv], (x1.keep hk).mono fun k hk _ => by omega, (x2.keep hk).mono fun k hk _ => by omega⟩
          rw [HP.out]
          exact readLives _ w _ _ _ _ rfl rfl hr8 he8 (((b06.setCell (Nat.le_refl _) _).setCell (Nat.le_refl _) _).setCell (by simp) _) R8
        · have HP : Hid (readP bs = (([], []), 1)) := readP_bad hfew HRG.out hE
          have HE := keepBack hE
          generalize hEr : repoErr (cs, hs) = E at *
          go_wp2_with fail
          rw [← HW4'.out]
          refine (repoCheck_of _ _ _ w4 R5 hEr).mono ?_; rintro e w6 ⟨_, rfl, rfl, b6⟩
          have hr6 := (b6.block w.heap.size (by omega)).trans hr5
          have he6 := (b6.block (w.heap.size + 1) (by omega)).trans he5
          have b06 : Below w.heap.size w w6 := b5.trans (b6.mono (by omega))
          clear hEr
          go_wp2
          rw [HP.out]; exact readDies _ w w6 _ _ _ rfl rfl hr6 he6 b06

end Go.Pch
