/- The walk of RepoFrom. -/
import Derived.Test.YtklgejafblocjaaEarA
import Derived.Test.YtklgejafblocjaaGlaA
import Derived.Test.YtklgejafblocjaaRepF
import Derived.Test.YtklgejafblocjaaWirB
namespace Go.Pch
open Go.RowKit Go.Proofs
set_option maxRecDepth 100000

theorem twoE_fit (s : Bytes) : 0 ≤ (twoE s).1 ∧ (twoE s).1 < 65536 := by
  have := byteE_fit s
  have := byteE_fit (byteE s).2
  simp only [twoE]
  omega
theorem twoE_len (s : Bytes) : (twoE s).2.length ≤ s.length := Nat.le_trans (byteE_len _) (byteE_len _)
theorem rowE_len (s : Bytes) : (rowE s).2.length ≤ s.length := Nat.le_trans (twoE_len _) (byteE_len _)
theorem repE_next {α : Type} {p : Bytes → α × Bytes} {n m : Nat} {s t : Bytes} {l : List α} (h : repE p n s = (l ++ (repE p (m + 1) t).1, (repE p (m + 1) t).2)) :
    repE p n s = (l ++ [(p t).1] ++ (repE p m (p t).2).1, (repE p m (p t).2).2) := by rw [h]; simp [repE]
theorem repE_end {α : Type} {p : Bytes → α × Bytes} {n : Nat} {s t : Bytes} {l : List α} (h : repE p n s = (l ++ (repE p 0 t).1, (repE p 0 t).2)) : repE p n s = (l, t) := by rw [h]; simp [repE]
theorem repE_start {α : Type} (p : Bytes → α × Bytes) (n : Nat) (s : Bytes) : repE p n s = ([] ++ (repE p n s).1, (repE p n s).2) := by simp
theorem Own.step {α : Type} {E : Ty α} {e : TypeId} {w w' : World} {B : Nat} {C X : Blk} {v : Value} {l : List α} (h : Own E e w B C v l) (hs : Step X w w') (hC : ∀ k, C k → ¬ X k) (hB : ∀ k, B ≤ k → ¬ X k) : Own E e w' B C v l :=
  h.keep fun k hk hlt => hs.block k hlt (by
    rcases hk with hk | hk
    · exact hC k hk
    · exact hB k (h.block k hk).1)
/-- append of one element that has just been laid, and the store into the field of a box: what it leaves. -/
theorem Own.push {α : Type} {E : Ty α} {e T : TypeId} {w : World} {B : Nat} {C D : Blk} {v : Value} {l : List α} {P : Program} (hA : At P E T e) (h : Own E e w B C v l) (cs : List Value) (a : α) (hrd : E.rd w D cs a) (hD : ∀ k, D k → k < w.heap.size → C k ∧ some k ≠ v.ownBlock)
    (hn : l.length ≤ 1000000) (hB : B ≤ w.heap.size) (kk : Nat) (hkk : kk = w.heap.size) :
    ∃ (a2 : Option Addr) (L c2 : Nat) (w2 : World), (Builtin.append_ #[T, T] T #[v, .slice (some ⟨kk, 0, none⟩) 1 1]).run P (w.alloc (.cells cs.toArray e)) = .ok (.slice a2 L c2) w2 ∧ Own E e w2 B C (.slice a2 L c2) (l ++ [a]) ∧
      Step (fun k => v.ownBlock = some k) w w2 := by
  subst hkk
  have bL := (Below.refl w.heap.size w).alloc (Nat.le_refl _) (.cells cs.toArray e)
  obtain ⟨v', w', hrun, ho, hg, _⟩ := (h.call bL).run (D := fun k => D k ∧ k < w.heap.size) hA (c := 1) (m := [a]) (Src.one (E.mono hrd fun k hk hlt => ⟨hk, hlt⟩) e) (fun h => by cases h) T (fun k hk _ => hD k hk.1 hk.2) (by simp; omega) (Nat.le_trans hB bL.size)
  obtain ⟨a2, c2, rfl, _, _⟩ := ho.shape
  exact ⟨a2, _, c2, w', hrun, ho, (Step.of_below bL).on (Step.grown hg fun k hk => hk)⟩

/-- RepoFrom's results, as they lie. -/
theorem fromResults (tmps : Array Value) (W : World) (r : Nat) (x y : Value) (b : Bool) (h2 : tmps.getD 2 undef = .pointer (some ⟨r, 0, none⟩)) (h3 : tmps.getD 3 undef = .bool b)
    (hr : W.heap[r]? = some (.cells #[x, y] 43)) : (results Try.f26 tmps).run Try.prog W = .ok (.tuple #[.agg #[x, y], .bool b]) W := by
  have h2' : tmps[2]?.getD undef = .pointer (some ⟨r, 0, none⟩) := by simpa using h2
  have h3' : tmps[3]?.getD undef = .bool b := by simpa using h3
  have r0 : W.cell? ⟨r, 0, none⟩ = some x := by rw [World.cell?, hr]; rfl
  have r1 : W.cell? ⟨r, 1, none⟩ = some y := by rw [World.cell?, hr]; rfl
  simp [results, Try.results26, h2', h3', asAddr, go_sem, r0, r1, Result.andThen]

set_option maxHeartbeats 2000000 in
theorem refRepoFrom (bs : Bytes) (w : World) (hb : bs.length ≤ 4096) :
    Calls Try.prog 26 #[.string (bl bs)] w (Ret w fun x W => ∃ v, x = .tuple #[v, .bool (fromP bs).2] ∧ Rp W (fun k => w.heap.size ≤ k) v (fromP bs).1) := by
  obtain ⟨W3, hW3⟩ : ∃ W3, W3 = ((w.alloc (.cells #[.slice none 0 0, .slice none 0 0] 43)).alloc (.cells #[.string (bl bs)] 99)).alloc (.cells #[.slice none 0 0, .slice none 0 0] 43) := ⟨_, rfl⟩
  have z3 : W3.heap.size = w.heap.size + 3 := by rw [hW3]; simp
  have b3 : Below w.heap.size w W3 := by rw [hW3]; exact (((Below.refl _ _).alloc (Nat.le_refl _) _).alloc (by simp) _).alloc (by simp; omega) _
  have hr3 : W3.heap[w.heap.size]? = some (.cells #[.slice none 0 0, .slice none 0 0] 43) := by
    rw [hW3]
    exact (Below.heap_alloc _ _ _ (by simp; omega)).trans ((Below.heap_alloc _ _ _ (by simp)).trans (heap_alloc_new _ _))
  have hg3 : EarAt W3 (w.heap.size + 1) bs := by
    rw [hW3]
    refine (Below.heap_alloc _ _ _ (by simp)).trans ?_
    have := heap_alloc_new (w.alloc (.cells #[.slice none 0 0, .slice none 0 0] 43)) (.cells #[.string (bl bs)] 99)
    rwa [show (w.alloc (.cells #[.slice none 0 0, .slice none 0 0] 43)).heap.size = w.heap.size + 1 by simp] at this
  have ho3 : W3.heap[w.heap.size + 1 + 1]? = some (.cells #[.slice none 0 0, .slice none 0 0] 43) := by
    rw [hW3]
    have := heap_alloc_new ((w.alloc (.cells #[.slice none 0 0, .slice none 0 0] 43)).alloc (.cells #[.string (bl bs)] 99)) (.cells #[.slice none 0 0, .slice none 0 0] 43)
    rwa [show ((w.alloc (.cells #[.slice none 0 0, .slice none 0 0] 43)).alloc (.cells #[.string (bl bs)] 99)).heap.size = w.heap.size + 1 + 1 by simp] at this
  have HW3 := keepBack hW3
  clear hW3
  have fN := byteE_fit bs
  have lN := byteE_len bs
  obtain ⟨N, hN⟩ : ∃ N : Nat, (byteE bs).1 = (N : Int) := ⟨(byteE bs).1.toNat, by omega⟩
  have T := earByte (w.heap.size + 1) bs W3 hg3 (by omega)
  rw [hN] at T
  have hN256 : N < 256 := by omega
  have HLE : Hid (listE comE bs = repE comE N (byteE bs).2) := by rw [listE, hN]; rfl
  clear fN
  have HN := keepBack hN
  clear hN
  generalize (byteE bs).2 = s0 at *
  go_enter Try.func26, Try.ntmps26
  go_wp2_with fail
  rw [← HW3.out]
  refine T.mono ?_; rintro e w1 ⟨rfl, h1, on1⟩
  clear T
  have st1 : Step (fun k => k = w.heap.size + 1 ∨ k = w.heap.size + 1 + 1) W3 w1 := on1.mono fun k _ hk => .inl hk
  have ho1 := (on1.block (w.heap.size + 1 + 1) (by omega) (by omega)).trans ho3
  generalize hrb : w.heap.size = rb at *
  have HRB := keepBack hrb
  clear hrb
  go_wp2_with fail
  go_loopw [6, 7, 8, 9, 10] (fun un _ _ _ _ wr => ∃ (m : Nat) (v1 : Value) (l : List Commit) (s : Bytes), un = .int .i64 m ∧ l.length + m = N ∧ EarAt wr (rb + 1) s ∧ s.length ≤ 4096 ∧ wr.heap[rb + 1 + 1]? = some (.cells #[v1, .slice none 0 0] 43) ∧
    Own tCommit 65 wr (rb + 3) (fun k => rb + 3 ≤ k) v1 l ∧ Step (fun k => k = rb + 1 ∨ k = rb + 1 + 1) W3 wr ∧ Hid (repE comE N s0 = (l ++ (repE comE m s).1, (repE comE m s).2))) (fun un _ _ _ _ _ => (intOf un).toNat)
  case atStart => exact ⟨N, _, [], s0, rfl, by simp, h1, by omega, ho1, Own.nil, st1, repE_start comE N s0⟩
  case round =>
    obtain ⟨m, v1, l, s, rfl, hlm, hea, hsl, hob, how, hst, hrep⟩ := hrel
    have zr := hst.size
    by_cases hm0 : m = 0
    · subst hm0
      have HCS : Hid (listE comE bs = (l, s)) := by rw [HLE.out]; exact repE_end hrep.out
      have hlN : l.length ≤ 256 := by omega
      clear hlm hrep HLE
      have fP := byteE_fit s
      have lP := byteE_len s
      obtain ⟨M, hM⟩ : ∃ M : Nat, (byteE s).1 = (M : Int) := ⟨(byteE s).1.toNat, by omega⟩
      have T := earByte (rb + 1) s wr hea (by omega)
      rw [hM] at T
      have hM256 : M < 256 := by omega
      have HLH : Hid (listE headE s = repE headE M (byteE s).2) := by rw [listE, hM]; rfl
      clear fP hM
      generalize (byteE s).2 = t0 at *
      go_wp2_with fail
      refine T.mono ?_; rintro e w2 ⟨rfl, h2, on2⟩
      clear T
      have z2 := on2.size
      have hob2 := (on2.block (rb + 1 + 1) (by omega) (by omega)).trans hob
      have how2 := how.step on2 (fun k hk e => by omega) (fun k hk e => by omega)
      have hst2 := hst.trans on2 fun k _ hk => .inl hk
      go_wp2_with fail
      obtain ⟨wo, rfl⟩ : ∃ wo : World, wo = wr := ⟨_, rfl⟩
      go_loopw [11, 12, 13] (fun uk _ _ wr => ∃ (j : Nat) (vh : Value) (hs : List Head) (t : Bytes), uk = .int .i64 j ∧ hs.length + j = M ∧ EarAt wr (rb + 1) t ∧ t.length ≤ 4096 ∧ wr.heap[rb + 1 + 1]? = some (.cells #[v1, vh] 43) ∧
        Own tHead 76 wr w2.heap.size (fun _ => False) vh hs ∧ Step (fun k => k = rb + 1 ∨ k = rb + 1 + 1) w2 wr ∧ Hid (repE headE M t0 = (hs ++ (repE headE j t).1, (repE headE j t).2))) (fun uk _ _ _ => (intOf uk).toNat)
      case atStart => exact ⟨M, _, [], t0, rfl, by simp, h2, by omega, hob2, Own.nil, Step.refl _ _, repE_start headE M t0⟩
      case round =>
        obtain ⟨j, vh, hs, t, rfl, hhj, het, htl, hob3, hoh, hst3, hrep3⟩ := hrel
        have zr3 := hst3.size
        by_cases hj0 : j = 0
        · subst hj0
          have HHS : Hid (listE headE s = (hs, t)) := by rw [HLH.out]; exact repE_end hrep3.out
          have HRP : Hid (repoE bs = (l, hs)) := by
            show Hid (((listE comE bs).1, (listE headE (listE comE bs).2).1) = _)
            rw [HCS.out]
            show Hid ((l, (listE headE s).1) = _)
            rw [HHS.out]
            rfl
          clear hhj hrep3
          have slC := (how2.step hst3 (fun k hk e => by omega) (fun k hk e => by omega)).sl (D := fun k => rb + 3 ≤ k) (fun _ h => h) (fun _ h => h)
          have slH := hoh.sl (D := fun k => rb + 3 ≤ k) (fun _ h => h.elim) (fun k hk => by omega)
          obtain ⟨a1, c1, rfl, _, _, _⟩ := slC.shape
          obtain ⟨a2, c2, rfl, _, _, _⟩ := slH.shape
          have R0 : Rp wr (fun k => rb + 3 ≤ k) (.agg #[.slice a1 l.length c1, .slice a2 hs.length c2]) (l, hs) := ⟨_, _, rfl, slC, slH⟩
          generalize l.length = n1 at *
          generalize hs.length = n2 at *
          have hrb3 := ((hst2.on hst3).block rb (by omega) (by omega)).trans hr3
          have bW : Below rb w wr := b3.trans ((hst2.on hst3).below (B := rb) (fun k hk => by omega) (by omega))
          have o0 : wr.cell? ⟨rb + 1 + 1, 0, none⟩ = some (.slice a1 n1 c1) := by rw [World.cell?, hob3]; rfl
          have o1 : wr.cell? ⟨rb + 1 + 1, 1, none⟩ = some (.slice a2 n2 c2) := by rw [World.cell?, hob3]; rfl
          by_cases hE : repoErr (l, hs) = 0
          · by_cases hB : repoBy (l, hs) = bs
            · have HF : Hid (fromP bs = ((l, hs), true)) := by rw [fromP, HRP.out, if_pos ⟨hE, hB⟩]; rfl
              go_wp2_with fail
              refine (refRepoError_of _ _ _ wr R0 hE).mono ?_; rintro e w5 ⟨_, rfl, rfl, b5⟩
              have hob5 := (b5.block (rb + 1 + 1) (by omega)).trans hob3
              have p0 : w5.cell? ⟨rb + 1 + 1, 0, none⟩ = some (.slice a1 n1 c1) := by rw [World.cell?, hob5]; rfl
              have p1 : w5.cell? ⟨rb + 1 + 1, 1, none⟩ = some (.slice a2 n2 c2) := by rw [World.cell?, hob5]; rfl
              have RB := refRepoBytes _ (l, hs) _ w5 (R0.call b5) hE
              rw [hB] at RB
              go_wp2_with fail
              refine RB.mono ?_; rintro e w6 ⟨_, rfl, rfl, b6⟩
              clear RB
              have b56 := b5.trans (b6.mono b5.size)
              have hobF := (b56.block (rb + 1 + 1) (by omega)).trans hob3
              have hrbF := (b56.block rb (by omega)).trans hrb3
              have hbF := bW.trans (b56.mono (by omega))
              have slF := slC.call b56
              have slG := slH.call b56
              clear p0 p1 o0 o1
              have r0 : w6.cell? ⟨rb, 0, none⟩ = some (.slice none 0 0) := by rw [World.cell?, hrbF]; rfl
              have r1 : w6.cell? ⟨rb, 1, none⟩ = some (.slice none 0 0) := by rw [World.cell?, hrbF]; rfl
              have rf := fun i => frozen_of_row w6 rb i _ _ hrbF
              have hfin := heap_setCell_same (w6.setCell ⟨rb, 0, none⟩ (.slice a1 n1 c1)) rb 1 _ _ (.slice a2 n2 c2) (heap_setCell_same w6 rb 0 _ _ (.slice a1 n1 c1) hrbF)
              have Rfin : Rp ((w6.setCell ⟨rb, 0, none⟩ (.slice a1 n1 c1)).setCell ⟨rb, 1, none⟩ (.slice a2 n2 c2)) (fun k => w.heap.size ≤ k) (.agg #[.slice a1 n1 c1, .slice a2 n2 c2]) (l, hs) := by
                have hk : ∀ k, rb + 3 ≤ k → k < w6.heap.size → ((w6.setCell ⟨rb, 0, none⟩ (.slice a1 n1 c1)).setCell ⟨rb, 1, none⟩ (.slice a2 n2 c2)).heap[k]? = w6.heap[k]? := fun k hk _ => (heap_setCell_other _ _ _ _ (by simp; omega)).trans (heap_setCell_other _ _ _ _ (by simp; omega))
                have hw := HRB.out
                exact ⟨_, _, rfl, (slF.keep hk).mono fun k hk _ => by omega, (slG.keep hk).mono fun k hk _ => by omega⟩
              have d0 : w6.cell? ⟨rb + 1 + 1, 0, none⟩ = some (.slice a1 n1 c1) := by rw [World.cell?, hobF]; rfl
              have d1 : w6.cell? ⟨rb + 1 + 1, 1, none⟩ = some (.slice a2 n2 c2) := by rw [World.cell?, hobF]; rfl
              go_wp2
              refine bodyPost_ret (fromResults _ _ rb _ _ _ rfl rfl hfin) rfl ⟨_, rfl, ⟨_, ?_, by rw [HF.out]; exact Rfin⟩, ?_⟩
              · rw [HF.out]
              · have hbF : Below rb w w6 := hbF
                have := (hbF.setCell (p := ⟨rb, 0, none⟩) (Nat.le_refl _) (.slice a1 n1 c1)).setCell (p := ⟨rb, 1, none⟩) (Nat.le_refl _) (.slice a2 n2 c2)
                rw [HRB.out]; exact this
            · have HF : Hid (fromP bs = (([], []), false)) := by rw [fromP, HRP.out, if_neg (fun h => hB h.2)]; rfl
              have hne : ((bl (repoBy (l, hs))).toList == (bl bs).toList) = false := by
                rw [ByteArray.toList_eq, ByteArray.toList_eq]
                simpa [bl] using hB
              go_wp2_with fail
              refine (refRepoError_of _ _ _ wr R0 hE).mono ?_; rintro e w5 ⟨_, rfl, rfl, b5⟩
              have hob5 := (b5.block (rb + 1 + 1) (by omega)).trans hob3
              have p0 : w5.cell? ⟨rb + 1 + 1, 0, none⟩ = some (.slice a1 n1 c1) := by rw [World.cell?, hob5]; rfl
              have p1 : w5.cell? ⟨rb + 1 + 1, 1, none⟩ = some (.slice a2 n2 c2) := by rw [World.cell?, hob5]; rfl
              have RB := refRepoBytes _ (l, hs) _ w5 (R0.call b5) hE
              generalize repoBy (l, hs) = xs at *
              go_wp2_with fail
              refine RB.mono ?_; rintro e w6 ⟨_, rfl, rfl, b6⟩
              clear RB
              have b56 := b5.trans (b6.mono b5.size)
              have hrbF := (b56.block rb (by omega)).trans hrb3
              have hbF := bW.trans (b56.mono (by omega))
              clear p0 p1 o0 o1
              have r0 : w6.cell? ⟨rb, 0, none⟩ = some (.slice none 0 0) := by rw [World.cell?, hrbF]; rfl
              have r1 : w6.cell? ⟨rb, 1, none⟩ = some (.slice none 0 0) := by rw [World.cell?, hrbF]; rfl
              have rf := fun i => frozen_of_row w6 rb i _ _ hrbF
              have hfin := heap_setCell_same (w6.setCell ⟨rb, 0, none⟩ (.slice none 0 0)) rb 1 _ _ (.slice none 0 0) (heap_setCell_same w6 rb 0 _ _ (.slice none 0 0) hrbF)
              have Rfin : Rp ((w6.setCell ⟨rb, 0, none⟩ (.slice none 0 0)).setCell ⟨rb, 1, none⟩ (.slice none 0 0)) (fun k => w.heap.size ≤ k) (.agg #[.slice none 0 0, .slice none 0 0]) ([], []) := ⟨_, _, rfl, Sl.nil _ _ _, Sl.nil _ _ _⟩
              go_wp2
              refine bodyPost_ret (fromResults _ _ rb _ _ _ rfl rfl hfin) rfl ⟨_, rfl, ⟨_, ?_, by rw [HF.out]; exact Rfin⟩, ?_⟩
              · rw [HF.out]
              · have hbF : Below rb w w6 := hbF
                have := (hbF.setCell (p := ⟨rb, 0, none⟩) (Nat.le_refl _) (.slice none 0 0)).setCell (p := ⟨rb, 1, none⟩) (Nat.le_refl _) (.slice none 0 0)
                rw [HRB.out]; exact this
          · have HF : Hid (fromP bs = (([], []), false)) := by rw [fromP, HRP.out, if_neg (fun h => hE h.1)]; rfl
            have HE := keepBack hE
            generalize hEr : repoErr (l, hs) = E at *
            go_wp2_with fail
            refine (refRepoError_of _ _ _ wr R0 hEr).mono ?_; rintro e w5 ⟨_, rfl, rfl, b5⟩
            clear hEr
            have hrbF := (b5.block rb (by omega)).trans hrb3
            have hbF := bW.trans (b5.mono (by omega))
            clear o0 o1
            have r0 : w5.cell? ⟨rb, 0, none⟩ = some (.slice none 0 0) := by rw [World.cell?, hrbF]; rfl
            have r1 : w5.cell? ⟨rb, 1, none⟩ = some (.slice none 0 0) := by rw [World.cell?, hrbF]; rfl
            have rf := fun i => frozen_of_row w5 rb i _ _ hrbF
            have hfin := heap_setCell_same (w5.setCell ⟨rb, 0, none⟩ (.slice none 0 0)) rb 1 _ _ (.slice none 0 0) (heap_setCell_same w5 rb 0 _ _ (.slice none 0 0) hrbF)
            have Rfin : Rp ((w5.setCell ⟨rb, 0, none⟩ (.slice none 0 0)).setCell ⟨rb, 1, none⟩ (.slice none 0 0)) (fun k => w.heap.size ≤ k) (.agg #[.slice none 0 0, .slice none 0 0]) ([], []) := ⟨_, _, rfl, Sl.nil _ _ _, Sl.nil _ _ _⟩
            go_wp2
            refine bodyPost_ret (fromResults _ _ rb _ _ _ rfl rfl hfin) rfl ⟨_, rfl, ⟨_, ?_, by rw [HF.out]; exact Rfin⟩, ?_⟩
            · rw [HF.out]
            · have hbF : Below rb w w5 := hbF
              have := (hbF.setCell (p := ⟨rb, 0, none⟩) (Nat.le_refl _) (.slice none 0 0)).setCell (p := ⟨rb, 1, none⟩) (Nat.le_refl _) (.slice none 0 0)
              rw [HRB.out]; exact this
        · obtain ⟨j', rfl⟩ : ∃ j', j = j' + 1 := ⟨j - 1, by omega⟩
          have HHJ := keepBack hhj
          have hhl : hs.length ≤ 256 := by omega
          have hjw : wrap64 (j' : Int) = (j' : Int) := by unfold wrap64; omega
          clear hhj
          have fk := byteE_fit t
          have lk := byteE_len t
          have T1 := earByte (rb + 1) t wr het (by omega)
          have HHE : Hid (headE t = ((bl ((byteE t).2.take (nameE t)), (byteE ((byteE t).2.drop (nameE t))).1), (byteE ((byteE t).2.drop (nameE t))).2)) := rfl
          have hnm : nameE t = min (byteE t).1.toNat (byteE t).2.length := rfl
          generalize nameE t = nm at *
          have HNX := keepBack (repE_next hrep3.out)
          rw [HHE.out] at HNX
          have T5 := fun W (h : EarAt W (rb + 1) ((byteE t).2.drop nm)) => earByte (rb + 1) ((byteE t).2.drop nm) W h (by rw [List.length_drop]; omega)
          have fq := byteE_fit ((byteE t).2.drop nm)
          have lq := byteE_len ((byteE t).2.drop nm)
          rw [List.length_drop] at lq
          generalize byteE ((byteE t).2.drop nm) = qq at *
          generalize byteE t = kk at *
          obtain ⟨k0, r4⟩ := kk
          simp only at T1 T5 HNX fk lk hnm lq
          go_wp2_with fail
          refine T1.mono ?_; rintro e w4 ⟨rfl, h4, on4⟩
          clear T1
          have z4 := on4.size
          have s4 := h4.cell
          have sf4 := h4.free
          have hsz4 := bl_size r4
          by_cases hk : k0 ≤ (r4.length : Int)
          · obtain rfl : k0 = (nm : Int) := by omega
            have hnl : nm ≤ r4.length := by omega
            clear hnm HHE
            have hx0 : (bl r4).extract 0 nm = bl (r4.take nm) := bl_take r4 nm
            have hx1 : (bl r4).extract nm r4.length = bl (r4.drop nm) := bl_tl r4 nm _ rfl
            obtain ⟨w5, hw5⟩ : ∃ w5, w5 = w4.alloc (.cells #[.string (bl (r4.take nm)), .int .i64 0] 76) := ⟨_, rfl⟩
            have z5 : w5.heap.size = w4.heap.size + 1 := by rw [hw5]; simp
            have b5 : Below w4.heap.size w4 w5 := by rw [hw5]; exact (Below.refl _ _).alloc (Nat.le_refl _) _
            have hh5 : w5.heap[w4.heap.size]? = some (.cells #[.string (bl (r4.take nm)), .int .i64 0] 76) := by rw [hw5]; exact heap_alloc_new _ _
            have h5 := h4.call b5
            have s5 := h5.cell
            have sf5 := h5.free
            obtain ⟨w6, hw6⟩ : ∃ w6, w6 = w5.setCell ⟨rb + 1, 0, none⟩ (.string (bl (r4.drop nm))) := ⟨_, rfl⟩
            have h6 : EarAt w6 (rb + 1) (r4.drop nm) := by rw [hw6]; exact h5.set _
            have z6 : w6.heap.size = w5.heap.size := by rw [hw6]; simp [World.setCell]
            have on56 : GOn (rb + 1) w5 w6 := by rw [hw6]; exact GOn.set _ _
            have T6 := T5 w6 h6
            clear T5
            rw [hw5] at s5 sf5
            have HW6 : Hid (w6 = (w4.alloc (.cells #[.string (bl (r4.take nm)), .int .i64 0] 76)).setCell ⟨rb + 1, 0, none⟩ (.string (bl (r4.drop nm)))) := by rw [hw6, hw5]; exact rfl
            clear hw5 hw6
            go_wp2_with fail
            rw [← HW6.out]
            refine T6.mono ?_; rintro e w7 ⟨rfl, h7, on7⟩
            clear T6
            have z7 := on7.size
            have on57 := on56.on on7
            have on47 : GOn (rb + 1) w4 w7 := (GOn.of b5).on on57
            have on27 := on4.on on47
            have hh7 := (on57.block w4.heap.size (by omega) (by omega)).trans hh5
            generalize hhb : w4.heap.size = hb4 at *
            have x71 : w7.cell? ⟨hb4, 1, none⟩ = some (.int .i64 0) := by rw [World.cell?, hh7]; rfl
            have xf := fun i => frozen_of_row w7 hb4 i _ _ hh7
            have hh8 := heap_setCell_same w7 hb4 1 _ _ (.int .i64 qq.1) hh7
            obtain ⟨w8, hw8⟩ : ∃ w8, w8 = w7.setCell ⟨hb4, 1, none⟩ (.int .i64 qq.1) := ⟨_, rfl⟩
            rw [← hw8] at hh8
            have z8 : w8.heap.size = w7.heap.size := by rw [hw8]; simp [World.setCell]
            have k8 : ∀ k, k ≠ hb4 → w8.heap[k]? = w7.heap[k]? := fun k hk => by rw [hw8]; exact heap_setCell_other _ _ _ _ hk
            have h8 : EarAt w8 (rb + 1) qq.2 := (k8 _ (by omega)).trans h7
            have on8 : Step (fun k => k = rb + 1) wr w8 := by rw [hw8]; exact on27.late _ (by simp; omega)
            have hob8 := (on8.block (rb + 1 + 1) (by omega) (by omega)).trans hob3
            have hoh8 := hoh.step on8 (fun _ h => h.elim) (fun k hk e => by omega)
            have hrd : tHead.rd w8 (fun _ => False) [.string (bl (r4.take nm)), .int .i64 qq.1] (bl (r4.take nm), qq.1) := ⟨rfl, by unfold i64ok; simp only; omega, by simp only [bl_size, List.length_take]; unfold maxLen; omega⟩
            obtain ⟨a5, L5, c5, w9, hrun, ho9, on9⟩ := hoh8.push aHead _ _ hrd (fun _ h => h.elim) (by omega) (by omega) w7.heap.size z8.symm
            have hvo : ∀ g, vh.ownBlock = some g → w2.heap.size ≤ g := fun g hg => (hoh8.block g hg).1
            have hob9 := (on9.block (rb + 1 + 1) (by omega) (fun e => by have := hvo _ e; omega)).trans hob8
            have x80 : w8.cell? ⟨hb4, 0, none⟩ = some (.string (bl (r4.take nm))) := by rw [World.cell?, hh8]; rfl
            have x81 : w8.cell? ⟨hb4, 1, none⟩ = some (.int .i64 qq.1) := by rw [World.cell?, hh8]; rfl
            have o8 : w8.cell? ⟨rb + 1 + 1, 1, none⟩ = some vh := by rw [World.cell?, hob8]; rfl
            have o9 : w9.cell? ⟨rb + 1 + 1, 1, none⟩ = some vh := by rw [World.cell?, hob9]; rfl
            have of9 := frozen_of_row w9 (rb + 1 + 1) 1 _ _ hob9
            rw [hw8] at x80 x81 o8 hrun
            have HW8 := keepBack hw8
            clear hw8
            have kS : ∀ k, k ≠ rb + 1 + 1 → (w9.setCell ⟨rb + 1 + 1, 1, none⟩ (.slice a5 L5 c5)).heap[k]? = w9.heap[k]? := fun k hk => heap_setCell_other _ _ _ _ hk
            have eR : EarAt (w9.setCell ⟨rb + 1 + 1, 1, none⟩ (.slice a5 L5 c5)) (rb + 1) qq.2 := (kS _ (by omega)).trans (h8.step on9 fun e => by have := hvo _ e; omega)
            have eB : (w9.setCell ⟨rb + 1 + 1, 1, none⟩ (.slice a5 L5 c5)).heap[rb + 1 + 1]? = some (.cells #[v1, .slice a5 L5 c5] 43) := heap_setCell_same w9 (rb + 1 + 1) 1 _ _ _ hob9
            have eO : Own tHead 76 (w9.setCell ⟨rb + 1 + 1, 1, none⟩ (.slice a5 L5 c5)) w2.heap.size (fun _ => False) (.slice a5 L5 c5) (hs ++ [(bl (r4.take nm), qq.1)]) := ho9.keep fun k hk _ => kS k (by
              rcases hk with hk | hk
              · exact hk.elim
              · have := (ho9.block k hk).1; omega)
            have eS : Step (fun k => k = rb + 1 ∨ k = rb + 1 + 1) w2 (w9.setCell ⟨rb + 1 + 1, 1, none⟩ (.slice a5 L5 c5)) :=
              ((hst3.trans on8 fun k _ hk => .inl hk).trans on9 fun k hk e => by have := hvo k e; omega).on (Step.setCell _ _ (.inr rfl))
            go_wp2_with (at_builtin; refine Lib.wpList_append_run _ rfl _ _ _ _ rfl _ _ rfl rfl _ _ hrun ?_)
            go_roundw
            case rel => exact ⟨j', _, _, qq.2, by rw [hjw], by have := HHJ.out; simp; omega, eR, by omega, eB, eO, eS, HNX⟩
            case measure => rw [hjw]; simp [intOf]
          · have hlen : r4.length = nm := by omega
            have hk' : (nm : Int) < k0 := by omega
            clear hnm hk HHE
            rw [hlen] at hsz4
            have hx0 : (bl r4).extract 0 nm = bl (r4.take nm) := bl_take r4 nm
            have hx1 : (bl r4).extract nm nm = bl (r4.drop nm) := bl_tl r4 nm _ hlen.symm
            obtain ⟨w5, hw5⟩ : ∃ w5, w5 = w4.alloc (.cells #[.string (bl (r4.take nm)), .int .i64 0] 76) := ⟨_, rfl⟩
            have z5 : w5.heap.size = w4.heap.size + 1 := by rw [hw5]; simp
            have b5 : Below w4.heap.size w4 w5 := by rw [hw5]; exact (Below.refl _ _).alloc (Nat.le_refl _) _
            have hh5 : w5.heap[w4.heap.size]? = some (.cells #[.string (bl (r4.take nm)), .int .i64 0] 76) := by rw [hw5]; exact heap_alloc_new _ _
            have h5 := h4.call b5
            have s5 := h5.cell
            have sf5 := h5.free
            obtain ⟨w6, hw6⟩ : ∃ w6, w6 = w5.setCell ⟨rb + 1, 0, none⟩ (.string (bl (r4.drop nm))) := ⟨_, rfl⟩
            have h6 : EarAt w6 (rb + 1) (r4.drop nm) := by rw [hw6]; exact h5.set _
            have z6 : w6.heap.size = w5.heap.size := by rw [hw6]; simp [World.setCell]
            have on56 : GOn (rb + 1) w5 w6 := by rw [hw6]; exact GOn.set _ _
            have T6 := T5 w6 h6
            clear T5
            rw [hw5] at s5 sf5
            have HW6 : Hid (w6 = (w4.alloc (.cells #[.string (bl (r4.take nm)), .int .i64 0] 76)).setCell ⟨rb + 1, 0, none⟩ (.string (bl (r4.drop nm)))) := by rw [hw6, hw5]; exact rfl
            clear hw5 hw6
            rw [show bl (r4.drop nm) = ByteArray.empty by rw [List.drop_eq_nil_of_le (by omega)]; rfl] at HW6
            go_wp2_with fail
            rw [← HW6.out]
            refine T6.mono ?_; rintro e w7 ⟨rfl, h7, on7⟩
            clear T6
            have z7 := on7.size
            have on57 := on56.on on7
            have on47 : GOn (rb + 1) w4 w7 := (GOn.of b5).on on57
            have on27 := on4.on on47
            have hh7 := (on57.block w4.heap.size (by omega) (by omega)).trans hh5
            generalize hhb : w4.heap.size = hb4 at *
            have x71 : w7.cell? ⟨hb4, 1, none⟩ = some (.int .i64 0) := by rw [World.cell?, hh7]; rfl
            have xf := fun i => frozen_of_row w7 hb4 i _ _ hh7
            have hh8 := heap_setCell_same w7 hb4 1 _ _ (.int .i64 qq.1) hh7
            obtain ⟨w8, hw8⟩ : ∃ w8, w8 = w7.setCell ⟨hb4, 1, none⟩ (.int .i64 qq.1) := ⟨_, rfl⟩
            rw [← hw8] at hh8
            have z8 : w8.heap.size = w7.heap.size := by rw [hw8]; simp [World.setCell]
            have k8 : ∀ k, k ≠ hb4 → w8.heap[k]? = w7.heap[k]? := fun k hk => by rw [hw8]; exact heap_setCell_other _ _ _ _ hk
            have h8 : EarAt w8 (rb + 1) qq.2 := (k8 _ (by omega)).trans h7
            have on8 : Step (fun k => k = rb + 1) wr w8 := by rw [hw8]; exact on27.late _ (by simp; omega)
            have hob8 := (on8.block (rb + 1 + 1) (by omega) (by omega)).trans hob3
            have hoh8 := hoh.step on8 (fun _ h => h.elim) (fun k hk e => by omega)
            have hrd : tHead.rd w8 (fun _ => False) [.string (bl (r4.take nm)), .int .i64 qq.1] (bl (r4.take nm), qq.1) := ⟨rfl, by unfold i64ok; simp only; omega, by simp only [bl_size, List.length_take]; unfold maxLen; omega⟩
            obtain ⟨a5, L5, c5, w9, hrun, ho9, on9⟩ := hoh8.push aHead _ _ hrd (fun _ h => h.elim) (by omega) (by omega) w7.heap.size z8.symm
            have hvo : ∀ g, vh.ownBlock = some g → w2.heap.size ≤ g := fun g hg => (hoh8.block g hg).1
            have hob9 := (on9.block (rb + 1 + 1) (by omega) (fun e => by have := hvo _ e; omega)).trans hob8
            have x80 : w8.cell? ⟨hb4, 0, none⟩ = some (.string (bl (r4.take nm))) := by rw [World.cell?, hh8]; rfl
            have x81 : w8.cell? ⟨hb4, 1, none⟩ = some (.int .i64 qq.1) := by rw [World.cell?, hh8]; rfl
            have o8 : w8.cell? ⟨rb + 1 + 1, 1, none⟩ = some vh := by rw [World.cell?, hob8]; rfl
            have o9 : w9.cell? ⟨rb + 1 + 1, 1, none⟩ = some vh := by rw [World.cell?, hob9]; rfl
            have of9 := frozen_of_row w9 (rb + 1 + 1) 1 _ _ hob9
            rw [hw8] at x80 x81 o8 hrun
            have HW8 := keepBack hw8
            clear hw8
            have kS : ∀ k, k ≠ rb + 1 + 1 → (w9.setCell ⟨rb + 1 + 1, 1, none⟩ (.slice a5 L5 c5)).heap[k]? = w9.heap[k]? := fun k hk => heap_setCell_other _ _ _ _ hk
            have eR : EarAt (w9.setCell ⟨rb + 1 + 1, 1, none⟩ (.slice a5 L5 c5)) (rb + 1) qq.2 := (kS _ (by omega)).trans (h8.step on9 fun e => by have := hvo _ e; omega)
            have eB : (w9.setCell ⟨rb + 1 + 1, 1, none⟩ (.slice a5 L5 c5)).heap[rb + 1 + 1]? = some (.cells #[v1, .slice a5 L5 c5] 43) := heap_setCell_same w9 (rb + 1 + 1) 1 _ _ _ hob9
            have eO : Own tHead 76 (w9.setCell ⟨rb + 1 + 1, 1, none⟩ (.slice a5 L5 c5)) w2.heap.size (fun _ => False) (.slice a5 L5 c5) (hs ++ [(bl (r4.take nm), qq.1)]) := ho9.keep fun k hk _ => kS k (by
              rcases hk with hk | hk
              · exact hk.elim
              · have := (ho9.block k hk).1; omega)
            have eS : Step (fun k => k = rb + 1 ∨ k = rb + 1 + 1) w2 (w9.setCell ⟨rb + 1 + 1, 1, none⟩ (.slice a5 L5 c5)) :=
              ((hst3.trans on8 fun k _ hk => .inl hk).trans on9 fun k hk e => by have := hvo k e; omega).on (Step.setCell _ _ (.inr rfl))
            go_wp2_with (at_builtin; refine Lib.wpList_append_run _ rfl _ _ _ _ rfl _ _ rfl rfl _ _ hrun ?_)
            go_roundw
            case rel => exact ⟨j', _, _, qq.2, by rw [hjw], by have := HHJ.out; simp; omega, eR, by omega, eB, eO, eS, HNX⟩
            case measure => rw [hjw]; simp [intOf]
    · obtain ⟨m', rfl⟩ : ∃ m', m = m' + 1 := ⟨m - 1, by omega⟩
      obtain ⟨W0, hW0⟩ : ∃ W0, W0 = wr.alloc (.cells #[.slice none 0 0, .slice none 0 0] 65) := ⟨_, rfl⟩
      have z0 : W0.heap.size = wr.heap.size + 1 := by rw [hW0]; simp
      have b0 : Below wr.heap.size wr W0 := by rw [hW0]; exact (Below.refl _ _).alloc (Nat.le_refl _) _
      have hc0 : W0.heap[wr.heap.size]? = some (.cells #[.slice none 0 0, .slice none 0 0] 65) := by rw [hW0]; exact heap_alloc_new _ _
      have HW0 := keepBack hW0
      clear hW0
      have hea0 := hea.call b0
      have how0 := how.call b0
      have hob0 := (b0.block (rb + 1 + 1) (by omega)).trans hob
      have fK := byteE_fit s
      have lK := byteE_len s
      obtain ⟨K, hK⟩ : ∃ K : Nat, (byteE s).1 = (K : Int) := ⟨(byteE s).1.toNat, by omega⟩
      have T := earByte (rb + 1) s W0 hea0 (by omega)
      rw [hK] at T
      have hK256 : K < 256 := by omega
      have HLR : Hid (listE rowE s = repE rowE K (byteE s).2) := by rw [listE, hK]; rfl
      clear fK hK
      generalize (byteE s).2 = t0 at *
      have HLM := keepBack hlm
      clear hlm
      go_wp2_with fail
      rw [← HW0.out]
      refine T.mono ?_; rintro e w2 ⟨rfl, h2, on2⟩
      clear T
      have st2 : Step (fun k => k = rb + 1 ∨ k = wr.heap.size) W0 w2 := on2.mono fun k _ hk => .inl hk
      have hc2 := (on2.block wr.heap.size (by omega) (by omega)).trans hc0
      have hrc : rb + 3 ≤ wr.heap.size := by omega
      generalize hcb : wr.heap.size = cb at *
      go_wp2_with fail
      obtain ⟨wo, rfl⟩ : ∃ wo : World, wo = wr := ⟨_, rfl⟩
      go_loopw [8, 9] (fun uk _ wr => ∃ (j : Nat) (vr : Value) (rs : List Row) (t : Bytes), uk = .int .i64 j ∧ rs.length + j = K ∧ EarAt wr (rb + 1) t ∧ t.length ≤ 4096 ∧ wr.heap[cb]? = some (.cells #[vr, .slice none 0 0] 65) ∧
        Own tRow 74 wr (cb + 1) (fun _ => False) vr rs ∧ Step (fun k => k = rb + 1 ∨ k = cb) W0 wr ∧ Hid (repE rowE K t0 = (rs ++ (repE rowE j t).1, (repE rowE j t).2))) (fun uk _ _ => (intOf uk).toNat)
      case atStart => exact ⟨K, _, [], t0, rfl, by simp, h2, by omega, hc2, Own.nil, st2, repE_start rowE K t0⟩
      case round =>
        obtain ⟨j, vr, rs, t, rfl, hrj, het, htl, hcx, hor, hst2, hrep2⟩ := hrel
        have zr2 := hst2.size
        by_cases hj0 : j = 0
        · subst hj0
          have HRS := keepBack (repE_end hrep2.out)
          have hrsK : rs.length ≤ 256 := by omega
          clear hrj hrep2
          have fP := byteE_fit t
          have lP := byteE_len t
          obtain ⟨M, hM⟩ : ∃ M : Nat, (byteE t).1 = (M : Int) := ⟨(byteE t).1.toNat, by omega⟩
          have T := earByte (rb + 1) t wr het (by omega)
          rw [hM] at T
          have hM256 : M < 256 := by omega
          have HLP : Hid (listE byteE t = repE byteE M (byteE t).2) := by rw [listE, hM]; rfl
          clear fP hM
          generalize (byteE t).2 = u0 at *
          go_wp2_with fail
          refine T.mono ?_; rintro e w10 ⟨rfl, h10, on10⟩
          clear T
          have z10 := on10.size
          have hc10 := (on10.block cb (by omega) (by omega)).trans hcx
          have hor10 := hor.step on10 (fun _ h => h.elim) (fun k hk e => by omega)
          have st10 := hst2.trans on10 fun k _ hk => .inl hk
          go_wp2_with fail
          obtain ⟨wq, rfl⟩ : ∃ wq : World, wq = wr := ⟨_, rfl⟩
          go_loopw [10] (fun uk wr => ∃ (j : Nat) (vp : Value) (ps : List Int) (u : Bytes), uk = .int .i64 j ∧ ps.length + j = M ∧ EarAt wr (rb + 1) u ∧ u.length ≤ 4096 ∧ wr.heap[cb]? = some (.cells #[vr, vp] 65) ∧
            Own tInt 3 wr w10.heap.size (fun _ => False) vp ps ∧ Step (fun k => k = rb + 1 ∨ k = cb) w10 wr ∧ Hid (repE byteE M u0 = (ps ++ (repE byteE j u).1, (repE byteE j u).2))) (fun uk _ => (intOf uk).toNat)
          case atStart => exact ⟨M, _, [], u0, rfl, by simp, h10, by omega, hc10, Own.nil, Step.refl _ _, repE_start byteE M u0⟩
          case round =>
            obtain ⟨j, vp, ps, u, rfl, hpj, heu, hul, hcy, hop, hst3, hrep3⟩ := hrel
            have zr3 := hst3.size
            by_cases hj0 : j = 0
            · subst hj0
              have HPS := keepBack (repE_end hrep3.out)
              have HCM : Hid (comE s = ((rs, ps), u)) := by
                show Hid ((((listE rowE s).1, (listE byteE (listE rowE s).2).1), (listE byteE (listE rowE s).2).2) = _)
                rw [HLR.out, HRS.out]
                show Hid (((rs, (listE byteE t).1), (listE byteE t).2) = _)
                rw [HLP.out, HPS.out]
                rfl
              clear hpj hrep3
              have hS := st10.on hst3
              have hvo : ∀ g, v1.ownBlock = some g → rb + 3 ≤ g ∧ g < cb := fun g hg => by have := how.block g hg; omega
              have how5 : Own tCommit 65 wr (rb + 3) (fun k => rb + 3 ≤ k) v1 l := how.keep fun k hk hlt => (hS.block k (by omega) (by
                rcases hk with hk | hk
                · omega
                · have := hvo k hk; omega)).trans (b0.block k (by omega))
              have hob5 := (hS.block (rb + 1 + 1) (by omega) (by omega)).trans hob0
              have hor5 := (hor10.step hst3 (fun _ h => h.elim) (fun k hk e => by omega)).sl (D := fun k => cb + 1 ≤ k) (fun _ h => h.elim) (fun _ h => h)
              have hop5 := hop.sl (D := fun k => cb + 1 ≤ k) (fun _ h => h.elim) (fun k hk => by omega)
              obtain ⟨b1, d1, rfl, _, _, _⟩ := hor5.shape
              obtain ⟨b2, d2, rfl, _, _, _⟩ := hop5.shape
              have hrd : tCommit.rd wr (fun k => cb + 1 ≤ k) [.slice b1 rs.length d1, .slice b2 ps.length d2] (rs, ps) := ⟨[_], [_], rfl, hor5, hop5⟩
              have hll : l.length ≤ 256 := by have := HLM.out; omega
              obtain ⟨a5, L5, c5, w13, hrun, ho13, on13⟩ := how5.push aCom [.slice b1 rs.length d1, .slice b2 ps.length d2] (rs, ps) hrd (fun k hk _ => ⟨by omega, fun e => by have := hvo k e.symm; omega⟩) (by omega) (by omega) wr.heap.size rfl
              have hob13 := (on13.block (rb + 1 + 1) (by omega) (fun e => by have := hvo _ e; omega)).trans hob5
              generalize rs.length = n1 at *
              generalize ps.length = n2 at *
              have y0 : wr.cell? ⟨cb, 0, none⟩ = some (.slice b1 n1 d1) := by rw [World.cell?, hcy]; rfl
              have y1 : wr.cell? ⟨cb, 1, none⟩ = some (.slice b2 n2 d2) := by rw [World.cell?, hcy]; rfl
              have o0 : wr.cell? ⟨rb + 1 + 1, 0, none⟩ = some v1 := by rw [World.cell?, hob5]; rfl
              have o13 : w13.cell? ⟨rb + 1 + 1, 0, none⟩ = some v1 := by rw [World.cell?, hob13]; rfl
              have of13 := frozen_of_row w13 (rb + 1 + 1) 0 _ _ hob13
              have hmw : wrap64 (m' : Int) = (m' : Int) := by have := HLM.out; unfold wrap64; omega
              have kS : ∀ k, k ≠ rb + 1 + 1 → (w13.setCell ⟨rb + 1 + 1, 0, none⟩ (.slice a5 L5 c5)).heap[k]? = w13.heap[k]? := fun k hk => heap_setCell_other _ _ _ _ hk
              have eR : EarAt (w13.setCell ⟨rb + 1 + 1, 0, none⟩ (.slice a5 L5 c5)) (rb + 1) u := (kS _ (by omega)).trans (heu.step on13 fun e => by have := hvo _ e; omega)
              have eB : (w13.setCell ⟨rb + 1 + 1, 0, none⟩ (.slice a5 L5 c5)).heap[rb + 1 + 1]? = some (.cells #[.slice a5 L5 c5, .slice none 0 0] 43) := heap_setCell_same w13 (rb + 1 + 1) 0 _ _ _ hob13
              have eO : Own tCommit 65 (w13.setCell ⟨rb + 1 + 1, 0, none⟩ (.slice a5 L5 c5)) (rb + 3) (fun k => rb + 3 ≤ k) (.slice a5 L5 c5) (l ++ [(rs, ps)]) := ho13.keep fun k hk _ => kS k (by
                rcases hk with hk | hk
                · omega
                · have := (ho13.block k hk).1; omega)
              have eS : Step (fun k => k = rb + 1 ∨ k = rb + 1 + 1) W3 (w13.setCell ⟨rb + 1 + 1, 0, none⟩ (.slice a5 L5 c5)) :=
                (((hst.on (Step.of_below (by rw [hcb]; exact b0))).trans hS fun k hk e => by omega).trans on13 fun k hk e => by have := hvo k e; omega).on (Step.setCell _ _ (.inr rfl))
              have HNX : Hid (repE comE N s0 = (l ++ [(rs, ps)] ++ (repE comE m' u).1, (repE comE m' u).2)) := by
                have := repE_next hrep.out
                rw [HCM.out] at this
                exact this
              go_wp2_with (at_builtin; refine Lib.wpList_append_run _ rfl _ _ _ _ rfl _ _ rfl rfl _ _ hrun ?_)
              go_roundw
              case rel => exact ⟨m', _, _, u, by rw [hmw], by have := HLM.out; simp; omega, eR, hul, eB, eO, eS, HNX⟩
              case measure => rw [hmw]; simp [intOf]
            · obtain ⟨j', rfl⟩ : ∃ j', j = j' + 1 := ⟨j - 1, by omega⟩
              have HPJ := keepBack hpj
              have hps : ps.length ≤ 256 := by omega
              have hjw : wrap64 (j' : Int) = (j' : Int) := by unfold wrap64; omega
              clear hpj
              have q1 : wr.cell? ⟨cb, 1, none⟩ = some vp := by rw [World.cell?, hcy]; rfl
              have fn := byteE_fit u
              have ln := byteE_len u
              have T := earByte (rb + 1) u wr.drew heu (by omega)
              have FC : ∀ w11, GOn (rb + 1) wr.drew w11 → ∃ (a2 : Option Addr) (L c2 : Nat) (w12 : World), (Builtin.append_ #[33, 33] 33 #[vp, .slice (some ⟨w11.heap.size, 0, none⟩) 1 1]).run Try.prog (w11.alloc (.cells #[.int .i64 (byteE u).1] 3)) = .ok (.slice a2 L c2) w12 ∧
                  Own tInt 3 w12 w10.heap.size (fun _ => False) (.slice a2 L c2) (ps ++ [(byteE u).1]) ∧ Step (fun k => vp.ownBlock = some k) w11 w12 ∧ w11.cell? ⟨cb, 1, none⟩ = some vp ∧ (w11.alloc (.cells #[.int .i64 (byteE u).1] 3)).cell? ⟨cb, 1, none⟩ = some vp ∧
                  w12.cell? ⟨cb, 1, none⟩ = some vp ∧ w12.frozen? ⟨cb, 1, none⟩ = false ∧ w12.heap[cb]? = some (.cells #[vr, vp] 65) := by
                intro w11 on11
                have on11' : GOn (rb + 1) wr w11 := (Step.of_below (Below.refl wr.heap.size wr).drew).on on11
                have z11 := on11'.size
                have hcz := (on11'.block cb (by omega) (by omega)).trans hcy
                have hop11 := hop.step on11' (fun _ h => h.elim) (fun k hk e => by omega)
                obtain ⟨a2, L, c2, w12, hrun, ho12, on12⟩ := hop11.push aInt [.int .i64 (byteE u).1] (byteE u).1 (D := fun _ => False) ⟨rfl, by unfold i64ok; omega⟩ (fun _ h => h.elim) (by omega) (by omega) w11.heap.size rfl
                have hc12 := (on12.block cb (by omega) (fun e => by have := (hop11.block cb e).1; omega)).trans hcz
                have qc : w11.cell? ⟨cb, 1, none⟩ = some vp := by rw [World.cell?, hcz]; rfl
                exact ⟨a2, L, c2, w12, hrun, ho12, on12, qc, (((Below.refl w11.heap.size w11).alloc (Nat.le_refl _) _).cell (p := ⟨cb, 1, none⟩) (by simp; omega)).trans qc, by rw [World.cell?, hc12]; rfl, frozen_of_row w12 cb 1 _ _ hc12, hc12⟩
              have hvo : ∀ g, vp.ownBlock = some g → w10.heap.size ≤ g := fun g hg => (hop.block g hg).1
              have HNX := keepBack (repE_next hrep3.out)
              generalize byteE u = nn at *
              go_wp2_with fail
              go_region_law (first
                | (go_simp; go_at_call 59; refine T.mono ?_; rintro e w11 ⟨rfl, h11, on11⟩; obtain ⟨a2, L, c2, w12, hrun, ho12, on12, qc1, qc2, qc3, qf3, hc12⟩ := FC w11 on11)
                | (refine step_append_is rfl (.tmp 48) (.tmp 51) 33 33 rfl _ _ rfl rfl hrun ?_)
                | fail)
              all_goals
                have z12 := on12.size
                have z11 := on11.size
                have kS : ∀ k, k ≠ cb → (w12.setCell ⟨cb, 1, none⟩ (.slice a2 L c2)).heap[k]? = w12.heap[k]? := fun k hk => heap_setCell_other _ _ _ _ hk
                have eR : EarAt (w12.setCell ⟨cb, 1, none⟩ (.slice a2 L c2)) (rb + 1) nn.2 := (kS _ (by omega)).trans (h11.step on12 fun e => by have := hvo _ e; omega)
                have eC : (w12.setCell ⟨cb, 1, none⟩ (.slice a2 L c2)).heap[cb]? = some (.cells #[vr, .slice a2 L c2] 65) := heap_setCell_same w12 cb 1 _ _ _ hc12
                have eO : Own tInt 3 (w12.setCell ⟨cb, 1, none⟩ (.slice a2 L c2)) w10.heap.size (fun _ => False) (.slice a2 L c2) (ps ++ [nn.1]) := ho12.keep fun k hk _ => kS k (by
                  rcases hk with hk | hk
                  · exact hk.elim
                  · have := (ho12.block k hk).1; omega)
                have on11' : GOn (rb + 1) wr w11 := (Step.of_below (Below.refl wr.heap.size wr).drew).on on11
                have eS : Step (fun k => k = rb + 1 ∨ k = cb) w10 (w12.setCell ⟨cb, 1, none⟩ (.slice a2 L c2)) :=
                  ((hst3.trans on11' fun k _ hk => .inl hk).trans on12 fun k hk e => by have := hvo k e; omega).on (Step.setCell _ _ (.inr rfl))
                go_wp2
                go_roundw
                case rel => exact ⟨j', _, _, nn.2, by rw [hjw], by have := HPJ.out; simp; omega, eR, by omega, eC, eO, eS, HNX⟩
                case measure => rw [hjw]; simp [intOf]
        · obtain ⟨j', rfl⟩ : ∃ j', j = j' + 1 := ⟨j - 1, by omega⟩
          have HRJ := keepBack hrj
          have hrs : rs.length ≤ 256 := by omega
          have hjw : wrap64 (j' : Int) = (j' : Int) := by unfold wrap64; omega
          clear hrj
          have T1 := earByte (rb + 1) t wr het (by omega)
          have fk := byteE_fit t
          have lk := byteE_len t
          have T2 := fun W (h : EarAt W (rb + 1) (byteE t).2) => earTwo (rb + 1) (byteE t).2 W h (by omega)
          have fv := twoE_fit (byteE t).2
          have lv := twoE_len (byteE t).2
          have HRE : Hid (rowE t = (((byteE t).1, (twoE (byteE t).2).1), (twoE (byteE t).2).2)) := rfl
          generalize byteE t = kk at *
          generalize twoE kk.2 = vv at *
          go_wp2_with fail
          refine T1.mono ?_; rintro e w5 ⟨rfl, h5, on5⟩
          clear T1
          have z5 := on5.size
          obtain ⟨w6, hw6⟩ : ∃ w6, w6 = w5.alloc (.cells #[.int .i64 kk.1, .int .i64 0] 74) := ⟨_, rfl⟩
          have z6 : w6.heap.size = w5.heap.size + 1 := by rw [hw6]; simp
          have b6 : Below w5.heap.size w5 w6 := by rw [hw6]; exact (Below.refl _ _).alloc (Nat.le_refl _) _
          have hx6 : w6.heap[w5.heap.size]? = some (.cells #[.int .i64 kk.1, .int .i64 0] 74) := by rw [hw6]; exact heap_alloc_new _ _
          have h6 := h5.call b6
          have HW6 := keepBack hw6
          clear hw6
          go_wp2_with fail
          rw [← HW6.out]
          refine (T2 w6 h6).mono ?_; rintro e w7 ⟨rfl, h7, on7⟩
          clear T2
          have z7 := on7.size
          generalize hxb : w5.heap.size = xb at *
          have hx7 := (on7.block xb (by omega) (by omega)).trans hx6
          have x70 : w7.cell? ⟨xb, 0, none⟩ = some (.int .i64 kk.1) := by rw [World.cell?, hx7]; rfl
          have x71 : w7.cell? ⟨xb, 1, none⟩ = some (.int .i64 0) := by rw [World.cell?, hx7]; rfl
          have xf := fun i => frozen_of_row w7 xb i _ _ hx7
          have hx8 := heap_setCell_same w7 xb 1 _ _ (.int .i64 vv.1) hx7
          obtain ⟨w8, hw8⟩ : ∃ w8, w8 = w7.setCell ⟨xb, 1, none⟩ (.int .i64 vv.1) := ⟨_, rfl⟩
          rw [← hw8] at hx8
          have z8 : w8.heap.size = w7.heap.size := by rw [hw8]; simp [World.setCell]
          have k8 : ∀ k, k ≠ xb → w8.heap[k]? = w7.heap[k]? := fun k hk => by rw [hw8]; exact heap_setCell_other _ _ _ _ hk
          have h8 : EarAt w8 (rb + 1) vv.2 := (k8 _ (by omega)).trans h7
          have on58 : Step (fun k => k = rb + 1) wr w8 := by rw [hw8]; exact ((on5.on (GOn.of (by rw [hxb]; exact b6))).on on7).late _ (by simp; omega)
          have hc8 : w8.heap[cb]? = some (.cells #[vr, .slice none 0 0] 65) := (on58.block cb (by omega) (by omega)).trans hcx
          have hor8 : Own tRow 74 w8 (cb + 1) (fun _ => False) vr rs := hor.step on58 (fun _ h => h.elim) (fun k hk e => by omega)
          have hrd : tRow.rd w8 (fun _ => False) [.int .i64 kk.1, .int .i64 vv.1] (kk.1, vv.1) := ⟨rfl, by unfold i64ok; simp only; omega, by unfold i64ok; simp only; omega⟩
          obtain ⟨a2, L, c2, w9, hrun, ho9, on9⟩ := hor8.push aRow _ _ hrd (fun _ h => h.elim) (by omega) (by omega) w7.heap.size z8.symm
          have hc9 : w9.heap[cb]? = some (.cells #[vr, .slice none 0 0] 65) := (on9.block cb (by omega) (fun e => by have := (hor8.block cb e).1; omega)).trans hc8
          have cl := (Below.refl w8.heap.size w8).alloc (Nat.le_refl _) (.cells [Value.int .i64 kk.1, .int .i64 vv.1].toArray 74)
          have c80 : w8.cell? ⟨cb, 0, none⟩ = some vr := by rw [World.cell?, hc8]; rfl
          have x80 : w8.cell? ⟨xb, 0, none⟩ = some (.int .i64 kk.1) := by rw [World.cell?, hx8]; rfl
          have x81 : w8.cell? ⟨xb, 1, none⟩ = some (.int .i64 vv.1) := by rw [World.cell?, hx8]; rfl
          have c90 : w9.cell? ⟨cb, 0, none⟩ = some vr := by rw [World.cell?, hc9]; rfl
          have c9f := frozen_of_row w9 cb 0 _ _ hc9
          rw [hw8] at c80 x80 x81 hrun
          have HW8 := keepBack hw8
          clear hw8
          go_wp2_with (at_builtin; refine Lib.wpList_append_run _ rfl _ _ _ _ rfl _ _ rfl rfl _ _ hrun ?_)
          have hvo : ∀ g, vr.ownBlock = some g → cb + 1 ≤ g := fun g hg => (hor8.block g hg).1
          have kS : ∀ k, k ≠ cb → (w9.setCell ⟨cb, 0, none⟩ (.slice a2 L c2)).heap[k]? = w9.heap[k]? := fun k hk => heap_setCell_other _ _ _ _ hk
          have eR : EarAt (w9.setCell ⟨cb, 0, none⟩ (.slice a2 L c2)) (rb + 1) vv.2 := (kS _ (by omega)).trans (h8.step on9 fun e => by have := hvo _ e; omega)
          have eC : (w9.setCell ⟨cb, 0, none⟩ (.slice a2 L c2)).heap[cb]? = some (.cells #[.slice a2 L c2, .slice none 0 0] 65) := heap_setCell_same w9 cb 0 _ _ _ hc9
          have eO : Own tRow 74 (w9.setCell ⟨cb, 0, none⟩ (.slice a2 L c2)) (cb + 1) (fun _ => False) (.slice a2 L c2) (rs ++ [(kk.1, vv.1)]) := ho9.keep fun k hk _ => kS k (by
            rcases hk with hk | hk
            · exact hk.elim
            · have := (ho9.block k hk).1; omega)
          have eS : Step (fun k => k = rb + 1 ∨ k = cb) W0 (w9.setCell ⟨cb, 0, none⟩ (.slice a2 L c2)) :=
            ((hst2.trans on58 fun k _ hk => .inl hk).trans on9 fun k hk e => by have := hvo k e; omega).on (Step.setCell _ _ (.inr rfl))
          have eH : Hid (repE rowE K t0 = (rs ++ [(kk.1, vv.1)] ++ (repE rowE j' vv.2).1, (repE rowE j' vv.2).2)) := by
            have := repE_next hrep2.out
            rw [HRE.out] at this
            exact this
          go_roundw
          case rel => exact ⟨j', _, _, vv.2, by rw [hjw], by have := HRJ.out; simp; omega, eR, by omega, eC, eO, eS, eH⟩
          case measure => rw [hjw]; simp [intOf]

end Go.Pch
