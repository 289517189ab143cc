/- The walk of repo.Own. A desk, where a repo is worked on: the walks of desk.head. The walk of work.open. -/
import Derived.Test.YtjjkdpjjaijmbaaGreatDoorDg9
import Derived.Test.YtjjkdpjjaijmbaaGreatDoorDg7
section
namespace Go.Pch
open Go.RowKit Go.Proofs
set_option maxRecDepth 100000
structure OwnR (w : World) (B : Nat) (vc vh : Value) (r : Repo) : Prop where
  coms : Own tCommit 59 w B (fun k => B ≤ k ∧ some k ≠ vh.ownBlock) vc r.1
  heads : Own tHead 61 w B (fun _ => False) vh r.2
theorem OwnR.rp {w : World} {B : Nat} {vc vh : Value} {r : Repo} (h : OwnR w B vc vh r) : Rp w (fun k => B ≤ k) (.agg #[vc, vh]) r :=
  ⟨_, _, rfl, h.coms.sl (fun _ h => h.1) (fun _ h => h), h.heads.sl (fun _ h => h.elim) (fun _ h => h)⟩
theorem Own.lower {α : Type} {E : Ty α} {e : TypeId} {w : World} {B B' : Nat} {C : Blk} {v : Value} {l : List α} (h : Own E e w B' C v l) (hB : B ≤ B') : Own E e w B C v l := by
  obtain ⟨xs, hr, hE⟩ := h
  refine ⟨xs, ⟨hr.1, ?_⟩, hE⟩
  rcases hr.2 with hn | ⟨g, cap, cur, h1, h2, h3⟩
  · exact .inl hn
  · exact .inr ⟨g, cap, cur, h1, Nat.le_trans hB h2, h3⟩
theorem Own.flatHead {w : World} {B : Nat} {C D : Blk} {v : Value} {l : List Head} (h : Own tHead 61 w B C v l) : Own tHead 61 w B D v l := by
  obtain ⟨xs, hr, hE⟩ := h
  exact ⟨xs, hr, ⟨hE.1, fun i cs a hc ha => hE.2 i cs a hc ha⟩⟩
theorem Own.flatRow {w : World} {B : Nat} {C D : Blk} {v : Value} {l : List Row} (h : Own tRow 86 w B C v l) : Own tRow 86 w B D v l := by
  obtain ⟨xs, hr, hE⟩ := h
  exact ⟨xs, hr, ⟨hE.1, fun i cs a hc ha => hE.2 i cs a hc ha⟩⟩
theorem Own.flatInt {w : World} {B : Nat} {C D : Blk} {v : Value} {l : List Int} (h : Own tInt 3 w B C v l) : Own tInt 3 w B D v l := by
  obtain ⟨xs, hr, hE⟩ := h
  exact ⟨xs, hr, ⟨hE.1, fun i cs a hc ha => hE.2 i cs a hc ha⟩⟩
def NewTo (w : World) (B : Nat) (ob : Option Nat) (ao : Option Addr) (cs : List Commit) (k : Nat) : Prop :=
  ∀ g, ao = some ⟨g, 0, none⟩ → ∀ i c, i < k → cs[i]? = some c → ∃ x y, w.cell? ⟨g, i * 2, none⟩ = some x ∧ w.cell? ⟨g, i * 2 + 1, none⟩ = some y ∧
    Sl tRow w (fun q => (B ≤ q ∧ some q ≠ ob) ∧ (q ≠ B ∧ q ≠ B + 1) ∧ q ≠ g) x c.1 ∧ Sl tInt w (fun q => (B ≤ q ∧ some q ≠ ob) ∧ (q ≠ B ∧ q ≠ B + 1) ∧ q ≠ g) y c.2
set_option maxHeartbeats 1000000 in
theorem repoOwn (v : Value) (r : Repo) (S : Blk) (w : World) (h : Rp w S v r) (h1 : r.1.length ≤ 1000) (h2 : r.2.length ≤ 1000) (h3 : ∀ c ∈ r.1, c.1.length ≤ 1000 ∧ c.2.length ≤ 1000) :
    Calls Tryz.prog 132 #[v] w (Ret w fun x W => ∃ vc vh, x = .agg #[vc, vh] ∧ OwnR W w.heap.size vc vh r) := by
  obtain ⟨cs, hs⟩ := r
  obtain ⟨vc, vh, rfl, hc, hh⟩ := h
  obtain ⟨ac, cc, rfl, _, _, _⟩ := hc.shape
  obtain ⟨ah, ch, rfl, _, _, _⟩ := hh.shape
  simp only at hc hh h1 h2 h3
  obtain ⟨W2, hW2⟩ : ∃ W2, W2 = (w.alloc (.cells #[.slice ac cs.length cc, .slice ah hs.length ch] 33)).alloc (.cells #[.slice none 0 0, .slice none 0 0] 33) := ⟨_, rfl⟩
  have z2 : W2.heap.size = w.heap.size + 2 := by rw [hW2]; simp
  have b2 : Below w.heap.size w W2 := by rw [hW2]; exact ((Below.refl _ _).alloc (Nat.le_refl _) _).alloc (by simp) _
  have hb2 : W2.heap[w.heap.size]? = some (.cells #[.slice ac cs.length cc, .slice ah hs.length ch] 33) := by rw [hW2]; exact (Below.heap_alloc _ _ _ (by simp)).trans (heap_alloc_new _ _)
  have hr2 : W2.heap[w.heap.size + 1]? = some (.cells #[.slice none 0 0, .slice none 0 0] 33) := by
    rw [hW2]
    have := heap_alloc_new (w.alloc (.cells #[.slice ac cs.length cc, .slice ah hs.length ch] 33)) (.cells #[.slice none 0 0, .slice none 0 0] 33)
    rwa [show (w.alloc (.cells #[.slice ac cs.length cc, .slice ah hs.length ch] 33)).heap.size = w.heap.size + 1 by simp] at this
  have hh2 := hh.call b2
  have hc2 := hc.call b2
  have HW2 := keepBack hW2
  clear hW2
  have hlc : cs.length ≤ 1000000 := by omega
  have hlh : hs.length ≤ 1000000 := by omega
  have T1 := ownHead _ hs S W2 hh2 hlh
  go_enter Tryz.func132, Tryz.ntmps132
  go_wp2_with fail
  rw [← HW2.out]
  refine T1.mono ?_; rintro e w3 ⟨_, rfl, hoh, b3⟩
  clear T1
  have z3 := b3.size
  obtain ⟨ah', ch', rfl, _, _⟩ := hoh.shape
  have HHB : Hid (∀ q, Value.ownBlock (.slice ah' hs.length ch') = some q → q < w3.heap.size) := keepBack fun q hq => (hoh.block q hq).2
  have hb3 := (b3.block w.heap.size (by omega)).trans hb2
  have p1 : w3.cell? ⟨w.heap.size, 1, none⟩ = some (.slice ah hs.length ch) := by rw [World.cell?, hb3]; rfl
  have pf := fun i => frozen_of_row w3 w.heap.size i _ _ hb3
  obtain ⟨w4, hw4⟩ : ∃ w4, w4 = w3.setCell ⟨w.heap.size, 1, none⟩ (.slice ah' hs.length ch') := ⟨_, rfl⟩
  have z4 : w4.heap.size = w3.heap.size := by rw [hw4]; simp [World.setCell]
  have k4 : ∀ k, k ≠ w.heap.size → w4.heap[k]? = w3.heap[k]? := fun k hk => by rw [hw4]; exact heap_setCell_other _ _ _ _ hk
  have hb4 : w4.heap[w.heap.size]? = some (.cells #[.slice ac cs.length cc, .slice ah' hs.length ch'] 33) := by rw [hw4]; exact heap_setCell_same w3 _ 1 _ _ _ hb3
  have b04 : Below w.heap.size w w4 := by rw [hw4]; exact (b2.trans (b3.mono (by omega))).setCell (Nat.le_refl _) _
  have b04' : Below w.heap.size w w4 := b04
  have hoh4 : Own tHead 61 w4 (w.heap.size + 2) (fun _ => False) (.slice ah' hs.length ch') hs := by
    have := hoh.flatHead (D := fun _ => False)
    rw [z2] at this
    exact this.keep fun k hk _ => k4 k (by
      rcases hk with hk | hk
      · exact hk.elim
      · have := (this.block k hk).1; omega)
  have T2 := ownCom _ cs _ w4 (hc.old.call b04') hlc
  have p0 : w4.cell? ⟨w.heap.size, 0, none⟩ = some (.slice ac cs.length cc) := by rw [World.cell?, hb4]; rfl
  rw [hw4] at p0
  have HW4 := keepBack hw4
  clear hw4
  go_wp2_with fail
  rw [← HW4.out]
  refine T2.mono ?_; rintro e w5 ⟨_, rfl, hoc, b5⟩
  clear T2
  have z5 := b5.size
  obtain ⟨ac', cc', rfl, _, _⟩ := hoc.shape
  have hb5 := (b5.block w.heap.size (by omega)).trans hb4
  have q0 : w5.cell? ⟨w.heap.size, 0, none⟩ = some (.slice ac cs.length cc) := by rw [World.cell?, hb5]; rfl
  have qf := fun i => frozen_of_row w5 w.heap.size i _ _ hb5
  obtain ⟨w6, hw6⟩ : ∃ w6, w6 = w5.setCell ⟨w.heap.size, 0, none⟩ (.slice ac' cs.length cc') := ⟨_, rfl⟩
  have z6 : w6.heap.size = w5.heap.size := by rw [hw6]; simp [World.setCell]
  have k6 : ∀ k, k ≠ w.heap.size → w6.heap[k]? = w5.heap[k]? := fun k hk => by rw [hw6]; exact heap_setCell_other _ _ _ _ hk
  have hb6 : w6.heap[w.heap.size]? = some (.cells #[.slice ac' cs.length cc', .slice ah' hs.length ch'] 33) := by rw [hw6]; exact heap_setCell_same w5 _ 0 _ _ _ hb5
  have c6 : w6.cell? ⟨w.heap.size, 0, none⟩ = some (.slice ac' cs.length cc') := by rw [World.cell?, hb6]; rfl
  rw [hw6] at c6
  have HW6 := keepBack hw6
  clear hw6
  have hr6 : w6.heap[w.heap.size + 1]? = some (.cells #[.slice none 0 0, .slice none 0 0] 33) := (k6 _ (by omega)).trans ((b5.block _ (by omega)).trans ((k4 _ (by omega)).trans ((b3.block _ (by omega)).trans hr2)))
  have b06 : Below w.heap.size w w6 := (b04.trans (b5.mono (by omega))).trans ⟨by rw [HW6.out]; rfl, by rw [HW6.out]; rfl, by rw [HW6.out]; rfl, by omega, fun k hk => k6 k (by omega)⟩
  have hoh6 : Own tHead 61 w6 (w.heap.size + 2) (fun _ => False) (.slice ah' hs.length ch') hs := (hoh4.call b5).keep fun k hk _ => k6 k (by
    rcases hk with hk | hk
    · exact hk.elim
    · have := (hoh4.block k hk).1; omega)
  have hoc6 : Own tCommit 59 w6 w4.heap.size (fun k => k ≠ w.heap.size ∧ k ≠ w.heap.size + 1) (.slice ac' cs.length cc') cs := (hoc.mono fun k hk _ => (⟨by omega, by omega⟩ : k ≠ w.heap.size ∧ k ≠ w.heap.size + 1)).keep fun k hk _ => k6 k (by
    rcases hk with hk | hk
    · exact hk.1
    · have := (hoc.block k hk).1; omega)
  go_wp2_with fail
  go_loopw [3, 4, 16] (fun _ _ i wr => ∃ (k : Nat), k ≤ cs.length ∧ i = .int .i64 k ∧ wr.heap[w.heap.size]? = some (.cells #[.slice ac' cs.length cc', .slice ah' hs.length ch'] 33) ∧ wr.heap[w.heap.size + 1]? = some (.cells #[.slice none 0 0, .slice none 0 0] 33) ∧ Below w.heap.size w wr ∧
    Own tHead 61 wr (w.heap.size + 2) (fun _ => False) (.slice ah' hs.length ch') hs ∧ Own tCommit 59 wr w4.heap.size (fun k => k ≠ w.heap.size ∧ k ≠ w.heap.size + 1) (.slice ac' cs.length cc') cs ∧ NewTo wr w.heap.size (Value.slice ah' hs.length ch').ownBlock ac' cs k) (fun _ _ i _ => cs.length - (intOf i).toNat)
  case atStart =>
    rw [← HW6.out]
    exact ⟨0, Nat.zero_le _, rfl, hb6, hr6, b06, hoh6, hoc6, fun _ _ _ _ h => absurd h (Nat.not_lt_zero _)⟩
  case round =>
    obtain ⟨k, hk, rfl, hb, hr, bw, hoh, hoc, hnew⟩ := hrel
    have zr := bw.size
    by_cases hlt : k < cs.length
    · obtain ⟨rs, ps, hck⟩ : ∃ rs ps, cs[k]? = some (rs, ps) := ⟨cs[k].1, cs[k].2, List.getElem?_eq_getElem hlt⟩
      obtain ⟨g, cap, es, e1, _, _, hgB, hgl, hrd, hcell, hfr, hset⟩ := hoc.setPart hck
      simp only [Value.slice.injEq] at e1
      obtain ⟨rfl, _, rfl⟩ := e1
      obtain ⟨xa, xb, rfl, ⟨a1, m1, d1, rfl, hx1⟩, ⟨a2, m2, d2, rfl, hx2⟩⟩ := hrd
      have hm1 : rs.length = m1 := hx1.1
      have hm2 : ps.length = m2 := hx2.1
      subst hm1 hm2
      have t0 := hcell 0 _ rfl
      have t1 := hcell 1 _ rfl
      have hix := fun W => run_idx (T := 30) aCom (b := g) (o := 0) (len := cs.length) (cap := cc') (k : Int) k rfl hlt W
      have p0 : wr.cell? ⟨w.heap.size, 0, none⟩ = some (.slice (some ⟨g, 0, none⟩) cs.length cc') := by rw [World.cell?, hb]; rfl
      have hE2 : tCommit.size = 2 := rfl
      rw [hE2] at t0 t1
      rw [Nat.add_zero] at t0
      simp only [Nat.zero_add] at hix
      rw [hE2] at hix
      have hrl : rs.length ≤ 1000 ∧ ps.length ≤ 1000 := h3 (rs, ps) (List.mem_of_getElem? hck)
      have hxr : Sl tRow wr.drew (fun k => (k ≠ w.heap.size ∧ k ≠ w.heap.size + 1) ∧ k ≠ g) (.slice a1 rs.length d1) rs := Sl.keep (w := wr) ⟨_, _, _, rfl, hx1⟩ fun _ _ _ => rfl
      have hyi : Sl tInt wr (fun k => (k ≠ w.heap.size ∧ k ≠ w.heap.size + 1) ∧ k ≠ g) (.slice a2 ps.length d2) ps := ⟨_, _, _, rfl, hx2⟩
      have T1 := ownRow _ rs _ wr.drew hxr (by omega)
      have hgw : g ≠ w.heap.size ∧ g ≠ w.heap.size + 1 := by omega
      have FIN : ∀ (W8 : World) (x y : Value), Below wr.heap.size wr W8 → Sl tRow W8 (fun k => wr.heap.size ≤ k) x rs → Sl tInt W8 (fun k => wr.heap.size ≤ k) y ps →
          W8.cell? ⟨g, k * 2, none⟩ = some (.slice a1 rs.length d1) ∧ W8.cell? ⟨g, k * 2 + 1, none⟩ = some (.slice a2 ps.length d2) ∧ (W8.setCell ⟨g, k * 2, none⟩ x).cell? ⟨g, k * 2 + 1, none⟩ = some (.slice a2 ps.length d2) ∧ (∀ i, W8.frozen? ⟨g, i, none⟩ = false) ∧ (∀ i, (W8.setCell ⟨g, k * 2, none⟩ x).frozen? ⟨g, i, none⟩ = false) ∧
          Own tCommit 59 ((W8.setCell ⟨g, k * 2, none⟩ x).setCell ⟨g, k * 2 + 1, none⟩ y) w4.heap.size (fun k => k ≠ w.heap.size ∧ k ≠ w.heap.size + 1) (.slice (some ⟨g, 0, none⟩) cs.length cc') cs ∧
          NewTo ((W8.setCell ⟨g, k * 2, none⟩ x).setCell ⟨g, k * 2 + 1, none⟩ y) w.heap.size (Value.slice ah' hs.length ch').ownBlock (some ⟨g, 0, none⟩) cs (k + 1) := by
        intro W8 x y hW hx hy
        have hset1 : cs.set k (rs, ps) = cs := by
          obtain ⟨hh, e⟩ := List.getElem?_eq_some_iff.1 hck
          rw [← e, List.set_getElem_self]
        have zW := hW.size
        have HAP : ∀ q, wr.heap.size ≤ q → some q ≠ (Value.slice ah' hs.length ch').ownBlock := fun q hq e => by have := (hoh.block q e.symm).2; omega
        have f1 := (hW.cell (p := ⟨g, k * 2, none⟩) hgl).trans t0
        have f2 := (hW.cell (p := ⟨g, k * 2 + 1, none⟩) hgl).trans t1
        obtain ⟨g8, cap8, es8, e8, _, _, _, _, hrd8, hcell8, hfr8, hset8⟩ := (hoc.call hW).setPart hck
        simp only [Value.slice.injEq, Option.some.injEq, Addr.mk.injEq] at e8
        obtain ⟨⟨rfl, _⟩, _, rfl⟩ := e8
        obtain ⟨ya, yb, rfl, ⟨u1, v1, s1, rfl, hy1⟩, ⟨u2, v2, s2, rfl, hy2⟩⟩ := hrd8
        have hx' : Sl tRow W8 (fun k => (k ≠ w.heap.size ∧ k ≠ w.heap.size + 1) ∧ k ≠ g) x rs := hx.mono fun k hk _ => ⟨⟨by omega, by omega⟩, by omega⟩
        have O1 := hset8 0 x (rs, ps) (by decide) ⟨[x], [_], rfl, hx', ⟨_, _, _, rfl, hy2⟩⟩
        rw [hset1, hE2, Nat.add_zero] at O1
        obtain ⟨g9, cap9, es9, e9, _, _, _, _, hrd9, hcell9, hfr9, hset9⟩ := O1.setPart hck
        simp only [Value.slice.injEq, Option.some.injEq, Addr.mk.injEq] at e9
        obtain ⟨⟨rfl, _⟩, _, rfl⟩ := e9
        obtain ⟨za, zb, rfl, ⟨u3, v3, s3, rfl, hz1⟩, ⟨u4, v4, s4, rfl, hz2⟩⟩ := hrd9
        have hy' : Sl tInt (W8.setCell ⟨g, k * 2, none⟩ x) (fun k => (k ≠ w.heap.size ∧ k ≠ w.heap.size + 1) ∧ k ≠ g) y ps := (hy.mono fun k hk _ => (⟨⟨by omega, by omega⟩, by omega⟩ : (k ≠ w.heap.size ∧ k ≠ w.heap.size + 1) ∧ k ≠ g)).keep fun k hk _ => heap_setCell_other _ _ _ _ (by simpa using hk.2)
        have O2 := hset9 1 y (rs, ps) (by decide) ⟨[_], [y], rfl, ⟨_, _, _, rfl, hz1⟩, hy'⟩
        rw [hset1, hE2] at O2
        have k8 : ∀ q, q ≠ g → ((W8.setCell ⟨g, k * 2, none⟩ x).setCell ⟨g, k * 2 + 1, none⟩ y).heap[q]? = W8.heap[q]? := fun q hq => (heap_setCell_other _ _ _ _ hq).trans (heap_setCell_other _ _ _ _ hq)
        refine ⟨f1, f2, (World.cell?_setCell_other _ _ _ _ (by simp)).trans f2, hfr8, hfr9, O2, fun g' hg' i c hi hc => ?_⟩
        obtain rfl : g = g' := by simpa using hg'
        by_cases hik : i = k
        · subst hik
          obtain rfl : (rs, ps) = c := Option.some.inj (hck.symm.trans hc)
          refine ⟨x, y, (World.cell?_setCell_other _ _ _ _ (by simp)).trans (World.cell?_setCell_same _ _ _ f1), World.cell?_setCell_same _ _ _ ((World.cell?_setCell_other _ _ _ _ (by simp)).trans f2), (hx.mono fun q hq _ => ⟨⟨by omega, HAP q hq⟩, ⟨by omega, by omega⟩, by omega⟩).keep fun q hq _ => k8 q hq.2.2, (hy.mono fun q hq _ => ⟨⟨by omega, HAP q hq⟩, ⟨by omega, by omega⟩, by omega⟩).keep fun q hq _ => k8 q hq.2.2⟩
        · obtain ⟨x', y', c1, c2, r1, r2⟩ := hnew g rfl i c (by omega) hc
          have d1 := (hW.cell (p := ⟨g, i * 2, none⟩) hgl).trans c1
          have d2 := (hW.cell (p := ⟨g, i * 2 + 1, none⟩) hgl).trans c2
          refine ⟨x', y', (World.cell?_setCell_other _ _ _ _ (by simp <;> omega)).trans ((World.cell?_setCell_other _ _ _ _ (by simp <;> omega)).trans d1), (World.cell?_setCell_other _ _ _ _ (by simp <;> omega)).trans ((World.cell?_setCell_other _ _ _ _ (by simp <;> omega)).trans d2), ?_, ?_⟩
          · exact r1.keep fun q hq hl => (k8 q hq.2.2).trans (hW.block q hl)
          · exact r2.keep fun q hq hl => (k8 q hq.2.2).trans (hW.block q hl)
      go_wp2_with fail
      go_region_law (first
        | (go_simp; go_at_call 147; refine T1.mono ?_; rintro e w7 ⟨_, rfl, ho7, b7⟩; obtain ⟨a7, d7, rfl, _, _⟩ := ho7.shape; have b7' : Below wr.heap.size wr w7 := (Below.refl wr.heap.size wr).drew.trans b7; have t17 := (b7'.cell (p := ⟨g, k * 2 + 1, none⟩) hgl).trans t1)
        | (go_simp; go_at_call 170; refine (ownInt _ ps _ w7 (hyi.call b7') (by omega)).mono ?_; rintro e w8 ⟨_, rfl, ho8, b8⟩; obtain ⟨a8, d8, rfl, _, _⟩ := ho8.shape; have b8' : Below wr.heap.size wr w8 := b7'.trans (b8.mono b7'.size); obtain ⟨f1, f2, f3, f4, f5, f6, f7⟩ := FIN w8 (.slice a7 rs.length d7) (.slice a8 ps.length d8) b8' (((ho7.flatRow (D := fun _ => False)).sl (D := fun k => wr.heap.size ≤ k) (fun _ h => h.elim) (fun _ h => h)).call b8) ((ho8.flatInt (D := fun _ => False)).sl (D := fun k => wr.heap.size ≤ k) (fun _ h => h.elim) (fun k hk => Nat.le_trans b7'.size hk)))
        | fail)
      all_goals
        have k8 : ∀ q, q ≠ g → ((w8.setCell ⟨g, k * 2, none⟩ (.slice a7 rs.length d7)).setCell ⟨g, k * 2 + 1, none⟩ (.slice a8 ps.length d8)).heap[q]? = w8.heap[q]? := fun q hq => (heap_setCell_other _ _ _ _ hq).trans (heap_setCell_other _ _ _ _ hq)
        have y1 := (k8 w.heap.size hgw.1.symm).trans ((b8'.block w.heap.size (by omega)).trans hb)
        have y2 := (k8 (w.heap.size + 1) hgw.2.symm).trans ((b8'.block (w.heap.size + 1) (by omega)).trans hr)
        have y3 := ((bw.trans (b8'.mono (by omega))).setCell (p := ⟨g, k * 2, none⟩) (by simp; omega) (.slice a7 rs.length d7)).setCell (p := ⟨g, k * 2 + 1, none⟩) (by simp; omega) (.slice a8 ps.length d8)
        have y4 : Own tHead 61 ((w8.setCell ⟨g, k * 2, none⟩ (.slice a7 rs.length d7)).setCell ⟨g, k * 2 + 1, none⟩ (.slice a8 ps.length d8)) (w.heap.size + 2) (fun _ => False) (.slice ah' hs.length ch') hs := (hoh.call b8').keep fun q hq _ => k8 q (by
          rcases hq with hq | hq
          · exact hq.elim
          · have := HHB.out q hq; omega)
        go_wp2
        go_roundw
        case rel => exact ⟨k + 1, by omega, by go_num, y1, y2, y3, y4, f6, f7⟩
        case measure => simp [intOf]; omega
    · have p0 : wr.cell? ⟨w.heap.size, 0, none⟩ = some (.slice ac' cs.length cc') := by rw [World.cell?, hb]; rfl
      have p1 : wr.cell? ⟨w.heap.size, 1, none⟩ = some (.slice ah' hs.length ch') := by rw [World.cell?, hb]; rfl
      have r0 : wr.cell? ⟨w.heap.size + 1, 0, none⟩ = some (.slice none 0 0) := by rw [World.cell?, hr]; rfl
      have r1 : wr.cell? ⟨w.heap.size + 1, 1, none⟩ = some (.slice none 0 0) := by rw [World.cell?, hr]; rfl
      have rf := fun i => frozen_of_row wr (w.heap.size + 1) i _ _ hr
      have hfin := heap_setCell_same (wr.setCell ⟨w.heap.size + 1, 0, none⟩ (.slice ac' cs.length cc')) (w.heap.size + 1) 1 _ _ (.slice ah' hs.length ch') (heap_setCell_same wr (w.heap.size + 1) 0 _ _ (.slice ac' cs.length cc') hr)
      have k9 : ∀ q, q ≠ w.heap.size + 1 → ((wr.setCell ⟨w.heap.size + 1, 0, none⟩ (.slice ac' cs.length cc')).setCell ⟨w.heap.size + 1, 1, none⟩ (.slice ah' hs.length ch')).heap[q]? = wr.heap[q]? := fun q hq => (heap_setCell_other _ _ _ _ hq).trans (heap_setCell_other _ _ _ _ hq)
      have hF : OwnR ((wr.setCell ⟨w.heap.size + 1, 0, none⟩ (.slice ac' cs.length cc')).setCell ⟨w.heap.size + 1, 1, none⟩ (.slice ah' hs.length ch')) w.heap.size (.slice ac' cs.length cc') (.slice ah' hs.length ch') (cs, hs) :=
        ⟨((hoc.keep fun q hq _ => k9 q (by
          rcases hq with hq | hq
          · exact hq.2
          · have := (hoc.block q hq).1; omega)).regard fun g cap hv i a hi => by
            simp only [Value.slice.injEq] at hv
            obtain ⟨rfl, _, _⟩ := hv
            have hil := (List.getElem?_eq_some_iff.1 hi).1
            obtain ⟨x, y, c1, c2, r1, r2⟩ := hnew g rfl i a (by omega) hi
            have hg := (hoc.block g rfl).1
            refine ⟨[x, y], rfl, fun j u hu => ?_, ⟨[x], [y], rfl, ?_, ?_⟩⟩
            · rcases j with _ | _ | j
              · obtain rfl := Option.some.inj hu
                exact (World.cell?_setCell_other _ _ _ _ (by simp <;> omega)).trans ((World.cell?_setCell_other _ _ _ _ (by simp <;> omega)).trans c1)
              · obtain rfl := Option.some.inj hu
                exact (World.cell?_setCell_other _ _ _ _ (by simp <;> omega)).trans ((World.cell?_setCell_other _ _ _ _ (by simp <;> omega)).trans c2)
              · cases hu
            · exact (r1.keep fun q hq _ => k9 q hq.2.1.2).mono fun q hq _ => ⟨hq.1, hq.2.2⟩
            · exact (r2.keep fun q hq _ => k9 q hq.2.1.2).mono fun q hq _ => ⟨hq.1, hq.2.2⟩).lower (by omega), (hoh.keep fun q hq _ => k9 q (by
          rcases hq with hq | hq
          · exact hq.elim
          · have := (hoh.block q hq).1; omega)).lower (by omega)⟩
      have bF := (bw.setCell (p := ⟨w.heap.size + 1, 0, none⟩) (by simp) (.slice ac' cs.length cc')).setCell (p := ⟨w.heap.size + 1, 1, none⟩) (by simp) (.slice ah' hs.length ch')
      go_wp2
      exact bodyPost_ret (results_cell_row rfl _ _ _ _ _ _ _ rfl hfin Tryz.underlying33 rfl rfl) rfl ⟨_, rfl, ⟨_, _, rfl, hF⟩, bF⟩
end Go.Pch
end

section
namespace Go.Pch
open Go.RowKit Go.Proofs
set_option maxRecDepth 100000
theorem Own.rowAt {α : Type} {E : Ty α} {e : TypeId} {w : World} {B : Nat} {C : Blk} {v : Value} {l : List α} (h : Own E e w B C v l) : ∀ g, v.ownBlock = some g → ∃ cur, w.heap[g]? = some (.cells cur e) := by
  intro g hg
  obtain ⟨xs, hr, _⟩ := h
  rcases hr.2 with ⟨rfl, _⟩ | ⟨g', cap, cur, rfl, _, hg', _⟩
  · simp [Value.ownBlock] at hg
  · simp [Value.ownBlock] at hg
    subst hg
    exact ⟨_, hg'⟩
structure DeskAt (w : World) (B db : Nat) (vc vh : Value) (r : Repo) : Prop where
  low : B ≤ db
  row : w.heap[db]? = some (.cells #[vc, vh] 138)
  coms : Own tCommit 59 w B (fun k => (B ≤ k ∧ some k ≠ vh.ownBlock) ∧ k ≠ db) vc r.1
  heads : Own tHead 61 w B (fun _ => False) vh r.2
theorem DeskAt.own {w : World} {B db : Nat} {vc vh : Value} {r : Repo} (h : DeskAt w B db vc vh r) : OwnR w B vc vh r := ⟨h.coms.mono fun _ hk _ => hk.1, h.heads⟩
theorem DeskAt.apart {w : World} {B db : Nat} {vc vh : Value} {r : Repo} (h : DeskAt w B db vc vh r) : vc.ownBlock ≠ some db ∧ vh.ownBlock ≠ some db ∧ ∀ g, vc.ownBlock = some g → vh.ownBlock ≠ some g := by
  refine ⟨fun e => ?_, fun e => ?_, fun g e f => ?_⟩
  · obtain ⟨cur, hc⟩ := h.coms.rowAt _ e
    rw [h.row] at hc
    simp at hc
  · obtain ⟨cur, hc⟩ := h.heads.rowAt _ e
    rw [h.row] at hc
    simp at hc
  · obtain ⟨cur, hc⟩ := h.coms.rowAt _ e
    obtain ⟨cur', hc'⟩ := h.heads.rowAt _ f
    rw [hc] at hc'
    simp at hc'
theorem DeskAt.lt {w : World} {B db : Nat} {vc vh : Value} {r : Repo} (h : DeskAt w B db vc vh r) : db < w.heap.size := (Array.getElem?_eq_some_iff.1 h.row).1
theorem DeskAt.call {w w' : World} {B db : Nat} {vc vh : Value} {r : Repo} (h : DeskAt w B db vc vh r) (hb : Below w.heap.size w w') : DeskAt w' B db vc vh r := ⟨h.low, (hb.block db h.lt).trans h.row, h.coms.call hb, h.heads.call hb⟩
theorem DeskAt.cell0 {w : World} {B db : Nat} {vc vh : Value} {r : Repo} (h : DeskAt w B db vc vh r) : w.cell? ⟨db, 0, none⟩ = some vc := by rw [World.cell?, h.row]; rfl
theorem DeskAt.cell1 {w : World} {B db : Nat} {vc vh : Value} {r : Repo} (h : DeskAt w B db vc vh r) : w.cell? ⟨db, 1, none⟩ = some vh := by rw [World.cell?, h.row]; rfl
theorem DeskAt.free {w : World} {B db : Nat} {vc vh : Value} {r : Repo} (h : DeskAt w B db vc vh r) (i : Nat) : w.frozen? ⟨db, i, none⟩ = false := frozen_of_row w db i _ _ h.row
set_option maxHeartbeats 600000 in
theorem deskHead (B db : Nat) (vc vh : Value) (r : Repo) (s : ByteArray) (w : World) (h : DeskAt w B db vc vh r) (hr : headsRise r.1.length [] r.2 = true) (hl : r.2.length ≤ 1000) (hh : hdHas r.2 s = true) :
    Calls Tryz.prog 140 #[.pointer (some ⟨db, 0, none⟩), .string s] w (Ret w fun x _ => ∃ g n c, vh = .slice (some ⟨g, 0, none⟩) n c ∧ x = .pointer (some ⟨g, hdN r.2 s * 2, none⟩)) := by
  have hk : hdN r.2 s < r.2.length := by
    unfold hdHas at hh
    cases hx : r.2[hdN r.2 s]? with
    | none => rw [hx] at hh; cases hh
    | some x => exact (List.getElem?_eq_some_iff.1 hx).1
  obtain ⟨ac, cc, rfl, _, _⟩ := h.own.coms.shape
  obtain ⟨g, ch, cur, xs, rfl, _, _, _, _, _, _, _, _⟩ := h.own.heads.cells (by omega)
  have c0 := h.cell0
  have c1 := h.cell1
  have T := repoWhere _ r s _ w h.own.rp hr (by omega)
  rw [hh] at T
  generalize hdN r.2 s = k at *
  have hix := fun W => run_idx (T := 31) aHead (b := g) (o := 0) (len := r.2.length) (cap := ch) (k : Int) k rfl hk W
  simp only [Nat.zero_add] at hix
  rw [show tHead.size = 2 from rfl] at hix
  go_enter Tryz.func140, Tryz.ntmps140
  go_wp2_with fail
  refine T.mono ?_; rintro e w1 ⟨_, rfl, rfl, b1⟩
  clear c0 c1
  have h1 := h.call b1
  have c0 := h1.cell0
  have c1 := h1.cell1
  go_wp2
  go_ret
  exact ⟨_, rfl, ⟨_, _, _, rfl, rfl⟩, b1⟩
end Go.Pch
end

section
namespace Go.Pch
open Go.RowKit Go.Proofs
set_option maxRecDepth 100000
def tStr : Ty ByteArray := Ty.flat 1 (by decide) (fun s => [.string s]) (fun _ => True) (by intro; rfl) (by intro a u hu; simp at hu; subst hu; rfl)
theorem aStr : At Tryz.prog tStr 65 9 := At.mk' Tryz.underlying65 (z := .string ByteArray.empty) (size := 1) (bytes := 16) (by kernel_rfl) rfl rfl (by decide)
theorem Sl.idxStr {w : World} {S : Blk} {P : Program} {T e : TypeId} {v : Value} {l : List ByteArray} (h : Sl tStr w S v l) (hA : At P tStr T e) (n : Int) (i : Nat) (x : ByteArray) (hn : n = (i : Int)) (hx : l[i]? = some x) :
    ∃ b o, (∀ W, Sem.run P (Instr.indexAt T v (.int .i64 n)) W = .ok (.pointer (some ⟨b, o, none⟩)) W) ∧ S b ∧ b < w.heap.size ∧ w.cell? ⟨b, o, none⟩ = some (.string x) := by
  obtain ⟨hi, rfl⟩ := List.getElem?_eq_some_iff.1 hx
  obtain ⟨b, o, cs, h1, h2, h3, ⟨rfl, _⟩, h7⟩ := h.idx hA n i hn hi
  exact ⟨b, o, h1, h2, h3, by simpa using h7 0 _ rfl⟩
theorem openE_skip {r : Repo} : ∀ {l m : List ByteArray}, (∀ s ∈ l, (headP r s).2 = 0) → openE r (l ++ m) = openE r m
  | [], _, _ => rfl
  | s :: l, m, h => by
    rw [List.cons_append, openE, if_pos (h s (by simp))]
    exact openE_skip fun t ht => h t (by simp [ht])
theorem openE_to {r : Repo} {l : List ByteArray} (k : Nat) (h : ∀ s ∈ l.take k, (headP r s).2 = 0) : openE r l = openE r (l.drop k) := by
  conv => lhs; rw [← List.take_append_drop k l]
  exact openE_skip h
theorem openE_stop {r : Repo} {l : List ByteArray} {k : Nat} {s : ByteArray} (h : ∀ s ∈ l.take k, (headP r s).2 = 0) (hs : l[k]? = some s) (hn : (headP r s).2 ≠ 0) : openE r l = (headP r s).2 := by
  obtain ⟨hk, rfl⟩ := List.getElem?_eq_some_iff.1 hs
  rw [openE_to k h, List.drop_eq_getElem_cons hk, openE, if_neg hn]
theorem names_all {l : List ByteArray} {P : ByteArray → Prop} {k : Nat} {s : ByteArray} (h : ∀ s ∈ l.take k, P s) (hs : l[k]? = some s) (hn : P s) : ∀ s ∈ l.take (k + 1), P s := by
  intro t ht
  rw [List.take_add_one, hs] at ht
  rcases List.mem_append.1 ht with ht | ht
  · exact h t ht
  · simp at ht; subst ht; exact hn
theorem repo_few {r : Repo} (h : repoErr r = 0) : r.1.length ≤ 14 ∧ r.2.length ≤ 4 ∧ ∀ c ∈ r.1, c.1.length ≤ 1000 ∧ c.2.length ≤ 1000 := by
  have hok := dag_ok (repo_ok h).1
  refine ⟨hok.1, (repo_ok h).2.1, fun c hc => ?_⟩
  obtain ⟨n, hn⟩ := List.getElem?_of_mem hc
  obtain ⟨h1, h2, h3⟩ := hok.2 n c hn
  refine ⟨?_, by omega⟩
  rcases Nat.lt_or_ge 40 c.1.length with hlt | hge
  · rw [rowsErr_many hlt] at h1; cases h1
  · omega
set_option maxHeartbeats 2000000 in
theorem workOpen (v vn : Value) (r : Repo) (names : List ByteArray) (S S' : Blk) (w : World) (h : Rp w S v r) (hn : Sl tStr w S' vn names) (h0 : 0 < names.length) (hl : names.length ≤ 1000) :
    Calls Tryz.prog 101 #[v, vn] w (Ret w fun x w' => ∃ p q, x = .tuple #[p, q, .int .i64 (openE r names)] ∧
      (openE r names = 0 → ∃ db vc vh, p = .pointer (some ⟨db, 0, none⟩) ∧ DeskAt w' w.heap.size db vc vh r ∧ Sl tInt w' (fun k => w.heap.size ≤ k) q (names.map fun s => (headP r s).1))) := by
  have hR := h
  obtain ⟨cs, hs⟩ := r
  obtain ⟨vc, vh, rfl, hc, hh⟩ := h
  obtain ⟨ac, cc, rfl, _, _, _⟩ := hc.shape
  obtain ⟨ah, ch, rfl, _, _, _⟩ := hh.shape
  obtain ⟨an, cn, rfl, _, _, _⟩ := hn.shape
  obtain ⟨wA, hwA⟩ : ∃ wA, wA = w.alloc (.cells #[.slice ac cs.length cc, .slice ah hs.length ch] 33) := ⟨_, rfl⟩
  have bA : Below w.heap.size w wA := by rw [hwA]; exact (Below.refl _ _).alloc (Nat.le_refl _) _
  have sA : wA.heap.size = w.heap.size + 1 := by rw [hwA]; simp
  have k0 : wA.cell? ⟨w.heap.size, 0, none⟩ = some (.slice ac cs.length cc) := by rw [hwA]; simp
  have k1 : wA.cell? ⟨w.heap.size, 1, none⟩ = some (.slice ah hs.length ch) := by rw [hwA]; simp
  have HWA := keepBack hwA
  clear hwA
  go_enter Tryz.func101, Tryz.ntmps101
  go_wp2_with fail
  rw [← HWA.out]
  go_loopw [7, 14] (fun out i wr => ∃ (k : Nat), k ≤ names.length ∧ i = .int .i64 k ∧ Below wA.heap.size wA wr ∧ Own tInt 3 wr wA.heap.size (fun _ => False) out ((names.take k).map fun s => (headP (cs, hs) s).1) ∧ Hid (∀ s ∈ names.take k, (headP (cs, hs) s).2 = 0)) (fun _ i _ => names.length - (intOf i).toNat)
  case atStart => exact ⟨0, Nat.zero_le _, rfl, Below.refl _ _, .nil, keepBack (by simp)⟩
  case round =>
    obtain ⟨k, hk, rfl, hb, ho, HB⟩ := hrel
    have hs' := hb.size
    by_cases hlt : k < names.length
    · obtain ⟨s, hsk⟩ : ∃ s, names[k]? = some s := ⟨_, List.getElem?_eq_getElem hlt⟩
      have bw := bA.trans (hb.mono (by omega))
      obtain ⟨bs, os, hix, _, hbs, hcs⟩ := (hn.call bw).idxStr aStr k k s rfl hsk
      have z0 := (hb.cell (p := ⟨w.heap.size, 0, none⟩) (by simp; omega)).trans k0
      have z1 := (hb.cell (p := ⟨w.heap.size, 1, none⟩) (by simp; omega)).trans k1
      by_cases hz : (headP (cs, hs) s).2 = 0
      · obtain ⟨he, n, hnn, hP, _⟩ := headP_at hz
        simp only at hnn
        have h14 := (repo_few he).1
        simp only at h14
        have HB2 : Hid (∀ s ∈ names.take (k + 1), (headP (cs, hs) s).2 = 0) := keepBack (names_all HB.out hsk hz)
        have HL : Hid ((names.take k).map (fun s => (headP (cs, hs) s).1) ++ [(n : Int)] = (names.take (k + 1)).map fun s => (headP (cs, hs) s).1) := keepBack (by
          rw [List.take_add_one, hsk, List.map_append]; simp [hP])
        have hLl : ((names.take k).map fun s => (headP (cs, hs) s).1).length = k := by simp; omega
        generalize (names.take k).map (fun s => (headP (cs, hs) s).1) = L at *
        obtain ⟨ag, cg, rfl, _, _⟩ := ho.shape
        have HLL := keepBack hLl
        clear hz hLl
        go_wp2_with fail
        refine (repoHead_of _ (cs, hs) s _ wr (hR.call bw) hP).mono ?_; rintro e w2 ⟨_, rfl, rfl, b2⟩
        have ho2 := ho.call b2
        have hs2 := b2.size
        have hobl := ho2.block
        have hone : Src tInt (w2.alloc (.cells #[.int .i64 n] 3)) (fun _ => False) (some ⟨w2.heap.size, 0, none⟩) [(n : Int)] := Src.one (E := tInt) (cs := [.int .i64 n]) ⟨rfl, by unfold i64ok; omega⟩ _
        go_wp2_with (at_builtin; refine wpList_grow rfl (.tmp 27) (.tmp 29) rfl aInt rfl (ho2.alloc _) rfl rfl hone (by simp) (fun _ h => h.elim) (by have := HLL.out; simp; omega) (by simp; omega) ?_)
        intro v3 w3 ho3 hg3
        rw [← sA] at ho3
        have hb3 : Below wA.heap.size wA w3 := ((hb.trans (b2.mono hs')).alloc (by omega) _).grown hg3 (by simp; omega) (fun g hg => (hobl g hg).1)
        go_wp2
        go_roundw
        case rel => exact ⟨k + 1, by omega, by go_num, hb3, by rw [← HL.out]; exact ho3, HB2⟩
        case measure => simp [intOf]; omega
      · have HE : Hid (openE (cs, hs) names = (headP (cs, hs) s).2) := keepBack (openE_stop HB.out hsk hz)
        have hq : ((headP (cs, hs) s).2 != 0) = true := by simp [hz]
        go_wp2_with fail
        refine (repoHead _ (cs, hs) s _ wr (hR.call bw)).mono ?_; rintro e w2 ⟨_, rfl, rfl, b2⟩
        go_wp2_with fail
        go_ret3
        exact ⟨_, rfl, ⟨_, _, by rw [HE.out]; rfl, fun h => absurd (HE.out ▸ h) hz⟩, bw.trans (b2.mono (by omega))⟩
    · obtain rfl : k = names.length := by omega
      have hall : ∀ s ∈ names, (headP (cs, hs) s).2 = 0 := by simpa using HB.out
      have HE : Hid (openE (cs, hs) names = 0) := keepBack (by
        have := openE_skip (m := []) hall
        rwa [List.append_nil] at this)
      have he : repoErr (cs, hs) = 0 := (headP_at (hall names[0] (List.getElem_mem h0))).1
      obtain ⟨m1, m2, m3⟩ := repo_few he
      simp only at m1 m2 m3
      have z0 := (hb.cell (p := ⟨w.heap.size, 0, none⟩) (by simp; omega)).trans k0
      have z1 := (hb.cell (p := ⟨w.heap.size, 1, none⟩) (by simp; omega)).trans k1
      have bw := bA.trans (hb.mono (by omega))
      go_wp2_with fail
      refine (repoOwn _ (cs, hs) _ wr (hR.call bw) (by show cs.length ≤ 1000; omega) (by show hs.length ≤ 1000; omega) m3).mono ?_; rintro e w2 ⟨_, rfl, ⟨vc', vh', rfl, hO⟩, b2⟩
      have s2 := b2.size
      have z2 := (b2.mono (Nat.le_refl _)).cell (p := ⟨w.heap.size, 0, none⟩) (by simp; omega)
      rw [List.take_length] at ho
      have hout := (ho.call b2).alloc (.cells #[vc', vh'] 138)
      have hC := ((hO.coms.lower (B := w.heap.size) (by omega)).mono (D := fun k => (w.heap.size ≤ k ∧ some k ≠ vh'.ownBlock) ∧ k ≠ w2.heap.size) fun k hk hlt => ⟨⟨by omega, hk.2⟩, by omega⟩).alloc (.cells #[vc', vh'] 138)
      have hH := (hO.heads.lower (B := w.heap.size) (by omega)).alloc (.cells #[vc', vh'] 138)
      have hD : DeskAt (w2.alloc (.cells #[vc', vh'] 138)) w.heap.size w2.heap.size vc' vh' (cs, hs) := ⟨by omega, heap_alloc_new _ _, hC, hH⟩
      have hq := hout.sl (D := fun k => w.heap.size ≤ k) (fun _ h => h.elim) (fun k hk => by omega)
      clear z2
      obtain ⟨aq, cq, rfl, _, _⟩ := hout.shape
      rw [List.length_map] at hq
      go_wp2_with fail
      go_ret3
      exact ⟨_, rfl, ⟨_, _, by rw [HE.out]; rfl, fun _ => ⟨_, _, _, rfl, hD, hq⟩⟩, (bw.trans (b2.mono (by omega))).alloc (by omega) _⟩
end Go.Pch
end
