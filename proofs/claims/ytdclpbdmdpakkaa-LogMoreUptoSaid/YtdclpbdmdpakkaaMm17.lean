/- The walk of work.open. The walk of desk.grow. The walks of rows.Key and rows.Val. The struct type Row: its fields; two rows compared. -/
import Derived.Test.YtdclpbdmdpakkaaMm16
import Derived.Test.YtdclpbdmdpakkaaMm5
import Derived.Test.YtdclpbdmdpakkaaMm14
import Derived.Deep.RegionHeld3
import Derived.Test.YtdclpbdmdpakkaaMm4
import Derived.Test.YtdclpbdmdpakkaaMm1
import Derived.Test.YtdclpbdmdpakkaaChecked
section
namespace Go.Pch
open Go.RowKit Go.Proofs
set_option maxRecDepth 100000

/-- A text. -/
def tStr : Ty ByteArray := Ty.flat 1 (by decide) (fun s => [.string s]) (fun _ => True) (by intro; rfl) (by intro a u hu; simp at hu; subst hu; rfl)
theorem aStr : At Try.prog tStr 111 9 := At.mk' Try.underlying111 (z := .string ByteArray.empty) (size := 1) (bytes := 16) (by kernel_rfl) rfl rfl (by decide)
theorem Sl.idxStr {w : World} {S : Blk} {P : Program} {T e : TypeId} {v : Value} {l : List ByteArray} (h : Sl tStr w S v l) (hA : At P tStr T e) (n : Int) (i : Nat) (x : ByteArray) (hn : n = (i : Int)) (hx : l[i]? = some x) :
    ∃ b o, (∀ W, Sem.run P (Instr.indexAt T v (.int .i64 n)) W = .ok (.pointer (some ⟨b, o, none⟩)) W) ∧ S b ∧ b < w.heap.size ∧ w.cell? ⟨b, o, none⟩ = some (.string x) := by
  obtain ⟨hi, rfl⟩ := List.getElem?_eq_some_iff.1 hx
  obtain ⟨b, o, cs, h1, h2, h3, ⟨rfl, _⟩, h7⟩ := h.idx hA n i hn hi
  exact ⟨b, o, h1, h2, h3, by simpa using h7 0 _ rfl⟩

theorem openE_skip {r : Repo} : ∀ {l m : List ByteArray}, (∀ s ∈ l, (headP r s).2 = 0) → openE r (l ++ m) = openE r m
  | [], _, _ => rfl
  | s :: l, m, h => by
    rw [List.cons_append, openE, if_pos (h s (by simp))]
    exact openE_skip fun t ht => h t (by simp [ht])
theorem openE_to {r : Repo} {l : List ByteArray} (k : Nat) (h : ∀ s ∈ l.take k, (headP r s).2 = 0) : openE r l = openE r (l.drop k) := by
  conv => lhs; rw [← List.take_append_drop k l]
  exact openE_skip h
theorem openE_stop {r : Repo} {l : List ByteArray} {k : Nat} {s : ByteArray} (h : ∀ s ∈ l.take k, (headP r s).2 = 0) (hs : l[k]? = some s) (hn : (headP r s).2 ≠ 0) : openE r l = (headP r s).2 := by
  obtain ⟨hk, rfl⟩ := List.getElem?_eq_some_iff.1 hs
  rw [openE_to k h, List.drop_eq_getElem_cons hk, openE, if_neg hn]
theorem names_all {l : List ByteArray} {P : ByteArray → Prop} {k : Nat} {s : ByteArray} (h : ∀ s ∈ l.take k, P s) (hs : l[k]? = some s) (hn : P s) : ∀ s ∈ l.take (k + 1), P s := by
  intro t ht
  rw [List.take_add_one, hs] at ht
  rcases List.mem_append.1 ht with ht | ht
  · exact h t ht
  · simp at ht; subst ht; exact hn
theorem repo_few {r : Repo} (h : repoErr r = 0) : r.1.length ≤ 14 ∧ r.2.length ≤ 4 ∧ ∀ c ∈ r.1, c.1.length ≤ 1000 ∧ c.2.length ≤ 1000 := by
  have hok := dag_ok (repo_ok h).1
  refine ⟨hok.1, (repo_ok h).2.1, fun c hc => ?_⟩
  obtain ⟨n, hn⟩ := List.getElem?_of_mem hc
  obtain ⟨h1, h2, h3⟩ := hok.2 n c hn
  refine ⟨?_, by omega⟩
  rcases Nat.lt_or_ge 40 c.1.length with hlt | hge
  · rw [rowsErr_many hlt] at h1; cases h1
  · omega

set_option maxHeartbeats 2000000 in
theorem workOpen (v vn : Value) (r : Repo) (names : List ByteArray) (S S' : Blk) (w : World) (h : Rp w S v r) (hn : Sl tStr w S' vn names) (h0 : 0 < names.length) (hl : names.length ≤ 1000) :
    Calls Try.prog 28 #[v, vn] w (Ret w fun x w' => ∃ p q, x = .tuple #[p, q, .int .i64 (openE r names)] ∧
      (openE r names = 0 → ∃ db vc vh, p = .pointer (some ⟨db, 0, none⟩) ∧ DeskAt w' w.heap.size db vc vh r ∧ Sl tInt w' (fun k => w.heap.size ≤ k) q (names.map fun s => (headP r s).1))) := by
  have hR := h
  obtain ⟨cs, hs⟩ := r
  obtain ⟨vc, vh, rfl, hc, hh⟩ := h
  obtain ⟨ac, cc, rfl, _, _, _⟩ := hc.shape
  obtain ⟨ah, ch, rfl, _, _, _⟩ := hh.shape
  obtain ⟨an, cn, rfl, _, _, _⟩ := hn.shape
  obtain ⟨wA, hwA⟩ : ∃ wA, wA = w.alloc (.cells #[.slice ac cs.length cc, .slice ah hs.length ch] 25) := ⟨_, rfl⟩
  have bA : Below w.heap.size w wA := by rw [hwA]; exact (Below.refl _ _).alloc (Nat.le_refl _) _
  have sA : wA.heap.size = w.heap.size + 1 := by rw [hwA]; simp
  have k0 : wA.cell? ⟨w.heap.size, 0, none⟩ = some (.slice ac cs.length cc) := by rw [hwA]; simp
  have k1 : wA.cell? ⟨w.heap.size, 1, none⟩ = some (.slice ah hs.length ch) := by rw [hwA]; simp
  have HWA := keepBack hwA
  clear hwA
  go_enter Try.func28, Try.ntmps28
  go_wp2_with fail
  rw [← HWA.out]
  go_loopw [7, 14] (fun out i wr => ∃ (k : Nat), k ≤ names.length ∧ i = .int .i64 k ∧ Below wA.heap.size wA wr ∧ Own tInt 3 wr wA.heap.size (fun _ => False) out ((names.take k).map fun s => (headP (cs, hs) s).1) ∧ Hid (∀ s ∈ names.take k, (headP (cs, hs) s).2 = 0)) (fun _ i _ => names.length - (intOf i).toNat)
  case atStart => exact ⟨0, Nat.zero_le _, rfl, Below.refl _ _, .nil, keepBack (by simp)⟩
  case round =>
    obtain ⟨k, hk, rfl, hb, ho, HB⟩ := hrel
    have hs' := hb.size
    by_cases hlt : k < names.length
    · obtain ⟨s, hsk⟩ : ∃ s, names[k]? = some s := ⟨_, List.getElem?_eq_getElem hlt⟩
      have bw := bA.trans (hb.mono (by omega))
      obtain ⟨bs, os, hix, _, hbs, hcs⟩ := (hn.call bw).idxStr aStr k k s rfl hsk
      have z0 := (hb.cell (p := ⟨w.heap.size, 0, none⟩) (by simp; omega)).trans k0
      have z1 := (hb.cell (p := ⟨w.heap.size, 1, none⟩) (by simp; omega)).trans k1
      by_cases hz : (headP (cs, hs) s).2 = 0
      · obtain ⟨he, n, hnn, hP, _⟩ := headP_at hz
        simp only at hnn
        have h14 := (repo_few he).1
        simp only at h14
        have HB2 : Hid (∀ s ∈ names.take (k + 1), (headP (cs, hs) s).2 = 0) := keepBack (names_all HB.out hsk hz)
        have HL : Hid ((names.take k).map (fun s => (headP (cs, hs) s).1) ++ [(n : Int)] = (names.take (k + 1)).map fun s => (headP (cs, hs) s).1) := keepBack (by
          rw [List.take_add_one, hsk, List.map_append]; simp [hP])
        have hLl : ((names.take k).map fun s => (headP (cs, hs) s).1).length = k := by simp; omega
        generalize (names.take k).map (fun s => (headP (cs, hs) s).1) = L at *
        obtain ⟨ag, cg, rfl, _, _⟩ := ho.shape
        have HLL := keepBack hLl
        clear hz hLl
        go_wp2_with fail
        refine (repoHead_of _ (cs, hs) s _ wr (hR.call bw) hP).mono ?_; rintro e w2 ⟨_, rfl, rfl, b2⟩
        have ho2 := ho.call b2
        have hs2 := b2.size
        have hobl := ho2.block
        have hone : Src tInt (w2.alloc (.cells #[.int .i64 n] 3)) (fun _ => False) (some ⟨w2.heap.size, 0, none⟩) [(n : Int)] := Src.one (E := tInt) (cs := [.int .i64 n]) ⟨rfl, by unfold i64ok; omega⟩ _
        go_wp2_with (at_builtin; refine wpList_grow rfl (.tmp 27) (.tmp 29) rfl aInt rfl (ho2.alloc _) rfl rfl hone (by simp) (fun _ h => h.elim) (by have := HLL.out; simp; omega) (by simp; omega) ?_)
        intro v3 w3 ho3 hg3
        rw [← sA] at ho3
        have hb3 : Below wA.heap.size wA w3 := ((hb.trans (b2.mono hs')).alloc (by omega) _).grown hg3 (by simp; omega) (fun g hg => (hobl g hg).1)
        go_wp2
        go_roundw
        case rel => exact ⟨k + 1, by omega, by go_num, hb3, by rw [← HL.out]; exact ho3, HB2⟩
        case measure => simp [intOf]; omega
      · have HE : Hid (openE (cs, hs) names = (headP (cs, hs) s).2) := keepBack (openE_stop HB.out hsk hz)
        have hq : ((headP (cs, hs) s).2 != 0) = true := by simp [hz]
        go_wp2_with fail
        refine (repoHead _ (cs, hs) s _ wr (hR.call bw)).mono ?_; rintro e w2 ⟨_, rfl, rfl, b2⟩
        go_wp2_with fail
        go_ret3
        exact ⟨_, rfl, ⟨_, _, by rw [HE.out]; rfl, fun h => absurd (HE.out ▸ h) hz⟩, bw.trans (b2.mono (by omega))⟩
    · obtain rfl : k = names.length := by omega
      have hall : ∀ s ∈ names, (headP (cs, hs) s).2 = 0 := by simpa using HB.out
      have HE : Hid (openE (cs, hs) names = 0) := keepBack (by
        have := openE_skip (m := []) hall
        rwa [List.append_nil] at this)
      have he : repoErr (cs, hs) = 0 := (headP_at (hall names[0] (List.getElem_mem h0))).1
      obtain ⟨m1, m2, m3⟩ := repo_few he
      simp only at m1 m2 m3
      have z0 := (hb.cell (p := ⟨w.heap.size, 0, none⟩) (by simp; omega)).trans k0
      have z1 := (hb.cell (p := ⟨w.heap.size, 1, none⟩) (by simp; omega)).trans k1
      have bw := bA.trans (hb.mono (by omega))
      go_wp2_with fail
      refine (repoOwn _ (cs, hs) _ wr (hR.call bw) (by show cs.length ≤ 1000; omega) (by show hs.length ≤ 1000; omega) m3).mono ?_; rintro e w2 ⟨_, rfl, ⟨vc', vh', rfl, hO⟩, b2⟩
      have s2 := b2.size
      have z2 := (b2.mono (Nat.le_refl _)).cell (p := ⟨w.heap.size, 0, none⟩) (by simp; omega)
      rw [List.take_length] at ho
      have hout := (ho.call b2).alloc (.cells #[vc', vh'] 71)
      have hC := ((hO.coms.lower (B := w.heap.size) (by omega)).mono (D := fun k => (w.heap.size ≤ k ∧ some k ≠ vh'.ownBlock) ∧ k ≠ w2.heap.size) fun k hk hlt => ⟨⟨by omega, hk.2⟩, by omega⟩).alloc (.cells #[vc', vh'] 71)
      have hH := (hO.heads.lower (B := w.heap.size) (by omega)).alloc (.cells #[vc', vh'] 71)
      have hD : DeskAt (w2.alloc (.cells #[vc', vh'] 71)) w.heap.size w2.heap.size vc' vh' (cs, hs) := ⟨by omega, heap_alloc_new _ _, hC, hH⟩
      have hq := hout.sl (D := fun k => w.heap.size ≤ k) (fun _ h => h.elim) (fun k hk => by omega)
      clear z2
      obtain ⟨aq, cq, rfl, _, _⟩ := hout.shape
      rw [List.length_map] at hq
      go_wp2_with fail
      go_ret3
      exact ⟨_, rfl, ⟨_, _, by rw [HE.out]; rfl, fun _ => ⟨_, _, _, rfl, hD, hq⟩⟩, (bw.trans (b2.mono (by omega))).alloc (by omega) _⟩

end Go.Pch
end

section
namespace Go.Pch
open Go.RowKit Go.Proofs
set_option maxRecDepth 100000

theorem Own.grownTo {α : Type} {E : Ty α} {e : TypeId} {w w' : World} {B : Nat} {C X : Blk} {v : Value} {l : List α} (h : Own E e w B C v l) (hs : Step X w w') (hX : ∀ k, (C k ∧ k < w.heap.size ∨ v.ownBlock = some k) → ¬ X k) : Own E e w' B C v l := by
  have h2 : Own E e w B (fun k => C k ∧ k < w.heap.size) v l := h.mono fun k hk hlt => ⟨hk, hlt⟩
  exact (h2.keep (w' := w') fun k hk hlt => hs.block k hlt (hX k hk)).mono fun k hk _ => hk.1

/-- A desk's blocks are old: what happens elsewhere leaves it alone. -/
theorem DeskAt.step {w w' : World} {B db : Nat} {vc vh : Value} {r : Repo} {X : Blk} (h : DeskAt w B db vc vh r) (hs : Step X w w') (hX : ∀ k, k < w.heap.size → ¬ X k) : DeskAt w' B db vc vh r :=
  ⟨h.low, (hs.block db h.lt (hX db h.lt)).trans h.row, h.coms.grownTo hs fun k hk => hX k (by
    rcases hk with hk | hk
    · exact hk.2
    · exact (h.coms.block k hk).2), h.heads.grownTo hs fun k hk => hX k (by
    rcases hk with hk | hk
    · exact hk.2
    · exact (h.heads.block k hk).2)⟩
/-- The commits are grown. -/
theorem DeskAt.setC {w w' : World} {B db : Nat} {vc vc' vh : Value} {r : Repo} {l : List Commit} (h : DeskAt w B db vc vh r) (ho : Own tCommit 44 w' B (fun k => (B ≤ k ∧ some k ≠ vh.ownBlock) ∧ k ≠ db) vc' l) (hg : w.grownBy w' vc.ownBlock) :
    DeskAt (w'.setCell ⟨db, 0, none⟩ vc') B db vc' vh (l, r.2) := by
  have hap := h.apart
  have hrow : w'.heap[db]? = some (.cells #[vc, vh] 71) := (hg.block db h.lt fun e => hap.1 e.symm).trans h.row
  have hn : vc'.ownBlock ≠ some db := fun e => by
    obtain ⟨cur, hc⟩ := ho.rowAt _ e
    rw [hrow] at hc
    simp at hc
  refine ⟨h.low, heap_setCell_same w' db 0 _ _ vc' hrow, ho.keep fun k hk _ => heap_setCell_other _ _ _ _ ?_, (h.heads.keep (w' := w') fun k hk hlt => hg.block k hlt ?_).keep fun k hk _ => heap_setCell_other _ _ _ _ ?_⟩
  · rcases hk with hk | hk
    · exact hk.2
    · intro e; exact hn (by rw [hk, e])
  · rcases hk with hk | hk
    · exact hk.elim
    · intro e; exact hap.2.2 k e.symm hk
  · rcases hk with hk | hk
    · exact hk.elim
    · intro e; exact hap.2.1 (by rw [hk, e])
theorem DeskAt.rowOf {w w' : World} {B db : Nat} {vc vh : Value} {r : Repo} (h : DeskAt w B db vc vh r) (hg : w.grownBy w' vc.ownBlock) : w'.heap[db]? = some (.cells #[vc, vh] 71) :=
  (hg.block db h.lt fun e => h.apart.1 e.symm).trans h.row
/-- A head is moved. -/
theorem DeskAt.setH {w : World} {B db g n c k : Nat} {vc : Value} {r : Repo} {x : Head} {m : Int} (h : DeskAt w B db vc (.slice (some ⟨g, 0, none⟩) n c) r) (hx : r.2[k]? = some x) (hm : i64ok m) :
    DeskAt (w.setCell ⟨g, k * 2 + 1, none⟩ (.int .i64 m)) B db vc (.slice (some ⟨g, 0, none⟩) n c) (r.1, r.2.set k (x.1, m)) := by
  have hap := h.apart
  obtain ⟨g', cap, cs, hv, h1, h2, h3, h4, hrd, hcell, hf, hset⟩ := h.heads.setPart hx
  simp only [Value.slice.injEq, Option.some.injEq, Addr.mk.injEq, and_true] at hv
  obtain ⟨rfl, hn, rfl⟩ := hv
  obtain ⟨rfl, hok⟩ := hrd
  have hgd : db ≠ g := fun e => hap.2.1 (by rw [e]; rfl)
  refine ⟨h.low, (heap_setCell_other _ _ _ _ hgd).trans h.row, h.coms.keep fun k hk _ => heap_setCell_other _ _ _ _ ?_, ?_⟩
  · rcases hk with hk | hk
    · intro e; exact hk.1.2 (by rw [e]; rfl)
    · intro e; exact hap.2.2 k hk (by rw [e]; rfl)
  · exact hset 1 (.int .i64 m) (x.1, m) (by decide) ⟨rfl, hm, hok.2⟩

set_option maxHeartbeats 2000000 in
theorem deskGrow (B db g n : Nat) (vc vh vr : Value) (r : Repo) (s : ByteArray) (rows : List Row) (qs : List Int) (wM w : World) (hM : DeskAt wM B db vc vh r) (hBM : Step (fun k => wM.heap.size ≤ k) wM w) (hBs : B ≤ wM.heap.size) (hg : wM.heap.size ≤ g)
    (hsort : Calls Try.prog 66 #[.slice (some ⟨g, 0, none⟩) n n] w fun e w' => e = .returned (.tuple #[]) ∧ w.grownBy w' (some g) ∧ Sl tInt w' (fun k => k = g) (.slice (some ⟨g, 0, none⟩) n n) qs)
    (hrows : Sl tRow w (fun k => wM.heap.size ≤ k ∧ k ≠ g) vr rows) (hr : headsRise r.1.length [] r.2 = true) (hl1 : r.1.length ≤ 1000) (hl : r.2.length ≤ 1000) (hh : hdHas r.2 s = true) :
    Calls Try.prog 31 #[.pointer (some ⟨db, 0, none⟩), .string s, vr, .slice (some ⟨g, 0, none⟩) n n] w fun e w' => e = .returned (.tuple #[]) ∧ (∃ vc', DeskAt w' B db vc' vh (grown r (hdN r.2 s) rows qs)) ∧ Below B w w' := by
  have h0 := hM.step hBM fun k hk => by omega
  have hvc : ∀ k, vc.ownBlock = some k → k < wM.heap.size := fun k hk => (hM.coms.block k hk).2
  have hvh : ∀ k, vh.ownBlock = some k → k < wM.heap.size := fun k hk => (hM.heads.block k hk).2
  have hdb := hM.lt
  have HM := keepBack hM
  have HBM := keepBack hBM
  have sM := hBM.size
  clear hM hBM
  go_enter Try.func31, Try.ntmps31
  go_wp2_with fail
  refine hsort.mono ?_; rintro e w1 ⟨rfl, hg1, hq1⟩
  clear hsort
  have st1 : Step (fun k => k = g) w w1 := Step.grown hg1 fun k hk => (Option.some.inj hk).symm
  have s1 := st1.size
  have h1 : DeskAt w1 B db vc vh r := HM.out.step (HBM.out.trans st1 fun k _ e => by omega) fun k hk => by omega
  have hrows1 : Sl tRow w1 (fun k => wM.heap.size ≤ k) vr rows := (hrows.step st1 fun k hk => hk.2).mono fun k hk _ => hk.1
  have hq1' : Sl tInt w1 (fun k => wM.heap.size ≤ k) (.slice (some ⟨g, 0, none⟩) n n) qs := hq1.mono fun k hk _ => by omega
  have b1 : Step (fun k => wM.heap.size ≤ k) wM w1 := HBM.out.trans st1 fun k _ e => by omega
  have bw1 : Below B w w1 := st1.below (fun k hk => by omega) (by omega)
  obtain ⟨ar, cr, rfl, _, _, _⟩ := hrows1.shape
  obtain ⟨ac, cc, rfl, _, _⟩ := h1.coms.shape
  have c0 := h1.cell0
  have c1 := h1.cell1
  have f0 := h1.free 0
  clear hrows hq1 h0
  have oA := (Below.refl w1.heap.size w1).alloc (Nat.le_refl _) (.cells #[.slice ar rows.length cr, .slice (some ⟨g, 0, none⟩) n n] 44)
  have h1A := h1.call oA
  have hsrc : Src tCommit (w1.alloc (.cells #[.slice ar rows.length cr, .slice (some ⟨g, 0, none⟩) n n] 44)) (fun k => wM.heap.size ≤ k) (some ⟨w1.heap.size, 0, none⟩) [(rows, qs)] := Src.one (tCommit_mk (hrows1) (hq1')) _
  go_wp2_with (at_builtin; refine wpList_grow rfl (.tmp 15) (.tmp 19) rfl aCom rfl h1A.coms rfl rfl hsrc (by simp) (fun k hk _ => ⟨⟨⟨by omega, fun e => by have := hvh k e.symm; omega⟩, by omega⟩, fun e => by have := hvc k e.symm; omega⟩) (by simp; omega) (by simp; omega) ?_)
  intro v2 w2 ho2 hg2
  have hD2 := h1A.setC ho2 hg2
  have f2 := frozen_of_row w2 db 0 _ _ (h1A.rowOf hg2)
  have c2 : w2.cell? ⟨db, 0, none⟩ = some (.slice ac r.1.length cc) := by rw [World.cell?, h1A.rowOf hg2]; rfl
  have z2 : w2.heap.size = (w2.setCell ⟨db, 0, none⟩ v2).heap.size := by simp
  have z1 : w1.heap.size < w2.heap.size := Nat.lt_of_lt_of_le (by simp) hg2.size
  have bw2 : Below B w (w2.setCell ⟨db, 0, none⟩ v2) := ((bw1.alloc (by omega) _).grown hg2 (by simp; omega) (fun k hk => (h1.coms.block k hk).1)).setCell h1.low _
  obtain ⟨a2, cc2, hv2, _, _⟩ := ho2.shape
  rw [show (r.1 ++ [(rows, qs)]).length = r.1.length + 1 by simp] at hv2
  subst hv2
  obtain ⟨w3, hw3⟩ : ∃ w3, w3 = w2.setCell ⟨db, 0, none⟩ (.slice a2 (r.1.length + 1) cc2) := ⟨_, rfl⟩
  rw [← hw3] at hD2 bw2 z2
  have HW3 := keepBack hw3
  have hap := hD2.apart
  obtain ⟨x, hx, hxs⟩ : ∃ x, r.2[hdN r.2 s]? = some x ∧ x.1.toList = s.toList := by
    unfold hdHas at hh
    cases hx : r.2[hdN r.2 s]? with
    | none => rw [hx] at hh; cases hh
    | some x => exact ⟨x, rfl, by rw [hx] at hh; simpa using hh⟩
  obtain ⟨gh, ch, cur, xs, rfl, hgB, hgs, _, _, _, _, _, _⟩ := hD2.heads.cells (l := r.2) (by have := (List.getElem?_eq_some_iff.1 hx).1; omega)
  have hgd : gh ≠ db := fun e => hap.2.1 (by rw [e]; rfl)
  have HC : ∀ W, Below w3.heap.size w3 W → Calls Try.prog 50 #[.pointer (some ⟨db, 0, none⟩), .string s] W (Ret W fun x _ => x = .pointer (some ⟨gh, hdN r.2 s * 2, none⟩)) := fun W hW =>
    (deskHead B db _ _ (r.1 ++ [(rows, qs)], r.2) s W (hD2.call hW) (headsRise_more (by simp) hr) hl hh).mono fun e w' ⟨v, h1, ⟨g', n', c', h2, h3⟩, h4⟩ => ⟨v, h1, by
      simp only [Value.slice.injEq, Option.some.injEq, Addr.mk.injEq, and_true] at h2
      rw [h3, h2.1], h4⟩
  have HFX : ∀ W, Below w3.heap.size w3 W → W.frozen? ⟨gh, hdN r.2 s * 2 + 1, none⟩ = false ∧ W.cell? ⟨gh, hdN r.2 s * 2 + 1, none⟩ = some (.int .i64 x.2) ∧ W.cell? ⟨db, 0, none⟩ = some (.slice a2 (r.1.length + 1) cc2) := fun W hW => by
    have hWd := hD2.call hW
    obtain ⟨g', cap, cs, hv, _, _, _, _, ⟨rfl, _⟩, hcell, hf, _⟩ := hWd.heads.setPart hx
    simp only [Value.slice.injEq, Option.some.injEq, Addr.mk.injEq, and_true] at hv
    rw [hv.1]
    exact ⟨hf _, hcell 1 _ rfl, hWd.cell0⟩
  have HSET : Hid (∀ W, Below w3.heap.size w3 W → ∀ m, i64ok m → DeskAt (W.setCell ⟨gh, hdN r.2 s * 2 + 1, none⟩ (.int .i64 m)) B db (.slice a2 (r.1.length + 1) cc2) (.slice (some ⟨gh, 0, none⟩) r.2.length ch) (r.1 ++ [(rows, qs)], r.2.set (hdN r.2 s) (x.1, m))) := keepBack fun W hW m hm => (hD2.call hW).setH hx hm
  have HGR : Hid (grown r (hdN r.2 s) rows qs = (r.1 ++ [(rows, qs)], r.2.set (hdN r.2 s) (x.1, r.1.length))) := keepBack (by rw [grown, moved_is hx])
  have a0 := hD2.cell0
  rw [hw3] at a0
  clear hw3 ho2 hg2 h1A hsrc oA hq1' hrows1 c0 c1 f0 h1 HM HBM b1 st1 hg1 hap hx hxs
  generalize hkk : hdN r.2 s = kk at HC HFX HSET HGR
  have HKK := keepBack hkk
  clear hkk
  have HNX : ∀ (W : World) u, W.cell? ⟨db, 0, none⟩ = some (.slice a2 (r.1.length + 1) cc2) → (W.setCell ⟨gh, kk * 2 + 1, none⟩ u).cell? ⟨db, 0, none⟩ = some (.slice a2 (r.1.length + 1) cc2) := fun W u h => (World.cell?_of_block (w := W) (heap_setCell_other _ _ _ _ (by simp; omega))).trans h
  have hwr : IntKind.i64.wrap (r.1.length : Int) = (r.1.length : Int) := by rw [IntKind.wrap_i64]; omega
  go_wp2_with fail
  rw [← HW3.out]
  have b3 : Below w3.heap.size w3 w3.drew := (Below.refl _ _).drew
  obtain ⟨ff3, fx3, a3⟩ := HFX _ b3
  go_region_held3 (fun W => W.cell? ⟨db, 0, none⟩ = some (.slice a2 (r.1.length + 1) cc2))
    (first
      | exact a3
      | exact a4
      | exact (HFX _ (Below.refl _ _)).2.2
      | exact HNX _ _ (by assumption)
      | fail)
    (first
      | (go_at_call 50; refine (HC _ b3).mono ?_; rintro e w4 ⟨_, rfl, rfl, b4⟩; have b34 := b3.trans (b4.mono b3.size); obtain ⟨ff4, fx4, a4⟩ := HFX _ b34)
      | fail)
  go_wp2_with fail
  go_end0
  have hfin := HSET.out w4 b34 (r.1.length : Int) (by unfold i64ok; omega)
  rw [← HGR.out] at hfin
  have hbel : Below B w (w4.setCell ⟨gh, kk * 2 + 1, none⟩ (.int .i64 r.1.length)) := (bw2.trans (b34.mono (by omega))).setCell hgB _
  exact ⟨rfl, ⟨.slice a2 (r.1.length + 1) cc2, by rw [HKK.out]; exact hfin⟩, hbel⟩

end Go.Pch
end

section
namespace Go.Pch
open Go.RowKit Go.Proofs


theorem rowsVal (k : Int) (w : World) : Calls Try.prog 61 #[.int .i64 k] w fun e w' => e = .returned (.bool (valB k)) ∧ w = w' := by
  go_enter Try.func61, Try.ntmps61
  go_wp2
  all_goals
    go_ret
    refine ⟨ret_bool ?_, rfl⟩
    rw [Bool.eq_iff_iff]; simp [valB] <;> omega

end Go.Pch
end

section
namespace Go.Pch
open Go.RowKit Go.Proofs

theorem rowGuard : Try.prog.eqGuardType Try.prog.depth 88 = false := by kernel_rfl
theorem rowHeld : Try.prog.stoodInHeld 88 = false := by kernel_rfl
theorem rowStruct : Try.prog.underlying 88 = some (.struct (Try.prog.fieldsOf 88)) := by kernel_rfl
theorem rowFields : (Try.prog.fieldsOf 88).toList.map (fun f => (f.type, f.offset, f.name)) = [(3, 0, "Key"), (3, 1, "Val")] := by kernel_rfl
theorem two_of_map {α β : Type} {f : α → β} {l : List α} {x y : β} (h : l.map f = [x, y]) : ∃ a b, l = [a, b] ∧ f a = x ∧ f b = y := by
  match l, h with
  | [a, b], h => simp at h; exact ⟨a, b, rfl, h.1, h.2⟩
theorem rowEqual (a b c d : Int) (W : World) : Sem.run Try.prog (Op.equalIn 10000 88 (.agg #[.int .i64 a, .int .i64 b]) (.agg #[.int .i64 c, .int .i64 d])) W = .ok (decide ((a, b) = (c, d))) W := by
  obtain ⟨f, g, h1, h2, h3⟩ := two_of_map rowFields
  simp only [Prod.mk.injEq] at h2 h3
  obtain ⟨h21, h22, h23⟩ := h2
  obtain ⟨h31, h32, h33⟩ := h3
  rw [show (10000 : Nat) = 9999 + 1 from rfl, run_equalIn_struct W 9999 _ _ _ rowStruct rowHeld, h1]
  have e := fun x y W => run_equalIn_int (P := Try.prog) W 9998 3 .i64 .i64 x y Try.underlying3
  simp only [Nat.reduceAdd] at e
  by_cases ha : a = c <;> by_cases hb : b = d <;> simp [Op.eqFields, h21, h22, h23, h31, h32, h33, part, e, ha, hb]

end Go.Pch
end
