/- The walks of shop, Begin, repoBegun and the law RepoTells. -/
import Derived.Test.YtklgejafblocjaaRepG
namespace Go.Pch
open Go.RowKit Go.Proofs
set_option maxRecDepth 100000

def shopH (s : ByteArray) (t : ByteArray) : List Head := [(s, 3), (t, 1)]

/-- Two heads in a block. -/
theorem headsTwo {w : World} {S : Blk} {g : Nat} {s t : ByteArray} {a b : Int} {e : TypeId} (hg : w.heap[g]? = some (.cells #[.string s, .int .i64 a, .string t, .int .i64 b] e)) (hS : S g) (ha : i64ok a) (hb : i64ok b) (hs : s.size ≤ 1000) (ht : t.size ≤ 1000) :
    Sl tHead w S (.slice (some ⟨g, 0, none⟩) 2 2) [(s, a), (t, b)] := by
  refine ⟨some ⟨g, 0, none⟩, 2, 2, rfl, rfl, Nat.le_refl _, by unfold maxLen; omega, by simp, fun i x hi => ?_⟩
  refine ⟨g, 0, rfl, hS, [.string x.1, .int .i64 x.2], ⟨rfl, ?_, ?_⟩, fun j u hj => ?_⟩
  · match i, hi with
    | 0, hi => simp at hi; subst hi; exact ha
    | 1, hi => simp at hi; subst hi; exact hb
    | i + 2, hi => simp at hi
  · match i, hi with
    | 0, hi => simp at hi; subst hi; unfold maxLen; show s.size ≤ _; omega
    | 1, hi => simp at hi; subst hi; unfold maxLen; show t.size ≤ _; omega
    | i + 2, hi => simp at hi
  · have es : tHead.size = 2 := rfl
    rw [es, World.cell?, hg]
    match i, hi, j, hj with
    | 0, hi, 0, hj => simp at hi hj; subst hi; subst hj; rfl
    | 0, hi, 1, hj => simp at hi hj; subst hi; subst hj; rfl
    | 1, hi, 0, hj => simp at hi hj; subst hi; subst hj; rfl
    | 1, hi, 1, hj => simp at hi hj; subst hi; subst hj; rfl
    | 0, hi, j + 2, hj => simp at hj
    | 1, hi, j + 2, hj => simp at hj
    | i + 2, hi, _, _ => simp at hi

set_option maxHeartbeats 1000000 in
theorem lawShop (w : World) : Calls Try.prog 57 #[] w (Ret w fun r w' => ∃ vc g, r = .agg #[vc, .slice (some ⟨g, 0, none⟩) 2 2] ∧ w.heap.size ≤ g ∧ g < w'.heap.size ∧
    w'.heap[g]? = some (.cells #[.string (ByteArray.mk #[109, 97, 105, 110]), .int .i64 3, .string (ByteArray.mk #[115, 105, 100, 101]), .int .i64 1] 76) ∧ Sl tCommit w' (fun k => w.heap.size ≤ k ∧ k ≠ g) vc crossL) := by
  obtain ⟨w0, hw0⟩ : ∃ w0, w0 = w.alloc (.cells #[.slice none 0 0, .slice none 0 0] 43) := ⟨_, rfl⟩
  have b0 : Below w.heap.size w w0 := by rw [hw0]; exact (Below.refl _ _).alloc (Nat.le_refl _) _
  have s0 : w0.heap.size = w.heap.size + 1 := by rw [hw0]; simp
  have h0 : w0.heap[w.heap.size]? = some (.cells #[.slice none 0 0, .slice none 0 0] 43) := by rw [hw0]; exact heap_alloc_new w _
  have HW0 := keepBack hw0
  clear hw0
  go_enter Try.func57, Try.ntmps57
  go_wp2_with fail
  rw [← HW0.out]
  refine (lawCross _).mono ?_; rintro e w1 ⟨_, rfl, ⟨g, hg1, hg2, rfl, hR⟩, b1⟩
  have s1 := b1.size
  have HB : Hid ((w1.alloc (.cells #[.string (ByteArray.mk #[109, 97, 105, 110]), .int .i64 3, .string (ByteArray.mk #[115, 105, 100, 101]), .int .i64 1] 76)).heap[w.heap.size]? = some (.cells #[.slice none 0 0, .slice none 0 0] 43)) := keepBack ((Below.heap_alloc w1 _ _ (by omega)).trans ((b1.block _ (by omega)).trans h0))
  have HH : Hid ((w1.alloc (.cells #[.string (ByteArray.mk #[109, 97, 105, 110]), .int .i64 3, .string (ByteArray.mk #[115, 105, 100, 101]), .int .i64 1] 76)).heap[w1.heap.size]? = some (.cells #[.string (ByteArray.mk #[109, 97, 105, 110]), .int .i64 3, .string (ByteArray.mk #[115, 105, 100, 101]), .int .i64 1] 76)) := keepBack (heap_alloc_new w1 _)
  have HONE : Hid ((#[Value.slice (some ⟨g, 0, none⟩) 6 6, Value.slice (some ⟨w1.heap.size, 0, none⟩) 2 2].all (·.oneCell')) = true) := keepBack (by simp [Value.oneCell'])
  obtain ⟨W, HW⟩ : ∃ W, Hid (W = (w1.alloc (.cells #[.string (ByteArray.mk #[109, 97, 105, 110]), .int .i64 3, .string (ByteArray.mk #[115, 105, 100, 101]), .int .i64 1] 76)).setRow w.heap.size #[Value.slice (some ⟨g, 0, none⟩) 6 6, Value.slice (some ⟨w1.heap.size, 0, none⟩) 2 2]) := ⟨_, rfl⟩
  have HG : Hid (W.heap[w.heap.size]? = some (.cells #[Value.slice (some ⟨g, 0, none⟩) 6 6, Value.slice (some ⟨w1.heap.size, 0, none⟩) 2 2] 43)) := keepBack (by rw [HW.out]; exact setRow_heap _ _ _ _ _ _ HB.out)
  have HH2 : Hid (W.heap[w1.heap.size]? = some (.cells #[.string (ByteArray.mk #[109, 97, 105, 110]), .int .i64 3, .string (ByteArray.mk #[115, 105, 100, 101]), .int .i64 1] 76)) := keepBack (by rw [HW.out, setRow_other _ _ _ _ (by omega)]; exact HH.out)
  have hbW : Below w.heap.size w W := by rw [HW.out]; exact below_setRow ((b0.trans (b1.mono (by omega))).alloc (by omega) _) (Nat.le_refl _) _
  have hC : Sl tCommit W (fun k => w.heap.size ≤ k ∧ k ≠ w1.heap.size) (.slice (some ⟨g, 0, none⟩) 6 6) crossL := by
    have h1 : Sl tCommit w1 (fun k => w.heap.size + 1 ≤ k ∧ k < w1.heap.size) (.slice (some ⟨g, 0, none⟩) 6 6) crossL := hR.sl (fun k hk => ⟨by omega, by omega⟩) ⟨by omega, hg2⟩ (by unfold maxLen; decide) 6 rfl
    rw [HW.out]
    refine (h1.keep fun k hk hlt => ?_).mono fun k hk _ => ⟨by omega, by omega⟩
    rw [setRow_other _ _ _ _ (by omega)]
    exact Below.heap_alloc w1 _ _ hlt
  have hsz : W.heap.size = w1.heap.size + 1 := by rw [HW.out]; simp
  go_wp2_with (refine wpList_store_row rfl 43 (.tmp 0) (.tmp 5) rfl w.heap.size #[Value.slice (some ⟨g, 0, none⟩) 6 6, Value.slice (some ⟨w1.heap.size, 0, none⟩) 2 2] rfl rfl _ _ HB.out rfl rfl HONE.out ?_; rw [show (w1.alloc (.cells #[.string (ByteArray.mk #[109, 97, 105, 110]), .int .i64 3, .string (ByteArray.mk #[115, 105, 100, 101]), .int .i64 1] 76)).setRow w.heap.size #[Value.slice (some ⟨g, 0, none⟩) 6 6, Value.slice (some ⟨w1.heap.size, 0, none⟩) 2 2] = W from HW.out.symm])
  exact bodyPost_ret (results_cell_row rfl _ _ _ _ _ _ _ rfl HG.out Try.underlying43 rfl rfl) rfl ⟨_, rfl, ⟨_, w1.heap.size, rfl, by omega, by omega, HH2.out, hC⟩, hbW⟩

/-- I1: what Begin gives. -/
theorem beginRp (w : World) (A : Obj) : Sl tCommit (((w.alloc A).alloc (.cells #[.slice none 0 0, .slice none 0 0] 65)).alloc (.cells #[.string (ByteArray.mk #[109, 97, 105, 110]), .int .i64 0] 76)) (fun k => w.heap.size ≤ k) (.slice (some ⟨w.heap.size + 1, 0, none⟩) 1 1) [([], [])] ∧
    Sl tHead (((w.alloc A).alloc (.cells #[.slice none 0 0, .slice none 0 0] 65)).alloc (.cells #[.string (ByteArray.mk #[109, 97, 105, 110]), .int .i64 0] 76)) (fun k => w.heap.size ≤ k) (.slice (some ⟨w.heap.size + 1 + 1, 0, none⟩) 1 1) [((ByteArray.mk #[109, 97, 105, 110]), 0)] := by
  have s1 : (w.alloc A).heap.size = w.heap.size + 1 := by simp
  obtain ⟨w1, hw1⟩ : ∃ w1, w1 = w.alloc A := ⟨_, rfl⟩
  rw [← hw1] at s1 ⊢
  have hc := (Own.lit (E := tCommit) (e := 65) (B := w1.heap.size) (C := fun _ => False) (Each.one [.slice none 0 0, .slice none 0 0] (([], []) : Commit) (tCommit_mk (Sl.nil tRow w1 _) (Sl.nil tInt w1 _))) rfl (by unfold maxLen; simp) (Nat.le_refl _)).sl (D := fun k => w.heap.size ≤ k) (fun _ h => h.elim) (fun k hk => by omega)
  have hc2 := hc.call ((Below.refl _ _).alloc (Nat.le_refl _) (.cells #[.string (ByteArray.mk #[109, 97, 105, 110]), .int .i64 0] 76))
  have s2 : (w1.alloc (.cells #[.slice none 0 0, .slice none 0 0] 65)).heap.size = w.heap.size + 1 + 1 := by simp [s1]
  have hh := (Own.lit (E := tHead) (e := 76) (w := w1.alloc (.cells #[.slice none 0 0, .slice none 0 0] 65)) (B := (w1.alloc (.cells #[.slice none 0 0, .slice none 0 0] 65)).heap.size) (C := fun _ => False) (Each.one [.string (ByteArray.mk #[109, 97, 105, 110]), .int .i64 0] (((ByteArray.mk #[109, 97, 105, 110]), 0) : Head) ⟨rfl, ok_small (a := 0) (by decide), by unfold maxLen; show 4 ≤ _; omega⟩) rfl (by unfold maxLen; simp) (Nat.le_refl _)).sl (D := fun k => w.heap.size ≤ k) (fun _ h => h.elim) (fun k hk => by omega)
  rw [s2] at hh
  rw [s1] at hc2
  exact ⟨hc2, hh⟩
theorem repoBegin (w : World) : Calls Try.prog 65 #[] w (Ret w fun r w' => Rp w' (fun k => w.heap.size ≤ k) r ([([], [])], [((ByteArray.mk #[109, 97, 105, 110]), 0)])) := by
  go_enter Try.func65, Try.ntmps65
  go_wp2_with fail
  obtain ⟨hc, hh⟩ := beginRp w (.cells #[.slice (some ⟨w.heap.size + 1, 0, none⟩) 1 1, .slice (some ⟨w.heap.size + 1 + 1, 0, none⟩) 1 1] 43)
  have hb : Below w.heap.size w (((w.alloc (.cells #[.slice (some ⟨w.heap.size + 1, 0, none⟩) 1 1, .slice (some ⟨w.heap.size + 1 + 1, 0, none⟩) 1 1] 43)).alloc (.cells #[.slice none 0 0, .slice none 0 0] 65)).alloc (.cells #[.string (ByteArray.mk #[109, 97, 105, 110]), .int .i64 0] 76)) := (((Below.refl _ _).alloc (Nat.le_refl _) _).alloc (by simp) _).alloc (by simp; omega) _
  have hg : (((w.alloc (.cells #[.slice (some ⟨w.heap.size + 1, 0, none⟩) 1 1, .slice (some ⟨w.heap.size + 1 + 1, 0, none⟩) 1 1] 43)).alloc (.cells #[.slice none 0 0, .slice none 0 0] 65)).alloc (.cells #[.string (ByteArray.mk #[109, 97, 105, 110]), .int .i64 0] 76)).heap[w.heap.size]? = some (.cells #[.slice (some ⟨w.heap.size + 1, 0, none⟩) 1 1, .slice (some ⟨w.heap.size + 1 + 1, 0, none⟩) 1 1] 43) :=
    (Below.heap_alloc _ _ _ (by simp; omega)).trans ((Below.heap_alloc _ _ _ (by simp)).trans (heap_alloc_new w _))
  exact bodyPost_ret (results_cell_row rfl _ _ _ _ _ _ _ rfl hg Try.underlying43 rfl rfl) rfl ⟨_, rfl, ⟨_, _, rfl, hc, hh⟩, hb⟩
theorem refBegin (w : World) : Calls Try.prog 66 #[] w (Ret w fun r w' => Rp w' (fun k => w.heap.size ≤ k) r ([([], [])], [((ByteArray.mk #[109, 97, 105, 110]), 0)])) := by
  go_enter Try.func66, Try.ntmps66
  go_wp2_with fail
  obtain ⟨hc, hh⟩ := beginRp w (.cells #[.slice (some ⟨w.heap.size + 1, 0, none⟩) 1 1, .slice (some ⟨w.heap.size + 1 + 1, 0, none⟩) 1 1] 43)
  have hb : Below w.heap.size w (((w.alloc (.cells #[.slice (some ⟨w.heap.size + 1, 0, none⟩) 1 1, .slice (some ⟨w.heap.size + 1 + 1, 0, none⟩) 1 1] 43)).alloc (.cells #[.slice none 0 0, .slice none 0 0] 65)).alloc (.cells #[.string (ByteArray.mk #[109, 97, 105, 110]), .int .i64 0] 76)) := (((Below.refl _ _).alloc (Nat.le_refl _) _).alloc (by simp) _).alloc (by simp; omega) _
  have hg : (((w.alloc (.cells #[.slice (some ⟨w.heap.size + 1, 0, none⟩) 1 1, .slice (some ⟨w.heap.size + 1 + 1, 0, none⟩) 1 1] 43)).alloc (.cells #[.slice none 0 0, .slice none 0 0] 65)).alloc (.cells #[.string (ByteArray.mk #[109, 97, 105, 110]), .int .i64 0] 76)).heap[w.heap.size]? = some (.cells #[.slice (some ⟨w.heap.size + 1, 0, none⟩) 1 1, .slice (some ⟨w.heap.size + 1 + 1, 0, none⟩) 1 1] 43) :=
    (Below.heap_alloc _ _ _ (by simp; omega)).trans ((Below.heap_alloc _ _ _ (by simp)).trans (heap_alloc_new w _))
  exact bodyPost_ret (results_cell_row rfl _ _ _ _ _ _ _ rfl hg Try.underlying43 rfl rfl) rfl ⟨_, rfl, ⟨_, _, rfl, hc, hh⟩, hb⟩


def H3 (s t : ByteArray) : List Head := [(s, 3), (t, 1)]
theorem lit_toList (l : List UInt8) : (ByteArray.mk l.toArray).toList = l := ByteArray.toList_mk l
theorem nmMain : nameB (ByteArray.mk #[109, 97, 105, 110]) = true := by rw [nameB, ByteArray.toList_eq]; decide
theorem nmSide : nameB (ByteArray.mk #[115, 105, 100, 101]) = true := by rw [nameB, ByteArray.toList_eq]; decide
theorem nmBig : nameB (ByteArray.mk #[77, 97, 105, 110]) = false := by rw [nameB, ByteArray.toList_eq]; decide
theorem okShop : repoErr (crossL, H3 (ByteArray.mk #[109, 97, 105, 110]) (ByteArray.mk #[115, 105, 100, 101])) = 0 := by
  rw [repoErr_form (r := (crossL, H3 (ByteArray.mk #[109, 97, 105, 110]) (ByteArray.mk #[115, 105, 100, 101]))) okCross (by decide) (by simp only [H3, List.any_cons, nmMain, nmSide]; rfl) (c := true) (by simp [H3, headsRise, ByteArray.toList_eq, crossL]; decide)]; rfl
theorem badTwice : repoErr (crossL, H3 (ByteArray.mk #[109, 97, 105, 110]) (ByteArray.mk #[109, 97, 105, 110])) = 1 := by
  rw [repoErr_form (r := (crossL, H3 (ByteArray.mk #[109, 97, 105, 110]) (ByteArray.mk #[109, 97, 105, 110]))) okCross (by decide) (by simp only [H3, List.any_cons, nmMain]; rfl) (c := false) (by simp [H3, headsRise, ByteArray.toList_eq, less_irrefl])]; rfl
theorem badName : repoErr (crossL, H3 (ByteArray.mk #[77, 97, 105, 110]) (ByteArray.mk #[115, 105, 100, 101])) = 4 := by
  rw [repoErr_name (r := (crossL, H3 (ByteArray.mk #[77, 97, 105, 110]) (ByteArray.mk #[115, 105, 100, 101]))) okCross (by decide) (by simp only [H3, List.any_cons, nmBig]; rfl)]
theorem okBegin : repoErr ([([], [])], [((ByteArray.mk #[109, 97, 105, 110]), 0)]) = 0 := by
  rw [repoErr_form (r := ([([], [])], [((ByteArray.mk #[109, 97, 105, 110]), 0)])) (by decide) (by decide) (by simp only [List.any_cons, nmMain]; rfl) (c := true) (by simp [headsRise, ByteArray.toList_eq]; decide)]; rfl
theorem headSide : headP (crossL, H3 (ByteArray.mk #[109, 97, 105, 110]) (ByteArray.mk #[115, 105, 100, 101])) (ByteArray.mk #[115, 105, 100, 101]) = (1, 0) := by
  rw [headP, if_pos okShop]
  simp [H3, headK, ByteArray.toList_eq]
theorem headMain : headP (crossL, H3 (ByteArray.mk #[109, 97, 105, 110]) (ByteArray.mk #[115, 105, 100, 101])) (ByteArray.mk #[109, 97, 105, 110]) = (3, 0) := by
  rw [headP, if_pos okShop]
  simp [H3, headK, ByteArray.toList_eq]
theorem headNone : headP (crossL, H3 (ByteArray.mk #[109, 97, 105, 110]) (ByteArray.mk #[115, 105, 100, 101])) (ByteArray.mk #[110, 111, 110, 101]) = (0, 5) := by
  rw [headP, if_pos okShop]
  simp [H3, headK, ByteArray.toList_eq]
theorem logMain : logP (crossL, H3 (ByteArray.mk #[109, 97, 105, 110]) (ByteArray.mk #[115, 105, 100, 101])) (ByteArray.mk #[109, 97, 105, 110]) = ([3, 2, 1, 0], 0) := by
  rw [logP_is (n := 3) headMain]
  have : logL crossL 3 = [3, 2, 1, 0] := by decide
  rw [this]

end Go.Pch
