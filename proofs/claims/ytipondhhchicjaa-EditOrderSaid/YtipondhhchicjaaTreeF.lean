/- The walks of package tree on whole trees, and of what the document says of them. -/
import Derived.Test.YtipondhhchicjaaTreeO
import Derived.Test.YtipondhhchicjaaCat
import Derived.Test.YtipondhhchicjaaEq
import Derived.Test.YtipondhhchicjaaTreeP
namespace Go.Pch
open Go.RowKit Go.Proofs
set_option maxRecDepth 100000

abbrev tTree : Ty (List (List (List Row))) := tRow.slice.slice.slice

theorem treeBuild (v : Value) (l : List Row) (S : Blk) (w : World) (h : Sl tRow w S v l) :
    Calls Try.prog 21 #[v] w (Ret w fun r w' => ∃ x, r = .tuple #[x, .int .i64 (buildP l).2] ∧ Sl tRow.slice.slice w' (fun k => w.heap.size ≤ k) x (buildP l).1) := by
  by_cases he : rowsErr l = 0
  · have hP : buildP l = (treeL l, 0) := by rw [buildP, if_pos he]
    go_enter Try.func21, Try.ntmps21
    go_wp2_with fail
    refine (rowsCheck v l S w h).mono ?_; rintro e w1 ⟨_, rfl, rfl, b1⟩
    rw [he]
    go_wp2_with fail
    refine (treeOf v l S w1 (h.call b1) he).mono ?_; rintro e w2 ⟨x, rfl, hx, b2⟩
    have s1 := b1.size
    go_wp2
    go_ret2
    exact ⟨_, rfl, ⟨_, by rw [hP]; rfl, by rw [hP]; exact hx.mono fun k hk _ => by omega⟩, b1.trans (b2.mono s1)⟩
  · have he' : (rowsErr l != 0) = true := by simp [he]
    have hP : buildP l = ([], rowsErr l) := by rw [buildP, if_neg he]
    go_enter Try.func21, Try.ntmps21
    go_wp2_with fail
    refine (rowsCheck v l S w h).mono ?_; rintro e w1 ⟨_, rfl, rfl, b1⟩
    go_wp2
    go_ret2
    exact ⟨_, rfl, ⟨_, by rw [hP]; rfl, by rw [hP]; exact Sl.nil _ _ _⟩, b1⟩

theorem flat_head {t : List (List (List Row))} {X : List (List Row)} (h : t[0]? = some X) : flatL t = X.flatten := by
  cases t with
  | nil => simp at h
  | cons x t => simp at h; subst h; rfl
theorem head_of {α : Type} {t : List α} (h : t ≠ []) : ∃ X, t[0]? = some X ∧ 0 < t.length := by
  cases t with
  | nil => exact absurd rfl h
  | cons x t => exact ⟨x, rfl, by simp⟩

theorem treeFlat (v : Value) (t : List (List (List Row))) (S : Blk) (w : World) (h : Sl tRow.slice.slice w S v t) (hl : (flatL t).length ≤ 2000000) :
    Calls Try.prog 49 #[v] w (Ret w fun r w' => Sl tRow w' (fun k => w.heap.size ≤ k) r (flatL t)) := by
  by_cases ht : t = []
  · obtain ⟨ao, cap, rfl, hcap, hmax, hnil⟩ := h.shape
    subst ht
    go_enter Try.func49, Try.ntmps49
    go_wp2
    go_ret
    exact ⟨_, rfl, Sl.nil _ _ _, Below.refl _ _⟩
  · obtain ⟨X, hX, hpos⟩ := head_of ht
    have HF := keepBack (flat_head hX)
    obtain ⟨ao, cap, rfl, hcap, hmax, hnil⟩ := h.shape
    unfold maxLen at hmax
    obtain ⟨b, o, a2, c2, hix, _, hbs, hsx, hc2, hcm2, hc00⟩ := h.idxSlAt aTree 0 0 X X.length rfl hX rfl
    have hq : ((t.length : Int) == 0) = false := by simp; omega
    rw [HF.out] at hl
    clear hX
    go_enter Try.func49, Try.ntmps49
    go_wp2_with fail
    refine (catRows _ X _ w hsx hl).mono ?_; rintro e w1 ⟨r, rfl, hr, b1⟩
    go_wp2
    go_ret
    exact ⟨_, rfl, by rw [HF.out]; exact hr, b1⟩

set_option maxHeartbeats 400000 in
theorem refRowsOf (v : Value) (t : List (List (List Row))) (S : Blk) (w : World) (h : Sl tRow.slice.slice w S v t) (hl : (flatL t).length ≤ 2000000) :
    Calls Try.prog 57 #[v] w (Ret w fun r w' => Sl tRow w' (fun k => w.heap.size ≤ k) r (flatL t)) := by
  have hv := h.old
  obtain ⟨ao, cap, rfl, hcap, hmax, hnil⟩ := h.shape
  unfold maxLen at hmax
  by_cases ht : t = []
  · subst ht
    have hq : decide ((0 : Int) < (([] : List (List (List Row))).length : Int)) = false := by simp
    go_enter Try.func57, Try.ntmps57
    go_wp2
    go_loop [3, 4] (fun o i => o = .slice none 0 0 ∧ i = .int .i64 0) (fun _ _ => 0)
    case atStart => exact ⟨rfl, rfl⟩
    case round =>
      obtain ⟨rfl, rfl⟩ := hrel
      go_wp2
      go_ret
      exact ⟨_, rfl, Sl.nil _ _ _, Below.refl _ _⟩
  · obtain ⟨X, hX, hpos⟩ := head_of ht
    have HF := keepBack (flat_head hX)
    obtain ⟨b, o, a2, c2, hix, _, hbs, hsx, hc2, hcm2, hc00⟩ := hv.idxSlAt aTree 0 0 X X.length rfl hX rfl
    rw [HF.out] at hl
    have HL := keepBack hl
    clear hl hX
    unfold maxLen at hcm2
    go_enter Try.func57, Try.ntmps57
    go_wp2
    go_loopw [3, 4] (fun out i wr => ∃ (j : Nat), j ≤ X.length ∧ i = .int .i64 j ∧ Below w.heap.size w wr ∧ Own tRow 64 wr w.heap.size (fun _ => False) out (X.take j).flatten) (fun _ i _ => X.length - (intOf i).toNat)
    case atStart => exact ⟨0, Nat.zero_le _, rfl, Below.refl _ _, .nil⟩
    case round =>
      obtain ⟨j, hj, rfl, hb, ho⟩ := hrel
      have hs := hb.size
      have hc0 := (hb.cell (p := ⟨b, o, none⟩) hbs).trans hc00
      by_cases hlt : j < X.length
      · obtain ⟨ck, hck⟩ : ∃ ck, X[j]? = some ck := ⟨X[j], List.getElem?_eq_getElem hlt⟩
        obtain ⟨b', o', a3, c3, hix', _, hbs', hsk0, hc3, hcm3, hc000⟩ := hsx.idxSlAt aLev j j ck ck.length rfl hck rfl
        have hcell := (hb.cell (p := ⟨b', o', none⟩) hbs').trans hc000
        have hn : (X.take (j + 1)).flatten = (X.take j).flatten ++ ck := flatten_take_succ hck
        have hle : ((X.take (j + 1)).flatten).length ≤ 2000000 := Nat.le_trans (flatten_take_le X (j + 1)) HL.out
        rw [hn, List.length_append] at hle
        have HN := keepBack hn
        have hsrc := Src.row (D' := fun _ => False) (hsk0.below hb).src
        have hna := hsk0.noAddr
        clear hn hck
        generalize (X.take j).flatten = G at *
        obtain ⟨ag, cg, rfl, _, _⟩ := ho.shape
        have hob := ho.block
        go_wp2_with (at_builtin; refine wpList_grow rfl (.tmp 18) (.tmp 24) rfl aRow rfl ho rfl rfl hsrc hna (fun _ h => h.elim) (by omega) hs ?_)
        intro v2 w2 ho2 hg2
        have hb2 : Below w.heap.size w w2 := hb.grown hg2 hs (fun g hg => (hob g hg).1)
        go_wp2
        go_roundw
        case rel => exact ⟨j + 1, by omega, by go_num, hb2, by rw [HN.out]; exact ho2⟩
        case measure => simp [intOf]; omega
      · obtain rfl : j = X.length := by omega
        go_wp2
        go_ret
        rw [List.take_length] at ho
        exact ⟨_, rfl, by rw [HF.out]; exact ho.sl (fun _ h => h.elim) (fun _ h => h), hb⟩

end Go.Pch
