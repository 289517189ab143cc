/- Plain words of chapter 5: a patch of a level, and of a tree; no program is named here. The walks of slices.Grow (at the nil slice) and slices.Concat at levels. The walk of edit.lay. The walk of edit.apply. The walk of edit.own. The walk of edit.put. The walk of edit.edits. The walks of edit.Put and All. The walks of the document's EditOf and EditAll. The walk of editBegun. Plain words of puts: order, and back again (as in the text of RowsTrue). The walks of the laws EditPuts, EditAlls, EditSame, EditOrder. -/
import Derived.Test.YtipondhhchicjaaTreeP
import Derived.Test.YtipondhhchicjaaChgP
import Derived.Test.YtipondhhchicjaaCat
import Derived.Test.YtipondhhchicjaaTreeB
import Derived.Test.YtipondhhchicjaaMapI
import Derived.Test.YtipondhhchicjaaC5
import Derived.Test.YtipondhhchicjaaTreeA
import Derived.Test.YtipondhhchicjaaRev
import Derived.Test.YtipondhhchicjaaTreeC
import Derived.Test.YtipondhhchicjaaTreeO
import Derived.StillTailTactics
import Derived.Deep.Cut
import Derived.Deep.CutRange
import Derived.Test.YtipondhhchicjaaSetA
import Derived.Test.YtipondhhchicjaaTreeE
import Derived.Test.YtipondhhchicjaaSeekA
import Derived.Test.YtipondhhchicjaaTreeF
import Derived.Test.YtipondhhchicjaaChg
import Derived.Test.YtipondhhchicjaaTabB
import Derived.Test.YtipondhhchicjaaTreeR
import Derived.Test.YtipondhhchicjaaDiffE
import Derived.Test.YtipondhhchicjaaDiffH
import Derived.Test.YtipondhhchicjaaC6
import Derived.Test.YtipondhhchicjaaRowP
import Derived.Test.YtipondhhchicjaaBase
namespace Go.Pch

/-- Where a chunk ends does not hang on what stands behind it, if something does. -/
theorem cnt_front (n : Int) : ∀ (l : List Row) (c : Nat), cnt n c l < c + l.length → ∀ m, cnt n c (l.take (cnt n c l - c) ++ m) = cnt n c l
  | [], c, h, _ => by simp [cnt] at h
  | r :: l, c, h, m => by
    have hk : cnt n c (r :: l) = if (decide (1 ≤ c) && endsB r n || c == 5 || l.isEmpty) = true then c + 1 else cnt n (c + 1) l := rfl
    by_cases hc : (decide (1 ≤ c) && endsB r n || c == 5 || l.isEmpty) = true
    · rw [if_pos hc] at hk
      rw [hk] at h ⊢
      simp only [List.length_cons] at h
      have hl : l.isEmpty = false := by cases l with
        | nil => simp at h
        | cons => rfl
      rw [hl, Bool.or_false] at hc
      rw [Nat.add_sub_cancel_left, List.take_succ_cons, List.take_zero, List.singleton_append, cnt, if_pos (by rw [hc]; rfl)]
    · rw [if_neg hc] at hk
      rw [hk] at h ⊢
      have hc' : (decide (1 ≤ c) && endsB r n || c == 5) = false ∧ l ≠ [] := by
        simp only [Bool.or_eq_true, not_or] at hc
        exact ⟨by simpa using hc.1, by simpa using hc.2⟩
      have hp := cnt_pos n hc'.2 (c + 1)
      simp only [List.length_cons] at h
      have ih := cnt_front n l (c + 1) (by omega) m
      obtain ⟨d, hd⟩ : ∃ d, cnt n (c + 1) l - c = d + 1 := ⟨cnt n (c + 1) l - c - 1, by omega⟩
      rw [hd, List.take_succ_cons, List.cons_append, cnt, if_neg, ← show cnt n (c + 1) l - (c + 1) = d by omega]
      · exact ih
      · rw [hc'.1, Bool.false_or]
        have : (l.take d ++ m).isEmpty = false := by
          cases l with
          | nil => exact absurd rfl hc'.2
          | cons x l =>
            obtain ⟨e, rfl⟩ : ∃ e, d = e + 1 := ⟨d - 1, by omega⟩
            rfl
        rw [this]; simp

theorem chunks_front {n : Int} {l c : List Row} {Y : List (List Row)} (h : chunks n l = c :: Y) (hY : Y ≠ []) (m : List Row) : chunks n (c ++ m) = c :: chunks n m := by
  have hl : l ≠ [] := by rintro rfl; rw [chunks_nil] at h; cases h
  rw [chunks_cons n hl] at h
  simp only [List.cons.injEq] at h
  obtain ⟨h1, h2⟩ := h
  have hp := cnt_pos n hl 0
  have hlt : cnt n 0 l < l.length := by
    rcases Nat.lt_or_ge (cnt n 0 l) l.length with h' | h'
    · exact h'
    · rw [List.drop_of_length_le h', chunks_nil] at h2
      exact absurd h2.symm hY
  have hf := cnt_front n l 0 (by omega) m
  rw [Nat.sub_zero, h1] at hf
  have hcl : c.length = cnt n 0 l := by rw [← h1, List.length_take]; omega
  have hc0 : c ≠ [] := by rintro rfl; simp at hcl; omega
  rw [chunks_cons n (l := c ++ m) (by simp [hc0]), hf, ← hcl, List.take_left, List.drop_left]

theorem chunks_keep {n : Int} : ∀ (i : Nat) (l : List Row), i < (chunks n l).length → ∀ m, chunks n (((chunks n l).take i).flatten ++ m) = (chunks n l).take i ++ chunks n m
  | 0, _, _, _ => rfl
  | i + 1, l, h, m => by
    have hl : l ≠ [] := by rintro rfl; simp [chunks_nil] at h
    have hc := chunks_cons n hl
    rw [hc] at h
    simp only [List.length_cons] at h
    have ih := chunks_keep (n := n) i (l.drop (cnt n 0 l)) (by omega) m
    have hY : chunks n (l.drop (cnt n 0 l)) ≠ [] := by intro e; rw [e] at h; simp at h
    rw [hc, List.take_succ_cons, List.flatten_cons, List.append_assoc, chunks_front hc hY, ih, List.cons_append]

/-- A level with a patch: what becomes of its rows. -/
def patchL (l : List Row) (lo hi : Nat) (repl : List Row) : List Row := l.take lo ++ (repl ++ l.drop hi)

/-- What is left of a level of which the first chunks are passed over. -/
theorem chunks_rest {n : Int} {X : List (List Row)} (hX : chunks n X.flatten = X) {i : Nat} (hi : i ≤ X.length) : chunks n (X.drop i).flatten = X.drop i := by
  have := chunks_drop n i X.flatten (by rw [hX]; exact hi)
  rw [hX] at this
  rwa [show X.flatten.drop (X.take i).flatten.length = (X.drop i).flatten by
    conv => lhs; rw [← List.take_append_drop i X, List.flatten_append]
    rw [List.take_append_drop, List.drop_left]] at this

theorem flatten_drop {X : List (List Row)} (i : Nat) : X.flatten = (X.take i).flatten ++ (X.drop i).flatten := by
  rw [← List.flatten_append, List.take_append_drop]

/-- A level is cut anew from chunk 'first' on: what comes. -/
theorem lay_seq {n : Int} {X : List (List Row)} (hX : chunks n X.flatten = X) {first lo hi : Nat} {repl : List Row} (h1 : first < X.length ∨ first = 0) (h2 : (X.take first).flatten.length ≤ lo) (h3 : lo ≤ hi) (_h4 : hi ≤ X.flatten.length) :
    chunks n (patchL X.flatten lo hi repl) = X.take first ++ chunks n ((X.drop first).flatten.take (lo - (X.take first).flatten.length) ++ (repl ++ (X.drop first).flatten.drop (hi - (X.take first).flatten.length))) := by
  have e : patchL X.flatten lo hi repl = (X.take first).flatten ++ ((X.drop first).flatten.take (lo - (X.take first).flatten.length) ++ (repl ++ (X.drop first).flatten.drop (hi - (X.take first).flatten.length))) := by
    rw [patchL, flatten_drop first, List.take_append, List.drop_append, List.take_of_length_le h2, List.drop_of_length_le (by omega : (X.take first).flatten.length ≤ hi), List.nil_append, List.append_assoc]
  rw [e]
  rcases h1 with h1 | rfl
  · have := chunks_keep (n := n) first X.flatten (by rw [hX]; exact h1)
    rw [hX] at this
    rw [this]
  · rfl

/-- Where an old chunk ends, behind the patch, all comes as it was. -/
theorem lay_found {n : Int} {Y : List (List Row)} (hY : chunks n Y.flatten = Y) {lo hi en j : Nat} {repl : List Row} (h3 : lo ≤ hi) (h4 : hi ≤ Y.flatten.length) (h5 : lo + repl.length ≤ en) (hj : j ≤ Y.length)
    (hp : (en : Int) - ((repl.length : Int) - ((hi : Int) - lo)) = ((Y.take j).flatten.length : Nat)) :
    chunks n ((Y.flatten.take lo ++ (repl ++ Y.flatten.drop hi)).drop en) = Y.drop j := by
  have e : (Y.flatten.take lo ++ (repl ++ Y.flatten.drop hi)).drop en = Y.flatten.drop (Y.take j).flatten.length := by
    rw [List.drop_append, List.drop_of_length_le (by rw [List.length_take]; omega), List.nil_append, List.drop_append, List.drop_of_length_le (by rw [List.length_take]; omega), List.nil_append, List.drop_drop, List.length_take]
    congr 1
    omega
  rw [e]
  have := chunks_drop n j Y.flatten (by rw [hY]; exact hj)
  rw [hY] at this
  exact this

/-- One step of the cutting. -/
theorem lay_step {n : Int} {seq : List Row} {fresh : List (List Row)} {fr : Nat} (hf : fr < seq.length) (h : fresh ++ chunks n (seq.drop fr) = chunks n seq) :
    (fresh ++ [(seq.drop fr).take (cnt n 0 (seq.drop fr))]) ++ chunks n (seq.drop (fr + cnt n 0 (seq.drop fr))) = chunks n seq ∧ 0 < cnt n 0 (seq.drop fr) ∧ fr + cnt n 0 (seq.drop fr) ≤ seq.length := by
  have hl : seq.drop fr ≠ [] := by intro e; have := congrArg List.length e; simp at this; omega
  have hp := cnt_pos n hl 0
  have hle := cnt_le n (seq.drop fr) 0
  rw [List.length_drop] at hle
  refine ⟨?_, hp, by omega⟩
  rw [← h, chunks_cons n hl, List.append_assoc, List.singleton_append, List.drop_drop]

/-! ### A tree -/
/-- A patch of what tells of a level. -/
theorem told_patch (X : List (List Row)) (first behind : Nat) (fresh : List (List Row)) :
    patchL (X.map tell) first behind (fresh.map tell) = (X.take first ++ (fresh ++ X.drop behind)).map tell := by
  rw [patchL, List.map_append, List.map_append, List.map_take, List.map_drop]
theorem patchL_none (l : List Row) : patchL [] 0 0 l = l := by simp [patchL]

/-- Levels m and up of a right tree, its rows patched. -/
structure Lev (m : Nat) (R : List (List (List Row))) (L : List Row) : Prop where
  is : R = treeN m L
  nil : R = [] → L = []
theorem Lev.head {m : Nat} {R : List (List (List Row))} {L : List Row} (h : Lev m R L) : R.headD [] = chunks m L := by
  by_cases hl : L = []
  · rw [h.is, hl, treeN_nil, chunks_nil]; rfl
  · by_cases h1 : (chunks m L).length = 1
    · rw [h.is, treeN_top hl h1]; rfl
    · rw [h.is, treeN_more hl h1]; rfl
theorem treeN_ne {n : Int} {l : List Row} (h : l ≠ []) : treeN n l ≠ [] := by
  by_cases h1 : (chunks n l).length = 1
  · rw [treeN_top h h1]; simp
  · rw [treeN_more h h1]; simp
theorem Lev.tail {m : Nat} {R : List (List (List Row))} {L : List Row} (h : Lev m R L) (hR : R.tail ≠ []) : Lev (m + 1) R.tail ((chunks m L).map tell) := by
  have hl : L ≠ [] := by rintro rfl; rw [h.is, treeN_nil] at hR; exact hR rfl
  by_cases h1 : (chunks m L).length = 1
  · rw [h.is, treeN_top hl h1] at hR; exact absurd rfl hR
  · refine ⟨by rw [h.is, treeN_more hl h1]; rfl, fun e => absurd e hR⟩
theorem Lev.none (m : Nat) : Lev m [] [] := ⟨(treeN_nil _).symm, fun _ => rfl⟩
theorem Lev.tree (l : List Row) : Lev 0 (treeL l) l := by
  refine ⟨rfl, fun h => ?_⟩
  by_cases hl : l = []
  · exact hl
  · exact absurd h (treeN_ne (n := 0) hl)

/-- E1: Put's answer. -/
def editP (t : List (List (List Row))) (key val : Int) : List (List (List Row)) × Int :=
  if treeErr t = 0 then (if (putP (flatL t) key val).2 = 0 then (treeL (putP (flatL t) key val).1, 0) else ([], (putP (flatL t) key val).2)) else ([], treeErr t)
/-- Rows with all changes put, one by one. -/
def putsP : List Row → List Change → List Row × Int
  | l, [] => (l, 0)
  | l, x :: d => if (putP l x.1 x.2.2).2 = 0 then putsP (putP l x.1 x.2.2).1 d else ([], (putP l x.1 x.2.2).2)
/-- E1: All's answer. -/
def editsP (t : List (List (List Row))) (d : List Change) : List (List (List Row)) × Int :=
  if treeErr t = 0 then (if 100 < d.length then ([], 2) else (if (putsP (flatL t) d).2 = 0 then (treeL (putsP (flatL t) d).1, 0) else ([], (putsP (flatL t) d).2))) else ([], treeErr t)

end Go.Pch

namespace Go.Pch
open Go.RowKit Go.Proofs
set_option maxRecDepth 100000

set_option maxHeartbeats 400000 in
theorem growNilL (C : Blk) (n : Nat) (w : World) (hn : n ≤ 2000000) :
    Calls Try.prog 103 #[.slice none 0 0, .int .i64 n] w (Ret w fun r w' => Own tRow.slice 22 w' w.heap.size C r []) := by
  by_cases h0 : n = 0
  · subst h0
    go_enter Try.func103, Try.ntmps103
    go_wp2
    go_ret
    exact ⟨_, rfl, .nil, Below.refl _ _⟩
  · obtain ⟨q, z, i1, i2, i3, i4, i5⟩ := aLev.info
    have hpos : 0 < n := by omega
    have hq0 : 0 < q.size := by rw [i3]; exact tRow.slice.pos
    have hrz := fun ty => Lib.run_append_grow_zeros (P := Try.prog) w 58 3 ty 22 q z .i64 .i64 Try.underlying58 Try.underlying3 i1 i2 none 0 0 [] (run_firstCells_none w.drew q.size 0 0 0) n hpos hq0 (by omega) (by omega)
      (by have : n * q.bytes ≤ n * 64 := Nat.mul_le_mul_left _ i5
          omega) (growslice_fits (by omega) (by have : (0 + n) * q.bytes ≤ (0 + n) * 64 := Nat.mul_le_mul_left _ i5
                                                omega))
    simp only [Nat.zero_add] at hrz
    have hG := grownCap_ge w n 0 22
    have hG63 := grownCap_le_maxLen w n 0 22 (by unfold maxLen; omega)
    have hz : (#[] ++ Builtin.zeroCells z.cells n ++ Builtin.zeroCells z.cells (grownCap w n 0 22 - n)).size = grownCap w n 0 22 * tRow.slice.size := by
      simp [Builtin.zeroCells, i4, ← Nat.add_mul]
      congr 1
      omega
    generalize grownCap w n 0 22 = G at *
    generalize (#[] ++ Builtin.zeroCells z.cells n ++ Builtin.zeroCells z.cells (G - n)) = Z at *
    go_enter Try.func103, Try.ntmps103
    go_wp2_with (at_builtin; refine Lib.wpList_append_run _ rfl _ _ _ _ rfl _ _ rfl rfl _ _ (hrz _) ?_)
    go_ret
    have hown : Own tRow.slice 22 (w.alloc (.cells Z 22)) w.heap.size C (.slice (some ⟨w.heap.size, 0, none⟩) 0 G) [] := ⟨[], World.ownsRow_made w Z G (Nat.le_refl _) hG63 hz, .nil⟩
    exact ⟨_, rfl, hown.keep fun _ _ _ => rfl, ((Below.refl _ _).alloc (Nat.le_refl _) _).drew⟩

set_option maxRecDepth 100000 in
set_option maxHeartbeats 1000000 in
theorem catLev (v : Value) (X : List (List (List Row))) (S : Blk) (w : World) (h : Sl tRow.slice.slice w S v X) (hl : X.flatten.length ≤ 2000000) :
    Calls Try.prog 100 #[v] w (Ret w fun r w' => Own tRow.slice 22 w' w.heap.size (fun k => S k ∧ k < w.heap.size) r X.flatten) := by
  have hv : Sl tRow.slice.slice w (fun k => S k ∧ k < w.heap.size) v X := h.mono fun k hk hlt => ⟨hk, hlt⟩
  obtain ⟨ao, cap, rfl, hcap, hmax, hnil⟩ := h.shape
  unfold maxLen at hmax
  have HL := keepBack hl
  go_enter Try.func100, Try.ntmps100
  go_wp2
  go_loop [3, 11] (fun s i => ∃ (j : Nat), j ≤ X.length ∧ i = .int .i64 j ∧ s = .int .i64 (skipN X j)) (fun _ i => X.length - (intOf i).toNat)
  case atStart => exact ⟨0, Nat.zero_le _, rfl, rfl⟩
  case round =>
    obtain ⟨j, hj, rfl, rfl⟩ := hrel
    by_cases hlt : j < X.length
    · obtain ⟨ck, hck⟩ : ∃ ck, X[j]? = some ck := ⟨X[j], List.getElem?_eq_getElem hlt⟩
      obtain ⟨b, o, a2, c2, hix, _, hbs, hsk0, hc2, hcm2, hc00⟩ := hv.idxSlAt aTree j j ck ck.length rfl hck rfl
      have hn : skipN X (j + 1) = skipN X j + ck.length := by rw [skipN, flatten_take_succ hck, List.length_append]; rfl
      have hle : skipN X (j + 1) ≤ 2000000 := Nat.le_trans (flatten_take_le X (j + 1)) HL.out
      rw [hn] at hle
      have HN := keepBack hn
      clear hn hck
      generalize skipN X j = s at *
      go_wp2
      go_round
      case rel => exact ⟨j + 1, by omega, by go_num, by rw [HN.out]; go_num⟩
      case measure => simp [intOf]; omega
    · obtain rfl : j = X.length := by omega
      have hsk : skipN X X.length ≤ 2000000 := Nat.le_trans (flatten_take_le X X.length) HL.out
      generalize skipN X X.length = N at *
      clear hl
      go_wp2_with fail
      refine (growNilL (fun k => S k ∧ k < w.heap.size) N w hsk).mono ?_; rintro e w1 ⟨vo, rfl, hown, hb1⟩
      have hs1 := hb1.size
      go_wp2
      go_loopw [6, 27] (fun out i wr => ∃ (j : Nat), j ≤ X.length ∧ i = .int .i64 j ∧ Below w.heap.size w wr ∧ Own tRow.slice 22 wr w.heap.size (fun k => S k ∧ k < w.heap.size) out (X.take j).flatten) (fun _ i _ => X.length - (intOf i).toNat)
      case atStart => exact ⟨0, Nat.zero_le _, rfl, hb1, hown⟩
      case round =>
        obtain ⟨j, hj, rfl, hb, ho⟩ := hrel
        have hs := hb.size
        by_cases hlt : j < X.length
        · obtain ⟨ck, hck⟩ : ∃ ck, X[j]? = some ck := ⟨X[j], List.getElem?_eq_getElem hlt⟩
          obtain ⟨b, o, a2, c2, hix, _, hbs, hsk0, hc2, hcm2, hc00⟩ := hv.idxSlAt aTree j j ck ck.length rfl hck rfl
          have hcell := (hb.cell (p := ⟨b, o, none⟩) hbs).trans hc00
          have hn : (X.take (j + 1)).flatten = (X.take j).flatten ++ ck := flatten_take_succ hck
          have hle : ((X.take (j + 1)).flatten).length ≤ 2000000 := Nat.le_trans (flatten_take_le X (j + 1)) HL.out
          rw [hn, List.length_append] at hle
          have HN := keepBack hn
          have hsrc := (hsk0.keep (w' := wr) fun k hk _ => hb.block k hk.2).src
          have hna := hsk0.noAddr
          clear hn hck
          generalize (X.take j).flatten = G at *
          obtain ⟨ag, cg, rfl, _, _⟩ := ho.shape
          have hob := ho.block
          have hsep : ∀ k, (fun k => S k ∧ k < w.heap.size) k → k < wr.heap.size → (fun k => S k ∧ k < w.heap.size) k ∧ some k ≠ (Value.slice ag G.length cg).ownBlock := fun k hk _ => ⟨hk, fun e => by have := (hob k e.symm).1; have hk' : S k ∧ k < w.heap.size := hk; omega⟩
          go_wp2_with (at_builtin; refine wpList_grow rfl (.tmp 31) (.tmp 32) rfl aLev rfl ho rfl rfl hsrc hna hsep (by omega) hs ?_)
          intro v2 w2 ho2 hg2
          have hb2 : Below w.heap.size w w2 := hb.grown hg2 hs (fun g hg => (hob g hg).1)
          go_wp2
          go_roundw
          case rel => exact ⟨j + 1, by omega, by go_num, hb2, by rw [HN.out]; exact ho2⟩
          case measure => simp [intOf]; omega
        · obtain rfl : j = X.length := by omega
          go_wp2
          go_ret
          rw [List.take_length] at ho
          exact ⟨_, rfl, ho, hb⟩

end Go.Pch

namespace Go.Pch
open Go.RowKit Go.Proofs
set_option maxRecDepth 100000

theorem run_cut3is {α : Type} {E : Ty α} {P : Program} {T e : TypeId} (hA : At P E T e) (ao : Option Addr) (len cap lo hi mx : Nat) (a b c : Int) (ha : a = lo) (hb : b = hi) (hc : c = mx) (h1 : lo ≤ hi) (h2 : hi ≤ mx) (h3 : mx ≤ cap) (W : World) :
    Sem.run P (Instr.slice T (.slice ao len cap) (some (.int .i64 a)) (some (.int .i64 b)) (some (.int .i64 c))) W = .ok (.slice (cutAddr ao mx lo E.size) (hi - lo) (mx - lo)) W := by
  obtain ⟨q, z, i1, i2, i3, i4, i5⟩ := hA.info
  subst ha hb hc
  simp [Instr.slice, run_underlying hA.und, Instr.sliceBounds, Instr.sliceBound, asIntOf, sizeOf, typeInfo, i1, i3, h1, h2, h3, cutAddr]

theorem lit3_at (w : World) (a b c : Value) (t : TypeId) : (w.alloc (.cells #[a, b, c] t)).cell? ⟨w.heap.size, 0, none⟩ = some a ∧ (w.alloc (.cells #[a, b, c] t)).cell? ⟨w.heap.size, 1, none⟩ = some b ∧ (w.alloc (.cells #[a, b, c] t)).cell? ⟨w.heap.size, 2, none⟩ = some c := by
  refine ⟨?_, ?_, ?_⟩ <;> (rw [World.cell?, heap_alloc_new]; rfl)

theorem levLit3 (w : World) (D : Blk) (va vb vc : Value) (a b c : List Row) (ha : Sl tRow w D va a) (hb : Sl tRow w D vb b) (hc : Sl tRow w D vc c) :
    Sl tRow.slice (w.alloc (.cells #[va, vb, vc] 22)) (fun _ => True) (.slice (some ⟨w.heap.size, 0, none⟩) 3 3) [a, b, c] := by
  have h1 : Each tRow.slice w D [[va]] [a] := Each.one [va] a ha
  have h2 : Each tRow.slice w D [[vb]] [b] := Each.one [vb] b hb
  have h3 : Each tRow.slice w D [[vc]] [c] := Each.one [vc] c hc
  have hE : Each tRow.slice w (fun k => D k ∧ k < w.heap.size) [[va], [vb], [vc]] [a, b, c] := ((h1.app h2).app h3).mono fun k hk hlt => ⟨hk, hlt⟩
  exact (Own.lit (E := tRow.slice) (e := 22) (B := w.heap.size) hE rfl (by unfold maxLen; simp) (Nat.le_refl _)).sl (fun _ _ => trivial) (fun _ _ => trivial)

theorem Sl.front {α : Type} {E : Ty α} {w : World} {S : Blk} {ao : Option Addr} {len cap : Nat} {l : List α} (h : Sl E w S (.slice ao len cap) l) (n : Nat) (hn : n ≤ l.length) : Sl E w S (.slice ao n n) (l.take n) := by
  obtain ⟨ao', len', cap', hv, h1, h2, h3, h4, h5⟩ := h
  simp at hv
  obtain ⟨rfl, rfl, rfl⟩ := hv
  refine ⟨ao, n, n, rfl, by simp; omega, Nat.le_refl _, by omega, fun e => by have := h4 e; omega, fun i a hi => ?_⟩
  have hil := (List.getElem?_eq_some_iff.1 hi).1
  rw [List.getElem?_take_of_lt (by simp at hil; omega)] at hi
  exact h5 i a hi
/-- Where chunks end says how many they are. -/
def EndsOk (X : List (List Row)) (f : Nat) (E : Int → Option Int) : Prop :=
  ∀ p v, E p = some v → ∃ i : Nat, i ≤ (X.drop f).length ∧ v = (f : Int) + i ∧ p = (((X.drop f).take i).flatten.length : Nat)

set_option maxHeartbeats 8000000 in
theorem editLay (v rv : Value) (X : List (List Row)) (n lo hi : Nat) (repl : List Row) (w : World) (h : Sl tRow.slice w (fun k => k < w.heap.size) v X) (hr : Sl tRow w (fun k => k < w.heap.size) rv repl)
    (hX : chunks n X.flatten = X) (hlo : lo ≤ hi) (hhi : hi ≤ X.flatten.length) (hXl : X.flatten.length ≤ 1000) (hXX : X.length ≤ 1000) (hrl : repl.length ≤ 1000) :
    Calls Try.prog 99 #[v, .int .i64 n, .agg #[.int .i64 lo, .int .i64 hi, rv]] w (Ret w fun r w' => ∃ (first behind : Nat) (fresh : List (List Row)) (x : Value), r = .tuple #[.int .i64 first, .int .i64 behind, x] ∧ first ≤ behind ∧ behind ≤ X.length ∧
      Sl tRow.slice w' (fun k => w.heap.size ≤ k) x fresh ∧ chunks n (patchL X.flatten lo hi repl) = X.take first ++ (fresh ++ X.drop behind)) := by
  have hv := h
  have hrv := hr
  obtain ⟨ao, cap, rfl, hcap, hmax, hnil⟩ := h.shape
  obtain ⟨ar, cr, rfl, hcr, hmr, _⟩ := hr.shape
  have hmm := @run_makeMap Try.prog
  go_enter Try.func99, Try.ntmps99
  go_wp2_with fail
  have hw0 : IntKind.i64.wrap ((X.length : Int) - 1) = (X.length : Int) - 1 := by rw [IntKind.wrap_i64]; omega
  obtain ⟨w1, hw1⟩ : ∃ w1, w1 = w.alloc (Obj.cells #[Value.int IntKind.i64 (lo : Nat), Value.int IntKind.i64 (hi : Nat), Value.slice ar repl.length cr] 105) := ⟨_, rfl⟩
  have p0 : w1.cell? ⟨w.heap.size, 0, none⟩ = some (.int .i64 (lo : Nat)) := by rw [hw1]; exact (lit3_at w _ _ _ _).1
  have p1 : w1.cell? ⟨w.heap.size, 1, none⟩ = some (.int .i64 (hi : Nat)) := by rw [hw1]; exact (lit3_at w _ _ _ _).2.1
  have p2 : w1.cell? ⟨w.heap.size, 2, none⟩ = some (.slice ar repl.length cr) := by rw [hw1]; exact (lit3_at w _ _ _ _).2.2
  have bw1 : Below w.heap.size w w1 := by rw [hw1]; exact (Below.refl _ _).alloc (Nat.le_refl _) _
  have sw1 : w1.heap.size = w.heap.size + 1 := by rw [hw1]; simp
  rw [← hw1]
  clear hw1
  have hflat : ∀ j, (X.take j).flatten.length ≤ 1000 := fun j => Nat.le_trans (flatten_take_le X j) hXl
  have HFL := keepBack hflat
  clear hflat
  go_loopw [6, 9] (fun first start wr => ∃ (f : Nat), first = .int .i64 f ∧ start = .int .i64 ((X.take f).flatten.length : Nat) ∧ (X.take f).flatten.length ≤ lo ∧ Hid (f < X.length ∨ f = 0) ∧ f ≤ X.length ∧ Drawn w1 wr) (fun first _ _ => X.length - (intOf first).toNat)
  case atStart => exact ⟨0, rfl, rfl, Nat.zero_le _, keepBack (.inr rfl), Nat.zero_le _, .refl _⟩
  case round =>
    obtain ⟨f, rfl, rfl, hslo, HF, hfX, hd⟩ := hrel
    have hs1000 := HFL.out f
    by_cases hlt : f + 1 < X.length
    · obtain ⟨c, hc⟩ : ∃ c, X[f]? = some c := ⟨X[f]'(by omega), List.getElem?_eq_getElem (by omega)⟩
      obtain ⟨b, o, a2, c2, hix, _, hbs, hsk0, hc2, hcm2, hc0⟩ := hv.idxSlAt aLev f f c c.length rfl hc rfl
      have hc0 := (bw1.cell (p := ⟨b, o, none⟩) hbs).trans hc0
      have hc0 := (hd.below.cell (p := ⟨b, o, none⟩) (Nat.lt_of_lt_of_le hbs bw1.size)).trans hc0
      have hp0 := (hd.below.cell (p := ⟨w.heap.size, 0, none⟩) (by simp; omega)).trans p0
      have hnx : (X.take (f + 1)).flatten.length = (X.take f).flatten.length + c.length := by rw [flatten_take_succ hc, List.length_append]
      have hnx1 := HFL.out (f + 1)
      have HNX := keepBack hnx
      rw [hnx] at hnx1
      have q1 : decide ((f : Int) < (X.length : Int) - 1) = true := by simp; omega
      have hi0 : (0 : Int) ≤ f := by omega
      have hi9 : (f : Int) < X.length := by omega
      clear hc hnx
      generalize hsd : (X.take f).flatten.length = s at *
      have HS := keepBack hsd
      clear hsd
      have hw2 : IntKind.i64.wrap ((s : Int) + (c.length : Int)) = (s : Int) + (c.length : Int) := by rw [IntKind.wrap_i64]; omega
      by_cases hle : s + c.length ≤ lo
      · have q2 : decide ((s : Int) + (c.length : Int) ≤ lo) = true := by simp; omega
        go_wp2_with fail
        go_quiet (fail)
        have hdq := hd.next nq
        replace hc0 := (World.cell?_drewN wr nq _).trans hc0
        generalize wr.drewN nq = wq at *
        go_wp2
        go_roundw
        case rel => exact ⟨f + 1, by go_num, by rw [HNX.out]; go_num, by rw [HNX.out]; exact hle, keepBack (.inl hlt), by omega, hdq⟩
        case measure => simp [intOf]; omega
      · have q2 : decide ((s : Int) + (c.length : Int) ≤ lo) = false := by simp; omega
        go_wp2_with fail
        go_quiet (fail)
        have hdq := hd.next nq
        generalize wr.drewN nq = wq at *
        clear hle q2 hlt hc0 hnx1
        have bq : Below w.heap.size w wq := bw1.trans (hdq.below.mono bw1.size)
        have sq := bq.size
        have sq1 : w.heap.size + 1 ≤ wq.heap.size := by have := hdq.below.size; omega
        have pq0 := (hdq.below.cell (p := ⟨w.heap.size, 0, none⟩) (by simp; omega)).trans p0
        have pq1 := (hdq.below.cell (p := ⟨w.heap.size, 1, none⟩) (by simp; omega)).trans p1
        have pq2 := (hdq.below.cell (p := ⟨w.heap.size, 2, none⟩) (by simp; omega)).trans p2
        obtain ⟨e1, f1, hcx, hcx', hpx, _⟩ := (hv.below bq).cutFrom aLev (f : Int) f rfl hfX
        have hol : (X.drop f).flatten.length = X.flatten.length - s := by
          have := congrArg List.length (flatten_drop (X := X) f)
          rw [List.length_append] at this
          have := HS.out
          omega
        go_wp2_with fail
        refine (catRows _ (X.drop f) _ wq hpx (by omega)).mono ?_; rintro e w2 ⟨v2, rfl, h2, b2⟩
        have b02 := bq.trans (b2.mono sq)
        have s2 := b02.size
        have s21 : w.heap.size + 1 ≤ w2.heap.size := Nat.le_trans sq1 b2.size
        have r0 := (b2.cell (p := ⟨w.heap.size, 0, none⟩) (by simp; omega)).trans pq0
        have r1 := (b2.cell (p := ⟨w.heap.size, 1, none⟩) (by simp; omega)).trans pq1
        have r2 := (b2.cell (p := ⟨w.heap.size, 2, none⟩) (by simp; omega)).trans pq2
        clear pq0 pq1 pq2 hcx hcx' hpx
        have HOLD := keepBack (show (X.drop f).flatten = (X.drop f).flatten from rfl)
        obtain ⟨old, hold⟩ : ∃ old, (X.drop f).flatten = old := ⟨_, rfl⟩
        rw [hold] at h2 hol
        have HO := keepBack hold
        clear hold
        obtain ⟨m, hm⟩ : ∃ m, X.flatten.length - s = m := ⟨_, rfl⟩
        obtain ⟨d1, hd1⟩ : ∃ d1, lo - s = d1 := ⟨_, rfl⟩
        obtain ⟨d2, hd2⟩ : ∃ d2, hi - s = d2 := ⟨_, rfl⟩
        rw [hm] at hol
        obtain ⟨g2, c22, rfl, hc22, _, _⟩ := h2.shapeAt m hol
        have hwA : IntKind.i64.wrap ((lo : Int) - (s : Int)) = (d1 : Int) := by rw [IntKind.wrap_i64]; omega
        have hwB : IntKind.i64.wrap ((hi : Int) - (s : Int)) = (d2 : Int) := by rw [IntKind.wrap_i64]; omega
        have hdm1 : d1 ≤ m := by omega
        have hdm2 : d2 ≤ m := by omega
        obtain ⟨e3, f3, ht1, ht2, hpt, _⟩ := h2.cutTo aRow (d1 : Int) d1 rfl (by omega)
        obtain ⟨e4, f4, hu1, hu2, hpu, _⟩ := h2.cutFrom aRow (d2 : Int) d2 rfl (by omega)
        rw [hol] at hu1 hu2 hpu
        have hb1' : (0 : Int) ≤ d1 := by omega
        have hb2' : (d1 : Int) ≤ m := by omega
        have hb3' : (0 : Int) ≤ d2 := by omega
        have hb4' : (d2 : Int) ≤ m := by omega
        go_wp2_with fail
        have hseq : [old.take d1, repl, old.drop d2].flatten.length ≤ 2000000 := by simp; omega
        have hrv2 := (hrv.below b02).any
        have hLIT := levLit3 w2 (fun _ => True) _ _ _ _ _ _ hpt.any hrv2 hpu.any
        have hLIT2 : Sl tRow.slice (w2.alloc (Obj.cells #[Value.slice e3 d1 f3, Value.slice ar repl.length cr, Value.slice e4 (m - d2) f4] 22)).drew (fun _ => True) (.slice (some ⟨w2.heap.size, 0, none⟩) 3 3) [old.take d1, repl, old.drop d2] := hLIT.keep fun _ _ _ => rfl
        have hbL : Below w2.heap.size w2 (w2.alloc (Obj.cells #[Value.slice e3 d1 f3, Value.slice ar repl.length cr, Value.slice e4 (m - d2) f4] 22)).drew := ((Below.refl w2.heap.size w2).alloc (Nat.le_refl _) _).drew
        have KS : ∀ W, Below w2.heap.size w2 W → Below w2.heap.size w2 W ∧ W.cell? ⟨w.heap.size, 0, none⟩ = some (.int .i64 (lo : Nat)) ∧ W.cell? ⟨w.heap.size, 1, none⟩ = some (.int .i64 (hi : Nat)) ∧ W.cell? ⟨w.heap.size, 2, none⟩ = some (.slice ar repl.length cr) := fun W hW => ⟨hW, (hW.cell (p := ⟨w.heap.size, 0, none⟩) (by simp; omega)).trans r0, (hW.cell (p := ⟨w.heap.size, 1, none⟩) (by simp; omega)).trans r1, (hW.cell (p := ⟨w.heap.size, 2, none⟩) (by simp; omega)).trans r2⟩
        go_region_held3 (fun w' => Below w2.heap.size w2 w' ∧ w'.cell? ⟨w.heap.size, 0, none⟩ = some (.int .i64 (lo : Nat)) ∧ w'.cell? ⟨w.heap.size, 1, none⟩ = some (.int .i64 (hi : Nat)) ∧ w'.cell? ⟨w.heap.size, 2, none⟩ = some (.slice ar repl.length cr))
          (first
            | exact KS _ (Below.refl _ _).drew
            | exact KS _ (Below.refl _ _)
            | exact KS _ (by assumption)
            | exact KS _ ((Below.refl _ _).alloc (Nat.le_refl _) _).drew
            | exact KS _ ((Below.refl _ _).alloc (Nat.le_refl _) _)
            | fail)
          (first
            | (go_at_call 53; refine (catRows _ _ _ _ hLIT2 hseq).mono ?_; rintro e w3 ⟨v3, rfl, h3, b3⟩; have b23 : Below w2.heap.size w2 w3 := hbL.trans (b3.mono hbL.size))
            | fail)
        have b03 := b02.trans (b23.mono s2)
        have s3 := b03.size
        have s31 : w.heap.size + 1 ≤ w3.heap.size := Nat.le_trans s21 b23.size
        obtain ⟨_, t0, t1, t2⟩ := KS w3 b23
        have hsq : [old.take d1, repl, old.drop d2].flatten = old.take d1 ++ (repl ++ old.drop d2) := by simp
        rw [hsq] at h3 hseq
        clear KS hLIT hLIT2 hbL hrv2 hsq r0 r1 r2 hpt hpu ht1 ht2 hu1 hu2
        have hsql : (old.take d1 ++ (repl ++ old.drop d2)).length = d1 + (repl.length + (m - d2)) := by
          rw [List.length_append, List.length_append, List.length_take, List.length_drop, hol]
          omega
        have HSEQ := keepBack (show old.take d1 ++ (repl ++ old.drop d2) = old.take d1 ++ (repl ++ old.drop d2) from rfl)
        obtain ⟨seq, hseqd⟩ : ∃ seq, old.take d1 ++ (repl ++ old.drop d2) = seq := ⟨_, rfl⟩
        rw [hseqd] at h3 hseq hsql
        have HSQ := keepBack hseqd
        clear hseqd HSEQ
        have hsqb : seq.length ≤ 3000 := by omega
        have HSQL := keepBack hsql
        have HOL := keepBack hol
        clear hsql hol
        have h3v : Sl tRow w3 (fun k => w.heap.size ≤ k ∧ k < w3.heap.size) _ seq := h3.mono fun k hk hlt => ⟨Nat.le_trans (Nat.le_trans s2 (Nat.le_of_lt (World.size_lt_alloc _ _))) hk, hlt⟩
        obtain ⟨asq, csq, rfl, hcs, hms, _⟩ := h3.shape
        unfold maxLen at hms
        obtain ⟨e5, f5, hy1, hy2, hpy, _⟩ := (hv.below b03).cutFrom aLev (f : Int) f rfl hfX
        have hmade := MapI.made w3
        obtain ⟨w4, hw4⟩ : ∃ w4, w4 = w3.alloc (Obj.map #[] 0) := ⟨_, rfl⟩
        have b34 : Below w3.heap.size w3 w4 := by rw [hw4]; exact (Below.refl _ _).alloc (Nat.le_refl _) _
        have b04 := b03.trans (b34.mono s3)
        have s4 := b04.size
        have hpy4 := hpy.call b34
        have hsM : w3.heap.size < w4.heap.size := by rw [hw4]; exact World.size_lt_alloc _ _
        have hm4 : MapI w4 w3.heap.size 0 (fun _ => none) := by rw [hw4]; exact hmade
        have u0 := (b34.cell (p := ⟨w.heap.size, 0, none⟩) (by simp; omega)).trans t0
        have u2 := (b34.cell (p := ⟨w.heap.size, 2, none⟩) (by simp; omega)).trans t2
        have h34 := h3v.call b34
        have hYl : (X.drop f).length = X.length - f := by simp
        have hYf : (X.drop f).flatten.length ≤ 1000 := by have := congrArg List.length (flatten_drop (X := X) f); rw [List.length_append] at this; omega
        have HYF := keepBack (fun j => Nat.le_trans (flatten_take_le (X.drop f) j) hYf)
        clear hmade b34 hpy
        go_wp2_with fail
        rw [← hw4]
        clear hw4 hYf
        generalize hσ : ((repl.length : Int) - ((hi : Int) - (lo : Int))) = σ
        have HSG := keepBack hσ
        clear hσ
        go_loopw [14, 82] (fun at_ i wr => ∃ (j : Nat) (E : Int → Option Int), j ≤ X.length - f ∧ i = .int .i64 j ∧ at_ = .int .i64 ((((X.drop f).take j).flatten.length : Nat) : Int) ∧ Hid (w4.grownBy wr (some w3.heap.size)) ∧ MapI wr w3.heap.size j E ∧ Hid (EndsOk X f E)) (fun _ i _ => X.length - f - (intOf i).toNat)
        case atStart => exact ⟨0, _, Nat.zero_le _, rfl, rfl, keepBack (World.grownBy.refl _ _), hm4, keepBack (fun p v h => by cases h)⟩
        case round =>
          obtain ⟨j, E, hj, rfl, rfl, hgr, hmk, HE⟩ := hrel
          have hbr : Below w.heap.size w wr := b04.grown hgr.out s4 (fun g hg => by obtain rfl := Option.some.inj hg; exact s3)
          have hsr := hbr.size
          have hat := HYF.out j
          by_cases hltj : j < X.length - f
          · obtain ⟨cj, hcj⟩ : ∃ cj, (X.drop f)[j]? = some cj := ⟨(X.drop f)[j]'(by omega), List.getElem?_eq_getElem (by omega)⟩
            have hpyr := hpy4.keep (w' := wr) fun k (hk : k < w.heap.size) hlt => hgr.out.block k hlt (fun e => by have := Option.some.inj e; omega)
            obtain ⟨b5, o5, a5, c5, hix5, _, hbs5, hsk5, hc5, hcm5, hc50⟩ := hpyr.idxSlAt aLev j j cj cj.length rfl hcj rfl
            have hnx : ((X.drop f).take (j + 1)).flatten.length = ((X.drop f).take j).flatten.length + cj.length := by rw [flatten_take_succ hcj, List.length_append]
            have hnx1 := HYF.out (j + 1)
            have HNX := keepBack hnx
            rw [hnx] at hnx1
            have HE2 := keepBack (show EndsOk X f (fun p => if p = ((((X.drop f).take j).flatten.length : Nat) : Int) + (cj.length : Int) then some ((f : Int) + (j : Int) + 1) else E p) from fun p v hp => by
              by_cases hpp : p = ((((X.drop f).take j).flatten.length : Nat) : Int) + (cj.length : Int)
              · have e1 : (fun p => if p = ((((X.drop f).take j).flatten.length : Nat) : Int) + (cj.length : Int) then some ((f : Int) + (j : Int) + 1) else E p) p = some ((f : Int) + (j : Int) + 1) := if_pos hpp
                rw [e1] at hp
                have := Option.some.inj hp
                exact ⟨j + 1, by omega, by omega, by rw [hpp, HNX.out]; simp⟩
              · have e1 : (fun p => if p = ((((X.drop f).take j).flatten.length : Nat) : Int) + (cj.length : Int) then some ((f : Int) + (j : Int) + 1) else E p) p = E p := if_neg hpp
                rw [e1] at hp
                exact HE.out p v hp)
            clear hcj hnx
            generalize ((X.drop f).take j).flatten.length = aj at *
            go_wp2_with (first
              | (at_mapUpdate; refine wpList_mapI rfl _ _ _ rfl rfl hmk (by omega) rfl rfl (ok_small (by omega)) (ok_small (by omega)) ?_; intro w5 hm5 hg5)
              | fail)
            go_wp2
            go_roundw
            case rel => exact ⟨j + 1, _, by omega, by go_num, by rw [HNX.out]; go_num, keepBack (hgr.out.trans hg5), hm5, HE2⟩
            case measure => simp [intOf]; omega
          · have hpw0 : wr.cell? ⟨w.heap.size, 0, none⟩ = some (.int .i64 (lo : Nat)) := (World.cell?_of_block (hgr.out.block w.heap.size (by omega) (fun e => by have := Option.some.inj e; omega))).trans u0
            have hpw2 : wr.cell? ⟨w.heap.size, 2, none⟩ = some (.slice ar repl.length cr) := (World.cell?_of_block (hgr.out.block w.heap.size (by omega) (fun e => by have := Option.some.inj e; omega))).trans u2
            have hsq5 := h34.keep (w' := wr) fun k (hk : w.heap.size ≤ k ∧ k < w3.heap.size) hlt => hgr.out.block k hlt (fun e => by have := Option.some.inj e; omega)
            obtain ⟨w5, rfl⟩ : ∃ w5 : World, w5 = wr := ⟨_, rfl⟩
            have hs35 : w3.heap.size < w5.heap.size := hmk.lt
            generalize ((X.drop f).take j).flatten.length = aj at *
            have HREST := keepBack (chunks_rest hX hfX)
            have HLAY := keepBack (lay_seq hX (repl := repl) HF.out (by rw [HS.out]; exact hslo) hlo hhi)
            have HBND := keepBack (show -3000 ≤ σ ∧ σ ≤ 3000 by have := HSG.out; omega)
            go_wp2_with fail
            go_loopw [6, 8, 18] (fun fst_ fv from_ wr => ∃ (fr : Nat) (F : List (List Row)), fr ≤ seq.length ∧ fst_ = .int .i64 f ∧ from_ = .int .i64 fr ∧ Below w5.heap.size w5 wr ∧ Own tRow.slice 22 wr w5.heap.size (fun k => w.heap.size ≤ k ∧ k < w5.heap.size) fv F ∧ Hid (F ++ chunks n (seq.drop fr) = chunks n seq)) (fun _ _ fr _ => seq.length - (intOf fr).toNat)
            case atStart => exact ⟨0, [], Nat.zero_le _, rfl, rfl, Below.refl _ _, .nil, keepBack rfl⟩
            case round =>
              obtain ⟨fr, F, hfr, rfl, rfl, hb5r, hoF, HCH⟩ := hrel
              have hs5r := hb5r.size
              by_cases hlt3 : fr < seq.length
              · obtain ⟨hst, hpos, hle⟩ := lay_step hlt3 HCH.out
                have hFl : F.length ≤ 3000 := by
                  have h1 := congrArg List.length HCH.out
                  rw [List.length_append] at h1
                  have h2 := chunks_length n seq
                  omega
                have hsqr := hsq5.call hb5r
                have hne : seq.drop fr ≠ [] := by intro e; have := congrArg List.length e; simp at this; omega
                obtain ⟨e6, f6, hz1, hz2, hpz, _⟩ := hsqr.cutFrom aRow (fr : Int) fr rfl hfr
                go_wp2_with fail
                refine (chunkFirst _ (seq.drop fr) (n : Int) _ wr hpz hne).mono ?_; rintro e w6 ⟨_, rfl, rfl, b6⟩
                have HST := keepBack hst
                clear hst hne hpz
                generalize hcn : cnt (n : Int) 0 (seq.drop fr) = cn at *
                have hb6 := hb5r.trans (b6.mono hs5r)
                have hs6 := hb6.size
                have ho6 := hoF.call b6
                have hob6 := ho6.block
                have hpc := ((hsqr.call b6).front (fr + cn) hle).piece fr cn (by rw [List.length_take]; omega)
                have hlst : ((seq.take (fr + cn)).drop fr).take cn = (seq.drop fr).take cn := by
                  rw [List.drop_take, List.take_take, Nat.add_sub_cancel_left, Nat.min_self]
                rw [hlst, Nat.add_sub_cancel_left] at hpc
                have hx3 := fun W => run_cut3is aRow asq seq.length csq fr (fr + cn) (fr + cn) (fr : Int) ((fr : Int) + (cn : Int)) ((fr : Int) + (cn : Int)) rfl (by omega) (by omega) (by omega) (Nat.le_refl _) (by omega) W
                simp only [Nat.add_sub_cancel_left] at hx3
                generalize cutAddr asq (fr + cn) fr tRow.size = az at *
                have hz6 : tRow.slice.rd w6 (fun k => w.heap.size ≤ k ∧ k < w5.heap.size) [.slice az cn cn] ((seq.drop fr).take cn) := (hpc.mono fun k hk _ => by have hk' : w.heap.size ≤ k ∧ k < w3.heap.size := hk; exact ⟨hk'.1, by omega⟩ : Sl tRow w6 _ _ _)
                generalize (seq.drop fr).take cn = ch at *
                obtain ⟨ag, cg, rfl, _, _⟩ := ho6.shape
                have hsep : ∀ k, (fun k => w.heap.size ≤ k ∧ k < w5.heap.size) k → k < (w6.alloc (Obj.cells #[Value.slice az cn cn] 22)).heap.size → (fun k => w.heap.size ≤ k ∧ k < w5.heap.size) k ∧ some k ≠ (Value.slice ag F.length cg).ownBlock := fun k hk _ => ⟨hk, fun e => by have := (hob6 k e.symm).1; have hk' : w.heap.size ≤ k ∧ k < w5.heap.size := hk; omega⟩
                have HB6 : F.length + [ch].length ≤ 1000000000000 := by simp; omega
                have hsA6 : w5.heap.size ≤ (w6.alloc (Obj.cells #[Value.slice az cn cn] 22)).heap.size := Nat.le_trans hs6 (Nat.le_of_lt (World.size_lt_alloc _ _))
                have hwT : IntKind.i64.wrap ((fr : Int) + (cn : Int)) = (fr : Int) + (cn : Int) := by rw [IntKind.wrap_i64]; omega
                have hwS : IntKind.i64.wrap ((fr : Int) + (cn : Int) - σ) = (fr : Int) + (cn : Int) - σ := by have := HBND.out; rw [IntKind.wrap_i64]; omega
                have hbnd := HBND.out
                clear hz1 hz2 hpc hcn hlst
                cases hEp : E ((fr : Int) + (cn : Int) - σ) with
                | none =>
                  go_wp2_with (first
                    | (at_builtin; refine wpList_grow rfl (.tmp 117) (.tmp 123) rfl aLev rfl (ho6.alloc _) rfl rfl (Src.one (cs := [_]) hz6 _) nofun hsep HB6 hsA6 ?_; intro v7 w7 ho7 hg7; have hb7 : Below w5.heap.size w5 w7 := (hb6.alloc hs6 _).grown hg7 hsA6 (fun g hg => (hob6 g hg).1); have hlook := (hmk.keep (hb7.block _ hmk.lt)).lookOk (k := (fr : Int) + (cn : Int) - σ) (ok_small (by omega)); rw [hEp] at hlook; simp only [Option.getD_none, Option.isSome_none] at hlook)
                    | fail)
                  go_wp2
                  go_roundw
                  case rel => exact ⟨fr + cn, _, hle, rfl, by simp, hb7, ho7, HST⟩
                  case measure => simp [intOf]; omega
                | some vv =>
                  by_cases hge : d1 + repl.length ≤ fr + cn
                  · have q5 : decide ((d1 : Int) + (repl.length : Int) ≤ (fr : Int) + (cn : Int)) = true := by simp; omega
                    go_wp2_with (first
                      | (at_builtin; refine wpList_grow rfl (.tmp 117) (.tmp 123) rfl aLev rfl (ho6.alloc _) rfl rfl (Src.one (cs := [_]) hz6 _) nofun hsep HB6 hsA6 ?_; intro v7 w7 ho7 hg7; have hb7 : Below w5.heap.size w5 w7 := (hb6.alloc hs6 _).grown hg7 hsA6 (fun g hg => (hob6 g hg).1); have hlook := (hmk.keep (hb7.block _ hmk.lt)).lookOk (k := (fr : Int) + (cn : Int) - σ) (ok_small (by omega)); rw [hEp] at hlook; simp only [Option.getD_some, Option.isSome_some] at hlook)
                      | fail)
                    obtain ⟨i, hi1, hi2, hi3⟩ := HE.out _ _ hEp
                    go_wp2
                    go_ret3
                    have hsl := ho7.sl (D := fun k => w.heap.size ≤ k) (fun _ h => h.1) (fun k hk => Nat.le_trans hsr hk)
                    have hfound := lay_found (n := n) (Y := X.drop f) HREST.out (lo := d1) (hi := d2) (en := fr + cn) (j := i) (repl := repl) (by omega) (by rw [HO.out, HOL.out]; exact hdm2) hge hi1 (by
                      have := HSG.out
                      rw [← hi3]
                      omega)
                    rw [HO.out, HSQ.out] at hfound
                    have hlay := HLAY.out
                    rw [HS.out, HO.out, hd1, hd2, HSQ.out, ← HST.out, hfound] at hlay
                    refine ⟨_, rfl, ⟨f, f + i, F ++ [ch], _, ?_, Nat.le_add_right _ _, by rw [hYl] at hi1; omega, hsl, ?_⟩, ?_⟩
                    · rw [hi2]; rfl
                    · rw [hlay, List.drop_drop]
                    · exact hbr.trans (hb7.mono hsr)
                  · have q5 : decide ((d1 : Int) + (repl.length : Int) ≤ (fr : Int) + (cn : Int)) = false := by simp; omega
                    go_wp2_with (first
                      | (at_builtin; refine wpList_grow rfl (.tmp 117) (.tmp 123) rfl aLev rfl (ho6.alloc _) rfl rfl (Src.one (cs := [_]) hz6 _) nofun hsep HB6 hsA6 ?_; intro v7 w7 ho7 hg7; have hb7 : Below w5.heap.size w5 w7 := (hb6.alloc hs6 _).grown hg7 hsA6 (fun g hg => (hob6 g hg).1); have hlook := (hmk.keep (hb7.block _ hmk.lt)).lookOk (k := (fr : Int) + (cn : Int) - σ) (ok_small (by omega)); rw [hEp] at hlook; simp only [Option.getD_some, Option.isSome_some] at hlook)
                      | fail)
                    go_wp2
                    go_roundw
                    case rel => exact ⟨fr + cn, _, hle, rfl, by simp, hb7, ho7, HST⟩
                    case measure => simp [intOf]; omega
              · have hfe : fr = seq.length := by omega
                have hend := HCH.out
                rw [List.drop_of_length_le (by omega), chunks_nil, List.append_nil] at hend
                have HEND := keepBack hend
                clear hend
                go_wp2
                go_ret3
                have hsl := hoF.sl (D := fun k => w.heap.size ≤ k) (fun _ h => h.1) (fun k hk => Nat.le_trans hsr hk)
                have hlay := HLAY.out
                rw [HS.out, HO.out, hd1, hd2, HSQ.out, ← HEND.out] at hlay
                refine ⟨_, rfl, ⟨f, X.length, F, _, rfl, hfX, Nat.le_refl _, hsl, ?_⟩, ?_⟩
                · rw [hlay, List.drop_of_length_le (Nat.le_refl _), List.append_nil]
                · exact hbr.trans (hb5r.mono hsr)
    · have q1 : decide ((f : Int) < (X.length : Int) - 1) = false := by simp; omega
      go_wp2_with fail
      go_quiet (fail)
      have hdq := hd.next nq
      generalize wr.drewN nq = wq at *
      generalize hsd : (X.take f).flatten.length = s at *
      have HS := keepBack hsd
      clear hsd
      have bq : Below w.heap.size w wq := bw1.trans (hdq.below.mono bw1.size)
      have sq := bq.size
      have sq1 : w.heap.size + 1 ≤ wq.heap.size := by have := hdq.below.size; omega
      have pq0 := (hdq.below.cell (p := ⟨w.heap.size, 0, none⟩) (by simp; omega)).trans p0
      have pq1 := (hdq.below.cell (p := ⟨w.heap.size, 1, none⟩) (by simp; omega)).trans p1
      have pq2 := (hdq.below.cell (p := ⟨w.heap.size, 2, none⟩) (by simp; omega)).trans p2
      obtain ⟨e1, f1, hcx, hcx', hpx, _⟩ := (hv.below bq).cutFrom aLev (f : Int) f rfl hfX
      have hol : (X.drop f).flatten.length = X.flatten.length - s := by
        have := congrArg List.length (flatten_drop (X := X) f)
        rw [List.length_append] at this
        have := HS.out
        omega
      go_wp2_with fail
      refine (catRows _ (X.drop f) _ wq hpx (by omega)).mono ?_; rintro e w2 ⟨v2, rfl, h2, b2⟩
      have b02 := bq.trans (b2.mono sq)
      have s2 := b02.size
      have s21 : w.heap.size + 1 ≤ w2.heap.size := Nat.le_trans sq1 b2.size
      have r0 := (b2.cell (p := ⟨w.heap.size, 0, none⟩) (by simp; omega)).trans pq0
      have r1 := (b2.cell (p := ⟨w.heap.size, 1, none⟩) (by simp; omega)).trans pq1
      have r2 := (b2.cell (p := ⟨w.heap.size, 2, none⟩) (by simp; omega)).trans pq2
      clear pq0 pq1 pq2 hcx hcx' hpx
      have HOLD := keepBack (show (X.drop f).flatten = (X.drop f).flatten from rfl)
      obtain ⟨old, hold⟩ : ∃ old, (X.drop f).flatten = old := ⟨_, rfl⟩
      rw [hold] at h2 hol
      have HO := keepBack hold
      clear hold
      obtain ⟨m, hm⟩ : ∃ m, X.flatten.length - s = m := ⟨_, rfl⟩
      obtain ⟨d1, hd1⟩ : ∃ d1, lo - s = d1 := ⟨_, rfl⟩
      obtain ⟨d2, hd2⟩ : ∃ d2, hi - s = d2 := ⟨_, rfl⟩
      rw [hm] at hol
      obtain ⟨g2, c22, rfl, hc22, _, _⟩ := h2.shapeAt m hol
      have hwA : IntKind.i64.wrap ((lo : Int) - (s : Int)) = (d1 : Int) := by rw [IntKind.wrap_i64]; omega
      have hwB : IntKind.i64.wrap ((hi : Int) - (s : Int)) = (d2 : Int) := by rw [IntKind.wrap_i64]; omega
      have hdm1 : d1 ≤ m := by omega
      have hdm2 : d2 ≤ m := by omega
      obtain ⟨e3, f3, ht1, ht2, hpt, _⟩ := h2.cutTo aRow (d1 : Int) d1 rfl (by omega)
      obtain ⟨e4, f4, hu1, hu2, hpu, _⟩ := h2.cutFrom aRow (d2 : Int) d2 rfl (by omega)
      rw [hol] at hu1 hu2 hpu
      have hb1' : (0 : Int) ≤ d1 := by omega
      have hb2' : (d1 : Int) ≤ m := by omega
      have hb3' : (0 : Int) ≤ d2 := by omega
      have hb4' : (d2 : Int) ≤ m := by omega
      go_wp2_with fail
      have hseq : [old.take d1, repl, old.drop d2].flatten.length ≤ 2000000 := by simp; omega
      have hrv2 := (hrv.below b02).any
      have hLIT := levLit3 w2 (fun _ => True) _ _ _ _ _ _ hpt.any hrv2 hpu.any
      have hLIT2 : Sl tRow.slice (w2.alloc (Obj.cells #[Value.slice e3 d1 f3, Value.slice ar repl.length cr, Value.slice e4 (m - d2) f4] 22)).drew (fun _ => True) (.slice (some ⟨w2.heap.size, 0, none⟩) 3 3) [old.take d1, repl, old.drop d2] := hLIT.keep fun _ _ _ => rfl
      have hbL : Below w2.heap.size w2 (w2.alloc (Obj.cells #[Value.slice e3 d1 f3, Value.slice ar repl.length cr, Value.slice e4 (m - d2) f4] 22)).drew := ((Below.refl w2.heap.size w2).alloc (Nat.le_refl _) _).drew
      have KS : ∀ W, Below w2.heap.size w2 W → Below w2.heap.size w2 W ∧ W.cell? ⟨w.heap.size, 0, none⟩ = some (.int .i64 (lo : Nat)) ∧ W.cell? ⟨w.heap.size, 1, none⟩ = some (.int .i64 (hi : Nat)) ∧ W.cell? ⟨w.heap.size, 2, none⟩ = some (.slice ar repl.length cr) := fun W hW => ⟨hW, (hW.cell (p := ⟨w.heap.size, 0, none⟩) (by simp; omega)).trans r0, (hW.cell (p := ⟨w.heap.size, 1, none⟩) (by simp; omega)).trans r1, (hW.cell (p := ⟨w.heap.size, 2, none⟩) (by simp; omega)).trans r2⟩
      go_region_held3 (fun w' => Below w2.heap.size w2 w' ∧ w'.cell? ⟨w.heap.size, 0, none⟩ = some (.int .i64 (lo : Nat)) ∧ w'.cell? ⟨w.heap.size, 1, none⟩ = some (.int .i64 (hi : Nat)) ∧ w'.cell? ⟨w.heap.size, 2, none⟩ = some (.slice ar repl.length cr))
        (first
          | exact KS _ (Below.refl _ _).drew
          | exact KS _ (Below.refl _ _)
          | exact KS _ (by assumption)
          | exact KS _ ((Below.refl _ _).alloc (Nat.le_refl _) _).drew
          | exact KS _ ((Below.refl _ _).alloc (Nat.le_refl _) _)
          | fail)
        (first
          | (go_at_call 53; refine (catRows _ _ _ _ hLIT2 hseq).mono ?_; rintro e w3 ⟨v3, rfl, h3, b3⟩; have b23 : Below w2.heap.size w2 w3 := hbL.trans (b3.mono hbL.size))
          | fail)
      have b03 := b02.trans (b23.mono s2)
      have s3 := b03.size
      have s31 : w.heap.size + 1 ≤ w3.heap.size := Nat.le_trans s21 b23.size
      obtain ⟨_, t0, t1, t2⟩ := KS w3 b23
      have hsq : [old.take d1, repl, old.drop d2].flatten = old.take d1 ++ (repl ++ old.drop d2) := by simp
      rw [hsq] at h3 hseq
      clear KS hLIT hLIT2 hbL hrv2 hsq r0 r1 r2 hpt hpu ht1 ht2 hu1 hu2
      have hsql : (old.take d1 ++ (repl ++ old.drop d2)).length = d1 + (repl.length + (m - d2)) := by
        rw [List.length_append, List.length_append, List.length_take, List.length_drop, hol]
        omega
      have HSEQ := keepBack (show old.take d1 ++ (repl ++ old.drop d2) = old.take d1 ++ (repl ++ old.drop d2) from rfl)
      obtain ⟨seq, hseqd⟩ : ∃ seq, old.take d1 ++ (repl ++ old.drop d2) = seq := ⟨_, rfl⟩
      rw [hseqd] at h3 hseq hsql
      have HSQ := keepBack hseqd
      clear hseqd HSEQ
      have hsqb : seq.length ≤ 3000 := by omega
      have HSQL := keepBack hsql
      have HOL := keepBack hol
      clear hsql hol
      have h3v : Sl tRow w3 (fun k => w.heap.size ≤ k ∧ k < w3.heap.size) _ seq := h3.mono fun k hk hlt => ⟨Nat.le_trans (Nat.le_trans s2 (Nat.le_of_lt (World.size_lt_alloc _ _))) hk, hlt⟩
      obtain ⟨asq, csq, rfl, hcs, hms, _⟩ := h3.shape
      unfold maxLen at hms
      obtain ⟨e5, f5, hy1, hy2, hpy, _⟩ := (hv.below b03).cutFrom aLev (f : Int) f rfl hfX
      have hmade := MapI.made w3
      obtain ⟨w4, hw4⟩ : ∃ w4, w4 = w3.alloc (Obj.map #[] 0) := ⟨_, rfl⟩
      have b34 : Below w3.heap.size w3 w4 := by rw [hw4]; exact (Below.refl _ _).alloc (Nat.le_refl _) _
      have b04 := b03.trans (b34.mono s3)
      have s4 := b04.size
      have hpy4 := hpy.call b34
      have hsM : w3.heap.size < w4.heap.size := by rw [hw4]; exact World.size_lt_alloc _ _
      have hm4 : MapI w4 w3.heap.size 0 (fun _ => none) := by rw [hw4]; exact hmade
      have u0 := (b34.cell (p := ⟨w.heap.size, 0, none⟩) (by simp; omega)).trans t0
      have u2 := (b34.cell (p := ⟨w.heap.size, 2, none⟩) (by simp; omega)).trans t2
      have h34 := h3v.call b34
      have hYl : (X.drop f).length = X.length - f := by simp
      have hYf : (X.drop f).flatten.length ≤ 1000 := by have := congrArg List.length (flatten_drop (X := X) f); rw [List.length_append] at this; omega
      have HYF := keepBack (fun j => Nat.le_trans (flatten_take_le (X.drop f) j) hYf)
      clear hmade b34 hpy
      go_wp2_with fail
      rw [← hw4]
      clear hw4 hYf
      generalize hσ : ((repl.length : Int) - ((hi : Int) - (lo : Int))) = σ
      have HSG := keepBack hσ
      clear hσ
      go_loopw [14, 82] (fun at_ i wr => ∃ (j : Nat) (E : Int → Option Int), j ≤ X.length - f ∧ i = .int .i64 j ∧ at_ = .int .i64 ((((X.drop f).take j).flatten.length : Nat) : Int) ∧ Hid (w4.grownBy wr (some w3.heap.size)) ∧ MapI wr w3.heap.size j E ∧ Hid (EndsOk X f E)) (fun _ i _ => X.length - f - (intOf i).toNat)
      case atStart => exact ⟨0, _, Nat.zero_le _, rfl, rfl, keepBack (World.grownBy.refl _ _), hm4, keepBack (fun p v h => by cases h)⟩
      case round =>
        obtain ⟨j, E, hj, rfl, rfl, hgr, hmk, HE⟩ := hrel
        have hbr : Below w.heap.size w wr := b04.grown hgr.out s4 (fun g hg => by obtain rfl := Option.some.inj hg; exact s3)
        have hsr := hbr.size
        have hat := HYF.out j
        by_cases hltj : j < X.length - f
        · obtain ⟨cj, hcj⟩ : ∃ cj, (X.drop f)[j]? = some cj := ⟨(X.drop f)[j]'(by omega), List.getElem?_eq_getElem (by omega)⟩
          have hpyr := hpy4.keep (w' := wr) fun k (hk : k < w.heap.size) hlt => hgr.out.block k hlt (fun e => by have := Option.some.inj e; omega)
          obtain ⟨b5, o5, a5, c5, hix5, _, hbs5, hsk5, hc5, hcm5, hc50⟩ := hpyr.idxSlAt aLev j j cj cj.length rfl hcj rfl
          have hnx : ((X.drop f).take (j + 1)).flatten.length = ((X.drop f).take j).flatten.length + cj.length := by rw [flatten_take_succ hcj, List.length_append]
          have hnx1 := HYF.out (j + 1)
          have HNX := keepBack hnx
          rw [hnx] at hnx1
          have HE2 := keepBack (show EndsOk X f (fun p => if p = ((((X.drop f).take j).flatten.length : Nat) : Int) + (cj.length : Int) then some ((f : Int) + (j : Int) + 1) else E p) from fun p v hp => by
            by_cases hpp : p = ((((X.drop f).take j).flatten.length : Nat) : Int) + (cj.length : Int)
            · have e1 : (fun p => if p = ((((X.drop f).take j).flatten.length : Nat) : Int) + (cj.length : Int) then some ((f : Int) + (j : Int) + 1) else E p) p = some ((f : Int) + (j : Int) + 1) := if_pos hpp
              rw [e1] at hp
              have := Option.some.inj hp
              exact ⟨j + 1, by omega, by omega, by rw [hpp, HNX.out]; simp⟩
            · have e1 : (fun p => if p = ((((X.drop f).take j).flatten.length : Nat) : Int) + (cj.length : Int) then some ((f : Int) + (j : Int) + 1) else E p) p = E p := if_neg hpp
              rw [e1] at hp
              exact HE.out p v hp)
          clear hcj hnx
          generalize ((X.drop f).take j).flatten.length = aj at *
          go_wp2_with (first
            | (at_mapUpdate; refine wpList_mapI rfl _ _ _ rfl rfl hmk (by omega) rfl rfl (ok_small (by omega)) (ok_small (by omega)) ?_; intro w5 hm5 hg5)
            | fail)
          go_wp2
          go_roundw
          case rel => exact ⟨j + 1, _, by omega, by go_num, by rw [HNX.out]; go_num, keepBack (hgr.out.trans hg5), hm5, HE2⟩
          case measure => simp [intOf]; omega
        · have hpw0 : wr.cell? ⟨w.heap.size, 0, none⟩ = some (.int .i64 (lo : Nat)) := (World.cell?_of_block (hgr.out.block w.heap.size (by omega) (fun e => by have := Option.some.inj e; omega))).trans u0
          have hpw2 : wr.cell? ⟨w.heap.size, 2, none⟩ = some (.slice ar repl.length cr) := (World.cell?_of_block (hgr.out.block w.heap.size (by omega) (fun e => by have := Option.some.inj e; omega))).trans u2
          have hsq5 := h34.keep (w' := wr) fun k (hk : w.heap.size ≤ k ∧ k < w3.heap.size) hlt => hgr.out.block k hlt (fun e => by have := Option.some.inj e; omega)
          obtain ⟨w5, rfl⟩ : ∃ w5 : World, w5 = wr := ⟨_, rfl⟩
          have hs35 : w3.heap.size < w5.heap.size := hmk.lt
          generalize ((X.drop f).take j).flatten.length = aj at *
          have HREST := keepBack (chunks_rest hX hfX)
          have HLAY := keepBack (lay_seq hX (repl := repl) HF.out (by rw [HS.out]; exact hslo) hlo hhi)
          have HBND := keepBack (show -3000 ≤ σ ∧ σ ≤ 3000 by have := HSG.out; omega)
          go_wp2_with fail
          go_loopw [6, 8, 18] (fun fst_ fv from_ wr => ∃ (fr : Nat) (F : List (List Row)), fr ≤ seq.length ∧ fst_ = .int .i64 f ∧ from_ = .int .i64 fr ∧ Below w5.heap.size w5 wr ∧ Own tRow.slice 22 wr w5.heap.size (fun k => w.heap.size ≤ k ∧ k < w5.heap.size) fv F ∧ Hid (F ++ chunks n (seq.drop fr) = chunks n seq)) (fun _ _ fr _ => seq.length - (intOf fr).toNat)
          case atStart => exact ⟨0, [], Nat.zero_le _, rfl, rfl, Below.refl _ _, .nil, keepBack rfl⟩
          case round =>
            obtain ⟨fr, F, hfr, rfl, rfl, hb5r, hoF, HCH⟩ := hrel
            have hs5r := hb5r.size
            by_cases hlt3 : fr < seq.length
            · obtain ⟨hst, hpos, hle⟩ := lay_step hlt3 HCH.out
              have hFl : F.length ≤ 3000 := by
                have h1 := congrArg List.length HCH.out
                rw [List.length_append] at h1
                have h2 := chunks_length n seq
                omega
              have hsqr := hsq5.call hb5r
              have hne : seq.drop fr ≠ [] := by intro e; have := congrArg List.length e; simp at this; omega
              obtain ⟨e6, f6, hz1, hz2, hpz, _⟩ := hsqr.cutFrom aRow (fr : Int) fr rfl hfr
              go_wp2_with fail
              refine (chunkFirst _ (seq.drop fr) (n : Int) _ wr hpz hne).mono ?_; rintro e w6 ⟨_, rfl, rfl, b6⟩
              have HST := keepBack hst
              clear hst hne hpz
              generalize hcn : cnt (n : Int) 0 (seq.drop fr) = cn at *
              have hb6 := hb5r.trans (b6.mono hs5r)
              have hs6 := hb6.size
              have ho6 := hoF.call b6
              have hob6 := ho6.block
              have hpc := ((hsqr.call b6).front (fr + cn) hle).piece fr cn (by rw [List.length_take]; omega)
              have hlst : ((seq.take (fr + cn)).drop fr).take cn = (seq.drop fr).take cn := by
                rw [List.drop_take, List.take_take, Nat.add_sub_cancel_left, Nat.min_self]
              rw [hlst, Nat.add_sub_cancel_left] at hpc
              have hx3 := fun W => run_cut3is aRow asq seq.length csq fr (fr + cn) (fr + cn) (fr : Int) ((fr : Int) + (cn : Int)) ((fr : Int) + (cn : Int)) rfl (by omega) (by omega) (by omega) (Nat.le_refl _) (by omega) W
              simp only [Nat.add_sub_cancel_left] at hx3
              generalize cutAddr asq (fr + cn) fr tRow.size = az at *
              have hz6 : tRow.slice.rd w6 (fun k => w.heap.size ≤ k ∧ k < w5.heap.size) [.slice az cn cn] ((seq.drop fr).take cn) := (hpc.mono fun k hk _ => by have hk' : w.heap.size ≤ k ∧ k < w3.heap.size := hk; exact ⟨hk'.1, by omega⟩ : Sl tRow w6 _ _ _)
              generalize (seq.drop fr).take cn = ch at *
              obtain ⟨ag, cg, rfl, _, _⟩ := ho6.shape
              have hsep : ∀ k, (fun k => w.heap.size ≤ k ∧ k < w5.heap.size) k → k < (w6.alloc (Obj.cells #[Value.slice az cn cn] 22)).heap.size → (fun k => w.heap.size ≤ k ∧ k < w5.heap.size) k ∧ some k ≠ (Value.slice ag F.length cg).ownBlock := fun k hk _ => ⟨hk, fun e => by have := (hob6 k e.symm).1; have hk' : w.heap.size ≤ k ∧ k < w5.heap.size := hk; omega⟩
              have HB6 : F.length + [ch].length ≤ 1000000000000 := by simp; omega
              have hsA6 : w5.heap.size ≤ (w6.alloc (Obj.cells #[Value.slice az cn cn] 22)).heap.size := Nat.le_trans hs6 (Nat.le_of_lt (World.size_lt_alloc _ _))
              have hwT : IntKind.i64.wrap ((fr : Int) + (cn : Int)) = (fr : Int) + (cn : Int) := by rw [IntKind.wrap_i64]; omega
              have hwS : IntKind.i64.wrap ((fr : Int) + (cn : Int) - σ) = (fr : Int) + (cn : Int) - σ := by have := HBND.out; rw [IntKind.wrap_i64]; omega
              have hbnd := HBND.out
              clear hz1 hz2 hpc hcn hlst
              cases hEp : E ((fr : Int) + (cn : Int) - σ) with
              | none =>
                go_wp2_with (first
                  | (at_builtin; refine wpList_grow rfl (.tmp 117) (.tmp 123) rfl aLev rfl (ho6.alloc _) rfl rfl (Src.one (cs := [_]) hz6 _) nofun hsep HB6 hsA6 ?_; intro v7 w7 ho7 hg7; have hb7 : Below w5.heap.size w5 w7 := (hb6.alloc hs6 _).grown hg7 hsA6 (fun g hg => (hob6 g hg).1); have hlook := (hmk.keep (hb7.block _ hmk.lt)).lookOk (k := (fr : Int) + (cn : Int) - σ) (ok_small (by omega)); rw [hEp] at hlook; simp only [Option.getD_none, Option.isSome_none] at hlook)
                  | fail)
                go_wp2
                go_roundw
                case rel => exact ⟨fr + cn, _, hle, rfl, by simp, hb7, ho7, HST⟩
                case measure => simp [intOf]; omega
              | some vv =>
                by_cases hge : d1 + repl.length ≤ fr + cn
                · have q5 : decide ((d1 : Int) + (repl.length : Int) ≤ (fr : Int) + (cn : Int)) = true := by simp; omega
                  go_wp2_with (first
                    | (at_builtin; refine wpList_grow rfl (.tmp 117) (.tmp 123) rfl aLev rfl (ho6.alloc _) rfl rfl (Src.one (cs := [_]) hz6 _) nofun hsep HB6 hsA6 ?_; intro v7 w7 ho7 hg7; have hb7 : Below w5.heap.size w5 w7 := (hb6.alloc hs6 _).grown hg7 hsA6 (fun g hg => (hob6 g hg).1); have hlook := (hmk.keep (hb7.block _ hmk.lt)).lookOk (k := (fr : Int) + (cn : Int) - σ) (ok_small (by omega)); rw [hEp] at hlook; simp only [Option.getD_some, Option.isSome_some] at hlook)
                    | fail)
                  obtain ⟨i, hi1, hi2, hi3⟩ := HE.out _ _ hEp
                  go_wp2
                  go_ret3
                  have hsl := ho7.sl (D := fun k => w.heap.size ≤ k) (fun _ h => h.1) (fun k hk => Nat.le_trans hsr hk)
                  have hfound := lay_found (n := n) (Y := X.drop f) HREST.out (lo := d1) (hi := d2) (en := fr + cn) (j := i) (repl := repl) (by omega) (by rw [HO.out, HOL.out]; exact hdm2) hge hi1 (by
                    have := HSG.out
                    rw [← hi3]
                    omega)
                  rw [HO.out, HSQ.out] at hfound
                  have hlay := HLAY.out
                  rw [HS.out, HO.out, hd1, hd2, HSQ.out, ← HST.out, hfound] at hlay
                  refine ⟨_, rfl, ⟨f, f + i, F ++ [ch], _, ?_, Nat.le_add_right _ _, by rw [hYl] at hi1; omega, hsl, ?_⟩, ?_⟩
                  · rw [hi2]; rfl
                  · rw [hlay, List.drop_drop]
                  · exact hbr.trans (hb7.mono hsr)
                · have q5 : decide ((d1 : Int) + (repl.length : Int) ≤ (fr : Int) + (cn : Int)) = false := by simp; omega
                  go_wp2_with (first
                    | (at_builtin; refine wpList_grow rfl (.tmp 117) (.tmp 123) rfl aLev rfl (ho6.alloc _) rfl rfl (Src.one (cs := [_]) hz6 _) nofun hsep HB6 hsA6 ?_; intro v7 w7 ho7 hg7; have hb7 : Below w5.heap.size w5 w7 := (hb6.alloc hs6 _).grown hg7 hsA6 (fun g hg => (hob6 g hg).1); have hlook := (hmk.keep (hb7.block _ hmk.lt)).lookOk (k := (fr : Int) + (cn : Int) - σ) (ok_small (by omega)); rw [hEp] at hlook; simp only [Option.getD_some, Option.isSome_some] at hlook)
                    | fail)
                  go_wp2
                  go_roundw
                  case rel => exact ⟨fr + cn, _, hle, rfl, by simp, hb7, ho7, HST⟩
                  case measure => simp [intOf]; omega
            · have hfe : fr = seq.length := by omega
              have hend := HCH.out
              rw [List.drop_of_length_le (by omega), chunks_nil, List.append_nil] at hend
              have HEND := keepBack hend
              clear hend
              go_wp2
              go_ret3
              have hsl := hoF.sl (D := fun k => w.heap.size ≤ k) (fun _ h => h.1) (fun k hk => Nat.le_trans hsr hk)
              have hlay := HLAY.out
              rw [HS.out, HO.out, hd1, hd2, HSQ.out, ← HEND.out] at hlay
              refine ⟨_, rfl, ⟨f, X.length, F, _, rfl, hfX, Nat.le_refl _, hsl, ?_⟩, ?_⟩
              · rw [hlay, List.drop_of_length_le (Nat.le_refl _), List.append_nil]
              · exact hbr.trans (hb5r.mono hsr)

end Go.Pch

namespace Go.Pch
open Go.RowKit Go.Proofs
set_option maxRecDepth 100000

set_option maxHeartbeats 400000 in
theorem cloneTree (v : Value) (l : List (List (List Row))) (B : Nat) (w : World) (h : Sl tRow.slice.slice w (fun k => k < B) v l) (hB : B ≤ w.heap.size) (hl : l.length ≤ 1000000) :
    Calls Try.prog 98 #[v] w (Ret w fun r w' => Own tRow.slice.slice 58 w' w.heap.size (fun k => k < B) r l) := by
  obtain ⟨ao, cap, rfl, hcap, hmax, hnil⟩ := h.shape
  cases ao with
  | none =>
    have h0 := hnil rfl
    obtain rfl : l = [] := List.eq_nil_of_length_eq_zero (by omega)
    subst h0
    have hq := fun W => Lib.run_eql_slice_nil (P := Try.prog) W 35 58 none 0 0 0 0 Try.underlying35
    go_enter Try.func98, Try.ntmps98
    go_wp2
    go_ret
    exact ⟨_, rfl, .nil, Below.refl _ _⟩
  | some ad =>
    have hq := fun W => Lib.run_eql_slice_nil (P := Try.prog) W 35 58 (some ad) l.length cap 0 0 Try.underlying35
    have hs := fun W (hW : Below w.heap.size w W) => (h.call hW).src
    go_enter Try.func98, Try.ntmps98
    go_wp2_with (at_builtin; refine wpList_grow rfl (.tmp 5) (.tmp 6) rfl aTree rfl (Own.made (B := w.heap.size) (C := fun k => k < B) _ (Nat.le_refl _)) rfl rfl (hs _ ((Below.refl _ _).alloc (Nat.le_refl _) _)) (by simp) (fun k hk _ => ⟨hk, fun e => absurd (Option.some.inj e) (Nat.ne_of_lt (Nat.lt_of_lt_of_le hk hB))⟩) (by simp; omega) (by simp) ?_)
    intro v1 w1 hown hgrow
    go_wp2
    go_ret
    exact ⟨_, rfl, hown, ((Below.refl _ _).alloc (Nat.le_refl _) _).grown hgrow (by simp) (by simp [Value.ownBlock])⟩

/-- An element of an own row of one-cell elements. -/
theorem Own.elem {α : Type} {E : Ty α} {e : TypeId} {w : World} {B : Nat} {C : Blk} {v : Value} {l : List α} (h : Own E e w B C v l) (hE : E.size = 1) {i : Nat} {a : α} (hi : l[i]? = some a) :
    ∃ g cap u, v = .slice (some ⟨g, 0, none⟩) l.length cap ∧ l.length ≤ cap ∧ cap ≤ maxLen ∧ B ≤ g ∧ g < w.heap.size ∧ E.rd w (fun k => C k ∧ k ≠ g) [u] a ∧ w.cell? ⟨g, i, none⟩ = some u ∧ w.frozen? ⟨g, i, none⟩ = false ∧
      ∀ u' a', E.rd w (fun k => C k ∧ k ≠ g) [u'] a' → Own E e (w.setCell ⟨g, i, none⟩ u') B C v (l.set i a') := by
  have hil := (List.getElem?_eq_some_iff.1 hi).1
  obtain ⟨g, cap, cur, xs, rfl, hB, hg, hc, h1, h2, h3, h4, hX⟩ := h.cells (by omega)
  rw [hE, Nat.mul_one] at h3 h4
  obtain ⟨cs, hcs⟩ : ∃ cs, xs[i]? = some cs := ⟨xs[i]'(by rw [hX.1]; exact hil), List.getElem?_eq_getElem _⟩
  have hrd := hX.2 i cs a hcs hi
  have hlen : cs.length = 1 := (E.len hrd).trans hE
  obtain ⟨u, rfl⟩ : ∃ u, cs = [u] := by
    match cs, hlen with
    | [u], _ => exact ⟨u, rfl⟩
  have hget : ∀ j, cur[j]? = if j < l.length then (xs[j]?).bind (·[0]?) else cur[j]? := fun j => by
    by_cases hj : j < l.length
    · rw [if_pos hj]
      have hf := flatten_get (sz := 1) (by omega) xs (fun c hc => (hX.lens c hc).trans hE) j
      rw [Nat.div_one, Nat.mod_one, ← h4, List.getElem?_take_of_lt hj] at hf
      exact hf
    · rw [if_neg hj]
  have hcu : cur[i]? = some u := by rw [hget, if_pos hil, hcs]; rfl
  refine ⟨g, cap, u, rfl, h1, h2, hB, hg, hrd, cells_cell hc hcu, frozen_of_row w g i _ _ hc, fun u' a' hu' => ?_⟩
  have hkeep : ∀ k, (fun k => C k ∧ k ≠ g) k → k < w.heap.size → (w.setCell ⟨g, i, none⟩ u').heap[k]? = w.heap[k]? := fun k hk _ => heap_setCell_other _ _ _ _ (by simpa using hk.2)
  have hnew : Own E e (w.setCell ⟨g, i, none⟩ u') B C (.slice (some ⟨g, 0, none⟩) (l.set i a').length cap) (l.set i a') := by
    refine Own.of_cells (cur := cur.set i u') (xs := xs.set i [u']) hB ?_ (by simpa using h1) h2 (by rw [hE, Nat.mul_one, List.length_set]; exact h3) ?_ ⟨by simp [hX.1], fun j cs' a2 hj1 hj2 => ?_⟩
    · have := heap_setCell_same w g i _ e u' hc
      refine (show _ = _ from this).trans ?_
      simp
    · rw [hE, Nat.mul_one, List.length_set]
      refine List.ext_getElem? fun j => ?_
      have hf := flatten_get (sz := 1) (by omega) (xs.set i [u']) (fun c hc => by
        rcases List.mem_or_eq_of_mem_set hc with h | rfl
        · exact (hX.lens c h).trans hE
        · rfl) j
      rw [Nat.div_one, Nat.mod_one] at hf
      rw [hf, List.getElem?_take]
      by_cases hj : j < l.length
      · rw [if_pos hj]
        by_cases hji : i = j
        · subst hji
          rw [List.getElem?_set_self (by omega), List.getElem?_set_self (by rw [hX.1]; exact hil)]; rfl
        · rw [List.getElem?_set_ne hji, List.getElem?_set_ne hji, hget, if_pos hj]
      · rw [if_neg hj, List.getElem?_eq_none (by rw [List.length_set, hX.1]; omega)]; rfl
    · by_cases hji : i = j
      · subst hji
        rw [List.getElem?_set_self (by rw [hX.1]; exact hil)] at hj1
        rw [List.getElem?_set_self hil] at hj2
        obtain rfl := Option.some.inj hj1
        obtain rfl := Option.some.inj hj2
        exact E.keep hu' hkeep
      · rw [List.getElem?_set_ne hji] at hj1 hj2
        exact E.keep (hX.2 j cs' a2 hj1 hj2) hkeep
  rwa [List.length_set] at hnew

theorem Own.elemAt {α : Type} {E : Ty α} {e : TypeId} {w : World} {B : Nat} {C : Blk} {g n cap : Nat} {l : List α} (h : Own E e w B C (.slice (some ⟨g, 0, none⟩) n cap) l) (hE : E.size = 1) {i : Nat} {a : α} (hi : l[i]? = some a) :
    ∃ u, E.rd w (fun k => C k ∧ k ≠ g) [u] a ∧ w.cell? ⟨g, i, none⟩ = some u ∧ w.frozen? ⟨g, i, none⟩ = false ∧
      ∀ u' a', E.rd w (fun k => C k ∧ k ≠ g) [u'] a' → Own E e (w.setCell ⟨g, i, none⟩ u') B C (.slice (some ⟨g, 0, none⟩) n cap) (l.set i a') := by
  obtain ⟨g', cap', u, e1, _, _, _, _, h1, h2, h3, h4⟩ := h.elem hE hi
  injection e1 with e1 e2 e3
  injection e1 with e1
  injection e1 with e1
  subst e1
  refine ⟨u, h1, h2, h3, fun u' a' hu' => ?_⟩
  exact h4 u' a' hu'

theorem Own.row {α : Type} {E : Ty α} {e : TypeId} {w : World} {B : Nat} {C : Blk} {v : Value} {l : List α} (h : Own E e w B C v l) {P : Nat} (cs : Array Value) (hC : ∀ k, C k → k ≠ P) (hB : P < B) : Own E e (w.setRow P cs) B C v l :=
  h.keep fun k hk _ => setRow_other _ _ _ _ (by
    rcases hk with hk | hk
    · exact hC k hk
    · have := (h.block k hk).1
      omega)
theorem Sl.row {α : Type} {E : Ty α} {w : World} {S : Blk} {v : Value} {l : List α} (h : Sl E w S v l) {P : Nat} (cs : Array Value) (hS : ∀ k, S k → k ≠ P) : Sl E (w.setRow P cs) S v l :=
  h.keep fun k hk _ => setRow_other _ _ _ _ (hS k hk)

theorem treeLit3 (w : World) (D : Blk) (va vb vc : Value) (a b c : List (List Row)) (ha : Sl tRow.slice w D va a) (hb : Sl tRow.slice w D vb b) (hc : Sl tRow.slice w D vc c) (hD : D w.heap.size) :
    Sl tRow.slice.slice (w.alloc (.cells #[va, vb, vc] 58)) D (.slice (some ⟨w.heap.size, 0, none⟩) 3 3) [a, b, c] := by
  have h1 : Each tRow.slice.slice w D [[va]] [a] := Each.one [va] a ha
  have h2 : Each tRow.slice.slice w D [[vb]] [b] := Each.one [vb] b hb
  have h3 : Each tRow.slice.slice w D [[vc]] [c] := Each.one [vc] c hc
  have hE : Each tRow.slice.slice w (fun k => D k ∧ k < w.heap.size) [[va], [vb], [vc]] [a, b, c] := ((h1.app h2).app h3).mono fun k hk hlt => ⟨hk, hlt⟩
  have ho := Own.lit (E := tRow.slice.slice) (e := 58) (B := w.heap.size) hE rfl (by unfold maxLen; simp) (Nat.le_refl _)
  exact Own.slAt ho (fun k hk => hk.1) (fun g hg => by simp [Value.ownBlock] at hg; exact hg ▸ hD)
theorem treeF_len : ∀ (f : Nat) (n : Int) (l : List Row), (treeF f n l).length ≤ f
  | 0, _, _ => Nat.le_refl _
  | f + 1, n, l => by
    rw [treeF]
    split
    · simp
    · split
      · simp
      · have := treeF_len f (n + 1) ((chunks n l).map tell)
        simp only [List.length_cons]
        omega
theorem patchL_len (l : List Row) (lo hi : Nat) (repl : List Row) (h1 : lo ≤ hi) (h2 : hi ≤ l.length) : (patchL l lo hi repl).length = l.length - (hi - lo) + repl.length := by
  rw [patchL, List.length_append, List.length_append, List.length_take, List.length_drop]
  omega

set_option maxHeartbeats 8000000 in
theorem editApply (v rv : Value) (t : List (List (List Row))) (l : List Row) (lo hi : Nat) (repl : List Row) (w : World) (h : Sl tRow.slice.slice w (fun k => k < w.heap.size) v t) (hr : Sl tRow w (fun k => k < w.heap.size) rv repl)
    (ht : t = treeL l) (he : rowsErr l = 0) (hlo : lo ≤ hi) (hhi : hi ≤ l.length) (hL : rowsErr (patchL l lo hi repl) = 0) :
    Calls Try.prog 93 #[v, .agg #[.int .i64 lo, .int .i64 hi, rv]] w (Ret w fun r w' => Sl tRow.slice.slice w' (fun _ => True) r (treeL (patchL l lo hi repl))) := by
  have htl : t.length ≤ 1000 := by
    rw [ht]
    have h1 := treeF_len l.length 0 l
    have h2 := (ok_rise he).1
    show (treeF l.length 0 l).length ≤ 1000
    omega
  obtain ⟨ar, cr, rfl, _, _, _⟩ := hr.shape
  go_enter Try.func93, Try.ntmps93
  go_wp2_with fail
  obtain ⟨w0, hw0⟩ : ∃ w0, w0 = w.alloc (Obj.cells #[Value.int IntKind.i64 (lo : Nat), Value.int IntKind.i64 (hi : Nat), Value.slice ar repl.length cr] 105) := ⟨_, rfl⟩
  have hbox0 : w0.heap[w.heap.size]? = some (.cells #[Value.int IntKind.i64 (lo : Nat), Value.int IntKind.i64 (hi : Nat), Value.slice ar repl.length cr] 105) := by rw [hw0]; exact heap_alloc_new w _
  have b0 : Below w.heap.size w w0 := by rw [hw0]; exact (Below.refl _ _).alloc (Nat.le_refl _) _
  have s0 : w0.heap.size = w.heap.size + 1 := by rw [hw0]; simp
  rw [← hw0]
  clear hw0
  refine (cloneTree v t w.heap.size w0 (h.call b0) b0.size (by omega)).mono ?_; rintro e w1 ⟨x1, rfl, ho1, b1⟩
  have ho1' := ho1.mono (D := fun k => k ≠ w.heap.size) fun k hk _ => by have hk' : k < w.heap.size := hk; omega
  go_wp2_with fail
  replace ho1' : Own tRow.slice.slice 58 w1 (w.heap.size + 1) (fun k => k ≠ w.heap.size) x1 t := by rw [← s0]; exact ho1'
  go_loopw [0, 5] (fun tv nv wr => ∃ (m : Nat) (T : List (List (List Row))) (L : List Row) (lo' hi' : Nat) (repl' : List Row) (ar' : Option Addr) (cr' : Nat), nv = .int .i64 m ∧ Own tRow.slice.slice 58 wr (w.heap.size + 1) (fun k => k ≠ w.heap.size) tv T ∧
    wr.heap[w.heap.size]? = some (.cells #[Value.int IntKind.i64 (lo' : Nat), Value.int IntKind.i64 (hi' : Nat), Value.slice ar' repl'.length cr'] 105) ∧ Sl tRow wr (fun k => some k ≠ tv.ownBlock) (.slice ar' repl'.length cr') repl' ∧ Below w.heap.size w wr ∧ m ≤ T.length ∧ T.length ≤ 1000 ∧ lo' ≤ hi' ∧ hi' ≤ L.length ∧
    Hid (Lev m (T.drop m) L) ∧ Hid (rowsErr L = 0) ∧ Hid (rowsErr (patchL L lo' hi' repl') = 0) ∧ Hid (m = 0 ∨ patchL L lo' hi' repl' ≠ []) ∧ Hid (treeL (patchL l lo hi repl) = T.take m ++ treeN m (patchL L lo' hi' repl')) ∧ m + (patchL L lo' hi' repl').length ≤ 41) (fun _ nv _ => 50 - (intOf nv).toNat)
  case atStart =>
    refine ⟨0, t, l, lo, hi, repl, ar, cr, rfl, ho1', (b1.block _ (by omega)).trans hbox0, ?_, ?_, Nat.zero_le _, htl, hlo, hhi, keepBack ?_, keepBack he, keepBack hL, keepBack (.inl rfl), keepBack (by simp [treeL, treeN]), ?_⟩
    · exact ((hr.call b0).call b1).mono fun k hk _ e => by have := (ho1.block k e.symm).1; have hk' : k < w.heap.size := hk; omega
    · exact b0.trans (b1.mono b0.size)
    · rw [List.drop_zero, ht]; exact Lev.tree l
    · have := (ok_rise hL).1; omega
  case round =>
    obtain ⟨m, T, L, lo', hi', repl', ar', cr', rfl, ho, hbox, hrp, hb, hmT, hT1, hlo', hhi', HLEV, HEL, HEP, HNE, HTG, hml⟩ := hrel
    have hs := hb.size
    have hL40 := (ok_rise HEL.out).1
    have hP40 := (ok_rise HEP.out).1
    have hrl : repl'.length ≤ 1000 := by have := patchL_len L lo' hi' repl' hlo' hhi'; omega
    obtain ⟨at', ct, rfl, hct1, hct2⟩ := ho.shape
    go_upto_if 16 with fail
    go_cut [0] from 11 to 77 (fun tv wc => ∃ T', Own tRow.slice.slice 58 wc (w.heap.size + 1) (fun k => k ≠ w.heap.size) tv T' ∧ wc.heap[w.heap.size]? = some (.cells #[Value.int IntKind.i64 (lo' : Nat), Value.int IntKind.i64 (hi' : Nat), Value.slice ar' repl'.length cr'] 105) ∧ Sl tRow wc (fun _ => True) (.slice ar' repl'.length cr') repl' ∧ Below w.heap.size w wc ∧ T'.length ≤ 1000 ∧ m < T'.length ∧ Hid (T'.take m = T.take m) ∧ Hid (T'.drop (m + 1) = (T.drop m).tail) ∧ Hid (T'[m]? = some (chunks m L)))
    case first =>
      by_cases hmlt : m < T.length
      · have hq : ((m : Int) == (T.length : Int)) = false := by rw [beq_eq_false_iff_ne]; omega
        go_wp2_with fail
        go_meet
        case rel =>
          refine ⟨T, ho, hbox, hrp.any, hb, by omega, hmlt, keepBack rfl, keepBack (by rw [List.tail_drop]), keepBack ?_⟩
          have := HLEV.out.head
          rw [List.drop_eq_getElem_cons hmlt, List.headD_cons] at this
          rw [← this]
          exact List.getElem?_eq_getElem hmlt
      · have hq : ((m : Int) == (T.length : Int)) = true := by rw [beq_iff_eq]; omega
        have HT0 := keepBack (show T.drop m = [] from List.drop_of_length_le (by omega))
        have hL0 : L = [] := HLEV.out.nil HT0.out
        have hSRC : Src tRow.slice.slice (wr.alloc (Obj.cells #[Value.slice none 0 0] 58)) (fun _ => False) (some ⟨wr.heap.size, 0, none⟩) [[]] := Src.one (E := tRow.slice.slice) (cs := [Value.slice none 0 0]) (a := []) (Sl.nil tRow.slice wr (fun _ => False)) _
        have hsep : ∀ k, (fun _ : Nat => False) k → k < (wr.alloc (Obj.cells #[Value.slice none 0 0] 58)).heap.size → (fun k => k ≠ w.heap.size) k ∧ some k ≠ (Value.slice at' T.length ct).ownBlock := fun _ hk _ => hk.elim
        have hPs : w.heap.size < wr.heap.size := (Array.getElem?_eq_some_iff.1 hbox).1
        go_wp2_with (at_builtin; refine wpList_grow rfl (.tmp 17) (.tmp 18) rfl aTree rfl (ho.alloc _) rfl rfl hSRC (by simp) hsep (by simp; omega) (by simp; omega) ?_)
        intro v2 w2 ho2 hg2
        go_wp2_with fail
        go_meet
        case rel =>
          have hb2 : Below w.heap.size w w2 := (hb.alloc hs _).grown hg2 (by simp; omega) (fun g hg => by have := (ho.block g hg).1; omega)
          have hkeep : ∀ k, k < wr.heap.size → some k ≠ (Value.slice at' T.length ct).ownBlock → w2.heap[k]? = wr.heap[k]? := fun k hk hne => (hg2.block k (by simp; omega) hne).trans (Below.heap_alloc wr _ k hk)
          refine ⟨T ++ [[]], ho2, (hkeep _ hPs fun e => by have := (ho.block _ e.symm).1; omega).trans hbox, (hrp.keep fun k hk hlt => hkeep k hlt hk).any, hb2, by simp; omega, by simp; omega, keepBack ?_, keepBack ?_, keepBack ?_⟩
          · rw [List.take_append_of_le_length (by omega)]
          · rw [HT0.out, List.drop_of_length_le (by simp; omega)]; rfl
          · rw [hL0, chunks_nil]
            obtain rfl : m = T.length := by omega
            simp
    case rest =>
      obtain ⟨T2, ho, hbox, hrp, hb, hT1, hmlt, HTK, HTD, HTX⟩ := hcut
      obtain ⟨X, HX⟩ : ∃ X, Hid (X = chunks m L) := ⟨_, rfl⟩
      have hX : T2[m]? = some X := by rw [HX.out]; exact HTX.out
      have hs := hb.size
      obtain ⟨g, cp, u, rfl, hcp1, hcp2, hBg, hgs, hrdX, hcX, hfX, hset⟩ := ho.elem rfl hX
      have hslX : Sl tRow.slice wc (fun k => k ≠ w.heap.size ∧ k ≠ g) u X := hrdX
      obtain ⟨ax, cx, rfl, hcx1, hcx2, _⟩ := hslX.shape
      have hix := fun W => run_idx aTree (b := g) (o := 0) (len := T2.length) (cap := cp) (m : Int) m rfl hmlt W
      rw [show tRow.slice.slice.size = 1 from rfl, Nat.mul_one, Nat.zero_add] at hix
      have hm0 : (0 : Int) ≤ m := by omega
      have hm1 : (m : Int) < T2.length := by omega
      have hp0 : wc.cell? ⟨w.heap.size, 0, none⟩ = some (.int .i64 (lo' : Nat)) := by rw [World.cell?, hbox]; rfl
      have hp1 : wc.cell? ⟨w.heap.size, 1, none⟩ = some (.int .i64 (hi' : Nat)) := by rw [World.cell?, hbox]; rfl
      have hp2 : wc.cell? ⟨w.heap.size, 2, none⟩ = some (.slice ar' repl'.length cr') := by rw [World.cell?, hbox]; rfl
      have hPs : w.heap.size < wc.heap.size := (Array.getElem?_eq_some_iff.1 hbox).1
      have KS : ∀ W, Below wc.heap.size wc W → Below wc.heap.size wc W ∧ W.cell? ⟨g, m, none⟩ = some (.slice ax X.length cx) ∧ W.cell? ⟨w.heap.size, 0, none⟩ = some (.int .i64 (lo' : Nat)) ∧ W.cell? ⟨w.heap.size, 1, none⟩ = some (.int .i64 (hi' : Nat)) ∧ W.cell? ⟨w.heap.size, 2, none⟩ = some (.slice ar' repl'.length cr') := fun W hW => ⟨hW, (hW.cell (p := ⟨g, m, none⟩) hgs).trans hcX, (hW.cell (p := ⟨w.heap.size, 0, none⟩) hPs).trans hp0, (hW.cell (p := ⟨w.heap.size, 1, none⟩) hPs).trans hp1, (hW.cell (p := ⟨w.heap.size, 2, none⟩) hPs).trans hp2⟩
      have HXL : X.length ≤ 1000 ∧ X.flatten = L ∧ X.flatten.length ≤ 1000 := by
        rw [HX.out, chunks_flatten]
        have := chunks_length m L
        exact ⟨by omega, rfl, by omega⟩
      have HX1 := keepBack (show chunks m X.flatten = X by rw [HXL.2.1, HX.out])
      have hslXd : Sl tRow.slice wc.drew (fun k => k < wc.drew.heap.size) (.slice ax X.length cx) X := (hslX.keep fun _ _ _ => rfl : Sl tRow.slice wc.drew _ _ X).old
      have hrpd : Sl tRow wc.drew (fun k => k < wc.drew.heap.size) (.slice ar' repl'.length cr') repl' := (hrp.keep fun _ _ _ => rfl : Sl tRow wc.drew _ _ repl').old
      go_wp2_with fail
      go_region_held3 (fun w' => Below wc.heap.size wc w' ∧ w'.cell? ⟨g, m, none⟩ = some (.slice ax X.length cx) ∧ w'.cell? ⟨w.heap.size, 0, none⟩ = some (.int .i64 (lo' : Nat)) ∧ w'.cell? ⟨w.heap.size, 1, none⟩ = some (.int .i64 (hi' : Nat)) ∧ w'.cell? ⟨w.heap.size, 2, none⟩ = some (.slice ar' repl'.length cr'))
        (first
          | exact KS _ (Below.refl _ _).drew
          | exact KS _ (Below.refl _ _)
          | exact KS _ (by assumption)
          | fail)
        (first
          | (go_at_call 99; refine (editLay _ _ X m lo' hi' repl' wc.drew hslXd hrpd HX1.out hlo' (by rw [HXL.2.1]; exact hhi') HXL.2.2 HXL.1 hrl).mono ?_; rintro e w2 ⟨_, rfl, ⟨first, behind, FR, x2, rfl, hfb, hbX, hFR, hNEW⟩, b2⟩; have b2' : Below wc.heap.size wc w2 := ((Below.refl wc.heap.size wc).drew).trans b2)
          | fail)
      obtain ⟨_, r1, r2, r3, r4⟩ := KS w2 b2'
      have hb2 := hb.trans (b2'.mono hs)
      have hs2 := hb2.size
      have hs22 := b2'.size
      have ho2 := ho.call b2'
      have hbox2 := (b2'.block _ hPs).trans hbox
      clear KS hp0 hp1 hp2 hslXd hrpd hcX hset hrdX
      have hslX2 := hslX.call b2'
      obtain ⟨e1, f1, ht1, ht2, hpt, _⟩ := hslX2.cutTo aLev (first : Int) first rfl (by omega)
      obtain ⟨e2, f2, hu1, hu2, hpu, _⟩ := hslX2.cutFrom aLev (behind : Int) behind rfl hbX
      obtain ⟨ax2, cx2, rfl, hcx21, hcx22, _⟩ := hFR.shape
      have hFRs : Sl tRow.slice w2 (fun k => k ≠ w.heap.size ∧ k ≠ g) (.slice ax2 FR.length cx2) FR := hFR.mono fun k hk _ => by have hk' : wc.heap.size ≤ k := hk; omega
      have hLIT : Sl tRow.slice.slice (w2.alloc (.cells #[.slice e1 first f1, .slice ax2 FR.length cx2, .slice e2 (X.length - behind) f2] 58)) (fun k => k ≠ w.heap.size ∧ k ≠ g) (.slice (some ⟨w2.heap.size, 0, none⟩) 3 3) [X.take first, FR, X.drop behind] :=
        treeLit3 w2 _ _ _ _ _ _ _ hpt hFRs hpu ⟨by omega, by omega⟩
      have hLIT2 : Sl tRow.slice.slice (w2.alloc (.cells #[.slice e1 first f1, .slice ax2 FR.length cx2, .slice e2 (X.length - behind) f2] 58)).drew (fun k => k ≠ w.heap.size ∧ k ≠ g) (.slice (some ⟨w2.heap.size, 0, none⟩) 3 3) [X.take first, FR, X.drop behind] := hLIT.keep fun _ _ _ => rfl
      have hbL : Below w2.heap.size w2 (w2.alloc (.cells #[.slice e1 first f1, .slice ax2 FR.length cx2, .slice e2 (X.length - behind) f2] 58)).drew := ((Below.refl w2.heap.size w2).alloc (Nat.le_refl _) _).drew
      have hfl : [X.take first, FR, X.drop behind].flatten = X.take first ++ (FR ++ X.drop behind) := by simp
      have hNl : (X.take first ++ (FR ++ X.drop behind)).length ≤ 40 := by rw [← hNEW]; have := chunks_length m (patchL X.flatten lo' hi' repl'); rw [HXL.2.1] at this ⊢; omega
      have hgs2 : g < w2.heap.size := Nat.lt_of_lt_of_le hgs hs22
      have KT : ∀ W, Below w2.heap.size w2 W → Below w2.heap.size w2 W ∧ W.cell? ⟨g, m, none⟩ = some (.slice ax X.length cx) := fun W hW => ⟨hW, (hW.cell (p := ⟨g, m, none⟩) hgs2).trans r1⟩
      obtain ⟨XN, HXN⟩ : ∃ XN, Hid (XN = X.take first ++ (FR ++ X.drop behind)) := ⟨_, rfl⟩
      go_upto_region 7 with fail
      go_cut [] from 11 to 77 (fun wx => Own tRow.slice.slice 58 wx (w.heap.size + 1) (fun k => k ≠ w.heap.size) (.slice (some ⟨g, 0, none⟩) T2.length cp) (T2.set m XN) ∧ wx.heap[w.heap.size]? = some (.cells #[Value.int IntKind.i64 (lo' : Nat), Value.int IntKind.i64 (hi' : Nat), Value.slice ar' repl'.length cr'] 105) ∧ Sl tRow.slice wx (fun k => k ≠ w.heap.size ∧ k ≠ g) (.slice ax2 FR.length cx2) FR ∧ Below w.heap.size w wx)
      case first =>
        go_region_law (first
          | (go_simp; go_at_call 100; refine (catLev _ _ _ _ hLIT2 (by rw [hfl]; omega)).mono ?_; rintro e w3 ⟨vN, rfl, hoN, b3⟩; have b23 : Below w2.heap.size w2 w3 := hbL.trans (b3.mono hbL.size); have ho3 := ho2.call b23; obtain ⟨aN, cN, rfl, hcN1, hcN2⟩ := hoN.shape; obtain ⟨u3, hu3, hc3, hf3, hset3⟩ := ho3.elemAt rfl hX)
          | fail)
        all_goals
          go_wp2_with fail
          go_meet
          case rel =>
            have hslN := hoN.sl (D := fun k => k ≠ w.heap.size ∧ k ≠ g) (fun k hk => hk.1) (fun k hk => by simp at hk; omega)
            have hs3 := b23.size
            have e1 := hset3 _ _ hslN
            refine ⟨?_, ?_, ?_, ?_⟩
            · rw [HXN.out, ← hfl]
              rw [show [X.take first, FR, X.drop behind].flatten.length = min first X.length + (FR.length + (X.length - behind)) by simp] at e1
              exact e1
            · refine (heap_setCell_other _ _ _ _ (by simp; omega)).trans ((b23.block _ (by omega)).trans hbox2)
            · exact (hFRs.call b23).keep fun k hk _ => heap_setCell_other _ _ _ _ (by simpa using hk.2)
            · exact (hb2.trans (b23.mono hs2)).setCell (by simp; omega) _
      case rest =>
        obtain ⟨hoN, hboxN, hFRN, hbN⟩ := hcut
        have hsN := hbN.size
        have hgN : g < wc.heap.size := (hoN.block g rfl).2
        have hXN : (T2.set m XN)[m]? = some XN := List.getElem?_set_self hmlt
        obtain ⟨uN, huN, hcN, _, _⟩ := hoN.elemAt rfl hXN
        have hslN : Sl tRow.slice wc (fun k => k ≠ w.heap.size ∧ k ≠ g) uN XN := huN
        obtain ⟨aN, cN, rfl, hcN1, hcN2, _⟩ := hslN.shape
        have HCN := keepBack (show chunks m (patchL L lo' hi' repl') = XN by rw [HXN.out, ← hNEW, HXL.2.1])
        have hXNl : XN.length ≤ 40 := by rw [HXN.out]; exact hNl
        have hNIL : T.take m ++ treeN m (patchL L lo' hi' repl') = treeL (patchL l lo hi repl) := HTG.out.symm
        have HFL := keepBack (show XN.flatten = patchL L lo' hi' repl' by rw [← HCN.out, chunks_flatten])
        by_cases h0 : XN.length = 0
        · have hq0 : ((XN.length : Int) == 0) = true := by rw [h0]; rfl
          go_wp2_with fail
          go_ret
          have e0 : patchL L lo' hi' repl' = [] := by rw [← HFL.out, List.eq_nil_of_length_eq_zero h0]; rfl
          have em : m = 0 := HNE.out.resolve_right (fun h => h e0)
          refine ⟨_, rfl, ?_, hbN⟩
          rw [← hNIL, e0, treeN_nil, em]
          exact Sl.nil _ _ _
        · have hq0 : ((XN.length : Int) == 0) = false := by rw [beq_eq_false_iff_ne]; omega
          have hPne : patchL L lo' hi' repl' ≠ [] := by
            intro e
            rw [e, chunks_nil] at HCN
            have := HCN.out
            rw [← this] at h0
            exact h0 rfl
          by_cases h1 : XN.length = 1
          · have hq1 : ((XN.length : Int) == 1) = true := by rw [h1]; rfl
            have hslT := (hoN.sl (D := fun _ => True) (fun _ _ => trivial) (fun _ _ => trivial))
            have hlT : (T2.set m XN).length = T2.length := List.length_set
            have HLT := keepBack hlT
            clear hlT
            obtain ⟨e3, f3, hv1, hv2, hpv, _⟩ := hslT.cutTo aTree ((m : Int) + 1) (m + 1) (by omega) (by rw [HLT.out]; omega)
            go_wp2_with fail
            go_ret
            refine ⟨_, rfl, ?_, hbN⟩
            rw [← hNIL, treeN_top hPne (by rw [HCN.out]; exact h1), HCN.out]
            have e4 : (T2.set m XN).take (m + 1) = T.take m ++ [XN] := by
              rw [← HTK.out, List.take_add_one, List.take_set_of_le (Nat.le_refl _), List.getElem?_set_self hmlt]
              rfl
            rw [← e4]
            exact hpv
          · have hq1 : ((XN.length : Int) == 1) = false := by rw [beq_eq_false_iff_ne]; omega
            have hfin : ∀ c ∈ XN, 0 < c.length ∧ fineB c = true := fun c hc => by
              obtain ⟨i, hi⟩ := List.getElem?_of_mem hc
              exact chunk_of_fine (ok_fine HEP.out) m i c (by rw [HCN.out]; exact hi)
            have hfinF : ∀ (i : Nat) (c : List Row), FR[i]? = some c → 0 < c.length ∧ fineB c = true := fun i c hc => hfin c (by
              rw [HXN.out]
              exact List.mem_append_right _ (List.mem_append_left _ (List.mem_of_getElem? hc)))
            have hFRl : FR.length ≤ 40 := by
              have := hNl
              simp only [List.length_append] at this
              omega
            go_wp2_with fail
            refine (chunkTold _ FR _ _ hFRN hfinF (by omega)).mono ?_; rintro e w4 ⟨r4, rfl, h4, b4⟩
            obtain ⟨a4, c4, rfl, hc41, hc42, _⟩ := h4.shape
            have hs4 := b4.size
            have hPs4 : w.heap.size < wc.heap.size := (Array.getElem?_eq_some_iff.1 hboxN).1
            have hbox4 := (b4.block _ hPs4).trans hboxN
            have HB4 := keepBack hbox4
            clear hbox4
            have hb04 : Below w.heap.size w w4 := hbN.trans (b4.mono hsN)
            rw [List.length_map] at hc41
            have ho4 := hoN.call b4
            have hl2 : 2 ≤ XN.length := by omega
            have hml2 : m + 1 + (XN.map tell).length ≤ 41 := by
              have h5 := chunks_half m (patchL L lo' hi' repl')
              rw [HCN.out] at h5
              rw [List.length_map]
              omega
            have HNEW2 := keepBack (told_patch X first behind FR)
            have hTG2 : treeL (patchL l lo hi repl) = (T2.set m XN).take (m + 1) ++ treeN ((m + 1 : Nat) : Int) (XN.map tell) := by
              rw [← hNIL, treeN_more hPne (by rw [HCN.out]; exact h1), HCN.out, List.take_add_one, List.take_set_of_le (Nat.le_refl _), List.getElem?_set_self hmlt, HTK.out]
              simp
            have HOK : Hid (rowsErr (XN.map tell) = 0) := keepBack (by rw [← HCN.out]; exact told_ok HEP.out m)
            have hNEm : XN.map tell ≠ [] := by intro e; rw [List.map_eq_nil_iff] at e; rw [e] at h0; exact h0 rfl
            have HDR := keepBack (show (T2.set m XN).drop (m + 1) = (T.drop m).tail by rw [← HTD.out, List.drop_set_of_lt (Nat.lt_succ_self m)])
            have HLT2 := keepBack (show (T2.set m XN).length = T2.length from List.length_set)
            have HTG2 := keepBack hTG2
            clear hTG2
            obtain ⟨W5, HW⟩ : ∃ W5, Hid (W5 = w4.setRow w.heap.size #[.int .i64 first, .int .i64 behind, .slice a4 FR.length c4]) := ⟨_, rfl⟩
            have HB5 : Hid (W5.heap[w.heap.size]? = some (.cells #[.int .i64 first, .int .i64 behind, .slice a4 FR.length c4] 105)) := keepBack (by rw [HW.out]; exact setRow_heap _ _ _ _ _ _ HB4.out)
            have ho5 : Own tRow.slice.slice 58 W5 (w.heap.size + 1) (fun k => k ≠ w.heap.size) (.slice (some ⟨g, 0, none⟩) T2.length cp) (T2.set m XN) := by rw [HW.out]; exact ho4.row _ (fun _ hk => hk) (by omega)
            have hb05 : Below w.heap.size w W5 := by rw [HW.out]; exact below_setRow hb04 (Nat.le_refl _) _
            have h5 : Sl tRow W5 (fun k => wc.heap.size ≤ k) (.slice a4 FR.length c4) (FR.map tell) := by
              rw [HW.out]
              have h4' := h4.row (P := w.heap.size) #[.int .i64 first, .int .i64 behind, .slice a4 FR.length c4] (fun k hk => by have hk' : wc.heap.size ≤ k := hk; omega)
              rw [List.length_map] at h4'
              exact h4'
            have hs5 := hb05.size
            have hs45 : W5.heap.size = w4.heap.size := by rw [HW.out, setRow_size]
            have HONE : Hid ((#[Value.int .i64 first, Value.int .i64 behind, Value.slice a4 FR.length c4].all (·.oneCell')) = true) := keepBack (by simp [Value.oneCell'])
            by_cases hend : m + 1 = T2.length
            · have hqe : ((m : Int) + 1 == (T2.length : Int)) = true := by rw [beq_iff_eq]; omega
              have hc5 : W5.cell? ⟨g, m, none⟩ = some (.slice aN XN.length cN) := by
                rw [HW.out, cell_setRow_other _ _ _ _ (by simp; omega)]
                exact (b4.cell (p := ⟨g, m, none⟩) hgN).trans hcN
              have hslN5 : Sl tRow.slice W5 (fun k => k ≠ w.heap.size ∧ k ≠ g) (.slice aN XN.length cN) XN := by rw [HW.out]; exact (hslN.call b4).row _ (fun k hk => hk.1)
              go_wp2_with (refine wpList_store_row rfl 105 (.tmp 3) (.tmp 66) rfl w.heap.size #[.int .i64 first, .int .i64 behind, .slice a4 FR.length c4] rfl rfl _ _ HB4.out rfl rfl HONE.out ?_; rw [← HW.out])
              refine (chunkTold _ XN _ _ hslN5 (fun i c hc => hfin c (List.mem_of_getElem? hc)) (by omega)).mono ?_; rintro e w6 ⟨r6, rfl, h6, b6⟩
              obtain ⟨a6, c6, rfl, hc61, hc62, _⟩ := h6.shape
              have hs6 := b6.size
              have HB6 := keepBack ((b6.block _ (Nat.lt_of_lt_of_le hPs4 (by omega))).trans HB5.out)
              rw [List.length_map] at hc61
              have ho6 := ho5.call b6
              obtain ⟨W7, HW7⟩ : ∃ W7, Hid (W7 = w6.setRow w.heap.size #[.int .i64 0, .int .i64 0, .slice a6 XN.length c6]) := ⟨_, rfl⟩
              have HB7 : Hid (W7.heap[w.heap.size]? = some (.cells #[.int .i64 0, .int .i64 0, .slice a6 XN.length c6] 105)) := keepBack (by rw [HW7.out]; exact setRow_heap _ _ _ _ _ _ HB6.out)
              have ho7 : Own tRow.slice.slice 58 W7 (w.heap.size + 1) (fun k => k ≠ w.heap.size) (.slice (some ⟨g, 0, none⟩) T2.length cp) (T2.set m XN) := by rw [HW7.out]; exact ho6.row _ (fun _ hk => hk) (by omega)
              have hb07 : Below w.heap.size w W7 := by rw [HW7.out]; exact below_setRow (hb05.trans (b6.mono hs5)) (Nat.le_refl _) _
              have h7 : Sl tRow W7 (fun k => W5.heap.size ≤ k) (.slice a6 XN.length c6) (XN.map tell) := by
                rw [HW7.out]
                have h6' := h6.row (P := w.heap.size) #[.int .i64 0, .int .i64 0, .slice a6 XN.length c6] (fun k hk => by have hk' : W5.heap.size ≤ k := hk; omega)
                rw [List.length_map] at h6'
                exact h6'
              have hg5 : g < W5.heap.size := (ho5.block g rfl).2
              have HONE7 : Hid ((#[Value.int .i64 0, Value.int .i64 0, Value.slice a6 XN.length c6].all (·.oneCell')) = true) := keepBack (by simp [Value.oneCell'])
              go_wp2_with (first
                | (refine wpList_store_row rfl 105 (.tmp 3) (.tmp 76) rfl w.heap.size #[.int .i64 0, .int .i64 0, .slice a6 XN.length c6] rfl rfl _ _ HB6.out rfl rfl HONE7.out ?_; rw [← HW7.out])
                | (refine wpList_store_row rfl 105 (.tmp 3) (.tmp 77) rfl w.heap.size #[.int .i64 0, .int .i64 0, .slice a6 XN.length c6] rfl rfl _ _ HB6.out rfl rfl HONE7.out ?_; rw [← HW7.out]))
              go_roundw
              case rel =>
                refine ⟨m + 1, T2.set m XN, [], 0, 0, XN.map tell, a6, c6, by go_num, ho7, ?_, ?_, hb07, ?_, ?_, Nat.le_refl _, Nat.le_refl _, ?_, ?_, ?_, ?_, ?_, ?_⟩
                · rw [List.length_map]; exact HB7.out
                · rw [List.length_map]; exact h7.mono fun k hk _ e => by have hk' : W5.heap.size ≤ k := hk; have e' : k = g := Option.some.inj e; omega
                · rw [HLT2.out]; omega
                · rw [HLT2.out]; omega
                · rw [List.drop_of_length_le (by rw [HLT2.out]; omega)]; exact keepBack (Lev.none _)
                · exact keepBack rfl
                · rw [patchL_none]; exact HOK
                · rw [patchL_none]; exact keepBack (.inr hNEm)
                · rw [patchL_none]; exact HTG2
                · rw [patchL_none]; exact hml2
              case measure => simp [intOf]; omega
            · have hqe : ((m : Int) + 1 == (T2.length : Int)) = false := by rw [beq_eq_false_iff_ne]; omega
              go_wp2_with (refine wpList_store_row rfl 105 (.tmp 3) (.tmp 66) rfl w.heap.size #[.int .i64 first, .int .i64 behind, .slice a4 FR.length c4] rfl rfl _ _ HB4.out rfl rfl HONE.out ?_; rw [← HW.out])
              go_roundw
              case rel =>
                refine ⟨m + 1, T2.set m XN, X.map tell, first, behind, FR.map tell, a4, c4, by go_num, ho5, ?_, ?_, hb05, ?_, ?_, hfb, ?_, ?_, ?_, ?_, ?_, ?_, ?_⟩
                · rw [List.length_map]; exact HB5.out
                · rw [List.length_map]; exact h5.mono fun k hk _ e => by have hk' : wc.heap.size ≤ k := hk; have e' : k = g := Option.some.inj e; omega
                · rw [HLT2.out]; omega
                · rw [HLT2.out]; omega
                · rw [List.length_map]; exact hbX
                · rw [HDR.out, HX.out]
                  exact keepBack (HLEV.out.tail (by rw [← HTD.out]; intro e; have := congrArg List.length e; simp at this; omega))
                · rw [HX.out]; exact keepBack (told_ok HEL.out m)
                · rw [HNEW2.out, ← HXN.out]; exact HOK
                · rw [HNEW2.out, ← HXN.out]; exact keepBack (.inr hNEm)
                · rw [HNEW2.out, ← HXN.out]; exact HTG2
                · rw [HNEW2.out, ← HXN.out]; exact hml2
              case measure => simp [intOf]; omega

end Go.Pch

namespace Go.Pch
open Go.RowKit Go.Proofs
set_option maxRecDepth 100000

set_option maxHeartbeats 4000000 in
theorem editOwn (v : Value) (t : List (List (List Row))) (S : Blk) (w : World) (h : Sl tRow.slice.slice w S v t) (hl : t.length ≤ 1000) (hls : ∀ (i : Nat) lv, t[i]? = some lv → lv.length ≤ 1000 ∧ ∀ (j : Nat) c, lv[j]? = some c → c.length ≤ 1000) :
    Calls Try.prog 80 #[v] w (Ret w fun r w' => Sl tRow.slice.slice w' (fun k => w.heap.size ≤ k) r t) := by
  have hv := h.old
  obtain ⟨ao, cap, rfl, hcap, hmax, hnil⟩ := h.shape
  unfold maxLen at hmax
  have HLS := keepBack hls
  clear hls
  go_enter Try.func80, Try.ntmps80
  go_wp2_with fail
  go_loopw [3, 11] (fun out i wr => ∃ (n : Nat), n ≤ t.length ∧ i = .int .i64 n ∧ Below w.heap.size w wr ∧ Own tRow.slice.slice 58 wr w.heap.size (fun k => w.heap.size ≤ k) out (t.take n)) (fun _ i _ => t.length - (intOf i).toNat)
  case atStart => exact ⟨0, Nat.zero_le _, rfl, Below.refl _ _, .nil⟩
  case round =>
    obtain ⟨n, hn, rfl, hb, ho⟩ := hrel
    have hs := hb.size
    by_cases hlt : n < t.length
    · obtain ⟨X, hX⟩ : ∃ X, t[n]? = some X := ⟨t[n], List.getElem?_eq_getElem hlt⟩
      obtain ⟨b, o, a2, c2, hix, _, hbs, hsx, hc2, hcm2, hc00⟩ := hv.idxSlAt aTree n n X X.length rfl hX rfl
      have hc0 := (hb.cell (p := ⟨b, o, none⟩) hbs).trans hc00
      have HX := HLS.out n X hX
      have hX1 := HX.1
      have HX2 := keepBack HX.2
      have HN : Hid (t.take (n + 1) = t.take n ++ [X]) := keepBack (by rw [List.take_add_one, hX]; rfl)
      have hlen : (t.take n).length = n := by simp; omega
      clear HX hX
      generalize t.take n = T at *
      have HT := keepBack (show T.length ≤ n by omega)
      clear hlen
      unfold maxLen at hcm2
      obtain ⟨wo, rfl⟩ : ∃ wo : World, wo = wr := ⟨_, rfl⟩
      have hob := ho.block
      go_wp2
      go_loopw [6, 17] (fun lv i wr' => ∃ (j : Nat), j ≤ X.length ∧ i = .int .i64 j ∧ Below wo.heap.size wo wr' ∧ Own tRow.slice 22 wr' wo.heap.size (fun k => wo.heap.size ≤ k) lv (X.take j)) (fun _ i _ => X.length - (intOf i).toNat)
      case atStart => exact ⟨0, Nat.zero_le _, rfl, Below.refl _ _, .nil⟩
      case round =>
        obtain ⟨j, hj, rfl, hb2, hol⟩ := hrel
        have hs2 := hb2.size
        have hbw := hb.trans (hb2.mono hs)
        by_cases hlt2 : j < X.length
        · obtain ⟨ck, hck⟩ : ∃ ck, X[j]? = some ck := ⟨X[j], List.getElem?_eq_getElem hlt2⟩
          obtain ⟨b', o', a3, c3, hix', _, hbs', hsk0, hc3, hcm3, hc000⟩ := hsx.idxSlAt aLev j j ck ck.length rfl hck rfl
          have hcell := (hbw.cell (p := ⟨b', o', none⟩) hbs').trans hc000
          have hckl := HX2.out j ck hck
          have HJ : Hid (X.take (j + 1) = X.take j ++ [ck]) := keepBack (by rw [List.take_add_one, hck]; rfl)
          have hlen : (X.take j).length = j := by simp; omega
          clear hck
          generalize X.take j = L at *
          have HLn := keepBack (show L.length ≤ j by omega)
          clear hlen
          obtain ⟨al, cl, rfl, _, _⟩ := hol.shape
          have hobl := hol.block
          go_wp2_with fail
          refine (cloneOwn _ ck _ wr (hsk0.below hbw) (by omega)).mono ?_; rintro e w1 ⟨r, rfl, ho1, hb1⟩
          have hs1 := hb1.size
          have hol1 := hol.call hb1
          have hf1 := ho1.sl (D := fun k => wr.heap.size ≤ k) (fun _ h => h.elim) (fun _ h => h)
          obtain ⟨a4, c4, rfl, _, _⟩ := ho1.shape
          go_wp2_with (at_builtin; refine wpList_grow rfl (.tmp 21) (.tmp 24) rfl aLev rfl (hol1.alloc _) rfl (by simp) (Src.one (cs := [_]) hf1 _) (by simp) (fun k hk _ => ⟨Nat.le_trans hs2 hk, fun e => by have := hobl k e.symm; omega⟩) (by have := HLn.out; simp; omega) (by simp; omega) ?_)
          intro v2 w2 ho2 hg2
          have hb3 : Below wo.heap.size wo w2 := ((hb2.trans (hb1.mono hs2)).alloc (by omega) _).grown hg2 (by simp; omega) (fun g hg => (hobl g hg).1)
          obtain ⟨a5, c5, rfl, _, _⟩ := ho2.shape
          go_wp2
          go_roundw
          case rel => exact ⟨j + 1, by omega, by go_num, hb3, by rw [HJ.out]; exact ho2⟩
          case measure => simp [intOf]; omega
        · obtain rfl : j = X.length := by omega
          rw [List.take_length] at hol
          have hlv : Sl tRow.slice wr (fun k => wo.heap.size ≤ k) _ X := hol.sl (fun _ h => h) (fun _ h => h)
          obtain ⟨al, cl, rfl, _, _, _⟩ := hlv.shape
          have hoo := ho.call hb2
          obtain ⟨ag, cg, rfl, _, _⟩ := ho.shape
          go_wp2_with (at_builtin; refine wpList_grow rfl (.tmp 27) (.tmp 29) rfl aTree rfl (hoo.alloc _) rfl (by simp) (Src.one (cs := [_]) hlv _) (by simp) (fun k hk _ => ⟨Nat.le_trans hs hk, fun e => by have := hob k e.symm; omega⟩) (by have := HT.out; simp; omega) (by simp; omega) ?_)
          intro v2 w2 ho2 hg2
          have hb3 : Below w.heap.size w w2 := (hbw.alloc hbw.size _).grown hg2 (by simp; omega) (fun g hg => (hob g hg).1)
          obtain ⟨a5, c5, rfl, _, _⟩ := ho2.shape
          go_wp2
          go_roundw
          case rel => exact ⟨n + 1, by omega, by go_num, hb3, by rw [HN.out]; exact ho2⟩
          case measure => simp [intOf]; omega
    · obtain rfl : n = t.length := by omega
      go_wp2
      go_ret
      rw [List.take_length] at ho
      exact ⟨_, rfl, ho.sl (fun _ h => h) (fun _ h => h), hb⟩

end Go.Pch

namespace Go.Pch
open Go.RowKit Go.Proofs
set_option maxRecDepth 100000

/-- The row that is put. -/
def oneRow (key val : Int) : List Row := if val = -1 then [] else [(key, val)]
/-- Where the row's place ends. -/
def seekH (l : List Row) (key : Int) : Nat := seekN l key + if hasB l key = true then 1 else 0
theorem setL_patch (l : List Row) (key val : Int) : setL l key val = patchL l (seekN l key) (seekH l key) (oneRow key val) := rfl
theorem seekH_le (l : List Row) (key : Int) : seekN l key ≤ seekH l key ∧ seekH l key ≤ l.length := by
  have h := seekN_le l key
  unfold seekH
  refine ⟨by omega, ?_⟩
  by_cases hb : hasB l key = true
  · rw [if_pos hb]
    unfold hasB at hb
    by_cases hlt : seekN l key < l.length
    · omega
    · rw [List.getElem?_eq_none (by omega)] at hb
      cases hb
  · rw [if_neg hb]; omega
theorem oneRow_len (key val : Int) : (oneRow key val).length ≤ 1 := by unfold oneRow; split <;> simp
/-- The numbers of a put. -/
theorem put_len (l : List Row) (key val : Int) : (setL l key val).length = l.length - (seekH l key - seekN l key) + (oneRow key val).length := by rw [setL_patch, patchL_len _ _ _ _ (seekH_le l key).1 (seekH_le l key).2]

theorem oneLit (key val : Int) (w : World) (ok : i64ok key ∧ i64ok val) : Sl tRow (w.alloc (.cells #[.int .i64 key, .int .i64 val] 64)) (fun k => w.heap.size ≤ k) (.slice (some ⟨w.heap.size, 0, none⟩) 1 1) [(key, val)] := by
  have hE : Each tRow w (fun _ => False) [[Value.int .i64 key, Value.int .i64 val]] [(key, val)] := Each.one _ _ ⟨rfl, ok.1, ok.2⟩
  have ho := Own.lit (E := tRow) (e := 64) (B := w.heap.size) hE rfl (by unfold maxLen; simp) (Nat.le_refl _)
  exact ho.sl (fun _ h => h.elim) (fun _ h => h)
set_option maxHeartbeats 4000000 in
theorem editPut (v : Value) (l : List Row) (key val : Int) (w : World) (h : Sl tRow.slice.slice w (fun k => k < w.heap.size) v (treeL l)) (he : rowsErr l = 0) (hk : keyB key = true) (hv : valB val = true) :
    Calls Try.prog 79 #[v, .int .i64 key, .int .i64 val] w (Ret w fun r w' =>
      if 40 < (setL l key val).length then r = .tuple #[.slice none 0 0, .bool false] else ∃ x, r = .tuple #[x, .bool true] ∧ Sl tRow.slice.slice w' (fun _ => True) x (treeL (setL l key val))) := by
  obtain ⟨h40, hrs⟩ := ok_rise he
  have hle := seekH_le l key
  have hlen := put_len l key val
  have HH := keepBack (show seekH l key = seekN l key + if hasB l key = true then 1 else 0 from rfl)
  have HO := keepBack (show oneRow key val = if val = -1 then [] else [(key, val)] from rfl)
  have HP := keepBack (setL_patch l key val)
  have HR : Hid (riseB (-1) (setL l key val) = true) := keepBack (by
    simp only [keyB, valB, Bool.and_eq_true, decide_eq_true_eq] at hk hv
    exact setL_rise hrs (by omega) hk.2 hv.1 hv.2)
  have OK : Hid (i64ok key ∧ i64ok val) := keepBack (by
    simp only [keyB, valB, Bool.and_eq_true, decide_eq_true_eq] at hk hv
    exact ⟨ok_small (by omega), ok_small (by omega)⟩)
  have h1 := treeFlat v (treeL l) _ w h (by rw [flat_tree]; omega)
  rw [flat_tree] at h1
  have hsk := fun vl w1 (hl1 : Sl tRow w1 (fun k => w.heap.size ≤ k) vl l) => rowsSeek vl l key _ w1 hl1 hrs (by omega)
  generalize hM : setL l key val = M at *
  generalize hkk : seekN l key = k at *
  generalize hhi : seekH l key = hi at *
  generalize hon : oneRow key val = on at *
  have hvl := hv
  clear hM hkk hhi hon
  go_enter Try.func79, Try.ntmps79
  go_wp2_with fail
  refine h1.mono ?_; rintro e w1 ⟨vl, rfl, hl1, b1⟩
  have s1 := b1.size
  obtain ⟨al, cl, rfl, _, _, _⟩ := hl1.shape
  go_wp2_with fail
  refine (hsk _ _ hl1).mono ?_; rintro e w2 ⟨_, rfl, rfl, b2⟩
  have s2 := b2.size
  have b02 := b1.trans (b2.mono s1)
  have hv2 := h.call b02
  have APP : ∀ rv W, Below w2.heap.size w2 W → Sl tRow W (fun k => k < W.heap.size) rv on → rowsErr M = 0 → Calls Try.prog 93 #[v, .agg #[.int .i64 k, .int .i64 hi, rv]] W (Ret W fun r w' => Sl tRow.slice.slice w' (fun _ => True) r (treeL M)) := by
    intro rv W hW hrv hrM
    have := editApply v rv (treeL l) l k hi on W ((hv2.call hW).old) hrv rfl he hle.1 hle.2 (by rw [← HP.out]; exact hrM)
    rw [← HP.out] at this
    exact this
  clear h1 hsk h hv hrs
  cases hB : hasB l key with
  | false =>
    have e1 := HH.out
    rw [hB, if_neg (by simp)] at e1
    obtain rfl : hi = k := e1
    by_cases hv1 : val = -1
    · have e2 := HO.out
      rw [if_pos hv1] at e2
      subst e2
      simp at hlen
      have hm : ¬ 40 < M.length := by omega
      have hq : ¬ (40 : Int) < l.length := by omega
      have HM : Hid (M = l) := keepBack (by rw [HP.out, patchL, List.nil_append, List.take_append_drop])
      clear hlen APP
      go_wp2_with fail
      go_ret2
      refine ⟨_, rfl, ⟨_, rfl, ?_⟩, b02.alloc (by omega) _⟩
      rw [HM.out]
      exact (hv2.call ((Below.refl _ _).alloc (Nat.le_refl _) _)).any
    · have e2 := HO.out
      rw [if_neg hv1] at e2
      subst e2
      simp at hlen
      by_cases hm : 40 < M.length
      · have hq : (40 : Int) < l.length + 1 := by omega
        clear hlen APP
        go_wp2_with fail
        go_ret2
        exact ⟨_, rfl, rfl, (b02.alloc (by omega) _).alloc (by simp; omega) _⟩
      · have hq : ¬ (40 : Int) < l.length + 1 := by omega
        have hrM : rowsErr M = 0 := rowsErr_zero (by omega) HR.out
        clear hlen
        have hL1 := oneLit key val (w2.alloc (Obj.cells #[Value.int IntKind.i64 hi, Value.int IntKind.i64 hi, Value.slice (some ⟨w2.heap.size + 1, 0, none⟩) 1 1] 105)) OK.out
        rw [show (w2.alloc (Obj.cells #[Value.int IntKind.i64 hi, Value.int IntKind.i64 hi, Value.slice (some ⟨w2.heap.size + 1, 0, none⟩) 1 1] 105)).heap.size = w2.heap.size + 1 by simp] at hL1
        go_wp2_with fail
        have hbA : Below w2.heap.size w2 ((w2.alloc (Obj.cells #[Value.int IntKind.i64 hi, Value.int IntKind.i64 hi, Value.slice (some ⟨w2.heap.size + 1, 0, none⟩) 1 1] 105)).alloc (Obj.cells #[Value.int IntKind.i64 key, Value.int IntKind.i64 val] 64)) := ((Below.refl _ _).alloc (Nat.le_refl _) _).alloc (by simp) _
        refine (APP _ _ hbA hL1.old hrM).mono ?_; rintro e w3 ⟨x, rfl, hx, b3⟩
        go_wp2
        go_ret2
        exact ⟨_, rfl, ⟨_, rfl, hx⟩, (b02.trans (hbA.mono (by omega))).trans (b3.mono (by simp; omega))⟩
  | true =>
    have e1 := HH.out
    rw [hB, if_pos rfl] at e1
    subst e1
    by_cases hv1 : val = -1
    · have e2 := HO.out
      rw [if_pos hv1] at e2
      subst e2
      simp at hlen
      have hm : ¬ 40 < M.length := by omega
      have hq : ¬ (40 : Int) < l.length - 1 := by omega
      have hrM : rowsErr M = 0 := rowsErr_zero (by omega) HR.out
      clear hlen
      go_wp2_with fail
      have hbA : Below w2.heap.size w2 (w2.alloc (Obj.cells #[Value.int IntKind.i64 k, Value.int IntKind.i64 ((k : Int) + 1), Value.slice none 0 0] 105)) := (Below.refl _ _).alloc (Nat.le_refl _) _
      rw [show (k : Int) + 1 = ((k + 1 : Nat) : Int) by omega] at hbA ⊢
      refine (APP _ _ hbA (Sl.nil _ _ _) hrM).mono ?_; rintro e w3 ⟨x, rfl, hx, b3⟩
      go_wp2
      go_ret2
      exact ⟨_, rfl, ⟨_, rfl, hx⟩, (b02.trans (hbA.mono (by omega))).trans (b3.mono (by simp; omega))⟩
    · have e2 := HO.out
      rw [if_neg hv1] at e2
      subst e2
      simp at hlen
      have hm : ¬ 40 < M.length := by omega
      have hq : ¬ (40 : Int) < l.length - 1 + 1 := by omega
      have hrM : rowsErr M = 0 := rowsErr_zero (by omega) HR.out
      clear hlen
      have hL1 := oneLit key val (w2.alloc (Obj.cells #[Value.int IntKind.i64 k, Value.int IntKind.i64 ((k + 1 : Nat) : Int), Value.slice (some ⟨w2.heap.size + 1, 0, none⟩) 1 1] 105)) OK.out
      rw [show (w2.alloc (Obj.cells #[Value.int IntKind.i64 k, Value.int IntKind.i64 ((k + 1 : Nat) : Int), Value.slice (some ⟨w2.heap.size + 1, 0, none⟩) 1 1] 105)).heap.size = w2.heap.size + 1 by simp] at hL1
      go_wp2_with fail
      have hbA : Below w2.heap.size w2 ((w2.alloc (Obj.cells #[Value.int IntKind.i64 k, Value.int IntKind.i64 ((k : Int) + 1), Value.slice (some ⟨w2.heap.size + 1, 0, none⟩) 1 1] 105)).alloc (Obj.cells #[Value.int IntKind.i64 key, Value.int IntKind.i64 val] 64)) := ((Below.refl _ _).alloc (Nat.le_refl _) _).alloc (by simp) _
      rw [show (k : Int) + 1 = ((k + 1 : Nat) : Int) by omega] at hbA ⊢
      refine (APP _ _ hbA hL1.old hrM).mono ?_; rintro e w3 ⟨x, rfl, hx, b3⟩
      go_wp2
      go_ret2
      exact ⟨_, rfl, ⟨_, rfl, hx⟩, (b02.trans (hbA.mono (by omega))).trans (b3.mono (by simp; omega))⟩

end Go.Pch

namespace Go.Pch
open Go.RowKit Go.Proofs
set_option maxRecDepth 100000

theorem treeF_small : ∀ (f : Nat) (n : Int) (l : List Row), l.length ≤ 40 → ∀ X ∈ treeF f n l, X.length ≤ 40 ∧ ∀ c ∈ X, c.length ≤ 40
  | 0, _, _, _, X, hX => by rw [treeF] at hX; cases hX
  | f + 1, n, l, hl, X, hX => by
    have hlen := chunks_length n l
    have hc : ∀ c ∈ chunks n l, c.length ≤ 40 := fun c hc => by
      obtain ⟨i, hi⟩ := List.getElem?_of_mem hc
      have := chunks_sizes i c hi
      omega
    rw [treeF] at hX
    split at hX
    · cases hX
    · split at hX
      · rw [List.mem_singleton] at hX
        subst hX
        exact ⟨by omega, hc⟩
      · rcases List.mem_cons.1 hX with rfl | hX
        · exact ⟨by omega, hc⟩
        · exact treeF_small f (n + 1) _ (by rw [List.length_map]; omega) X hX
theorem treeL_small {l : List Row} (hl : l.length ≤ 40) : ∀ (i : Nat) lv, (treeL l)[i]? = some lv → lv.length ≤ 1000 ∧ ∀ (j : Nat) c, lv[j]? = some c → c.length ≤ 1000 := fun i lv h => by
  have := treeF_small l.length 0 l hl lv (List.mem_of_getElem? h)
  exact ⟨by omega, fun j c hc => by have := this.2 c (List.mem_of_getElem? hc); omega⟩
theorem putsP_step {L M : List Row} {d : List Change} {j : Nat} {x : Change} (hx : d[j]? = some x) (h : putP L x.1 x.2.2 = (M, 0)) : putsP L (d.drop j) = putsP M (d.drop (j + 1)) := by
  have hj := (List.getElem?_eq_some_iff.1 hx).1
  rw [List.drop_eq_getElem_cons hj, putsP, (List.getElem?_eq_some_iff.1 hx).2, h, if_pos rfl]
theorem putsP_stop {L : List Row} {d : List Change} {j : Nat} {x : Change} {e : Int} (hx : d[j]? = some x) (h : (putP L x.1 x.2.2).2 = e) (he : e ≠ 0) : putsP L (d.drop j) = ([], e) := by
  have hj := (List.getElem?_eq_some_iff.1 hx).1
  rw [List.drop_eq_getElem_cons hj, putsP, (List.getElem?_eq_some_iff.1 hx).2, h, if_neg he]
theorem putsP_end {L : List Row} {d : List Change} {j : Nat} (hj : d.length ≤ j) : putsP L (d.drop j) = (L, 0) := by rw [List.drop_of_length_le hj, putsP]

/-- What comes of puts, as a tree. -/
def putTree (p : List Row × Int) : List (List (List Row)) := if p.2 = 0 then treeL p.1 else []

set_option maxHeartbeats 4000000 in
theorem editEdits (v dv : Value) (l : List Row) (d : List Change) (S : Blk) (w : World) (h : Sl tRow.slice.slice w (fun k => k < w.heap.size) v (treeL l)) (hd : Sl tChange w S dv d) (he : rowsErr l = 0) (hdl : d.length ≤ 1000000) :
    Calls Try.prog 61 #[v, dv] w (Ret w fun r w' => ∃ x, r = .tuple #[x, .int .i64 (putsP l d).2] ∧ Sl tRow.slice.slice w' (fun k => w.heap.size ≤ k) x (putTree (putsP l d))) := by
  obtain ⟨ad, cd, rfl, hcd, hmd, _⟩ := hd.shape
  unfold maxLen at hmd
  have hdo := hd.old
  go_enter Try.func61, Try.ntmps61
  go_wp2_with fail
  go_loopw [0, 11] (fun tv i wr => ∃ (j : Nat) (L : List Row), j ≤ d.length ∧ i = .int .i64 j ∧ Below w.heap.size w wr ∧ Sl tRow.slice.slice wr (fun _ => True) tv (treeL L) ∧ Hid (rowsErr L = 0) ∧ Hid (putsP l d = putsP L (d.drop j))) (fun _ i _ => d.length - (intOf i).toNat)
  case atStart => exact ⟨0, l, Nat.zero_le _, rfl, Below.refl _ _, h.any, keepBack he, keepBack (by rw [List.drop_zero])⟩
  case round =>
    obtain ⟨j, L, hj, rfl, hb, ht, HEL, HPD⟩ := hrel
    have hs := hb.size
    have hL40 := (ok_rise HEL.out).1
    by_cases hlt : j < d.length
    · obtain ⟨x, hx⟩ : ∃ x, d[j]? = some x := ⟨d[j], List.getElem?_eq_getElem hlt⟩
      obtain ⟨b, o, hix, _, hbs, ok1, ok2, ok3, hc00, hc10, hc20⟩ := hdo.idxChgAt aChg j j x rfl hx
      have hc0 := (hb.cell (p := ⟨b, o, none⟩) hbs).trans hc00
      have hc1 := (hb.cell (p := ⟨b, o + 1, none⟩) hbs).trans hc10
      have hc2 := (hb.cell (p := ⟨b, o + 2, none⟩) hbs).trans hc20
      clear hc00 hc10 hc20
      have HX := keepBack hx
      clear hx
      cases hk : keyB x.1 with
      | false =>
        have HP := keepBack (show putsP l d = ([], 3) by rw [HPD.out]; exact putsP_stop HX.out (by rw [putP_bad1 HEL.out hk]) (by decide))
        go_wp2_with fail
        refine (rowsKey_of _ _ hk).mono ?_; rintro e w' ⟨rfl, rfl⟩
        go_wp2_with fail
        go_ret2
        rw [HP.out]
        exact ⟨_, rfl, ⟨_, rfl, Sl.nil _ _ _⟩, hb.alloc hs _⟩
      | true =>
        cases hv : valB x.2.2 with
        | false =>
          have HP := keepBack (show putsP l d = ([], 3) by rw [HPD.out]; exact putsP_stop HX.out (by rw [putP_bad2 HEL.out hv]) (by decide))
          go_wp2_with fail
          refine (rowsKey_of _ _ hk).mono ?_; rintro e w' ⟨rfl, rfl⟩
          go_wp2_with fail
          refine (rowsVal_of _ _ hv).mono ?_; rintro e w' ⟨rfl, rfl⟩
          go_wp2_with fail
          go_ret2
          rw [HP.out]
          exact ⟨_, rfl, ⟨_, rfl, Sl.nil _ _ _⟩, hb.alloc hs _⟩
        | true =>
          have HSP := keepBack (setL_put (ok_rise HEL.out).2 hk hv)
          go_wp2_with fail
          refine (rowsKey_of _ _ hk).mono ?_; rintro e w' ⟨rfl, rfl⟩
          go_wp2_with fail
          refine (rowsVal_of _ _ hv).mono ?_; rintro e w' ⟨rfl, rfl⟩
          go_wp2_with fail
          have hbA : Below wr.heap.size wr (wr.alloc (Obj.cells #[Value.int IntKind.i64 x.1, Value.int IntKind.i64 x.2.1, Value.int IntKind.i64 x.2.2] 42)) := (Below.refl _ _).alloc (Nat.le_refl _) _
          by_cases hm : 40 < (setL L x.1 x.2.2).length
          · have HP := keepBack (show putsP l d = ([], 2) by rw [HPD.out]; exact putsP_stop HX.out (by rw [putP_many HEL.out hk hv (by rw [← HSP.out]; exact hm)]) (by decide))
            refine (editPut _ L _ _ _ ((ht.call hbA).old) HEL.out hk hv).mono ?_; rintro e w2 ⟨_, rfl, r2, b2⟩
            rw [if_pos hm] at r2
            subst r2
            go_wp2_with fail
            go_ret2
            rw [HP.out]
            exact ⟨_, rfl, ⟨_, rfl, Sl.nil _ _ _⟩, (hb.trans (hbA.mono hs)).trans (b2.mono (by simp; omega))⟩
          · have HP := keepBack (show putsP l d = putsP (setL L x.1 x.2.2) (d.drop (j + 1)) by rw [HPD.out]; exact putsP_step HX.out (by rw [putP_ok HEL.out hk hv (by rw [← HSP.out]; exact hm), HSP.out]))
            have HEM : Hid (rowsErr (setL L x.1 x.2.2) = 0) := keepBack (rowsErr_zero (by omega) (by
              have hk' := hk
              have hv' := hv
              simp only [keyB, valB, Bool.and_eq_true, decide_eq_true_eq] at hk' hv'
              exact setL_rise (ok_rise HEL.out).2 (by omega) hk'.2 hv'.1 hv'.2))
            refine (editPut _ L _ _ _ ((ht.call hbA).old) HEL.out hk hv).mono ?_; rintro e w2 ⟨_, rfl, r2, b2⟩
            rw [if_neg hm] at r2
            obtain ⟨x2, rfl, hx2⟩ := r2
            go_wp2_with fail
            go_roundw
            case rel => exact ⟨j + 1, setL L x.1 x.2.2, by omega, by go_num, (hb.trans (hbA.mono hs)).trans (b2.mono (by simp; omega)), hx2, HEM, HP⟩
            case measure => simp [intOf]; omega
    · have HP := keepBack (show putsP l d = (L, 0) by rw [HPD.out]; exact putsP_end (by omega))
      go_wp2_with fail
      refine (editOwn _ (treeL L) _ wr ht (by have := treeL_len hL40; omega) (treeL_small hL40)).mono ?_; rintro e w2 ⟨r2, rfl, hr2, b2⟩
      go_wp2_with fail
      go_ret2
      rw [HP.out]
      exact ⟨_, rfl, ⟨_, rfl, hr2.mono fun k hk _ => by have hk' : wr.heap.size ≤ k := hk; exact Nat.le_trans hs hk'⟩, hb.trans (b2.mono hs)⟩

end Go.Pch

namespace Go.Pch
open Go.RowKit Go.Proofs
set_option maxRecDepth 100000

theorem oneChg (key val : Int) (w : World) (ok : i64ok key ∧ i64ok val) : Sl tChange (w.alloc (.cells #[.int .i64 key, .int .i64 0, .int .i64 val] 42)) (fun k => w.heap.size ≤ k) (.slice (some ⟨w.heap.size, 0, none⟩) 1 1) [(key, 0, val)] := by
  have hE : Each tChange w (fun _ => False) [[Value.int .i64 key, Value.int .i64 0, Value.int .i64 val]] [(key, 0, val)] := Each.one _ _ ⟨rfl, ok.1, ok_small (a := 0) (by decide), ok.2⟩
  have ho := Own.lit (E := tChange) (e := 42) (B := w.heap.size) hE rfl (by unfold maxLen; simp) (Nat.le_refl _)
  exact ho.sl (fun _ h => h.elim) (fun _ h => h)
theorem editP_bad {t : List (List (List Row))} {key val : Int} (h : treeErr t ≠ 0) : editP t key val = ([], treeErr t) := by rw [editP, if_neg h]
theorem editP_is {t : List (List (List Row))} {key val : Int} (h : treeErr t = 0) : editP t key val = (putTree (putsP (flatL t) [(key, 0, val)]), (putsP (flatL t) [(key, 0, val)]).2) := by
  rw [editP, if_pos h, putsP, putTree]
  by_cases h1 : (putP (flatL t) key val).2 = 0
  · simp [h1, putsP]
  · simp [h1]
theorem editsP_bad {t : List (List (List Row))} {d : List Change} (h : treeErr t ≠ 0) : editsP t d = ([], treeErr t) := by rw [editsP, if_neg h]
theorem editsP_many {t : List (List (List Row))} {d : List Change} (h : treeErr t = 0) (hd : 100 < d.length) : editsP t d = ([], 2) := by rw [editsP, if_pos h, if_pos hd]
theorem putsP_none : ∀ (l : List Row) (d : List Change), (putsP l d).2 ≠ 0 → (putsP l d).1 = []
  | l, [], h => absurd rfl h
  | l, x :: d, h => by
    rw [putsP] at h ⊢
    split
    · rename_i h1
      rw [if_pos h1] at h
      exact putsP_none _ d h
    · rfl
theorem editsP_is {t : List (List (List Row))} {d : List Change} (h : treeErr t = 0) (hd : ¬ 100 < d.length) : editsP t d = (putTree (putsP (flatL t) d), (putsP (flatL t) d).2) := by
  rw [editsP, if_pos h, if_neg hd, putTree]
  split
  · rename_i h1; rw [h1]
  · rfl

theorem treeCheck_is {c : Int} (v : Value) (t : List (List (List Row))) (S : Blk) (w : World) (h : Sl tRow.slice.slice w S v t) (hl : (flatL t).length ≤ 2000000) (hc : treeErr t = c) :
    Calls Try.prog 37 #[v] w (Ret w fun r _ => r = .int .i64 c) := hc ▸ treeCheck v t S w h hl

set_option maxHeartbeats 1000000 in
theorem editPutX (v : Value) (t : List (List (List Row))) (key val : Int) (S : Blk) (w : World) (h : Sl tRow.slice.slice w S v t) (hl : (flatL t).length ≤ 2000000) (ok : i64ok key ∧ i64ok val) :
    Calls Try.prog 31 #[v, .int .i64 key, .int .i64 val] w (Ret w fun r w' => ∃ x, r = .tuple #[x, .int .i64 (editP t key val).2] ∧ Sl tRow.slice.slice w' (fun k => w.heap.size ≤ k) x (editP t key val).1) := by
  by_cases he : treeErr t = 0
  · have HP := keepBack (editP_is (key := key) (val := val) he)
    have HT := treeErr_ok he
    go_enter Try.func31, Try.ntmps31
    go_wp2_with fail
    refine (treeCheck_is v t S w h hl he).mono ?_; rintro e w1 ⟨_, rfl, rfl, b1⟩
    have s1 := b1.size
    have h1 := (h.call b1).old
    rw [← HT.2] at h1
    have hbA : Below w1.heap.size w1 (w1.alloc (Obj.cells #[Value.int IntKind.i64 key, Value.int IntKind.i64 0, Value.int IntKind.i64 val] 42)) := (Below.refl _ _).alloc (Nat.le_refl _) _
    go_wp2_with fail
    refine (editEdits v _ (flatL t) [(key, 0, val)] _ _ ((h1.call hbA).old) (oneChg key val w1 ok) HT.1 (by simp)).mono ?_; rintro e w2 ⟨_, rfl, ⟨x, rfl, hx⟩, b2⟩
    go_wp2_with fail
    go_ret2
    exact ⟨_, rfl, ⟨_, by rw [HP.out]; rfl, by rw [HP.out]; exact hx.mono fun k hk _ => by have hk' : (w1.alloc (Obj.cells #[Value.int IntKind.i64 key, Value.int IntKind.i64 0, Value.int IntKind.i64 val] 42)).heap.size ≤ k := hk; simp at hk'; omega⟩, (b1.trans (hbA.mono s1)).trans (b2.mono (by simp; omega))⟩
  · have HP := keepBack (editP_bad (key := key) (val := val) he)
    have hq : (treeErr t != 0) = true := by simp [he]
    go_enter Try.func31, Try.ntmps31
    go_wp2_with fail
    refine (treeCheck v t S w h hl).mono ?_; rintro e w1 ⟨_, rfl, rfl, b1⟩
    go_wp2_with fail
    go_ret2
    exact ⟨_, rfl, ⟨_, by rw [HP.out]; rfl, by rw [HP.out]; exact Sl.nil _ _ _⟩, b1⟩

set_option maxHeartbeats 1000000 in
theorem editAllX (v dv : Value) (t : List (List (List Row))) (d : List Change) (S S' : Blk) (w : World) (h : Sl tRow.slice.slice w S v t) (hd : Sl tChange w S' dv d) (hl : (flatL t).length ≤ 2000000) :
    Calls Try.prog 34 #[v, dv] w (Ret w fun r w' => ∃ x, r = .tuple #[x, .int .i64 (editsP t d).2] ∧ Sl tRow.slice.slice w' (fun k => w.heap.size ≤ k) x (editsP t d).1) := by
  obtain ⟨ad, cd, rfl, _, _, _⟩ := hd.shape
  by_cases he : treeErr t = 0
  · have HT := treeErr_ok he
    by_cases hm : 100 < d.length
    · have HP := keepBack (editsP_many he hm)
      have hq : (100 : Int) < d.length := by omega
      go_enter Try.func34, Try.ntmps34
      go_wp2_with fail
      refine (treeCheck_is v t S w h hl he).mono ?_; rintro e w1 ⟨_, rfl, rfl, b1⟩
      go_wp2_with fail
      go_ret2
      exact ⟨_, rfl, ⟨_, by rw [HP.out]; rfl, by rw [HP.out]; exact Sl.nil _ _ _⟩, b1⟩
    · have HP := keepBack (editsP_is he hm)
      have hq : ¬ (100 : Int) < d.length := by omega
      go_enter Try.func34, Try.ntmps34
      go_wp2_with fail
      refine (treeCheck_is v t S w h hl he).mono ?_; rintro e w1 ⟨_, rfl, rfl, b1⟩
      have s1 := b1.size
      have h1 := (h.call b1).old
      rw [← HT.2] at h1
      go_wp2_with fail
      refine (editEdits v _ (flatL t) d _ _ h1 (hd.call b1) HT.1 (by omega)).mono ?_; rintro e w2 ⟨_, rfl, ⟨x, rfl, hx⟩, b2⟩
      go_wp2_with fail
      go_ret2
      exact ⟨_, rfl, ⟨_, by rw [HP.out]; rfl, by rw [HP.out]; exact hx.mono fun k hk _ => Nat.le_trans s1 hk⟩, b1.trans (b2.mono s1)⟩
  · have HP := keepBack (editsP_bad (d := d) he)
    have hq : (treeErr t != 0) = true := by simp [he]
    go_enter Try.func34, Try.ntmps34
    go_wp2_with fail
    refine (treeCheck v t S w h hl).mono ?_; rintro e w1 ⟨_, rfl, rfl, b1⟩
    go_wp2_with fail
    go_ret2
    exact ⟨_, rfl, ⟨_, by rw [HP.out]; rfl, by rw [HP.out]; exact Sl.nil _ _ _⟩, b1⟩

end Go.Pch

namespace Go.Pch
open Go.RowKit Go.Proofs
set_option maxRecDepth 100000

theorem putP_err {l : List Row} {key val : Int} (h : (putP l key val).2 ≠ 0) : putP l key val = ([], (putP l key val).2) := by
  unfold putP at h ⊢
  split
  · split
    · split
      · rfl
      · rename_i h1 h2 h3
        rw [if_pos h1, if_pos h2, if_neg h3] at h
        exact absurd rfl h
    · rfl
  · rfl
theorem putP_right {l : List Row} {key val : Int} (h : (putP l key val).2 = 0) : rowsErr (putP l key val).1 = 0 := by
  unfold putP at h ⊢
  by_cases he : rowsErr l = 0
  · rw [if_pos he] at h ⊢
    by_cases hk : (keyB key && valB val) = true
    · rw [if_pos hk] at h ⊢
      by_cases hm : 40 < (putL l key val).length
      · rw [if_pos hm] at h; cases h
      · rw [if_neg hm]
        simp only [Bool.and_eq_true] at hk
        have e := setL_put (ok_rise he).2 hk.1 hk.2
        refine rowsErr_zero (by show (putL l key val).length ≤ 40; omega) ?_
        show riseB (-1) (putL l key val) = true
        rw [← e]
        have h1 := hk.1
        have h2 := hk.2
        simp only [keyB, valB, Bool.and_eq_true, decide_eq_true_eq] at h1 h2
        exact setL_rise (ok_rise he).2 (by omega) h1.2 h2.1 h2.2
    · rw [if_neg hk] at h; cases h
  · rw [if_neg he] at h
    exact absurd h he
theorem editP_stop {t : List (List (List Row))} {key val : Int} (h : treeErr t = 0) (h1 : (putP (flatL t) key val).2 ≠ 0) : editP t key val = ([], (putP (flatL t) key val).2) := by rw [editP, if_pos h, if_neg h1]
theorem editP_ok {t : List (List (List Row))} {key val : Int} (h : treeErr t = 0) (h1 : (putP (flatL t) key val).2 = 0) : editP t key val = (treeL (putP (flatL t) key val).1, 0) := by rw [editP, if_pos h, if_pos h1]

set_option maxHeartbeats 1000000 in
theorem refEditOf (v : Value) (t : List (List (List Row))) (key val : Int) (S : Blk) (w : World) (h : Sl tRow.slice.slice w S v t) (hl : (flatL t).length ≤ 2000000) :
    Calls Try.prog 32 #[v, .int .i64 key, .int .i64 val] w (Ret w fun r w' => ∃ x, r = .tuple #[x, .int .i64 (editP t key val).2] ∧ Sl tRow.slice.slice w' (fun k => w.heap.size ≤ k) x (editP t key val).1) := by
  by_cases he : treeErr t = 0
  · have HT := treeErr_ok he
    by_cases h1 : (putP (flatL t) key val).2 = 0
    · have HP := keepBack (editP_ok he h1)
      have HR := putP_right h1
      go_enter Try.func32, Try.ntmps32
      go_wp2_with fail
      refine (refTreeError_of v t S w h hl he).mono ?_; rintro e w1 ⟨_, rfl, rfl, b1⟩
      have s1 := b1.size
      go_wp2_with fail
      refine (refRowsOf v t S w1 (h.call b1) hl).mono ?_; rintro e w2 ⟨vl, rfl, hv, b2⟩
      have b02 := b1.trans (b2.mono s1)
      have s2 := b02.size
      go_wp2_with fail
      refine (refPutOf vl (flatL t) key val _ w2 hv).mono ?_; rintro e w3 ⟨_, rfl, ⟨x, rfl, hx⟩, b3⟩
      have b03 := b02.trans (b3.mono s2)
      have s3 := b03.size
      rw [h1]
      go_wp2_with fail
      refine (refBuild x _ _ w3 hx HR).mono ?_; rintro e w4 ⟨y, rfl, hy, b4⟩
      go_wp2_with fail
      go_ret2
      exact ⟨_, rfl, ⟨_, by rw [HP.out]; rfl, by rw [HP.out]; exact hy.mono fun k hk _ => Nat.le_trans s3 hk⟩, b03.trans (b4.mono s3)⟩
    · have HP := keepBack (editP_stop he h1)
      have hq : ((putP (flatL t) key val).2 != 0) = true := by simp [h1]
      go_enter Try.func32, Try.ntmps32
      go_wp2_with fail
      refine (refTreeError_of v t S w h hl he).mono ?_; rintro e w1 ⟨_, rfl, rfl, b1⟩
      have s1 := b1.size
      go_wp2_with fail
      refine (refRowsOf v t S w1 (h.call b1) hl).mono ?_; rintro e w2 ⟨vl, rfl, hv, b2⟩
      have b02 := b1.trans (b2.mono s1)
      have s2 := b02.size
      go_wp2_with fail
      refine (refPutOf vl (flatL t) key val _ w2 hv).mono ?_; rintro e w3 ⟨_, rfl, ⟨x, rfl, hx⟩, b3⟩
      go_wp2_with fail
      go_ret2
      exact ⟨_, rfl, ⟨_, by rw [HP.out]; rfl, by rw [HP.out]; exact Sl.nil _ _ _⟩, b02.trans (b3.mono s2)⟩
  · have HP := keepBack (editP_bad (key := key) (val := val) he)
    have hq : (treeErr t != 0) = true := by simp [he]
    go_enter Try.func32, Try.ntmps32
    go_wp2_with fail
    refine (refTreeError v t S w h hl).mono ?_; rintro e w1 ⟨_, rfl, rfl, b1⟩
    go_wp2_with fail
    go_ret2
    exact ⟨_, rfl, ⟨_, by rw [HP.out]; rfl, by rw [HP.out]; exact Sl.nil _ _ _⟩, b1⟩

theorem putsP_go {L : List Row} {d : List Change} {j : Nat} {x : Change} (hx : d[j]? = some x) (h : (putP L x.1 x.2.2).2 = 0) : putsP L (d.drop j) = putsP (putP L x.1 x.2.2).1 (d.drop (j + 1)) :=
  putsP_step hx (by rw [← h])

set_option maxHeartbeats 2000000 in
theorem refEditAll (v dv : Value) (t : List (List (List Row))) (d : List Change) (S S' : Blk) (w : World) (h : Sl tRow.slice.slice w S v t) (hd : Sl tChange w S' dv d) (hl : (flatL t).length ≤ 2000000) :
    Calls Try.prog 35 #[v, dv] w (Ret w fun r w' => ∃ x, r = .tuple #[x, .int .i64 (editsP t d).2] ∧ Sl tRow.slice.slice w' (fun k => w.heap.size ≤ k) x (editsP t d).1) := by
  obtain ⟨ad, cd, rfl, _, _, _⟩ := hd.shape
  by_cases he : treeErr t = 0
  · have HT := treeErr_ok he
    by_cases hm : 100 < d.length
    · have HP := keepBack (editsP_many he hm)
      have hq : (100 : Int) < d.length := by omega
      go_enter Try.func35, Try.ntmps35
      go_wp2_with fail
      refine (refTreeError_of v t S w h hl he).mono ?_; rintro e w1 ⟨_, rfl, rfl, b1⟩
      go_wp2_with fail
      go_ret2
      exact ⟨_, rfl, ⟨_, by rw [HP.out]; rfl, by rw [HP.out]; exact Sl.nil _ _ _⟩, b1⟩
    · have HP := keepBack (editsP_is he hm)
      have hq : ¬ (100 : Int) < d.length := by omega
      go_enter Try.func35, Try.ntmps35
      go_wp2_with fail
      refine (refTreeError_of v t S w h hl he).mono ?_; rintro e w1 ⟨_, rfl, rfl, b1⟩
      have s1 := b1.size
      go_wp2_with fail
      refine (refRowsOf v t S w1 (h.call b1) hl).mono ?_; rintro e w2 ⟨vl, rfl, hv, b2⟩
      have b02 := b1.trans (b2.mono s1)
      have s2 := b02.size
      have hd2 := (hd.call b02).old
      go_wp2_with fail
      go_loopw [7, 8, 9, 10] (fun lv i _ _ wr => ∃ (j : Nat) (L : List Row), j ≤ d.length ∧ i = .int .i64 j ∧ Below w2.heap.size w2 wr ∧ Sl tRow wr (fun k => w.heap.size ≤ k) lv L ∧ Hid (rowsErr L = 0) ∧ Hid (putsP (flatL t) d = putsP L (d.drop j))) (fun _ i _ _ _ => d.length - (intOf i).toNat)
      case atStart => exact ⟨0, flatL t, Nat.zero_le _, rfl, Below.refl _ _, hv.mono fun k hk _ => Nat.le_trans s1 hk, keepBack HT.1, keepBack (by rw [List.drop_zero])⟩
      case round =>
        obtain ⟨j, L, hj, rfl, hb, hv2, HEL, HPD⟩ := hrel
        obtain ⟨lv, rfl⟩ : ∃ lv, lv = u7 := ⟨_, rfl⟩
        have hs := hb.size
        by_cases hlt : j < d.length
        · obtain ⟨x, hx⟩ : ∃ x, d[j]? = some x := ⟨d[j], List.getElem?_eq_getElem hlt⟩
          obtain ⟨b, o, hix, _, hbs, ok1, ok2, ok3, hc00, hc10, hc20⟩ := hd2.idxChgAt aChg j j x rfl hx
          have hc0 := (hb.cell (p := ⟨b, o, none⟩) hbs).trans hc00
          have hc1 := (hb.cell (p := ⟨b, o + 1, none⟩) hbs).trans hc10
          have hc2 := (hb.cell (p := ⟨b, o + 2, none⟩) hbs).trans hc20
          clear hc00 hc10 hc20
          have HX := keepBack hx
          clear hx
          have hvd : Sl tRow wr.drew (fun k => w.heap.size ≤ k) lv L := hv2.keep fun _ _ _ => rfl
          have hlb := hbs
          have hbw := Nat.lt_of_lt_of_le hbs hs
          have KS : ∀ W, Below wr.heap.size wr W → Below wr.heap.size wr W ∧ W.cell? ⟨b, o, none⟩ = some (.int .i64 x.1) ∧ W.cell? ⟨b, o + 2, none⟩ = some (.int .i64 x.2.2) := fun W hW => ⟨hW, (hW.cell (p := ⟨b, o, none⟩) hbw).trans hc0, (hW.cell (p := ⟨b, o + 2, none⟩) hbw).trans hc2⟩
          by_cases h1 : (putP L x.1 x.2.2).2 = 0
          · have HG := keepBack (HPD.out.trans (putsP_go HX.out h1))
            have HR := keepBack (putP_right h1)
            go_wp2_with fail
            go_region_held3 (fun w' => Below wr.heap.size wr w' ∧ w'.cell? ⟨b, o, none⟩ = some (.int .i64 x.1) ∧ w'.cell? ⟨b, o + 2, none⟩ = some (.int .i64 x.2.2))
              (first
                | exact KS _ (Below.refl _ _).drew
                | exact KS _ (Below.refl _ _)
                | exact KS _ (by assumption)
                | fail)
              (first
                | (go_at_call 62; refine (refPutOf _ L x.1 x.2.2 _ wr.drew hvd).mono ?_; rintro e w3 ⟨_, rfl, ⟨y, rfl, hy⟩, b3⟩; have b3' : Below wr.heap.size wr w3 := ((Below.refl wr.heap.size wr).drew).trans b3; rw [h1])
                | fail)
            go_wp2_with fail
            go_roundw
            case rel => exact ⟨j + 1, _, by omega, by go_num, hb.trans (b3'.mono hs), hy.mono fun k hk _ => by have hk' : wr.heap.size ≤ k := hk; omega, HR, HG⟩
            case measure => simp [intOf]; omega
          · have HG := keepBack (HPD.out.trans (putsP_stop HX.out rfl h1))
            have hq : ((putP L x.1 x.2.2).2 != 0) = true := by simp [h1]
            go_wp2_with fail
            go_region_held3 (fun w' => Below wr.heap.size wr w' ∧ w'.cell? ⟨b, o, none⟩ = some (.int .i64 x.1) ∧ w'.cell? ⟨b, o + 2, none⟩ = some (.int .i64 x.2.2))
              (first
                | exact KS _ (Below.refl _ _).drew
                | exact KS _ (Below.refl _ _)
                | exact KS _ (by assumption)
                | fail)
              (first
                | (go_at_call 62; refine (refPutOf _ L x.1 x.2.2 _ wr.drew hvd).mono ?_; rintro e w3 ⟨_, rfl, ⟨y, rfl, hy⟩, b3⟩; have b3' : Below wr.heap.size wr w3 := ((Below.refl wr.heap.size wr).drew).trans b3)
                | fail)
            go_wp2_with fail
            go_ret2
            refine ⟨_, rfl, ⟨_, by rw [HP.out, HG.out]; rfl, ?_⟩, b02.trans ((hb.trans (b3'.mono hs)).mono s2)⟩
            rw [HP.out, HG.out]
            show Sl _ _ _ _ (putTree ([], _))
            rw [putTree, if_neg h1]
            exact Sl.nil _ _ _
        · have HG := keepBack (HPD.out.trans (putsP_end (by omega)))
          go_wp2_with fail
          refine (refBuild _ L _ wr hv2 HEL.out).mono ?_; rintro e w4 ⟨y, rfl, hy, b4⟩
          go_wp2_with fail
          go_ret2
          refine ⟨_, rfl, ⟨_, by rw [HP.out, HG.out]; rfl, ?_⟩, b02.trans ((hb.trans (b4.mono hs)).mono s2)⟩
          rw [HP.out, HG.out]
          exact hy.mono fun k hk _ => by have hk' : wr.heap.size ≤ k := hk; omega
  · have HP := keepBack (editsP_bad (d := d) he)
    have hq : (treeErr t != 0) = true := by simp [he]
    go_enter Try.func35, Try.ntmps35
    go_wp2_with fail
    refine (refTreeError v t S w h hl).mono ?_; rintro e w1 ⟨_, rfl, rfl, b1⟩
    go_wp2_with fail
    go_ret2
    exact ⟨_, rfl, ⟨_, by rw [HP.out]; rfl, by rw [HP.out]; exact Sl.nil _ _ _⟩, b1⟩

end Go.Pch

namespace Go.Pch
open Go.RowKit Go.Proofs
set_option maxRecDepth 100000

theorem edit_tree {l : List Row} (h : rowsErr l = 0) (key val : Int) : editP (treeL l) key val = if (putP l key val).2 = 0 then (treeL (putP l key val).1, 0) else ([], (putP l key val).2) := by rw [editP, if_pos (treeErr_of (by rw [flat_tree]; exact h) (by rw [flat_tree])), flat_tree]
theorem edit_ok {l m : List Row} {key val : Int} (h : rowsErr l = 0) (hp : putP l key val = (m, 0)) : editP (treeL l) key val = (treeL m, 0) := by rw [edit_tree h, hp, if_pos rfl]
theorem edit_no {l : List Row} {key val : Int} {e : Int} (h : rowsErr l = 0) (hp : putP l key val = ([], e)) (he : e ≠ 0) : editP (treeL l) key val = ([], e) := by rw [edit_tree h, hp, if_neg he]
theorem rows_tree {l : List Row} (h : rowsErr l = 0) : treeRows (treeL l) = (l, 0) := by rw [treeRows, if_pos (treeErr_of (by rw [flat_tree]; exact h) (by rw [flat_tree])), flat_tree]
theorem editPut_is {c : List (List (List Row)) × Int} (v : Value) (t : List (List (List Row))) (key val : Int) (S : Blk) (w : World) (h : Sl tRow.slice.slice w S v t) (hl : (flatL t).length ≤ 2000000) (ok : i64ok key ∧ i64ok val) (hc : editP t key val = c) :
    Calls Try.prog 31 #[v, .int .i64 key, .int .i64 val] w (Ret w fun r w' => ∃ x, r = .tuple #[x, .int .i64 c.2] ∧ Sl tRow.slice.slice w' (fun k => w.heap.size ≤ k) x c.1) := hc ▸ editPutX v t key val S w h hl ok
theorem editAll_is {c : List (List (List Row)) × Int} (v dv : Value) (t : List (List (List Row))) (d : List Change) (S S' : Blk) (w : World) (h : Sl tRow.slice.slice w S v t) (hd : Sl tChange w S' dv d) (hl : (flatL t).length ≤ 2000000) (hc : editsP t d = c) :
    Calls Try.prog 34 #[v, dv] w (Ret w fun r w' => ∃ x, r = .tuple #[x, .int .i64 c.2] ∧ Sl tRow.slice.slice w' (fun k => w.heap.size ≤ k) x c.1) := hc ▸ editAllX v dv t d S S' w h hd hl
theorem treeRows_is {c : List Row × Int} (v : Value) (t : List (List (List Row))) (S : Blk) (w : World) (h : Sl tRow.slice.slice w S v t) (hl : (flatL t).length ≤ 2000000) (hc : treeRows t = c) :
    Calls Try.prog 65 #[v] w (Ret w fun r w' => ∃ x, r = .tuple #[x, .int .i64 c.2] ∧ Sl tRow w' (fun k => w.heap.size ≤ k) x c.1) := hc ▸ treeRowsC v t S w h hl

def many13 : List Row := [(0, 0), (3, 1), (6, 2), (9, 3), (10, 500), (12, 4), (15, 5), (18, 6), (21, 7), (24, 8), (27, 9), (30, 10), (33, 11)]
theorem put13 : putP (manyL 12) 10 500 = (many13, 0) := by decide
theorem put12 : putP many13 10 (-1) = (manyL 12, 0) := by decide
theorem putNo : putP (manyL 12) 10 997 = ([], 3) := by decide
theorem puts5 : editsP [] [(5, 0, 1), (5, 0, 2), (6, 0, -1)] = (treeL [(5, 2)], 0) := by
  rw [editsP_is (by decide) (by decide)]
  have : putsP (flatL []) [(5, 0, 1), (5, 0, 2), (6, 0, -1)] = ([(5, 2)], 0) := by decide
  rw [this]
  rfl
theorem ok12 : rowsErr (manyL 12) = 0 := by decide
theorem ok13 : rowsErr many13 = 0 := by decide

set_option maxHeartbeats 4000000 in
theorem editBegun (w : World) : Calls Try.prog 33 #[] w (Ret w fun r _ => r = .bool true) := by
  go_enter Try.func33, Try.ntmps33
  go_wp2_with fail
  refine (lawMany _).mono ?_; rintro e w1 ⟨v1, rfl, h1, b1⟩
  have s1 := b1.size
  go_wp2_with fail
  refine (treeBuildOk v1 _ w1 h1 ok12).mono ?_; rintro e w2 ⟨_, rfl, ⟨x2, rfl, h2⟩, b2⟩
  have b02 := b1.trans (b2.mono s1)
  have s2 := b02.size
  go_wp2_with fail
  refine (editPut_is x2 _ 10 500 _ w2 h2 (small_tree ok12) ⟨ok_small (by decide), ok_small (by decide)⟩ (edit_ok ok12 put13)).mono ?_; rintro e w3 ⟨_, rfl, ⟨x3, rfl, h3⟩, b3⟩
  have b03 := b02.trans (b3.mono s2)
  have s3 := b03.size
  have h23 := h2.call b3
  clear h1 h2
  go_wp2_with fail
  refine (editPut_is x3 _ 10 (-1) _ w3 h3 (small_tree ok13) ⟨ok_small (by decide), ok_small (by decide)⟩ (edit_ok ok13 put12)).mono ?_; rintro e w4 ⟨_, rfl, ⟨x4, rfl, h4⟩, b4⟩
  have b04 := b03.trans (b4.mono s3)
  have s4 := b04.size
  have h24 := h23.call b4
  have h34 := h3.call b4
  clear h23 h3
  go_wp2_with fail
  refine (editAll_is _ _ [] _ _ _ _ (Sl.nil _ _ (fun _ => False)) (chgsLit w4 [(5, 0, 1), (5, 0, 2), (6, 0, -1)] (by decide) (by decide)) (by decide) puts5).mono ?_; rintro e w5 ⟨_, rfl, ⟨x5, rfl, h5⟩, b5⟩
  have b45 := ((Below.refl w4.heap.size w4).alloc (Nat.le_refl _) _).trans (b5.mono (by simp))
  have b05 := b04.trans (b45.mono s4)
  have s5 := b05.size
  have h25 := h24.call b45
  have h35 := h34.call b45
  have h45 := h4.call b45
  clear h24 h34 h4 b5 b45
  go_wp2_with fail
  refine (editPut_is x2 _ 10 997 _ w5 h25 (small_tree ok12) ⟨ok_small (by decide), ok_small (by decide)⟩ (edit_no ok12 putNo (by decide))).mono ?_; rintro e w6 ⟨_, rfl, ⟨x6, rfl, _⟩, b6⟩
  have b06 := b05.trans (b6.mono s5)
  have s6 := b06.size
  have h26 := h25.call b6
  have h36 := h35.call b6
  have h46 := h45.call b6
  have h56 := h5.call b6
  clear h25 h35 h45 h5
  go_wp2_with fail
  refine (treeRows_is x3 _ _ w6 h36 (small_tree ok13) (rows_tree ok13)).mono ?_; rintro e w7 ⟨_, rfl, ⟨x7, rfl, h7⟩, b7⟩
  have b07 := b06.trans (b7.mono s6)
  have s7 := b07.size
  have h27 := h26.call b7
  have h47 := h46.call b7
  have h57 := h56.call b7
  clear h26 h36 h46 h56
  go_wp2_with fail
  refine (treeRows_is x5 _ _ w7 h57 (small_tree (by decide)) (rows_tree (by decide))).mono ?_; rintro e w8 ⟨_, rfl, ⟨x8, rfl, h8⟩, b8⟩
  have b08 := b07.trans (b8.mono s7)
  have s8 := b08.size
  have h28 := h27.call b8
  have h48 := h47.call b8
  have h78 := h7.call b8
  clear h27 h47 h57 h7
  obtain ⟨a7, c7, rfl, _, _, _⟩ := h78.shapeAt 13 rfl
  go_wp2_with fail
  refine (refSameTrees_of (c := true) x4 x2 _ _ _ _ w8 h48 h28 (by simp)).mono ?_; rintro e w9 ⟨rfl, d9⟩
  have b09 := b08.trans (d9.below.mono s8)
  have s9 := b09.size
  have h89 := h8.call d9.below
  clear h28 h48 h78 h8
  go_wp2_with fail
  refine (refSameRows_of x8 _ _ _ _ _ _ (h89.call ((Below.refl _ _).alloc (Nat.le_refl _) _)) (rowsLit w9 [(5, 2)] (by decide) (by decide)) (c := true) (by decide)).mono ?_; rintro e w10 ⟨rfl, d10⟩
  go_wp2
  go_ret
  exact ⟨_, rfl, rfl, (b09.alloc s9 _).trans (d10.below.mono (by simp; omega))⟩

end Go.Pch

namespace Go.Pch

/-! ### The plain law -/
theorem putP_inv {l X : List Row} {key val : Int} (h : putP l key val = (X, 0)) : rowsErr l = 0 ∧ keyB key = true ∧ valB val = true ∧ X = putL l key val ∧ X.length ≤ 40 := by
  unfold putP at h
  split at h
  · rename_i he
    split at h
    · rename_i hkv
      simp only [Bool.and_eq_true] at hkv
      split at h
      · simp at h
      · rename_i hm
        simp only [Prod.mk.injEq, and_true] at h
        exact ⟨he, hkv.1, hkv.2, h.symm, by rw [← h]; omega⟩
    · simp at h
  · rename_i he
    simp only [Prod.mk.injEq] at h
    exact absurd h.2 he
theorem putL_rise {l : List Row} {key val : Int} (h : riseB (-1) l = true) (hv : valB val = true) : riseB (-1) (putL l key val) = true := by
  refine folded_rise _ fun k => ?_
  simp only [valB, Bool.and_eq_true, decide_eq_true_eq] at hv
  split
  · exact hv
  · exact valueOf_bounds h k
theorem putL_value {l : List Row} {key val : Int} (k : Int) (h0 : 0 ≤ k) (h1 : k ≤ 99) : valueOf (putL l key val) k = if k = key then val else valueOf l k := folded_value _ k h0 h1
theorem putL_eq {l m : List Row} {a b u v : Int} (hl : riseB (-1) l = true) (hm : riseB (-1) m = true) (hu : valB u = true) (hv : valB v = true)
    (h : ∀ k, 0 ≤ k → k ≤ 99 → (if k = a then u else valueOf l k) = if k = b then v else valueOf m k) : putL l a u = putL m b v :=
  rows_ext (putL_rise hl hu) (putL_rise hm hv) fun k h0 h1 => by rw [putL_value k (by omega) h1, putL_value k (by omega) h1]; exact h k (by omega) h1
theorem valB_value {l : List Row} (h : riseB (-1) l = true) (k : Int) : valB (valueOf l k) = true := by
  have := valueOf_bounds h k
  simp only [valB, Bool.and_eq_true, decide_eq_true_eq]
  exact this
theorem putL_back {l : List Row} {a u : Int} (hl : riseB (-1) l = true) (hu : valB u = true) : putL (putL l a u) a (valueOf l a) = l :=
  rows_ext (putL_rise (putL_rise hl hu) (valB_value hl a)) hl fun k h0 h1 => by
    rw [putL_value k (by omega) h1]
    by_cases hk : k = a
    · rw [if_pos hk, hk]
    · rw [if_neg hk, putL_value k (by omega) h1, if_neg hk]
theorem putL_swap {l : List Row} {a u b v : Int} (hl : riseB (-1) l = true) (hu : valB u = true) (hv : valB v = true) (hab : a ≠ b) : putL (putL l a u) b v = putL (putL l b v) a u :=
  putL_eq (putL_rise hl hu) (putL_rise hl hv) hv hu fun k h0 h1 => by
    rw [putL_value k h0 h1, putL_value k h0 h1]
    by_cases hka : k = a
    · rw [if_neg (by omega), if_pos hka, if_pos hka]
    · by_cases hkb : k = b
      · rw [if_pos hkb, if_neg hka, if_pos hkb]
      · rw [if_neg hkb, if_neg hka, if_neg hka, if_neg hkb]

theorem rows_true {l X Y : List Row} {a u b v : Int} (hx : putP l a u = (X, 0)) (hy : putP l b v = (Y, 0)) :
    findP l a = (valueOf l a, 0) ∧ findP X a = (u, 0) ∧ findP l b = (valueOf l b, 0) ∧ (∃ t, findP X b = (t, 0) ∧ (a ≠ b → t = valueOf l b)) ∧ putP X a (valueOf l a) = (l, 0) ∧ (a ≠ b → putP X b v = putP Y a u) ∧ i64ok (valueOf l a) := by
  obtain ⟨he, ka, vu, rfl, hxl⟩ := putP_inv hx
  obtain ⟨_, kb, vv, rfl, hyl⟩ := putP_inv hy
  obtain ⟨h40, hrs⟩ := ok_rise he
  have hX := rowsErr_zero hxl (putL_rise hrs vu)
  have hY := rowsErr_zero hyl (putL_rise hrs vv)
  have ka' : 0 ≤ a ∧ a ≤ 99 := by simpa [keyB] using ka
  have kb' : 0 ≤ b ∧ b ≤ 99 := by simpa [keyB] using kb
  have hbd := valueOf_bounds hrs a
  refine ⟨by rw [findP, if_pos he, if_pos ka], ?_, by rw [findP, if_pos he, if_pos kb], ⟨valueOf (putL l a u) b, by rw [findP, if_pos hX, if_pos kb], fun hab => ?_⟩, ?_, fun hab => ?_, ⟨by omega, by omega⟩⟩
  · rw [findP, if_pos hX, if_pos ka, putL_value a ka'.1 ka'.2, if_pos rfl]
  · rw [putL_value b kb'.1 kb'.2, if_neg (by omega)]
  · have hb := putL_back (a := a) hrs vu
    rw [putP, if_pos hX, if_pos (by simp [ka, valB_value hrs a]), hb, if_neg (by omega)]
  · have hs := putL_swap hrs vu vv hab
    have e1 : putP (putL l a u) b v = if 40 < (putL (putL l a u) b v).length then ([], 2) else (putL (putL l a u) b v, 0) := by rw [putP, if_pos hX, if_pos (by simp [kb, vv])]
    have e2 : putP (putL l b v) a u = if 40 < (putL (putL l b v) a u).length then ([], 2) else (putL (putL l b v) a u, 0) := by rw [putP, if_pos hY, if_pos (by simp [ka, vu])]
    rw [e1, e2, hs]


end Go.Pch

namespace Go.Pch
open Go.RowKit Go.Proofs
set_option maxRecDepth 100000

theorem lawEditPuts (v : Value) (t : List (List (List Row))) (key val : Int) (w : World) (h : Sl tRow.slice.slice w (fun _ => True) v t) (hk : i64ok key) (hv : i64ok val) (hl : (flatL t).length ≤ 2000000) :
    Calls Try.prog 10 #[v, .int .i64 key, .int .i64 val] w (Ret w fun r _ => r = .bool true) := by
  go_enter Try.func10, Try.ntmps10
  go_wp2_with fail
  refine (editPutX v t key val _ w h hl ⟨hk, hv⟩).mono ?_; rintro e w1 ⟨_, rfl, ⟨x1, rfl, h1⟩, b1⟩
  have s1 := b1.size
  go_wp2_with fail
  refine (refEditOf v t key val _ w1 (h.call b1) hl).mono ?_; rintro e w2 ⟨_, rfl, ⟨x2, rfl, h2⟩, b2⟩
  have b02 := b1.trans (b2.mono s1)
  have s2 := b2.size
  generalize editP t key val = p at *
  go_wp2_with fail
  refine (editBegun w2).mono ?_; rintro e w3 ⟨_, rfl, rfl, b3⟩
  have s3 := b3.size
  go_wp2_with fail
  refine (refSameTrees_of (c := true) x1 x2 _ _ _ _ w3 ((h1.call b2).call b3) (h2.call b3) (by simp)).mono ?_; rintro e w4 ⟨rfl, d4⟩
  go_wp2
  go_ret
  exact ⟨_, rfl, rfl, (b02.trans (b3.mono (by omega))).trans (d4.below.mono (by omega))⟩

theorem lawEditAlls (v : Value) (t : List (List (List Row))) (dv : Value) (d : List Change) (w : World) (h : Sl tRow.slice.slice w (fun _ => True) v t) (hd : Sl tChange w (fun _ => True) dv d) (hl : (flatL t).length ≤ 2000000) :
    Calls Try.prog 11 #[v, dv] w (Ret w fun r _ => r = .bool true) := by
  go_enter Try.func11, Try.ntmps11
  go_wp2_with fail
  refine (editAllX v dv t d _ _ w h hd hl).mono ?_; rintro e w1 ⟨_, rfl, ⟨x1, rfl, h1⟩, b1⟩
  have s1 := b1.size
  go_wp2_with fail
  refine (refEditAll v dv t d _ _ w1 (h.call b1) (hd.call b1) hl).mono ?_; rintro e w2 ⟨_, rfl, ⟨x2, rfl, h2⟩, b2⟩
  have b02 := b1.trans (b2.mono s1)
  have s2 := b2.size
  generalize editsP t d = p at *
  go_wp2_with fail
  refine (editBegun w2).mono ?_; rintro e w3 ⟨_, rfl, rfl, b3⟩
  have s3 := b3.size
  go_wp2_with fail
  refine (refSameTrees_of (c := true) x1 x2 _ _ _ _ w3 ((h1.call b2).call b3) (h2.call b3) (by simp)).mono ?_; rintro e w4 ⟨rfl, d4⟩
  go_wp2
  go_ret
  exact ⟨_, rfl, rfl, (b02.trans (b3.mono (by omega))).trans (d4.below.mono (by omega))⟩

theorem treeBuild_is {c : List (List (List Row)) × Int} (v : Value) (l : List Row) (S : Blk) (w : World) (h : Sl tRow w S v l) (hc : buildP l = c) :
    Calls Try.prog 21 #[v] w (Ret w fun r w' => ∃ x, r = .tuple #[x, .int .i64 c.2] ∧ Sl tRow.slice.slice w' (fun k => w.heap.size ≤ k) x c.1) := hc ▸ treeBuild v l S w h
theorem buildP_right {l : List Row} (h : rowsErr l = 0) : buildP l = (treeL l, 0) := by rw [buildP, if_pos h]
theorem buildP_wrong {l : List Row} (h : rowsErr l ≠ 0) : buildP l = ([], rowsErr l) := by rw [buildP, if_neg h]
theorem treeErr_right {l : List Row} (h : rowsErr l = 0) : treeErr (treeL l) = 0 := treeErr_of (by rw [flat_tree]; exact h) (by rw [flat_tree])
theorem rowsPut_is {c : List Row × Int} (v : Value) (l : List Row) (key val : Int) (S : Blk) (w : World) (h : Sl tRow w S v l) (ok : i64ok key ∧ i64ok val) (hc : putP l key val = c) :
    Calls Try.prog 36 #[v, .int .i64 key, .int .i64 val] w (Ret w fun r w' => ∃ x, r = .tuple #[x, .int .i64 c.2] ∧ Sl tRow w' (fun k => w.heap.size ≤ k) x c.1) := hc ▸ rowsPut v l key val S w h ok

set_option maxHeartbeats 2000000 in
theorem lawEditSame (v : Value) (l : List Row) (key val : Int) (w : World) (h : Sl tRow w (fun _ => True) v l) (hk : i64ok key) (hv : i64ok val) :
    Calls Try.prog 13 #[v, .int .i64 key, .int .i64 val] w (Ret w fun r _ => r = .bool true) := by
  by_cases he : rowsErr l = 0
  · by_cases hp : (putP l key val).2 = 0
    · obtain ⟨M, hM⟩ : ∃ M, putP l key val = (M, 0) := ⟨(putP l key val).1, Prod.ext rfl hp⟩
      have hrM : rowsErr M = 0 := by have := putP_right hp; rw [hM] at this; exact this
      clear hp
      go_enter Try.func13, Try.ntmps13
      go_wp2_with fail
      refine (treeBuild_is v l _ w h (buildP_right he)).mono ?_; rintro e w1 ⟨_, rfl, ⟨x1, rfl, h1⟩, b1⟩
      have s1 := b1.size
      go_wp2_with fail
      refine (editPut_is x1 _ key val _ w1 h1 (small_tree he) ⟨hk, hv⟩ (edit_ok he hM)).mono ?_; rintro e w2 ⟨_, rfl, ⟨x2, rfl, h2⟩, b2⟩
      have b02 := b1.trans (b2.mono s1)
      have s2 := b02.size
      go_wp2_with fail
      refine (rowsPut_is v l key val _ w2 (h.call b02) ⟨hk, hv⟩ hM).mono ?_; rintro e w3 ⟨_, rfl, ⟨x3, rfl, h3⟩, b3⟩
      have b03 := b02.trans (b3.mono s2)
      have s3 := b03.size
      have h23 := h2.call b3
      clear h1 h2
      go_wp2_with fail
      refine (treeBuild_is x3 M _ w3 h3 (buildP_right hrM)).mono ?_; rintro e w4 ⟨_, rfl, ⟨x4, rfl, h4⟩, b4⟩
      have b04 := b03.trans (b4.mono s3)
      have s4 := b04.size
      have h24 := h23.call b4
      clear h23 h3
      go_wp2_with fail
      refine (editBegun w4).mono ?_; rintro e w5 ⟨_, rfl, rfl, b5⟩
      have b05 := b04.trans (b5.mono s4)
      have s5 := b05.size
      have h25 := h24.call b5
      have h45 := h4.call b5
      clear h24 h4
      go_wp2_with fail
      refine (refSameTrees_of (c := true) x2 x4 _ _ _ _ w5 h25 h45 (by simp)).mono ?_; rintro e w6 ⟨rfl, d6⟩
      have b06 := b05.trans (d6.below.mono s5)
      go_wp2_with fail
      refine (treeCheck_is x2 _ _ w6 (h25.call d6.below) (small_tree hrM) (treeErr_right hrM)).mono ?_; rintro e w7 ⟨_, rfl, rfl, b7⟩
      go_wp2
      go_ret
      exact ⟨_, rfl, rfl, b06.trans (b7.mono b06.size)⟩
    · have hM := putP_err hp
      have hq : ((putP l key val).2 != 0) = true := by simp [hp]
      have hE := edit_no he hM hp
      generalize (putP l key val).2 = E at *
      go_enter Try.func13, Try.ntmps13
      go_wp2_with fail
      refine (treeBuild_is v l _ w h (buildP_right he)).mono ?_; rintro e w1 ⟨_, rfl, ⟨x1, rfl, h1⟩, b1⟩
      have s1 := b1.size
      go_wp2_with fail
      refine (editPut_is x1 _ key val _ w1 h1 (small_tree he) ⟨hk, hv⟩ hE).mono ?_; rintro e w2 ⟨_, rfl, ⟨x2, rfl, h2⟩, b2⟩
      have b02 := b1.trans (b2.mono s1)
      have s2 := b02.size
      go_wp2_with fail
      refine (rowsPut_is v l key val _ w2 (h.call b02) ⟨hk, hv⟩ hM).mono ?_; rintro e w3 ⟨_, rfl, ⟨x3, rfl, h3⟩, b3⟩
      have b03 := b02.trans (b3.mono s2)
      have s3 := b03.size
      go_wp2_with fail
      refine (editBegun w3).mono ?_; rintro e w4 ⟨_, rfl, rfl, b4⟩
      go_wp2
      go_ret
      exact ⟨_, rfl, rfl, b03.trans (b4.mono s3)⟩
  · have hq : (rowsErr l != 0) = true := by simp [he]
    go_enter Try.func13, Try.ntmps13
    go_wp2_with fail
    refine (treeBuild_is v l _ w h (buildP_wrong he)).mono ?_; rintro e w1 ⟨_, rfl, ⟨x1, rfl, h1⟩, b1⟩
    have s1 := b1.size
    go_wp2_with fail
    refine (editBegun w1).mono ?_; rintro e w4 ⟨_, rfl, rfl, b4⟩
    go_wp2
    go_ret
    exact ⟨_, rfl, rfl, b1.trans (b4.mono s1)⟩

theorem rowsFind_is {c : Int × Int} (v : Value) (l : List Row) (key : Int) (S : Blk) (w : World) (h : Sl tRow w S v l) (hc : findP l key = c) :
    Calls Try.prog 20 #[v, .int .i64 key] w (Ret w fun r _ => r = .tuple #[.int .i64 c.1, .int .i64 c.2]) := hc ▸ rowsFind v l key S w h

set_option maxHeartbeats 4000000 in
theorem lawEditOrder (vl : Value) (l : List Row) (a u b v : Int) (w : World) (h : Sl tRow w (fun _ => True) vl l) (ha : i64ok a) (hu : i64ok u) (hb : i64ok b) (hv : i64ok v) :
    Calls Try.prog 12 #[vl, .int .i64 a, .int .i64 u, .int .i64 b, .int .i64 v] w (Ret w fun r _ => r = .bool true) := by
  by_cases he : rowsErr l = 0
  · have hbP := buildP_right he
    have hst := small_tree he
    by_cases hx0 : (putP l a u).2 = 0
    · by_cases hy0 : (putP l b v).2 = 0
      · obtain ⟨X, hX⟩ : ∃ X, putP l a u = (X, 0) := ⟨(putP l a u).1, Prod.ext rfl hx0⟩
        obtain ⟨Y, hY⟩ : ∃ Y, putP l b v = (Y, 0) := ⟨(putP l b v).1, Prod.ext rfl hy0⟩
        obtain ⟨f1, f2, f3, ⟨t, f4, f5⟩, f6, f7, f8⟩ := rows_true hX hY
        have hrX : rowsErr X = 0 := by have := putP_right hx0; rw [hX] at this; exact this
        have hrY : rowsErr Y = 0 := by have := putP_right hy0; rw [hY] at this; exact this
        have hEX := edit_ok he hX
        have hEY := edit_ok he hY
        have hEB := edit_ok hrX f6
        have hsX := small_tree hrX
        have hsY := small_tree hrY
        obtain ⟨pz, hpz⟩ : ∃ p, editP (treeL X) b v = p := ⟨_, rfl⟩
        obtain ⟨pw, hpw⟩ : ∃ p, editP (treeL Y) a u = p := ⟨_, rfl⟩
        have F7 : Hid (a ≠ b → pz = pw) := keepBack fun hab => by rw [← hpz, ← hpw, edit_tree hrX, edit_tree hrY, f7 hab]
        generalize valueOf l a = was at *
        clear hx0 hy0 f2 f3 f4 f5 f6 f7
        go_enter Try.func12, Try.ntmps12
        go_wp2_with fail
        refine (treeBuild_is vl l _ w h hbP).mono ?_; rintro e w1 ⟨_, rfl, ⟨x1, rfl, h1⟩, b1⟩
        have s1 := b1.size
        go_wp2_with fail
        refine (editPut_is x1 _ a u _ w1 h1 hst ⟨ha, hu⟩ hEX).mono ?_; rintro e w2 ⟨_, rfl, ⟨x2, rfl, h2⟩, b2⟩
        have b02 := b1.trans (b2.mono s1)
        have s2 := b02.size
        have h12 := h1.call b2
        go_wp2_with fail
        refine (editPut_is x1 _ b v _ w2 h12 hst ⟨hb, hv⟩ hEY).mono ?_; rintro e w3 ⟨_, rfl, ⟨x3, rfl, h3⟩, b3⟩
        have b03 := b02.trans (b3.mono s2)
        have s3 := b03.size
        have h13 := h12.call b3
        have h23 := h2.call b3
        clear h1 h12 h2
        go_wp2_with fail
        refine (rowsFind_is vl l a _ w3 (h.call b03) f1).mono ?_; rintro e w4 ⟨_, rfl, rfl, b4⟩
        have b04 := b03.trans (b4.mono s3)
        have s4 := b04.size
        have h14 := h13.call b4
        have h24 := h23.call b4
        have h34 := h3.call b4
        clear h13 h23 h3
        go_wp2_with fail
        refine (editPut_is x2 _ a was _ w4 h24 hsX ⟨ha, f8⟩ hEB).mono ?_; rintro e w5 ⟨_, rfl, ⟨x5, rfl, h5⟩, b5⟩
        have b05 := b04.trans (b5.mono s4)
        have s5 := b05.size
        have h15 := h14.call b5
        have h25 := h24.call b5
        have h35 := h34.call b5
        clear h14 h24 h34
        go_wp2_with fail
        refine (editPut_is x2 _ b v _ w5 h25 hsX ⟨hb, hv⟩ hpz).mono ?_; rintro e w6 ⟨_, rfl, ⟨x6, rfl, h6⟩, b6⟩
        have b06 := b05.trans (b6.mono s5)
        have s6 := b06.size
        have h16 := h15.call b6
        have h36 := h35.call b6
        have h56 := h5.call b6
        clear h15 h25 h35 h5
        go_wp2_with fail
        refine (editPut_is x3 _ a u _ w6 h36 hsY ⟨ha, hu⟩ hpw).mono ?_; rintro e w7 ⟨_, rfl, ⟨x7, rfl, h7⟩, b7⟩
        have b07 := b06.trans (b7.mono s6)
        have s7 := b07.size
        have h17 := h16.call b7
        have h57 := h56.call b7
        have h67 := h6.call b7
        clear h16 h36 h56 h6 hpz hpw
        go_wp2_with fail
        refine (editBegun w7).mono ?_; rintro e w8 ⟨_, rfl, rfl, b8⟩
        have b08 := b07.trans (b8.mono s7)
        have s8 := b08.size
        have h18 := h17.call b8
        have h58 := h57.call b8
        have h68 := h67.call b8
        have h78 := h7.call b8
        clear h17 h57 h67 h7
        go_wp2_with fail
        refine (refSameTrees_of (c := true) x5 x1 _ _ _ _ w8 h58 h18 (by simp)).mono ?_; rintro e w9 ⟨rfl, d9⟩
        have b09 := b08.trans (d9.below.mono s8)
        have s9 := b09.size
        by_cases hab : a = b
        · have hq : (a == b) = true := by simp [hab]
          clear F7
          go_wp2
          go_ret
          exact ⟨_, rfl, rfl, b09⟩
        · have hq : (a == b) = false := by simp [hab]
          have hpp := F7.out hab
          subst hpp
          go_wp2_with fail
          refine (refSameTrees_of (c := true) x6 x7 _ _ _ _ w9 (h68.call d9.below) (h78.call d9.below) (by simp)).mono ?_; rintro e w10 ⟨rfl, d10⟩
          go_wp2
          go_ret
          exact ⟨_, rfl, rfl, b09.trans (d10.below.mono s9)⟩
      · obtain ⟨X, hX⟩ : ∃ X, putP l a u = (X, 0) := ⟨(putP l a u).1, Prod.ext rfl hx0⟩
        have hEX := edit_ok he hX
        have hEY := edit_no he (putP_err hy0) hy0
        have hq : ((putP l b v).2 != 0) = true := by simp [hy0]
        generalize (putP l b v).2 = E at *
        go_enter Try.func12, Try.ntmps12
        go_wp2_with fail
        refine (treeBuild_is vl l _ w h hbP).mono ?_; rintro e w1 ⟨_, rfl, ⟨x1, rfl, h1⟩, b1⟩
        have s1 := b1.size
        go_wp2_with fail
        refine (editPut_is x1 _ a u _ w1 h1 hst ⟨ha, hu⟩ hEX).mono ?_; rintro e w2 ⟨_, rfl, ⟨x2, rfl, h2⟩, b2⟩
        have b02 := b1.trans (b2.mono s1)
        have s2 := b02.size
        go_wp2_with fail
        refine (editPut_is x1 _ b v _ w2 (h1.call b2) hst ⟨hb, hv⟩ hEY).mono ?_; rintro e w3 ⟨_, rfl, ⟨x3, rfl, h3⟩, b3⟩
        have b03 := b02.trans (b3.mono s2)
        have s3 := b03.size
        go_wp2_with fail
        refine (editBegun w3).mono ?_; rintro e w4 ⟨_, rfl, rfl, b4⟩
        go_wp2
        go_ret
        exact ⟨_, rfl, rfl, b03.trans (b4.mono s3)⟩
    · have hEX := edit_no he (putP_err hx0) hx0
      have hq : ((putP l a u).2 != 0) = true := by simp [hx0]
      generalize (putP l a u).2 = E at *
      obtain ⟨py, hpy⟩ : ∃ p, editP (treeL l) b v = p := ⟨_, rfl⟩
      go_enter Try.func12, Try.ntmps12
      go_wp2_with fail
      refine (treeBuild_is vl l _ w h hbP).mono ?_; rintro e w1 ⟨_, rfl, ⟨x1, rfl, h1⟩, b1⟩
      have s1 := b1.size
      go_wp2_with fail
      refine (editPut_is x1 _ a u _ w1 h1 hst ⟨ha, hu⟩ hEX).mono ?_; rintro e w2 ⟨_, rfl, ⟨x2, rfl, h2⟩, b2⟩
      have b02 := b1.trans (b2.mono s1)
      have s2 := b02.size
      go_wp2_with fail
      refine (editPut_is x1 _ b v _ w2 (h1.call b2) hst ⟨hb, hv⟩ hpy).mono ?_; rintro e w3 ⟨_, rfl, ⟨x3, rfl, h3⟩, b3⟩
      have b03 := b02.trans (b3.mono s2)
      have s3 := b03.size
      go_wp2_with fail
      refine (editBegun w3).mono ?_; rintro e w4 ⟨_, rfl, rfl, b4⟩
      go_wp2
      go_ret
      exact ⟨_, rfl, rfl, b03.trans (b4.mono s3)⟩
  · have hq : (rowsErr l != 0) = true := by simp [he]
    go_enter Try.func12, Try.ntmps12
    go_wp2_with fail
    refine (treeBuild_is vl l _ w h (buildP_wrong he)).mono ?_; rintro e w1 ⟨_, rfl, ⟨x1, rfl, h1⟩, b1⟩
    have s1 := b1.size
    go_wp2_with fail
    refine (editBegun w1).mono ?_; rintro e w4 ⟨_, rfl, rfl, b4⟩
    go_wp2
    go_ret
    exact ⟨_, rfl, rfl, b1.trans (b4.mono s1)⟩

end Go.Pch
