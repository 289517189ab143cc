/- The walk of slices.Sort at one int, and at two. The walk of slices.Sort at one int, and at two. The walks of the laws' own helpers: few rows, a choice. Changes: what they read as; the struct type's fields; two changes compared. The walks of what the document says of chunks: comparing levels, cutting. -/
import Derived.Test.YtjjkdpjjaijmbaaGreatRg7
import Derived.Test.YtjjkdpjjaijmbaaGreatRg15
import Derived.Lib.BitFns
import Derived.Test.YtjjkdpjjaijmbaaGreatRg2
import Derived.Test.YtjjkdpjjaijmbaaGreatRg10
import Derived.Deep.Cut
import Derived.Deep.CutRange
section
namespace Go.Pch
open Go.RowKit Go.Proofs
set_option maxRecDepth 100000

theorem cmpLess (a b : Int) (w : World) : Calls Tryz.prog 123 #[.int .i64 a, .int .i64 b] w fun e w' => e = .returned (.bool (decide (a < b))) ∧ w = w' := by
  go_enter Tryz.func123, Tryz.ntmps123
  go_wp2_with (go_at_call 133; refine (notNaN _ _).mono ?_; rintro e w' ⟨rfl, rfl⟩)
  go_ret
  exact ⟨rfl, rfl⟩

theorem cmpLess_of {c : Bool} (a b : Int) (w : World) (h : decide (a < b) = c) : Calls Tryz.prog 123 #[.int .i64 a, .int .i64 b] w fun e w' => e = .returned (.bool c) ∧ w = w' := h ▸ cmpLess a b w

theorem bitsLen64 (n : Int) (hn : n = 1 ∨ n = 2) (w : World) : Calls Tryz.prog 127 #[.int .u64 n] w fun e w' => ∃ m : Int, e = .returned (.int .i64 m) ∧ w = w' := by
  rcases hn with rfl | rfl
  · go_enter Tryz.func127, Tryz.ntmps127
    go_wp2
    go_ret
    exact ⟨_, rfl, rfl⟩
  · go_enter Tryz.func127, Tryz.ntmps127
    go_wp2
    go_ret
    exact ⟨_, rfl, rfl⟩
theorem bitsLen (n : Int) (hn : n = 1 ∨ n = 2) (w : World) : Calls Tryz.prog 103 #[.int .u64 n] w fun e w' => ∃ m : Int, e = .returned (.int .i64 m) ∧ w = w' := by
  go_enter Tryz.func103, Tryz.ntmps103
  go_wp2_with (go_at_call 127; refine (bitsLen64 n hn _).mono ?_; rintro e w' ⟨m, rfl, rfl⟩)
  go_ret
  exact ⟨_, rfl, rfl⟩

theorem insertOne (g : Nat) (w : World) : Calls Tryz.prog 117 #[.slice (some ⟨g, 0, none⟩) 1 1, .int .i64 0, .int .i64 1] w fun e w' => e = .returned (.tuple #[]) ∧ w = w' := by
  go_enter Tryz.func117, Tryz.ntmps117
  go_wp2_with fail
  go_loopw [6] (fun i wr => i = .int .i64 1 ∧ w = wr) (fun _ _ => 0)
  case atStart => exact ⟨rfl, rfl⟩
  case round =>
    obtain ⟨rfl, rfl⟩ := hrel
    go_wp2
    go_end0
    exact ⟨rfl, rfl⟩

/-- Two cells of ints. -/
def two (a b : Int) : Obj := .cells #[.int .i64 a, .int .i64 b] 3

set_option maxHeartbeats 1000000 in
theorem insertTwo (g : Nat) (a b : Int) (w : World) (h : w.heap[g]? = some (two a b)) : Calls Tryz.prog 117 #[.slice (some ⟨g, 0, none⟩) 2 2, .int .i64 0, .int .i64 2] w fun e w' => e = .returned (.tuple #[]) ∧ w'.heap[g]? = some (two (min a b) (max a b)) ∧ w.grownBy w' (some g) := by
  have hix0 : ∀ W, Sem.run Tryz.prog (Instr.indexAt 40 (.slice (some ⟨g, 0, none⟩) 2 2) (.int .i64 0)) W = .ok (.pointer (some ⟨g, 0, none⟩)) W := fun W => run_idx aInt (b := g) (o := 0) (len := 2) (cap := 2) 0 0 rfl (by omega) W
  have hix1 : ∀ W, Sem.run Tryz.prog (Instr.indexAt 40 (.slice (some ⟨g, 0, none⟩) 2 2) (.int .i64 1)) W = .ok (.pointer (some ⟨g, 1, none⟩)) W := fun W => run_idx aInt (b := g) (o := 0) (len := 2) (cap := 2) 1 1 rfl (by omega) W
  go_enter Tryz.func117, Tryz.ntmps117
  go_wp2_with fail
  go_loopw [6] (fun i wr => (i = .int .i64 1 ∧ w = wr) ∨ (i = .int .i64 2 ∧ wr.heap[g]? = some (two (min a b) (max a b)) ∧ w.grownBy wr (some g))) (fun i _ => 2 - (intOf i).toNat)
  case atStart => exact .inl ⟨rfl, rfl⟩
  case round =>
    rcases hrel with ⟨rfl, rfl⟩ | ⟨rfl, hh, hg⟩
    · go_wp2_with fail
      go_loopw [7] (fun j wr => (j = .int .i64 1 ∧ wr.heap[g]? = some (two a b) ∧ w.grownBy wr (some g)) ∨ (j = .int .i64 0 ∧ b < a ∧ wr.heap[g]? = some (two b a) ∧ w.grownBy wr (some g))) (fun j _ => (intOf j).toNat)
      case atStart => exact .inl ⟨rfl, h, World.grownBy.refl _ _⟩
      case round =>
        rcases hrel with ⟨rfl, hh, hg⟩ | ⟨rfl, hlt, hh, hg⟩
        · have c0 : wr.cell? ⟨g, 0, none⟩ = some (.int .i64 a) := by rw [World.cell?, hh]; rfl
          have c1 : wr.cell? ⟨g, 1, none⟩ = some (.int .i64 b) := by rw [World.cell?, hh]; rfl
          have f0 : wr.frozen? ⟨g, 0, none⟩ = false := frozen_of_row wr g 0 _ _ hh
          have f1 : wr.frozen? ⟨g, 1, none⟩ = false := frozen_of_row wr g 1 _ _ hh
          have HH := keepBack hh
          have hw0 : IntKind.i64.wrap 0 = 0 := by decide
          clear hh
          by_cases hlt : b < a
          · have HL := keepBack hlt
            have hle : ¬ a ≤ b := by omega
            go_wp2_with fail
            go_quiet ((go_at_call 123; refine quietEq (cmpLess_of _ _ _ (decide_eq_true HL.out))))
            have d0 : (wr.drewN nq).cell? ⟨g, 0, none⟩ = some (.int .i64 a) := (World.cell?_drewN wr nq _).trans c0
            have d1 : (wr.drewN nq).cell? ⟨g, 1, none⟩ = some (.int .i64 b) := (World.cell?_drewN wr nq _).trans c1
            have e0 : (wr.drewN nq).frozen? ⟨g, 0, none⟩ = false := f0
            have e1 : (wr.drewN nq).frozen? ⟨g, 1, none⟩ = false := f1
            have hh2 : (wr.drewN nq).heap[g]? = some (two a b) := HH.out
            have HG := keepBack (hg.trans ⟨rfl, rfl, rfl, Nat.le_refl _, fun _ _ _ => rfl⟩ : w.grownBy (wr.drewN nq) (some g))
            clear hle c0 c1 f0 f1
            have hmin : min a b = b := by omega
            have hmax : max a b = a := by omega
            have HM := keepBack hmin
            have HX := keepBack hmax
            have HH2 := keepBack hh2
            clear hmin hmax hh2
            generalize wr.drewN nq = wq at *
            go_wp2_with fail
            go_region
            go_wp2_with fail
            go_roundw
            case rel =>
              refine .inr ⟨rfl, HL.out, ?_, ?_⟩
              · have := heap_setCell_same (wq.setCell ⟨g, 1, none⟩ (.int .i64 a)) g 0 _ _ (.int .i64 b) (heap_setCell_same wq g 1 _ _ (.int .i64 a) HH2.out)
                exact this
              · exact HG.out.trans ⟨rfl, rfl, rfl, by simp [World.setCell], fun k _ hk => (heap_setCell_other _ _ _ _ (fun e => hk (by rw [e]))).trans (heap_setCell_other _ _ _ _ (fun e => hk (by rw [e])))⟩
            case measure => simp [intOf]
          · have HL := keepBack hlt
            have hle : a ≤ b := by omega
            have hmin : min a b = a := by omega
            have hmax : max a b = b := by omega
            have HM := keepBack hmin
            have HX := keepBack hmax
            clear hmin hmax
            go_wp2_with fail
            go_quiet ((go_at_call 123; refine quietEq (cmpLess_of _ _ _ (decide_eq_false (by have := HL.out; omega)))))
            have HG := keepBack (hg.trans ⟨rfl, rfl, rfl, Nat.le_refl _, fun _ _ _ => rfl⟩ : w.grownBy (wr.drewN nq) (some g))
            have hh2 : (wr.drewN nq).heap[g]? = some (two a b) := HH.out
            go_wp2_with fail
            go_roundw
            case rel => exact .inr ⟨rfl, by rw [HM.out, HX.out]; exact hh2, HG.out⟩
            case measure => simp [intOf]
        · have hmin : min a b = b := by omega
          have hmax : max a b = a := by omega
          have HM := keepBack hmin
          have HX := keepBack hmax
          clear hmin hmax
          go_wp2_with fail
          go_quiet (fail)
          have HG := keepBack (hg.trans ⟨rfl, rfl, rfl, Nat.le_refl _, fun _ _ _ => rfl⟩ : w.grownBy (wr.drewN nq) (some g))
          go_wp2_with fail
          go_roundw
          case rel => exact .inr ⟨rfl, by rw [HM.out, HX.out]; exact hh, HG.out⟩
          case measure => simp [intOf]
    · go_wp2
      go_end0
      exact ⟨rfl, hh, hg⟩

end Go.Pch
end

section
namespace Go.Pch
open Go.RowKit Go.Proofs
set_option maxRecDepth 100000

set_option maxHeartbeats 1000000 in
theorem pdqOne (g : Nat) (m : Int) (w : World) : Calls Tryz.prog 102 #[.slice (some ⟨g, 0, none⟩) 1 1, .int .i64 0, .int .i64 1, .int .i64 m] w fun e w' => e = .returned (.tuple #[]) ∧ w = w' := by
  go_enter Tryz.func102, Tryz.ntmps102
  go_wp2_with fail
  go_loopw [1, 2] (fun a b wr => a = .int .i64 0 ∧ b = .int .i64 1 ∧ w = wr) (fun _ _ _ => 0)
  case atStart => exact ⟨rfl, rfl, rfl⟩
  case round =>
    obtain ⟨rfl, rfl, rfl⟩ := hrel
    go_wp2_with (go_at_call 117; refine (insertOne _ _).mono ?_; rintro e w' ⟨rfl, rfl⟩)
    exact bodyPost_ret (results_none rfl _ _ _) rfl ⟨rfl, rfl⟩

set_option maxHeartbeats 1000000 in
theorem pdqTwo (g : Nat) (a b m : Int) (w : World) (h : w.heap[g]? = some (two a b)) : Calls Tryz.prog 102 #[.slice (some ⟨g, 0, none⟩) 2 2, .int .i64 0, .int .i64 2, .int .i64 m] w fun e w' => e = .returned (.tuple #[]) ∧ w'.heap[g]? = some (two (min a b) (max a b)) ∧ w.grownBy w' (some g) := by
  go_enter Tryz.func102, Tryz.ntmps102
  go_wp2_with fail
  go_loopw [1, 2] (fun a b wr => a = .int .i64 0 ∧ b = .int .i64 2 ∧ w = wr) (fun _ _ _ => 0)
  case atStart => exact ⟨rfl, rfl, rfl⟩
  case round =>
    obtain ⟨rfl, rfl, rfl⟩ := hrel
    have H := keepBack h
    clear h
    go_wp2_with (go_at_call 117; refine (insertTwo g a b _ H.out).mono ?_; rintro e w' ⟨rfl, h1, h2⟩)
    exact bodyPost_ret (results_none rfl _ _ _) rfl ⟨rfl, h1, h2⟩

theorem sortOne (g : Nat) (w : World) : Calls Tryz.prog 77 #[.slice (some ⟨g, 0, none⟩) 1 1] w fun e w' => e = .returned (.tuple #[]) ∧ w = w' := by
  go_enter Tryz.func77, Tryz.ntmps77
  go_wp2_with (first
    | (go_at_call 103; refine (bitsLen 1 (.inl rfl) _).mono ?_; rintro e w' ⟨m, rfl, rfl⟩)
    | (go_at_call 102; refine (pdqOne _ _ _).mono ?_; rintro e w' ⟨rfl, rfl⟩)
    | fail)
  go_end0
  exact ⟨rfl, rfl⟩
theorem sortTwo (g : Nat) (a b : Int) (w : World) (h : w.heap[g]? = some (two a b)) : Calls Tryz.prog 77 #[.slice (some ⟨g, 0, none⟩) 2 2] w fun e w' => e = .returned (.tuple #[]) ∧ w'.heap[g]? = some (two (min a b) (max a b)) ∧ w.grownBy w' (some g) := by
  have H := keepBack h
  clear h
  go_enter Tryz.func77, Tryz.ntmps77
  go_wp2_with (first
    | (go_at_call 103; refine (bitsLen 2 (.inr rfl) _).mono ?_; rintro e w' ⟨m, rfl, rfl⟩)
    | (go_at_call 102; refine (pdqTwo g a b _ _ H.out).mono ?_; rintro e w' ⟨rfl, h1, h2⟩)
    | fail)
  go_end0
  exact ⟨rfl, h1, h2⟩

end Go.Pch
end

section
namespace Go.Pch
open Go.RowKit Go.Proofs

def fewL : List Row := [(2, 5), (7, 0), (9, 30)]
theorem tRow_mk (w : World) (S : Blk) (a b : Int) (ha : i64ok a) (hb : i64ok b) : tRow.rd w S [.int .i64 a, .int .i64 b] (a, b) := ⟨rfl, ha, hb⟩
theorem ok_small {a : Int} (h : -1000000 ≤ a ∧ a ≤ 1000000) : i64ok a := ⟨by omega, by omega⟩

set_option maxHeartbeats 400000 in
theorem lawFew (w : World) : Calls Tryz.prog 70 #[] w (Ret w fun r w' => Sl tRow w' (fun k => w.heap.size ≤ k) r fewL) := by
  go_enter Tryz.func70, Tryz.ntmps70
  go_wp2
  go_ret
  have hE : Each tRow w (fun _ => False) [[.int .i64 2, .int .i64 5], [.int .i64 7, .int .i64 0], [.int .i64 9, .int .i64 30]] fewL :=
    ((Each.one _ _ (tRow_mk _ _ 2 5 (ok_small (by omega)) (ok_small (by omega)))).app (Each.one _ _ (tRow_mk _ _ 7 0 (ok_small (by omega)) (ok_small (by omega))))).app (Each.one _ _ (tRow_mk _ _ 9 30 (ok_small (by omega)) (ok_small (by omega))))
  have ho := Own.lit (E := tRow) (e := 44) (B := w.heap.size) hE rfl (by decide) (Nat.le_refl _)
  exact ⟨_, rfl, ho.sl (fun _ h => h.elim) (fun _ h => h), (Below.refl _ _).alloc (Nat.le_refl _) _⟩


end Go.Pch
end

section
namespace Go.Pch
open Go.RowKit Go.Proofs
set_option maxRecDepth 100000

def tChange : Ty Change := Ty.flat 3 (by decide) (fun r => [.int .i64 r.1, .int .i64 r.2.1, .int .i64 r.2.2]) (fun r => i64ok r.1 ∧ i64ok r.2.1 ∧ i64ok r.2.2) (by intro; rfl) (by intro a u hu; simp at hu; rcases hu with rfl | rfl | rfl <;> rfl)
theorem tChange_mk (w : World) (S : Blk) (a b c : Int) (ha : i64ok a) (hb : i64ok b) (hc : i64ok c) : tChange.rd w S [.int .i64 a, .int .i64 b, .int .i64 c] (a, b, c) := ⟨rfl, ha, hb, hc⟩
theorem aChg : At Tryz.prog tChange 26 59 := At.mk' Tryz.underlying26 (z := .agg #[.int .i64 0, .int .i64 0, .int .i64 0]) (size := 3) (bytes := 24) (by kernel_rfl) rfl rfl (by decide)
theorem Sl.idxChg {w : World} {S : Blk} {P : Program} {T e : TypeId} {v : Value} {l : List Change} (h : Sl tChange w S v l) (hA : At P tChange T e) (n : Int) (i : Nat) (hn : n = (i : Int)) (hi : i < l.length) :
    ∃ b o, (∀ W, Sem.run P (Instr.indexAt T v (.int .i64 n)) W = .ok (.pointer (some ⟨b, o, none⟩)) W) ∧ S b ∧ b < w.heap.size ∧ i64ok l[i].1 ∧ i64ok l[i].2.1 ∧ i64ok l[i].2.2 ∧
      w.cell? ⟨b, o, none⟩ = some (.int .i64 l[i].1) ∧ w.cell? ⟨b, o + 1, none⟩ = some (.int .i64 l[i].2.1) ∧ w.cell? ⟨b, o + 2, none⟩ = some (.int .i64 l[i].2.2) := by
  obtain ⟨b, o, cs, h1, h2, h3, ⟨rfl, h5, h6, h8⟩, h7⟩ := h.idx hA n i hn hi
  exact ⟨b, o, h1, h2, h3, h5, h6, h8, by simpa using h7 0 _ rfl, h7 1 _ rfl, h7 2 _ rfl⟩
/-- An element that is known by name. -/
theorem Sl.idxChgAt {w : World} {S : Blk} {P : Program} {T e : TypeId} {v : Value} {l : List Change} (h : Sl tChange w S v l) (hA : At P tChange T e) (n : Int) (i : Nat) (x : Change) (hn : n = (i : Int)) (hx : l[i]? = some x) :
    ∃ b o, (∀ W, Sem.run P (Instr.indexAt T v (.int .i64 n)) W = .ok (.pointer (some ⟨b, o, none⟩)) W) ∧ S b ∧ b < w.heap.size ∧ i64ok x.1 ∧ i64ok x.2.1 ∧ i64ok x.2.2 ∧
      w.cell? ⟨b, o, none⟩ = some (.int .i64 x.1) ∧ w.cell? ⟨b, o + 1, none⟩ = some (.int .i64 x.2.1) ∧ w.cell? ⟨b, o + 2, none⟩ = some (.int .i64 x.2.2) := by
  obtain ⟨hi, rfl⟩ := List.getElem?_eq_some_iff.1 hx
  exact h.idxChg hA n i hn hi
theorem Sl.idxRowAt {w : World} {S : Blk} {P : Program} {T e : TypeId} {v : Value} {l : List Row} (h : Sl tRow w S v l) (hA : At P tRow T e) (n : Int) (i : Nat) (x : Row) (hn : n = (i : Int)) (hx : l[i]? = some x) :
    ∃ b o, (∀ W, Sem.run P (Instr.indexAt T v (.int .i64 n)) W = .ok (.pointer (some ⟨b, o, none⟩)) W) ∧ S b ∧ b < w.heap.size ∧ i64ok x.1 ∧ i64ok x.2 ∧
      w.cell? ⟨b, o, none⟩ = some (.int .i64 x.1) ∧ w.cell? ⟨b, o + 1, none⟩ = some (.int .i64 x.2) := by
  obtain ⟨hi, rfl⟩ := List.getElem?_eq_some_iff.1 hx
  exact h.idxRow hA n i hn hi

theorem chgGuard : Tryz.prog.eqGuardType Tryz.prog.depth 59 = false := by kernel_rfl
theorem chgHeld : Tryz.prog.stoodInHeld 59 = false := by kernel_rfl
theorem chgStruct : Tryz.prog.underlying 59 = some (.struct (Tryz.prog.fieldsOf 59)) := by kernel_rfl
theorem chgFields : (Tryz.prog.fieldsOf 59).toList.map (fun f => (f.type, f.offset, f.name)) = [(3, 0, "Key"), (3, 1, "Old"), (3, 2, "New")] := by kernel_rfl
theorem three_of_map {α β : Type} {f : α → β} {l : List α} {x y z : β} (h : l.map f = [x, y, z]) : ∃ a b c, l = [a, b, c] ∧ f a = x ∧ f b = y ∧ f c = z := by
  match l, h with
  | [a, b, c], h => simp at h; exact ⟨a, b, c, rfl, h.1, h.2.1, h.2.2⟩
theorem chgEqual (x y : Change) (W : World) : Sem.run Tryz.prog (Op.equalIn 10000 59 (.agg #[.int .i64 x.1, .int .i64 x.2.1, .int .i64 x.2.2]) (.agg #[.int .i64 y.1, .int .i64 y.2.1, .int .i64 y.2.2])) W = .ok (decide (x = y)) W := by
  obtain ⟨a, b, c⟩ := x
  obtain ⟨a', b', c'⟩ := y
  obtain ⟨f, g, k, h1, h2, h3, h4⟩ := three_of_map chgFields
  simp only [Prod.mk.injEq] at h2 h3 h4
  obtain ⟨h21, h22, h23⟩ := h2
  obtain ⟨h31, h32, h33⟩ := h3
  obtain ⟨h41, h42, h43⟩ := h4
  rw [show (10000 : Nat) = 9999 + 1 from rfl, run_equalIn_struct W 9999 _ _ _ chgStruct chgHeld, h1]
  have e := fun x y W => run_equalIn_int (P := Tryz.prog) W 9998 3 .i64 .i64 x y Tryz.underlying3
  simp only [Nat.reduceAdd] at e
  by_cases ha : a = a' <;> by_cases hb : b = b' <;> by_cases hc : c = c' <;> simp [Op.eqFields, h21, h22, h23, h31, h32, h33, h41, h42, h43, part, e, ha, hb, hc]

end Go.Pch
end

section
namespace Go.Pch
open Go.RowKit Go.Proofs

theorem aLev : At Tryz.prog tRow.slice 47 29 := At.mk' Tryz.underlying47 (z := .slice none 0 0) (size := 1) (bytes := 24) (by kernel_rfl) rfl rfl (by decide)

theorem refSameRows_of {c : Bool} (v u : Value) (l m : List Row) (S S' : Blk) (w : World) (h : Sl tRow w S v l) (g : Sl tRow w S' u m) (hc : decide (l = m) = c) :
    Calls Tryz.prog 13 #[v, u] w (Quiet w (.bool c)) := hc ▸ refSameRows v u l m S S' w h g

set_option maxHeartbeats 400000 in
theorem refSameLevel (v u : Value) (l m : List (List Row)) (S S' : Blk) (w : World) (h : Sl tRow.slice w S v l) (g : Sl tRow.slice w S' u m) :
    Calls Tryz.prog 35 #[v, u] w (Quiet w (.bool (decide (l = m)))) := by
  obtain ⟨ao, cap, rfl, hcap, hmax, hnil⟩ := h.shape
  obtain ⟨ao', cap', rfl, hcap', hmax', hnil'⟩ := g.shape
  unfold maxLen at hmax hmax'
  by_cases he : l.length = m.length
  · have hne : (((l.length : Nat) : Int) != (m.length : Int)) = false := by simp [he]
    have hl1 : l.length ≤ m.length := by omega
    have hl2 : m.length ≤ l.length := by omega
    clear he
    go_enter Tryz.func35, Tryz.ntmps35
    go_wp2
    go_loopw [5] (fun i wr => ∃ (k : Nat), k ≤ l.length ∧ i = .int .i64 k ∧ Drawn w wr ∧ Hid (l.take k = m.take k)) (fun i _ => l.length - (intOf i).toNat)
    case atStart => exact ⟨0, Nat.zero_le _, rfl, .refl _, rfl⟩
    case round =>
      obtain ⟨k, hk, rfl, hd, hm⟩ := hrel
      by_cases hlt : k < l.length
      · obtain ⟨b, o, a1, c1, hix, _, hbs, hs1, _, _, hc0⟩ := (h.call hd.below).idxSl aLev k k rfl hlt
        obtain ⟨b', o', a2, c2, hix', _, hbs', hs2, _, _, hc0'⟩ := (g.call hd.below).idxSl aLev k k rfl (by omega)
        cases hq : decide (l[k] = m[k]) with
        | true =>
          go_wp2_with fail
          go_quiet ((go_at_call 13; exact quietOf (refSameRows_of _ _ _ _ _ _ _ (hs1.keep fun _ _ _ => rfl) (hs2.keep fun _ _ _ => rfl) hq)))
          go_wp2
          go_roundw
          case rel => exact ⟨k + 1, by omega, by go_num, hd.next _, take_more hlt (by omega) hm.out (by simpa using hq)⟩
          case measure => simp [intOf]; omega
        | false =>
          go_wp2_with fail
          go_quiet ((go_at_call 13; exact quietOf (refSameRows_of _ _ _ _ _ _ _ (hs1.keep fun _ _ _ => rfl) (hs2.keep fun _ _ _ => rfl) hq)))
          go_wp2
          go_ret
          refine ⟨ret_no fun e => ?_, hd.next _⟩
          subst e
          simp at hq
      · go_wp2
        go_ret
        exact ⟨ret_yes (take_all hlt hl1 hl2 hm.out), hd⟩
  · have hne : (((l.length : Nat) : Int) != (m.length : Int)) = true := by simp; omega
    go_enter Tryz.func35, Tryz.ntmps35
    go_wp2
    go_ret
    exact ⟨ret_no fun e => he (by rw [e]), .refl _⟩

set_option maxHeartbeats 1000000 in
theorem refCut (v : Value) (l : List Row) (n : Int) (S : Blk) (w : World) (h : Sl tRow w S v l) (hl : l.length ≤ 1000000) :
    Calls Tryz.prog 63 #[v, .int .i64 n] w (Ret w fun r w' => Sl tRow.slice w' (fun k => w.heap.size ≤ k) r (chunks n l)) := by
  obtain ⟨ao, cap, rfl, hcap, hmax, hnil⟩ := h.shape
  unfold maxLen at hmax
  go_enter Tryz.func63, Tryz.ntmps63
  go_wp2
  go_loopw [5, 6, 7] (fun out f i wr => ∃ (k fr : Nat) (done : List (List Row)), k ≤ l.length ∧ i = .int .i64 k ∧ f = .int .i64 fr ∧ fr ≤ k ∧ k ≤ fr + 5 ∧ done.length ≤ fr ∧ Below w.heap.size w wr ∧
      Own tRow.slice 29 wr w.heap.size (fun k => w.heap.size ≤ k) out done ∧ Hid (chunks n l = done ++ chunks n (l.drop fr)) ∧ Hid (k = l.length → fr = k) ∧ Hid (k < l.length → cnt n 0 (l.drop fr) = cnt n (k - fr) (l.drop k))) (fun _ _ i _ => l.length - (intOf i).toNat)
  case atStart => exact ⟨0, 0, [], Nat.zero_le _, rfl, rfl, Nat.le_refl _, by omega, Nat.le_refl _, Below.refl _ _, .nil, rfl, fun _ => rfl, fun _ => rfl⟩
  case round =>
    obtain ⟨k, fr, done, hk, rfl, rfl, hf, hf5, hdl, hb, ho, hch, hend, hcn⟩ := hrel
    by_cases hlt : k < l.length
    · obtain ⟨b, o, hix, _, hbs, ok1, ok2, hc0, hc1⟩ := (h.call hb).idxRow aRow k k rfl hlt
      obtain ⟨t, ht⟩ : ∃ t, t = (decide (1 ≤ k - fr) && endsB l[k] n || k - fr == 5 || decide (k + 1 = l.length)) := ⟨_, rfl⟩
      have HT := keepBack ht
      clear ht
      go_upto_region 7 with fail
      go_cut [8, 39] from 9 to 51 (fun z c wc => z = .int .i64 ((k : Int) - fr + 1) ∧ c = .bool t ∧ Below wr.heap.size wr wc)
      case first =>
        go_wp2_with (go_at_call 93; refine (refEndsOf _ _ _).mono ?_; rintro e w1 ⟨_, rfl, rfl, hb1⟩)
        all_goals
          go_meet
          case rel =>
            refine ⟨by go_num, congrArg Value.bool ?_, hb1⟩
            rw [HT.out, Bool.eq_iff_iff]
            first
              | (have hE : endsB l[k] n = true := by assumption
                 simp [hE]; omega)
              | (have hE : endsB l[k] n = false := by simpa using (by assumption : ¬ endsB l[k] n = true)
                 simp [hE]; omega)
      case rest =>
        obtain ⟨rfl, rfl, hbc⟩ := hcut
        have hwc := hb.trans (hbc.mono hb.size)
        have hsz := hwc.size
        have hoc := ho.call hbc
        cases t with
        | false =>
          have hk5 : k + 1 ≤ fr + 5 := by have := HT.out; simp at this; omega
          have hkl : k + 1 ≠ l.length := by have := HT.out; simp at this; omega
          go_wp2
          go_roundw
          case rel => exact ⟨k + 1, fr, done, by omega, by go_num, rfl, by omega, by omega, hdl, hwc, hoc, hch.out, fun e => absurd e hkl, fun _ => by rw [hcn.out hlt, cnt_go hlt HT.out.symm]; congr 1; omega⟩
          case measure => simp [intOf]; omega
        | true =>
          obtain ⟨ao1, cap1, hc1, hc2, hs1, hn1⟩ := (h.call hwc).cut aRow fr ((k : Int) + 1) fr (k + 1) rfl (by omega) (by omega) (by omega)
          obtain ⟨ck, hck⟩ : ∃ ck, ck = (l.drop fr).take (k + 1 - fr) := ⟨_, rfl⟩
          rw [← hck] at hs1
          have HCK := keepBack hck
          clear hck
          have hsr := fun W (hW : Below wc.heap.size wc W) => Src.row (D' := fun _ => False) (hs1.call hW).src
          go_wp2_with (at_builtin; refine wpList_grow rfl (.tmp 41) (.tmp 46) rfl aRow rfl (Own.made (B := wc.heap.size) (C := fun _ => False) _ (Nat.le_refl _)) rfl (by rw [HCK.out]; simp; omega) (hsr _ ((Below.refl _ _).alloc (Nat.le_refl _) _)) hn1 (fun _ h => h.elim) (by rw [HCK.out]; simp; omega) (by simp) ?_)
          intro v1 w1 hown1 hgrow1
          have hb1 : Below wc.heap.size wc w1 := ((Below.refl _ _).alloc (Nat.le_refl _) _).grown hgrow1 (by simp) (by simp [Value.ownBlock])
          obtain ⟨a1, p1, rfl, _, _⟩ := hown1.shape
          have hs1' := hown1.sl (D := fun k => wc.heap.size ≤ k) (fun _ h => h.elim) (fun _ h => h)
          have ho1 := hoc.call hb1
          have hsz1 := hb1.size
          go_wp2_with (at_builtin; refine wpList_grow rfl (.tmp 40) (.tmp 48) rfl aLev rfl (ho1.alloc _) rfl (by simp) (Src.one (cs := [_]) hs1' _) (by simp) ?_ (by simp; omega) (by simp; omega) ?_)
          · intro q hq _
            refine ⟨by omega, fun e => ?_⟩
            have := hoc.block q e.symm
            omega
          intro v2 w2 hown2 hgrow2
          have hb2 : Below w.heap.size w w2 := ((hwc.trans (hb1.mono hsz)).alloc (by omega) _).grown hgrow2 (by simp; omega) (fun g hg => (hoc.block g hg).1)
          have hcnt := (hcn.out hlt).trans (cnt_cut hlt HT.out.symm)
          have hst := chunks_step hf hlt hcnt
          have hnew : chunks n l = (done ++ [ck]) ++ chunks n (l.drop (k + 1)) := by rw [hch.out, hst, HCK.out]; simp
          have HN := keepBack hnew
          clear hcnt hst hnew hch hcn hend
          go_wp2
          go_roundw
          case rel => exact ⟨k + 1, k + 1, done ++ [ck], by omega, by go_num, by go_num, by omega, by omega, by simp; omega, hb2, hown2, HN.out, fun _ => rfl, fun _ => by rw [Nat.sub_self]⟩
          case measure => simp [intOf]; omega
    · go_wp2
      go_ret
      have hkl : k = l.length := by omega
      have hfk := hend.out hkl
      exact ⟨_, rfl, by rw [hch.out, List.drop_of_length_le (by omega), chunks_nil, List.append_nil]; exact ho.sl (fun _ h => h) (fun _ h => h), hb⟩

end Go.Pch
end
