/- The walks of the laws' own helpers: few rows, a choice. append, as a law for go_region_held3 (a region that draws its order). Changes: what they read as; the struct type's fields; two changes compared. The walks of what the document says of chunks: comparing levels, cutting. The walks: Clone; the first chunk; the document's CutOf and SumOf; chunk.Sum. -/
import Derived.Test.YtjjkdpjjaijmbaaGreatDoorDg2
import Derived.Deep.RegionHeld3
import Derived.Deep.AppendLies
import Derived.Test.YtjjkdpjjaijmbaaGreatDoorDg6
import Derived.Test.YtjjkdpjjaijmbaaGreatDoorDg12
import Derived.Deep.Cut
import Derived.Deep.CutRange
section
namespace Go.Pch
open Go.RowKit Go.Proofs
theorem tRow_mk (w : World) (S : Blk) (a b : Int) (ha : i64ok a) (hb : i64ok b) : tRow.rd w S [.int .i64 a, .int .i64 b] (a, b) := ⟨rfl, ha, hb⟩
theorem ok_small {a : Int} (h : -1000000 ≤ a ∧ a ≤ 1000000) : i64ok a := ⟨by omega, by omega⟩
end Go.Pch
end

section
namespace Go.Pch
open Go.RowKit
theorem step_grow {P : Program} {α : Type} {E : Ty α} {e T : TypeId} {w : World} {B : Nat} {C D : Blk} {v : Value} {l m : List α} {ops : Array Oper} {o : Oper} {a : Act} {K : Act → World → Prop} {Q : Exit → Act → World → Prop} {Ex : Prop} (hgd : o.guard = none) (s x : Operand)
    (ho : o.op = .call { callee := .builtin .append, args := #[s, x], argTypes := #[T, T] }) (hA : At P E T e) (hs : a.eval s = v) (h : Own E e w B C v l) {ao : Option Addr} {c n : Nat} (hx : a.eval x = .slice ao n c) (hnm : n = m.length) (hsrc : Src E w D ao m) (hc : ao = none → c = 0)
    (hD : ∀ k, D k → k < w.heap.size → C k ∧ some k ≠ v.ownBlock) (hn : l.length + m.length ≤ 1000000000000) (hB : B ≤ w.heap.size)
    (hK : ∀ v' w', Own E e w' B C v' (l ++ m) → w.grownBy w' v.ownBlock → K (a.put o.dst v') w') : if Region.wanted o (yielded ops a.tmps) = true then Oper.wp P o a w K Q else Ex := by
  have hw : Region.wanted o (yielded ops a.tmps) = true := by simp [Region.wanted, hgd]
  rw [if_pos hw]
  subst hnm
  obtain ⟨v', w', hrun, h1, h2, _⟩ := h.run hA hsrc hc o.type hD hn hB
  unfold Oper.wp
  simp [execOp, ho, resolve, invoke, builtin, hs, hx, hrun, Result.andThen]
  exact hK v' w' h1 h2
end Go.Pch
end

section
namespace Go.Pch
open Go.RowKit Go.Proofs
set_option maxRecDepth 100000
def tChange : Ty Change := Ty.flat 3 (by decide) (fun r => [.int .i64 r.1, .int .i64 r.2.1, .int .i64 r.2.2]) (fun r => i64ok r.1 ∧ i64ok r.2.1 ∧ i64ok r.2.2) (by intro; rfl) (by intro a u hu; simp at hu; rcases hu with rfl | rfl | rfl <;> rfl)
theorem tChange_mk (w : World) (S : Blk) (a b c : Int) (ha : i64ok a) (hb : i64ok b) (hc : i64ok c) : tChange.rd w S [.int .i64 a, .int .i64 b, .int .i64 c] (a, b, c) := ⟨rfl, ha, hb, hc⟩
theorem aChg : At Tryz.prog tChange 92 95 := At.mk' Tryz.underlying92 (z := .agg #[.int .i64 0, .int .i64 0, .int .i64 0]) (size := 3) (bytes := 24) (by kernel_rfl) rfl rfl (by decide)
theorem Sl.idxChg {w : World} {S : Blk} {P : Program} {T e : TypeId} {v : Value} {l : List Change} (h : Sl tChange w S v l) (hA : At P tChange T e) (n : Int) (i : Nat) (hn : n = (i : Int)) (hi : i < l.length) :
    ∃ b o, (∀ W, Sem.run P (Instr.indexAt T v (.int .i64 n)) W = .ok (.pointer (some ⟨b, o, none⟩)) W) ∧ S b ∧ b < w.heap.size ∧ i64ok l[i].1 ∧ i64ok l[i].2.1 ∧ i64ok l[i].2.2 ∧
      w.cell? ⟨b, o, none⟩ = some (.int .i64 l[i].1) ∧ w.cell? ⟨b, o + 1, none⟩ = some (.int .i64 l[i].2.1) ∧ w.cell? ⟨b, o + 2, none⟩ = some (.int .i64 l[i].2.2) := by
  obtain ⟨b, o, cs, h1, h2, h3, ⟨rfl, h5, h6, h8⟩, h7⟩ := h.idx hA n i hn hi
  exact ⟨b, o, h1, h2, h3, h5, h6, h8, by simpa using h7 0 _ rfl, h7 1 _ rfl, h7 2 _ rfl⟩
theorem Sl.idxChgAt {w : World} {S : Blk} {P : Program} {T e : TypeId} {v : Value} {l : List Change} (h : Sl tChange w S v l) (hA : At P tChange T e) (n : Int) (i : Nat) (x : Change) (hn : n = (i : Int)) (hx : l[i]? = some x) :
    ∃ b o, (∀ W, Sem.run P (Instr.indexAt T v (.int .i64 n)) W = .ok (.pointer (some ⟨b, o, none⟩)) W) ∧ S b ∧ b < w.heap.size ∧ i64ok x.1 ∧ i64ok x.2.1 ∧ i64ok x.2.2 ∧
      w.cell? ⟨b, o, none⟩ = some (.int .i64 x.1) ∧ w.cell? ⟨b, o + 1, none⟩ = some (.int .i64 x.2.1) ∧ w.cell? ⟨b, o + 2, none⟩ = some (.int .i64 x.2.2) := by
  obtain ⟨hi, rfl⟩ := List.getElem?_eq_some_iff.1 hx
  exact h.idxChg hA n i hn hi
theorem Sl.idxRowAt {w : World} {S : Blk} {P : Program} {T e : TypeId} {v : Value} {l : List Row} (h : Sl tRow w S v l) (hA : At P tRow T e) (n : Int) (i : Nat) (x : Row) (hn : n = (i : Int)) (hx : l[i]? = some x) :
    ∃ b o, (∀ W, Sem.run P (Instr.indexAt T v (.int .i64 n)) W = .ok (.pointer (some ⟨b, o, none⟩)) W) ∧ S b ∧ b < w.heap.size ∧ i64ok x.1 ∧ i64ok x.2 ∧
      w.cell? ⟨b, o, none⟩ = some (.int .i64 x.1) ∧ w.cell? ⟨b, o + 1, none⟩ = some (.int .i64 x.2) := by
  obtain ⟨hi, rfl⟩ := List.getElem?_eq_some_iff.1 hx
  exact h.idxRow hA n i hn hi
end Go.Pch
end

section
namespace Go.Pch
open Go.RowKit Go.Proofs
theorem aLev : At Tryz.prog tRow.slice 122 56 := At.mk' Tryz.underlying122 (z := .slice none 0 0) (size := 1) (bytes := 24) (by kernel_rfl) rfl rfl (by decide)
set_option maxHeartbeats 1000000 in
theorem refCut (v : Value) (l : List Row) (n : Int) (S : Blk) (w : World) (h : Sl tRow w S v l) (hl : l.length ≤ 1000000) :
    Calls Tryz.prog 88 #[v, .int .i64 n] w (Ret w fun r w' => Sl tRow.slice w' (fun k => w.heap.size ≤ k) r (chunks n l)) := by
  obtain ⟨ao, cap, rfl, hcap, hmax, hnil⟩ := h.shape
  unfold maxLen at hmax
  go_enter Tryz.func88, Tryz.ntmps88
  go_wp2
  go_loopw [5, 6, 7] (fun out f i wr => ∃ (k fr : Nat) (done : List (List Row)), k ≤ l.length ∧ i = .int .i64 k ∧ f = .int .i64 fr ∧ fr ≤ k ∧ k ≤ fr + 5 ∧ done.length ≤ fr ∧ Below w.heap.size w wr ∧
      Own tRow.slice 56 wr w.heap.size (fun k => w.heap.size ≤ k) out done ∧ Hid (chunks n l = done ++ chunks n (l.drop fr)) ∧ Hid (k = l.length → fr = k) ∧ Hid (k < l.length → cnt n 0 (l.drop fr) = cnt n (k - fr) (l.drop k))) (fun _ _ i _ => l.length - (intOf i).toNat)
  case atStart => exact ⟨0, 0, [], Nat.zero_le _, rfl, rfl, Nat.le_refl _, by omega, Nat.le_refl _, Below.refl _ _, .nil, rfl, fun _ => rfl, fun _ => rfl⟩
  case round =>
    obtain ⟨k, fr, done, hk, rfl, rfl, hf, hf5, hdl, hb, ho, hch, hend, hcn⟩ := hrel
    by_cases hlt : k < l.length
    · obtain ⟨b, o, hix, _, hbs, ok1, ok2, hc0, hc1⟩ := (h.call hb).idxRow aRow k k rfl hlt
      obtain ⟨t, ht⟩ : ∃ t, t = (decide (1 ≤ k - fr) && endsB l[k] n || k - fr == 5 || decide (k + 1 = l.length)) := ⟨_, rfl⟩
      have HT := keepBack ht
      clear ht
      go_upto_region 7 with fail
      go_cut [8, 39] from 9 to 51 (fun z c wc => z = .int .i64 ((k : Int) - fr + 1) ∧ c = .bool t ∧ Below wr.heap.size wr wc)
      case first =>
        go_wp2_with (go_at_call 119; refine (refEndsOf _ _ _).mono ?_; rintro e w1 ⟨_, rfl, rfl, hb1⟩)
        all_goals
          go_meet
          case rel =>
            refine ⟨by go_num, congrArg Value.bool ?_, hb1⟩
            rw [HT.out, Bool.eq_iff_iff]
            first
              | (have hE : endsB l[k] n = true := by assumption
                 simp [hE]; omega)
              | (have hE : endsB l[k] n = false := by simpa using (by assumption : ¬ endsB l[k] n = true)
                 simp [hE]; omega)
      case rest =>
        obtain ⟨rfl, rfl, hbc⟩ := hcut
        have hwc := hb.trans (hbc.mono hb.size)
        have hsz := hwc.size
        have hoc := ho.call hbc
        cases t with
        | false =>
          have hk5 : k + 1 ≤ fr + 5 := by have := HT.out; simp at this; omega
          have hkl : k + 1 ≠ l.length := by have := HT.out; simp at this; omega
          go_wp2
          go_roundw
          case rel => exact ⟨k + 1, fr, done, by omega, by go_num, rfl, by omega, by omega, hdl, hwc, hoc, hch.out, fun e => absurd e hkl, fun _ => by rw [hcn.out hlt, cnt_go hlt HT.out.symm]; congr 1; omega⟩
          case measure => simp [intOf]; omega
        | true =>
          obtain ⟨ao1, cap1, hc1, hc2, hs1, hn1⟩ := (h.call hwc).cut aRow fr ((k : Int) + 1) fr (k + 1) rfl (by omega) (by omega) (by omega)
          obtain ⟨ck, hck⟩ : ∃ ck, ck = (l.drop fr).take (k + 1 - fr) := ⟨_, rfl⟩
          rw [← hck] at hs1
          have HCK := keepBack hck
          clear hck
          have hsr := fun W (hW : Below wc.heap.size wc W) => Src.row (D' := fun _ => False) (hs1.call hW).src
          go_wp2_with (at_builtin; refine wpList_grow rfl (.tmp 41) (.tmp 46) rfl aRow rfl (Own.made (B := wc.heap.size) (C := fun _ => False) _ (Nat.le_refl _)) rfl (by rw [HCK.out]; simp; omega) (hsr _ ((Below.refl _ _).alloc (Nat.le_refl _) _)) hn1 (fun _ h => h.elim) (by rw [HCK.out]; simp; omega) (by simp) ?_)
          intro v1 w1 hown1 hgrow1
          have hb1 : Below wc.heap.size wc w1 := ((Below.refl _ _).alloc (Nat.le_refl _) _).grown hgrow1 (by simp) (by simp [Value.ownBlock])
          obtain ⟨a1, p1, rfl, _, _⟩ := hown1.shape
          have hs1' := hown1.sl (D := fun k => wc.heap.size ≤ k) (fun _ h => h.elim) (fun _ h => h)
          have ho1 := hoc.call hb1
          have hsz1 := hb1.size
          go_wp2_with (at_builtin; refine wpList_grow rfl (.tmp 40) (.tmp 48) rfl aLev rfl (ho1.alloc _) rfl (by simp) (Src.one (cs := [_]) hs1' _) (by simp) ?_ (by simp; omega) (by simp; omega) ?_)
          · intro q hq _
            refine ⟨by omega, fun e => ?_⟩
            have := hoc.block q e.symm
            omega
          intro v2 w2 hown2 hgrow2
          have hb2 : Below w.heap.size w w2 := ((hwc.trans (hb1.mono hsz)).alloc (by omega) _).grown hgrow2 (by simp; omega) (fun g hg => (hoc.block g hg).1)
          have hcnt := (hcn.out hlt).trans (cnt_cut hlt HT.out.symm)
          have hst := chunks_step hf hlt hcnt
          have hnew : chunks n l = (done ++ [ck]) ++ chunks n (l.drop (k + 1)) := by rw [hch.out, hst, HCK.out]; simp
          have HN := keepBack hnew
          clear hcnt hst hnew hch hcn hend
          go_wp2
          go_roundw
          case rel => exact ⟨k + 1, k + 1, done ++ [ck], by omega, by go_num, by go_num, by omega, by omega, by simp; omega, hb2, hown2, HN.out, fun _ => rfl, fun _ => by rw [Nat.sub_self]⟩
          case measure => simp [intOf]; omega
    · go_wp2
      go_ret
      have hkl : k = l.length := by omega
      have hfk := hend.out hkl
      exact ⟨_, rfl, by rw [hch.out, List.drop_of_length_le (by omega), chunks_nil, List.append_nil]; exact ho.sl (fun _ h => h) (fun _ h => h), hb⟩
end Go.Pch
end

section
namespace Go.Pch
open Go.RowKit Go.Proofs
set_option maxHeartbeats 400000 in
theorem cloneRow (v : Value) (l : List Row) (S : Blk) (w : World) (h : Sl tRow w S v l) (hl : l.length ≤ 1000000) :
    Calls Tryz.prog 147 #[v] w (Ret w fun r w' => Sl tRow w' (fun k => w.heap.size ≤ k) r l) := by
  obtain ⟨ao, cap, rfl, hcap, hmax, hnil⟩ := h.shape
  cases ao with
  | none =>
    have h0 := hnil rfl
    obtain rfl : l = [] := List.eq_nil_of_length_eq_zero (by omega)
    subst h0
    have hq := fun W => Lib.run_eql_slice_nil (P := Tryz.prog) W 56 86 none 0 0 0 0 Tryz.underlying56
    go_enter Tryz.func147, Tryz.ntmps147
    go_wp2
    go_ret
    exact ⟨_, rfl, Sl.nil _ _ _, Below.refl _ _⟩
  | some ad =>
    have hq := fun W => Lib.run_eql_slice_nil (P := Tryz.prog) W 56 86 (some ad) l.length cap 0 0 Tryz.underlying56
    have hs := fun W (hW : Below w.heap.size w W) => Src.row (D' := fun _ => False) (h.call hW).src
    go_enter Tryz.func147, Tryz.ntmps147
    go_wp2_with (at_builtin; refine wpList_grow rfl (.tmp 5) (.tmp 6) rfl aRow rfl (Own.made (B := w.heap.size) (C := fun _ => False) _ (Nat.le_refl _)) rfl rfl (hs _ ((Below.refl _ _).alloc (Nat.le_refl _) _)) (by simp) (fun _ h => h.elim) (by simp; omega) (by simp) ?_)
    intro v1 w1 hown hgrow
    go_wp2
    go_ret
    exact ⟨_, rfl, hown.sl (fun _ h => h.elim) (fun _ h => h), ((Below.refl _ _).alloc (Nat.le_refl _) _).grown hgrow (by simp) (by simp [Value.ownBlock])⟩
set_option maxHeartbeats 400000 in
theorem chunkFirst (v : Value) (l : List Row) (n : Int) (S : Blk) (w : World) (h : Sl tRow w S v l) (hl : l ≠ []) :
    Calls Tryz.prog 146 #[v, .int .i64 n] w (Ret w fun r _ => r = .int .i64 (cnt n 0 l : Nat)) := by
  have hlp := List.length_pos_iff.2 hl
  have hv := h
  obtain ⟨ao, cap, rfl, hcap, hmax, hnil⟩ := h.shape
  unfold maxLen at hmax
  have h1 : l.length = 1 → cnt n 0 l = 1 := by
    intro e
    have := cnt_cut (n := n) (l := l) (k := 0) (c := 0) (by omega) (by simp [e])
    simpa using this
  have h2 : 2 ≤ l.length → cnt n 0 l = cnt n 1 (l.drop 1) := by
    intro e
    have := cnt_go (n := n) (l := l) (k := 0) (c := 0) (by omega) (by simp; omega)
    simpa using this
  have H1 := keepBack h1
  have H2 := keepBack h2
  clear h1 h2
  go_enter Tryz.func146, Tryz.ntmps146
  go_wp2
  · have h6 : 6 < l.length := by omega
    go_loopw [6] (fun i wr => ∃ k : Nat, 2 ≤ k ∧ k ≤ 6 ∧ i = .int .i64 k ∧ Below w.heap.size w wr ∧ Hid (cnt n 0 l = cnt n (k - 1) (l.drop (k - 1)))) (fun i _ => 6 - (intOf i).toNat)
    case atStart => exact ⟨2, by omega, by omega, rfl, Below.refl _ _, H2.out (by omega)⟩
    case round =>
      obtain ⟨k, hk2, hk, rfl, hb, hr⟩ := hrel
      by_cases hlt : k < 6
      · obtain ⟨b, o, hix, _, hbs, ok1, ok2, hc0, hc1⟩ := (hv.call hb).idxRow aRow ((k : Int) - 1) (k - 1) (by omega) (by omega)
        cases hE : endsB l[k - 1] n with
        | true =>
          go_wp2_with (go_at_call 178; refine (chunkEnds _ _ _).mono ?_; rintro e w1 ⟨_, rfl, rfl, hb1⟩)
          go_ret
          exact ⟨_, rfl, by rw [hr.out, cnt_cut (by omega) (by simp [hE]; omega), show k - 1 + 1 = k by omega]; rfl, hb.trans (hb1.mono hb.size)⟩
        | false =>
          go_wp2_with (go_at_call 178; refine (chunkEnds _ _ _).mono ?_; rintro e w1 ⟨_, rfl, rfl, hb1⟩)
          go_roundw
          case rel => exact ⟨k + 1, by omega, by omega, by go_num, hb.trans (hb1.mono hb.size), keepBack (by rw [hr.out, cnt_go (by omega) (by simp [hE]; omega)]; simp only [Nat.add_sub_cancel, show k - 1 + 1 = k by omega])⟩
          case measure => simp [intOf]; omega
      · have h5 : k = 6 := by omega
        have hfin : cnt n 0 l = 6 := by rw [hr.out, h5, cnt_cut (by omega) (by simp)]
        have HF := keepBack hfin
        clear h5 hfin hr
        go_wp2
        go_ret
        exact ⟨_, rfl, by rw [HF.out]; rfl, hb⟩
  · have h6 : l.length ≤ 6 := by omega
    go_loopw [6] (fun i wr => ∃ k : Nat, 2 ≤ k ∧ (k ≤ 2 ∨ k ≤ l.length) ∧ i = .int .i64 k ∧ Below w.heap.size w wr ∧ Hid (2 ≤ l.length → cnt n 0 l = cnt n (k - 1) (l.drop (k - 1)))) (fun i _ => 6 - (intOf i).toNat)
    case atStart => exact ⟨2, by omega, by omega, rfl, Below.refl _ _, H2.out⟩
    case round =>
      obtain ⟨k, hk2, hk, rfl, hb, hr⟩ := hrel
      by_cases hlt : k < l.length
      · obtain ⟨b, o, hix, _, hbs, ok1, ok2, hc0, hc1⟩ := (hv.call hb).idxRow aRow ((k : Int) - 1) (k - 1) (by omega) (by omega)
        cases hE : endsB l[k - 1] n with
        | true =>
          go_wp2_with (go_at_call 178; refine (chunkEnds _ _ _).mono ?_; rintro e w1 ⟨_, rfl, rfl, hb1⟩)
          go_ret
          exact ⟨_, rfl, by rw [hr.out (by omega), cnt_cut (by omega) (by simp [hE]; omega), show k - 1 + 1 = k by omega]; rfl, hb.trans (hb1.mono hb.size)⟩
        | false =>
          go_wp2_with (go_at_call 178; refine (chunkEnds _ _ _).mono ?_; rintro e w1 ⟨_, rfl, rfl, hb1⟩)
          go_roundw
          case rel => exact ⟨k + 1, by omega, by omega, by go_num, hb.trans (hb1.mono hb.size), fun h2 => by rw [hr.out h2, cnt_go (by omega) (by simp [hE]; omega)]; simp only [Nat.add_sub_cancel, show k - 1 + 1 = k by omega]⟩
          case measure => simp [intOf]; omega
      · have hfin : cnt n 0 l = l.length := by
          by_cases e1 : l.length = 1
          · rw [H1.out e1, e1]
          · have e2 : k = l.length := by omega
            rw [hr.out (by omega), cnt_cut (by omega) (by simp; omega)]; omega
        have HF := keepBack hfin
        clear hfin hr
        go_wp2
        go_ret
        exact ⟨_, rfl, by rw [HF.out]; rfl, hb⟩
end Go.Pch
end
