/- The walks of what the document says of chunks: comparing levels, cutting. -/
import Derived.Test.YtipondhhchicjaaC2
import Derived.Test.YtipondhhchicjaaOwn
import Derived.Deep.Cut
import Derived.Deep.CutRange
namespace Go.Pch
open Go.RowKit Go.Proofs

theorem aLev : At Try.prog tRow.slice 58 22 := At.mk' Try.underlying58 (z := .slice none 0 0) (size := 1) (bytes := 24) (by kernel_rfl) rfl rfl (by decide)

theorem refSameRows_of {c : Bool} (v u : Value) (l m : List Row) (S S' : Blk) (w : World) (h : Sl tRow w S v l) (g : Sl tRow w S' u m) (hc : decide (l = m) = c) :
    Calls Try.prog 17 #[v, u] w (Quiet w (.bool c)) := hc ▸ refSameRows v u l m S S' w h g

set_option maxHeartbeats 400000 in
theorem refSameLevel (v u : Value) (l m : List (List Row)) (S S' : Blk) (w : World) (h : Sl tRow.slice w S v l) (g : Sl tRow.slice w S' u m) :
    Calls Try.prog 60 #[v, u] w (Quiet w (.bool (decide (l = m)))) := by
  obtain ⟨ao, cap, rfl, hcap, hmax, hnil⟩ := h.shape
  obtain ⟨ao', cap', rfl, hcap', hmax', hnil'⟩ := g.shape
  unfold maxLen at hmax hmax'
  by_cases he : l.length = m.length
  · have hne : (((l.length : Nat) : Int) != (m.length : Int)) = false := by simp [he]
    have hl1 : l.length ≤ m.length := by omega
    have hl2 : m.length ≤ l.length := by omega
    clear he
    go_enter Try.func60, Try.ntmps60
    go_wp2
    go_loopw [5] (fun i wr => ∃ (k : Nat), k ≤ l.length ∧ i = .int .i64 k ∧ Drawn w wr ∧ Hid (l.take k = m.take k)) (fun i _ => l.length - (intOf i).toNat)
    case atStart => exact ⟨0, Nat.zero_le _, rfl, .refl _, rfl⟩
    case round =>
      obtain ⟨k, hk, rfl, hd, hm⟩ := hrel
      by_cases hlt : k < l.length
      · obtain ⟨b, o, a1, c1, hix, _, hbs, hs1, _, _, hc0⟩ := (h.call hd.below).idxSl aLev k k rfl hlt
        obtain ⟨b', o', a2, c2, hix', _, hbs', hs2, _, _, hc0'⟩ := (g.call hd.below).idxSl aLev k k rfl (by omega)
        cases hq : decide (l[k] = m[k]) with
        | true =>
          go_wp2_with fail
          go_quiet ((go_at_call 17; exact quietOf (refSameRows_of _ _ _ _ _ _ _ (hs1.keep fun _ _ _ => rfl) (hs2.keep fun _ _ _ => rfl) hq)))
          go_wp2
          go_roundw
          case rel => exact ⟨k + 1, by omega, by go_num, hd.next _, take_more hlt (by omega) hm.out (by simpa using hq)⟩
          case measure => simp [intOf]; omega
        | false =>
          go_wp2_with fail
          go_quiet ((go_at_call 17; exact quietOf (refSameRows_of _ _ _ _ _ _ _ (hs1.keep fun _ _ _ => rfl) (hs2.keep fun _ _ _ => rfl) hq)))
          go_wp2
          go_ret
          refine ⟨ret_no fun e => ?_, hd.next _⟩
          subst e
          simp at hq
      · go_wp2
        go_ret
        exact ⟨ret_yes (take_all hlt hl1 hl2 hm.out), hd⟩
  · have hne : (((l.length : Nat) : Int) != (m.length : Int)) = true := by simp; omega
    go_enter Try.func60, Try.ntmps60
    go_wp2
    go_ret
    exact ⟨ret_no fun e => he (by rw [e]), .refl _⟩

set_option maxHeartbeats 1000000 in
theorem refCut (v : Value) (l : List Row) (n : Int) (S : Blk) (w : World) (h : Sl tRow w S v l) (hl : l.length ≤ 1000000) :
    Calls Try.prog 81 #[v, .int .i64 n] w (Ret w fun r w' => Sl tRow.slice w' (fun k => w.heap.size ≤ k) r (chunks n l)) := by
  obtain ⟨ao, cap, rfl, hcap, hmax, hnil⟩ := h.shape
  unfold maxLen at hmax
  go_enter Try.func81, Try.ntmps81
  go_wp2
  go_loopw [5, 6, 7] (fun out f i wr => ∃ (k fr : Nat) (done : List (List Row)), k ≤ l.length ∧ i = .int .i64 k ∧ f = .int .i64 fr ∧ fr ≤ k ∧ k ≤ fr + 5 ∧ done.length ≤ fr ∧ Below w.heap.size w wr ∧
      Own tRow.slice 22 wr w.heap.size (fun k => w.heap.size ≤ k) out done ∧ Hid (chunks n l = done ++ chunks n (l.drop fr)) ∧ Hid (k = l.length → fr = k) ∧ Hid (k < l.length → cnt n 0 (l.drop fr) = cnt n (k - fr) (l.drop k))) (fun _ _ i _ => l.length - (intOf i).toNat)
  case atStart => exact ⟨0, 0, [], Nat.zero_le _, rfl, rfl, Nat.le_refl _, by omega, Nat.le_refl _, Below.refl _ _, .nil, rfl, fun _ => rfl, fun _ => rfl⟩
  case round =>
    obtain ⟨k, fr, done, hk, rfl, rfl, hf, hf5, hdl, hb, ho, hch, hend, hcn⟩ := hrel
    by_cases hlt : k < l.length
    · obtain ⟨b, o, hix, _, hbs, ok1, ok2, hc0, hc1⟩ := (h.call hb).idxRow aRow k k rfl hlt
      obtain ⟨t, ht⟩ : ∃ t, t = (decide (1 ≤ k - fr) && endsB l[k] n || k - fr == 5 || decide (k + 1 = l.length)) := ⟨_, rfl⟩
      have HT := keepBack ht
      clear ht
      go_upto_region 7 with fail
      go_cut [8, 39] from 9 to 51 (fun z c wc => z = .int .i64 ((k : Int) - fr + 1) ∧ c = .bool t ∧ Below wr.heap.size wr wc)
      case first =>
        go_wp2_with (go_at_call 94; refine (refEndsOf _ _ _).mono ?_; rintro e w1 ⟨_, rfl, rfl, hb1⟩)
        all_goals
          go_meet
          case rel =>
            refine ⟨by go_num, congrArg Value.bool ?_, hb1⟩
            rw [HT.out, Bool.eq_iff_iff]
            first
              | (have hE : endsB l[k] n = true := by assumption
                 simp [hE]; omega)
              | (have hE : endsB l[k] n = false := by simpa using (by assumption : ¬ endsB l[k] n = true)
                 simp [hE]; omega)
      case rest =>
        obtain ⟨rfl, rfl, hbc⟩ := hcut
        have hwc := hb.trans (hbc.mono hb.size)
        have hsz := hwc.size
        have hoc := ho.call hbc
        cases t with
        | false =>
          have hk5 : k + 1 ≤ fr + 5 := by have := HT.out; simp at this; omega
          have hkl : k + 1 ≠ l.length := by have := HT.out; simp at this; omega
          go_wp2
          go_roundw
          case rel => exact ⟨k + 1, fr, done, by omega, by go_num, rfl, by omega, by omega, hdl, hwc, hoc, hch.out, fun e => absurd e hkl, fun _ => by rw [hcn.out hlt, cnt_go hlt HT.out.symm]; congr 1; omega⟩
          case measure => simp [intOf]; omega
        | true =>
          obtain ⟨ao1, cap1, hc1, hc2, hs1, hn1⟩ := (h.call hwc).cut aRow fr ((k : Int) + 1) fr (k + 1) rfl (by omega) (by omega) (by omega)
          obtain ⟨ck, hck⟩ : ∃ ck, ck = (l.drop fr).take (k + 1 - fr) := ⟨_, rfl⟩
          rw [← hck] at hs1
          have HCK := keepBack hck
          clear hck
          have hsr := fun W (hW : Below wc.heap.size wc W) => Src.row (D' := fun _ => False) (hs1.call hW).src
          go_wp2_with (at_builtin; refine wpList_grow rfl (.tmp 41) (.tmp 46) rfl aRow rfl (Own.made (B := wc.heap.size) (C := fun _ => False) _ (Nat.le_refl _)) rfl (by rw [HCK.out]; simp; omega) (hsr _ ((Below.refl _ _).alloc (Nat.le_refl _) _)) hn1 (fun _ h => h.elim) (by rw [HCK.out]; simp; omega) (by simp) ?_)
          intro v1 w1 hown1 hgrow1
          have hb1 : Below wc.heap.size wc w1 := ((Below.refl _ _).alloc (Nat.le_refl _) _).grown hgrow1 (by simp) (by simp [Value.ownBlock])
          obtain ⟨a1, p1, rfl, _, _⟩ := hown1.shape
          have hs1' := hown1.sl (D := fun k => wc.heap.size ≤ k) (fun _ h => h.elim) (fun _ h => h)
          have ho1 := hoc.call hb1
          have hsz1 := hb1.size
          go_wp2_with (at_builtin; refine wpList_grow rfl (.tmp 40) (.tmp 48) rfl aLev rfl (ho1.alloc _) rfl (by simp) (Src.one (cs := [_]) hs1' _) (by simp) ?_ (by simp; omega) (by simp; omega) ?_)
          · intro q hq _
            refine ⟨by omega, fun e => ?_⟩
            have := hoc.block q e.symm
            omega
          intro v2 w2 hown2 hgrow2
          have hb2 : Below w.heap.size w w2 := ((hwc.trans (hb1.mono hsz)).alloc (by omega) _).grown hgrow2 (by simp; omega) (fun g hg => (hoc.block g hg).1)
          have hcnt := (hcn.out hlt).trans (cnt_cut hlt HT.out.symm)
          have hst := chunks_step hf hlt hcnt
          have hnew : chunks n l = (done ++ [ck]) ++ chunks n (l.drop (k + 1)) := by rw [hch.out, hst, HCK.out]; simp
          have HN := keepBack hnew
          clear hcnt hst hnew hch hcn hend
          go_wp2
          go_roundw
          case rel => exact ⟨k + 1, k + 1, done ++ [ck], by omega, by go_num, by go_num, by omega, by omega, by simp; omega, hb2, hown2, HN.out, fun _ => rfl, fun _ => by rw [Nat.sub_self]⟩
          case measure => simp [intOf]; omega
    · go_wp2
      go_ret
      have hkl : k = l.length := by omega
      have hfk := hend.out hkl
      exact ⟨_, rfl, by rw [hch.out, List.drop_of_length_le (by omega), chunks_nil, List.append_nil]; exact ho.sl (fun _ h => h) (fun _ h => h), hb⟩

end Go.Pch
