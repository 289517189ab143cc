/- The walks of package tree: what tells of chunks. -/
import Derived.Test.YtipondhhchicjaaC7
import Derived.Test.YtipondhhchicjaaTreeD
import Derived.Test.YtipondhhchicjaaStep
namespace Go.Pch
open Go.RowKit Go.Proofs

theorem tell_at {c : List Row} (h : 0 < c.length) : tell c = (c[c.length - 1].1, sumL c) := by
  rw [tell, List.getLast?_eq_getElem?, List.getElem?_eq_getElem (by omega)]; rfl

theorem World.size_lt_alloc (w : World) (o : Obj) : w.heap.size < (w.alloc o).heap.size := by simp

set_option maxRecDepth 100000 in
set_option maxHeartbeats 1000000 in
theorem chunkTold (v : Value) (X : List (List Row)) (S : Blk) (w : World) (h : Sl tRow.slice w S v X) (hX : ∀ (i : Nat) (c : List Row), X[i]? = some c → 0 < c.length ∧ fineB c = true) (hl : X.length ≤ 1000000) :
    Calls Try.prog 76 #[v] w (Ret w fun r w' => Sl tRow w' (fun k => w.heap.size ≤ k) r (X.map tell)) := by
  have hv := h.old
  obtain ⟨ao, cap, rfl, hcap, hmax, hnil⟩ := h.shape
  unfold maxLen at hmax
  have HX := keepBack hX
  clear hX
  go_enter Try.func76, Try.ntmps76
  go_wp2
  go_loopw [3, 8] (fun out i wr => ∃ (j : Nat), j ≤ X.length ∧ i = .int .i64 j ∧ Below w.heap.size w wr ∧ Own tRow 64 wr w.heap.size (fun _ => False) out ((X.take j).map tell)) (fun _ i _ => X.length - (intOf i).toNat)
  case atStart => exact ⟨0, Nat.zero_le _, rfl, Below.refl _ _, .nil⟩
  case round =>
    obtain ⟨j, hj, rfl, hb, ho⟩ := hrel
    have hs := hb.size
    by_cases hlt : j < X.length
    · obtain ⟨ck, hck⟩ : ∃ ck, X[j]? = some ck := ⟨X[j], List.getElem?_eq_getElem hlt⟩
      obtain ⟨z1, z2⟩ := HX.out j ck hck
      obtain ⟨b, o, a2, c2, hix, _, hbs, hsk0, hc2, hcm2, hc00⟩ := hv.idxSlAt aLev j j ck ck.length rfl hck rfl
      obtain ⟨b', o', hixr, hb', _, ok1, ok2, hr00, hr1⟩ := hsk0.idxRow aRow ((ck.length : Int) - 1) (ck.length - 1) (by omega) (by omega)
      have hc0 := (hb.cell (p := ⟨b, o, none⟩) hbs).trans hc00
      have HT := keepBack (tell_at z1)
      generalize ck[ck.length - 1] = r at *
      have hlen : ((X.take j).map tell).length = j := by simp; omega
      have hnext : (X.take (j + 1)).map tell = (X.take j).map tell ++ [tell ck] := by
        rw [List.take_add_one, hck, List.map_append]; rfl
      have HN := keepBack hnext
      generalize (X.take j).map tell = G at ho hlen HN
      have HL := keepBack (show G.length ≤ j by omega)
      have hsb := fold_bounds ck
      clear hck hlen hnext
      have hwr : IntKind.i64.wrap ((ck.length : Int) - 1) = (ck.length : Int) - 1 := by rw [IntKind.wrap_i64]; unfold maxLen at hcm2; omega
      obtain ⟨ao3, c3, rfl, _, _⟩ := ho.shape
      go_wp2_with fail
      have KS : ∀ W, Below w.heap.size w W → Below w.heap.size w W ∧ W.cell? ⟨b', o', none⟩ = some (.int .i64 r.1) := fun W hW => ⟨hW, (hW.cell (p := ⟨b', o', none⟩) hb').trans hr00⟩
      have hone : ∀ W, tRow.rd W (fun _ => False) [.int .i64 r.1, .int .i64 (sumL ck)] (r.1, sumL ck) := fun W => tRow_mk _ _ _ _ ok1 (ok_small (by unfold sumL; omega))
      have HB : G.length + [(r.1, sumL ck)].length ≤ 1000000000000 := by have := HL.out; simp; omega
      go_region_held3 (fun w' => Below w.heap.size w w' ∧ w'.cell? ⟨b', o', none⟩ = some (.int .i64 r.1))
        (first
          | exact KS _ hb.drew
          | exact KS _ hb
          | exact KS _ (by assumption)
          | exact KS _ (Below.alloc (by assumption) (by omega) _)
          | fail)
        (first
          | (go_at_call 92; refine (chunkOf _ ck _ wr.drew (hsk0.below hb.drew) z2).mono ?_; rintro e w1 ⟨_, rfl, rfl, b1⟩; have ho1 := (ho.keep (w' := wr.drew) fun _ _ _ => rfl).call b1; have hb1 : Below w.heap.size w w1 := hb.drew.trans (b1.mono hs); have hs1 := hb1.size)
          | (refine step_grow rfl (.tmp 12) (.tmp 23) rfl aRow rfl (ho1.alloc _) rfl rfl (Src.one (hone _) _) nofun (fun _ h => h.elim) HB (Nat.le_trans hs1 (Nat.le_of_lt (World.size_lt_alloc _ _))) ?_; intro v2 w2 ho2 hg2; have hb2 : Below w.heap.size w w2 := (hb1.alloc hs1 _).grown hg2 (Nat.le_trans hs1 (Nat.le_of_lt (World.size_lt_alloc _ _))) (fun g hg => (ho1.block g hg).1)))
      go_wp2
      go_roundw
      case rel => exact ⟨j + 1, by omega, by go_num, hb2, by rw [HN.out, HT.out]; exact ho2⟩
      case measure => simp [intOf]; omega
    · obtain rfl : j = X.length := by omega
      go_wp2
      go_ret
      rw [List.take_length] at ho
      exact ⟨_, rfl, ho.sl (fun _ h => h.elim) (fun _ h => h), hb⟩

end Go.Pch
