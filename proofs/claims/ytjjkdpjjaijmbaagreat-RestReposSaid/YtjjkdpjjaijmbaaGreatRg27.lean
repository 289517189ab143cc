/- The walks of SameRepos and of the law RepoTells' examples. The walks of shop, Begin, repoBegun and the law RepoTells. -/
import Derived.Test.YtjjkdpjjaijmbaaGreatRg26
import Derived.Test.YtjjkdpjjaijmbaaGreatRg22
section
namespace Go.Pch
open Go.RowKit Go.Proofs
set_option maxRecDepth 100000

theorem hdGuard : Tryz.prog.eqGuardType Tryz.prog.depth 46 = false := by kernel_rfl
theorem hdHeld : Tryz.prog.stoodInHeld 46 = false := by kernel_rfl
theorem hdStruct : Tryz.prog.underlying 46 = some (.struct (Tryz.prog.fieldsOf 46)) := by kernel_rfl
theorem hdFields : (Tryz.prog.fieldsOf 46).toList.map (fun f => (f.type, f.offset, f.name)) = [(9, 0, "Name"), (3, 1, "At")] := by kernel_rfl
theorem two_of_mapH {α β : Type} {f : α → β} {l : List α} {x y : β} (h : l.map f = [x, y]) : ∃ a b, l = [a, b] ∧ f a = x ∧ f b = y := by
  match l, h with
  | [a, b], h => simp at h; exact ⟨a, b, rfl, h.1, h.2⟩
theorem bytes_eq {a b : ByteArray} : (a.toList == b.toList) = decide (a = b) := by
  rw [Bool.eq_iff_iff, decide_eq_true_eq, beq_iff_eq, ByteArray.toList_eq, ByteArray.toList_eq]
  constructor
  · intro h
    obtain ⟨⟨x⟩⟩ := a
    obtain ⟨⟨y⟩⟩ := b
    simp at h
    rw [h]
  · rintro rfl; rfl
theorem hdEqual (x y : Head) (W : World) : Sem.run Tryz.prog (Op.equalIn 10000 46 (.agg #[.string x.1, .int .i64 x.2]) (.agg #[.string y.1, .int .i64 y.2])) W = .ok (decide (x = y)) W := by
  obtain ⟨a, b⟩ := x
  obtain ⟨a', b'⟩ := y
  obtain ⟨f, g, h1, h2, h3⟩ := two_of_mapH hdFields
  simp only [Prod.mk.injEq] at h2 h3
  obtain ⟨h21, h22, h23⟩ := h2
  obtain ⟨h31, h32, h33⟩ := h3
  rw [show (10000 : Nat) = 9999 + 1 from rfl, run_equalIn_struct W 9999 _ _ _ hdStruct hdHeld, h1]
  have e := fun x y W => run_equalIn_int (P := Tryz.prog) W 9998 3 .i64 .i64 x y Tryz.underlying3
  have es := fun x y W => run_equalIn_string (P := Tryz.prog) W 9998 9 x y Tryz.underlying9
  simp only [Nat.reduceAdd] at e es
  have hb := @bytes_eq a a'
  by_cases ha : a = a' <;> by_cases hb : b = b' <;> simp_all [Op.eqFields, part]


set_option maxHeartbeats 4000000 in
theorem refSameRepos (v u : Value) (a b : Repo) (S S' : Blk) (w : World) (h : Rp w S v a) (g : Rp w S' u b) :
    Calls Tryz.prog 12 #[v, u] w (Ret w fun r _ => r = .bool (decide (a.1 = b.1) && decide (a.2 = b.2))) := by
  obtain ⟨cs, hs⟩ := a
  obtain ⟨cs', hs'⟩ := b
  obtain ⟨vc, vh, rfl, hc, hh⟩ := h
  obtain ⟨vc', vh', rfl, gc, gh⟩ := g
  obtain ⟨ac, cc, rfl, _, hm1, _⟩ := hc.shape
  obtain ⟨ah, ch, rfl, _, hm2, _⟩ := hh.shape
  obtain ⟨ac', cc', rfl, _, _, _⟩ := gc.shape
  obtain ⟨ah', ch', rfl, _, _, _⟩ := gh.shape
  simp only at hc hh gc gh
  unfold maxLen at hm1 hm2
  obtain ⟨wA, hwA⟩ : ∃ wA, wA = (w.alloc (.cells #[.slice ac cs.length cc, .slice ah hs.length ch] 25)).alloc (.cells #[.slice ac' cs'.length cc', .slice ah' hs'.length ch'] 25) := ⟨_, rfl⟩
  have bA : Below w.heap.size w wA := by rw [hwA]; exact ((Below.refl _ _).alloc (Nat.le_refl _) _).alloc (by simp) _
  have sA : wA.heap.size = w.heap.size + 2 := by rw [hwA]; simp
  have k0 : wA.cell? ⟨w.heap.size, 0, none⟩ = some (.slice ac cs.length cc) := by rw [hwA]; simp
  have k1 : wA.cell? ⟨w.heap.size, 1, none⟩ = some (.slice ah hs.length ch) := by rw [hwA]; simp
  have k2 : wA.cell? ⟨w.heap.size + 1, 0, none⟩ = some (.slice ac' cs'.length cc') := by rw [hwA]; simp
  have k3 : wA.cell? ⟨w.heap.size + 1, 1, none⟩ = some (.slice ah' hs'.length ch') := by rw [hwA]; simp
  have HWA := keepBack hwA
  clear hwA
  have hcA := (hc.call bA).old
  have hhA := (hh.call bA).old
  have gcA := (gc.call bA).old
  have ghA := (gh.call bA).old
  by_cases e1 : cs.length = cs'.length
  · by_cases e2 : hs.length = hs'.length
    · have n1 : (((cs.length : Nat) : Int) != (cs'.length : Int)) = false := by simp [e1]
      have n2 : (((hs.length : Nat) : Int) != (hs'.length : Int)) = false := by simp [e2]
      have hl1 : cs.length ≤ cs'.length := by omega
      have hl2 : cs'.length ≤ cs.length := by omega
      have hl3 : hs.length ≤ hs'.length := by omega
      have hl4 : hs'.length ≤ hs.length := by omega
      clear e1 e2
      go_enter Tryz.func12, Tryz.ntmps12
      go_wp2_with fail
      rw [← HWA.out]
      go_loopw [5] (fun i wr => ∃ (k : Nat), k ≤ cs.length ∧ i = .int .i64 k ∧ Drawn wA wr ∧ Hid (cs.take k = cs'.take k)) (fun i _ => cs.length - (intOf i).toNat)
      case atStart => exact ⟨0, Nat.zero_le _, rfl, .refl _, rfl⟩
      case round =>
        obtain ⟨k, hk, rfl, hdr, hm⟩ := hrel
        have hb := hdr.below
        have z0 := (hb.cell (p := ⟨w.heap.size, 0, none⟩) (by simp; omega)).trans k0
        have z1 := (hb.cell (p := ⟨w.heap.size, 1, none⟩) (by simp; omega)).trans k1
        have z2 := (hb.cell (p := ⟨w.heap.size + 1, 0, none⟩) (by simp; omega)).trans k2
        have z3 := (hb.cell (p := ⟨w.heap.size + 1, 1, none⟩) (by simp; omega)).trans k3
        by_cases hlt : k < cs.length
        · obtain ⟨rs, ps, hck⟩ : ∃ r p, cs[k] = (r, p) := ⟨_, _, rfl⟩
          obtain ⟨rs', ps', hck'⟩ : ∃ r p, cs'[k]'(by omega) = (r, p) := ⟨_, _, rfl⟩
          obtain ⟨b, o, a1, c1, a2, c2, hix, _, hbs, h1, h2, y1, y2, y3, y4, hc0, hc1⟩ := (hcA.call hb).idxCommitAt aCom k k rfl hlt rs ps hck
          obtain ⟨b', o', a1', c1', a2', c2', hix', _, hbs', g1, g2, y1', y2', y3', y4', hc0', hc1'⟩ := (gcA.call hb).idxCommitAt aCom k k rfl (by omega) rs' ps' hck'
          have HCK := keepBack hck
          have HCK' := keepBack hck'
          clear hck hck'
          cases q1 : decide (rs = rs') with
          | false =>
            have q2 : decide (ps = ps') = decide (ps = ps') := rfl
            clear q2
            go_wp2_with fail
            go_quiet ((go_at_call 13; exact quietOf (rowsSame_of _ _ _ _ _ _ _ (h1.keep fun _ _ _ => rfl) (g1.keep fun _ _ _ => rfl) q1)))
            go_wp2
            go_ret
            refine ⟨_, rfl, ?_, bA.trans ((hdr.next _).below.mono (by omega))⟩
            have : decide (cs = cs') = false := by
              rw [decide_eq_false_iff_not]
              rintro rfl
              have := HCK.out.symm.trans HCK'.out
              simp only [Prod.mk.injEq] at this
              rw [this.1] at q1
              simp at q1
            simp only
            rw [this]; rfl
          | true =>
            cases q2 : decide (ps = ps') with
            | false =>
              go_wp2_with fail
              go_quiet ((first | (go_at_call 13; exact quietOf (rowsSame_of _ _ _ _ _ _ _ (h1.keep fun _ _ _ => rfl) (g1.keep fun _ _ _ => rfl) q1)) | (go_at_call 34; exact quietOf (refSameInts_of _ _ _ _ _ _ _ (h2.keep fun _ _ _ => rfl) (g2.keep fun _ _ _ => rfl) q2))))
              go_wp2
              go_ret
              refine ⟨_, rfl, ?_, bA.trans ((hdr.next _).below.mono (by omega))⟩
              have : decide (cs = cs') = false := by
                rw [decide_eq_false_iff_not]
                rintro rfl
                have := HCK.out.symm.trans HCK'.out
                simp only [Prod.mk.injEq] at this
                rw [this.2] at q2
                simp at q2
              simp only
              rw [this]; rfl
            | true =>
              have HT := keepBack (take_more hlt (by omega) hm.out (by rw [HCK.out, HCK'.out, of_decide_eq_true q1, of_decide_eq_true q2]))
              go_wp2_with fail
              go_quiet ((first | (go_at_call 13; exact quietOf (rowsSame_of _ _ _ _ _ _ _ (h1.keep fun _ _ _ => rfl) (g1.keep fun _ _ _ => rfl) q1)) | (go_at_call 34; exact quietOf (refSameInts_of _ _ _ _ _ _ _ (h2.keep fun _ _ _ => rfl) (g2.keep fun _ _ _ => rfl) q2))))
              go_wp2
              go_roundw
              case rel => exact ⟨k + 1, by omega, by go_num, hdr.next _, HT⟩
              case measure => simp [intOf]; omega
        · have HCE := keepBack (take_all hlt hl1 hl2 hm.out)
          obtain ⟨wo, rfl⟩ : ∃ wo : World, wo = wr := ⟨_, rfl⟩
          go_wp2_with fail
          go_loopw [6] (fun i wr => ∃ (k : Nat), k ≤ hs.length ∧ i = .int .i64 k ∧ Drawn wA wr ∧ Hid (hs.take k = hs'.take k)) (fun i _ => hs.length - (intOf i).toNat)
          case atStart => exact ⟨0, Nat.zero_le _, rfl, hdr, rfl⟩
          case round =>
            obtain ⟨j, hj, rfl, hdr2, hm'⟩ := hrel
            have hb2 := hdr2.below
            have x0 := (hb2.cell (p := ⟨w.heap.size, 0, none⟩) (by simp; omega)).trans k0
            have x1 := (hb2.cell (p := ⟨w.heap.size, 1, none⟩) (by simp; omega)).trans k1
            have x2 := (hb2.cell (p := ⟨w.heap.size + 1, 0, none⟩) (by simp; omega)).trans k2
            have x3 := (hb2.cell (p := ⟨w.heap.size + 1, 1, none⟩) (by simp; omega)).trans k3
            by_cases hlt2 : j < hs.length
            · obtain ⟨b, o, hix, _, hbs, _, _, hc0, hc1⟩ := (hhA.call hb2).idxHeadAt aHead j j hs[j] rfl (List.getElem?_eq_getElem hlt2)
              obtain ⟨b', o', hix', _, hbs', _, _, hc0', hc1'⟩ := (ghA.call hb2).idxHeadAt aHead j j (hs'[j]'(by omega)) rfl (List.getElem?_eq_getElem _)
              have hg := hdGuard
              have he := hdEqual hs[j] (hs'[j]'(by omega))
              by_cases hx : hs[j] = hs'[j]'(by omega)
              · have HT := keepBack (take_more hlt2 (by omega) hm'.out hx)
                rw [decide_eq_true hx] at he
                clear hx
                go_wp2_with fail
                go_quiet (fail)
                go_wp2
                go_roundw
                case rel => exact ⟨j + 1, by omega, by go_num, hdr2.next _, HT⟩
                case measure => simp [intOf]; omega
              · have HT := keepBack (show decide (hs = hs') = false by
                  rw [decide_eq_false_iff_not]
                  rintro rfl
                  exact hx rfl)
                rw [decide_eq_false hx] at he
                clear hx
                go_wp2_with fail
                go_quiet (fail)
                go_wp2
                go_ret
                refine ⟨_, rfl, ?_, bA.trans ((hdr2.next _).below.mono (by omega))⟩
                simp only
                rw [HT.out, Bool.and_false]; rfl
            · have HHE := keepBack (take_all hlt2 hl3 hl4 hm'.out)
              go_wp2_with fail
              go_ret
              refine ⟨_, rfl, ?_, bA.trans (hb2.mono (by omega))⟩
              simp only
              rw [decide_eq_true HCE.out, decide_eq_true HHE.out]; rfl
    · have n1 : (((cs.length : Nat) : Int) != (cs'.length : Int)) = false := by simp [e1]
      have n2 : (((hs.length : Nat) : Int) != (hs'.length : Int)) = true := by simp; omega
      have HNE := keepBack (show decide (hs = hs') = false by rw [decide_eq_false_iff_not]; exact fun e => e2 (by rw [e]))
      clear e1 e2
      go_enter Tryz.func12, Tryz.ntmps12
      go_wp2_with fail
      rw [← HWA.out]
      go_ret
      refine ⟨_, rfl, ?_, bA⟩
      simp only
      rw [HNE.out, Bool.and_false]; rfl
  · have n1 : (((cs.length : Nat) : Int) != (cs'.length : Int)) = true := by simp; omega
    have HNE := keepBack (show decide (cs = cs') = false by rw [decide_eq_false_iff_not]; exact fun e => e1 (by rw [e]))
    clear e1
    go_enter Tryz.func12, Tryz.ntmps12
    go_wp2_with fail
    rw [← HWA.out]
    go_ret
    refine ⟨_, rfl, ?_, bA⟩
    simp only
    rw [HNE.out, Bool.false_and]; rfl

end Go.Pch
end

section
namespace Go.Pch
open Go.RowKit Go.Proofs
set_option maxRecDepth 100000

def shopH (s : ByteArray) (t : ByteArray) : List Head := [(s, 3), (t, 1)]

/-- Two heads in a block. -/
theorem headsTwo {w : World} {S : Blk} {g : Nat} {s t : ByteArray} {a b : Int} {e : TypeId} (hg : w.heap[g]? = some (.cells #[.string s, .int .i64 a, .string t, .int .i64 b] e)) (hS : S g) (ha : i64ok a) (hb : i64ok b) (hs : s.size ≤ 1000) (ht : t.size ≤ 1000) :
    Sl tHead w S (.slice (some ⟨g, 0, none⟩) 2 2) [(s, a), (t, b)] := by
  refine ⟨some ⟨g, 0, none⟩, 2, 2, rfl, rfl, Nat.le_refl _, by unfold maxLen; omega, by simp, fun i x hi => ?_⟩
  refine ⟨g, 0, rfl, hS, [.string x.1, .int .i64 x.2], ⟨rfl, ?_, ?_⟩, fun j u hj => ?_⟩
  · match i, hi with
    | 0, hi => simp at hi; subst hi; exact ha
    | 1, hi => simp at hi; subst hi; exact hb
    | i + 2, hi => simp at hi
  · match i, hi with
    | 0, hi => simp at hi; subst hi; unfold maxLen; show s.size ≤ _; omega
    | 1, hi => simp at hi; subst hi; unfold maxLen; show t.size ≤ _; omega
    | i + 2, hi => simp at hi
  · have es : tHead.size = 2 := rfl
    refine ⟨?_, frozen_of_row w g _ _ _ hg⟩
    rw [es, World.cell?, hg]
    match i, hi, j, hj with
    | 0, hi, 0, hj => simp at hi hj; subst hi; subst hj; rfl
    | 0, hi, 1, hj => simp at hi hj; subst hi; subst hj; rfl
    | 1, hi, 0, hj => simp at hi hj; subst hi; subst hj; rfl
    | 1, hi, 1, hj => simp at hi hj; subst hi; subst hj; rfl
    | 0, hi, j + 2, hj => simp at hj
    | 1, hi, j + 2, hj => simp at hj
    | i + 2, hi, _, _ => simp at hi

set_option maxHeartbeats 1000000 in
theorem lawShop (w : World) : Calls Tryz.prog 22 #[] w (Ret w fun r w' => ∃ vc g, r = .agg #[vc, .slice (some ⟨g, 0, none⟩) 2 2] ∧ w.heap.size ≤ g ∧ g < w'.heap.size ∧
    w'.heap[g]? = some (.cells #[.string (ByteArray.mk #[109, 97, 105, 110]), .int .i64 3, .string (ByteArray.mk #[115, 105, 100, 101]), .int .i64 1] 46) ∧ Sl tCommit w' (fun k => w.heap.size ≤ k ∧ k ≠ g) vc crossL) := by
  obtain ⟨w0, hw0⟩ : ∃ w0, w0 = w.alloc (.cells #[.slice none 0 0, .slice none 0 0] 25) := ⟨_, rfl⟩
  have b0 : Below w.heap.size w w0 := by rw [hw0]; exact (Below.refl _ _).alloc (Nat.le_refl _) _
  have s0 : w0.heap.size = w.heap.size + 1 := by rw [hw0]; simp
  have h0 : w0.heap[w.heap.size]? = some (.cells #[.slice none 0 0, .slice none 0 0] 25) := by rw [hw0]; exact heap_alloc_new w _
  have HW0 := keepBack hw0
  clear hw0
  go_enter Tryz.func22, Tryz.ntmps22
  go_wp2_with fail
  rw [← HW0.out]
  refine (lawCross _).mono ?_; rintro e w1 ⟨_, rfl, ⟨g, hg1, hg2, rfl, hR⟩, b1⟩
  have s1 := b1.size
  have HB : Hid ((w1.alloc (.cells #[.string (ByteArray.mk #[109, 97, 105, 110]), .int .i64 3, .string (ByteArray.mk #[115, 105, 100, 101]), .int .i64 1] 46)).heap[w.heap.size]? = some (.cells #[.slice none 0 0, .slice none 0 0] 25)) := keepBack ((Below.heap_alloc w1 _ _ (by omega)).trans ((b1.block _ (by omega)).trans h0))
  have HH : Hid ((w1.alloc (.cells #[.string (ByteArray.mk #[109, 97, 105, 110]), .int .i64 3, .string (ByteArray.mk #[115, 105, 100, 101]), .int .i64 1] 46)).heap[w1.heap.size]? = some (.cells #[.string (ByteArray.mk #[109, 97, 105, 110]), .int .i64 3, .string (ByteArray.mk #[115, 105, 100, 101]), .int .i64 1] 46)) := keepBack (heap_alloc_new w1 _)
  have HONE : Hid ((#[Value.slice (some ⟨g, 0, none⟩) 6 6, Value.slice (some ⟨w1.heap.size, 0, none⟩) 2 2].all (·.oneCell')) = true) := keepBack (by simp [Value.oneCell'])
  obtain ⟨W, HW⟩ : ∃ W, Hid (W = (w1.alloc (.cells #[.string (ByteArray.mk #[109, 97, 105, 110]), .int .i64 3, .string (ByteArray.mk #[115, 105, 100, 101]), .int .i64 1] 46)).setRow w.heap.size #[Value.slice (some ⟨g, 0, none⟩) 6 6, Value.slice (some ⟨w1.heap.size, 0, none⟩) 2 2]) := ⟨_, rfl⟩
  have HG : Hid (W.heap[w.heap.size]? = some (.cells #[Value.slice (some ⟨g, 0, none⟩) 6 6, Value.slice (some ⟨w1.heap.size, 0, none⟩) 2 2] 25)) := keepBack (by rw [HW.out]; exact setRow_heap _ _ _ _ _ _ HB.out)
  have HH2 : Hid (W.heap[w1.heap.size]? = some (.cells #[.string (ByteArray.mk #[109, 97, 105, 110]), .int .i64 3, .string (ByteArray.mk #[115, 105, 100, 101]), .int .i64 1] 46)) := keepBack (by rw [HW.out, setRow_other _ _ _ _ (by omega)]; exact HH.out)
  have hbW : Below w.heap.size w W := by rw [HW.out]; exact below_setRow ((b0.trans (b1.mono (by omega))).alloc (by omega) _) (Nat.le_refl _) _
  have hC : Sl tCommit W (fun k => w.heap.size ≤ k ∧ k ≠ w1.heap.size) (.slice (some ⟨g, 0, none⟩) 6 6) crossL := by
    have h1 : Sl tCommit w1 (fun k => w.heap.size + 1 ≤ k ∧ k < w1.heap.size) (.slice (some ⟨g, 0, none⟩) 6 6) crossL := hR.sl (fun k hk => ⟨by omega, by omega⟩) ⟨by omega, hg2⟩ (by unfold maxLen; decide) 6 rfl
    rw [HW.out]
    refine (h1.keep fun k hk hlt => ?_).mono fun k hk _ => ⟨by omega, by omega⟩
    rw [setRow_other _ _ _ _ (by omega)]
    exact Below.heap_alloc w1 _ _ hlt
  have hsz : W.heap.size = w1.heap.size + 1 := by rw [HW.out]; simp
  go_wp2_with (refine wpList_store_row rfl 25 (.tmp 0) (.tmp 5) rfl w.heap.size #[Value.slice (some ⟨g, 0, none⟩) 6 6, Value.slice (some ⟨w1.heap.size, 0, none⟩) 2 2] rfl rfl _ _ HB.out rfl rfl HONE.out ?_; rw [show (w1.alloc (.cells #[.string (ByteArray.mk #[109, 97, 105, 110]), .int .i64 3, .string (ByteArray.mk #[115, 105, 100, 101]), .int .i64 1] 46)).setRow w.heap.size #[Value.slice (some ⟨g, 0, none⟩) 6 6, Value.slice (some ⟨w1.heap.size, 0, none⟩) 2 2] = W from HW.out.symm])
  exact bodyPost_ret (results_cell_row rfl _ _ _ _ _ _ _ rfl HG.out Tryz.underlying25 rfl rfl) rfl ⟨_, rfl, ⟨_, w1.heap.size, rfl, by omega, by omega, HH2.out, hC⟩, hbW⟩

/-- I1: what Begin gives. -/
theorem beginRp (w : World) (A : Obj) : Sl tCommit (((w.alloc A).alloc (.cells #[.slice none 0 0, .slice none 0 0] 42)).alloc (.cells #[.string (ByteArray.mk #[109, 97, 105, 110]), .int .i64 0] 46)) (fun k => w.heap.size ≤ k) (.slice (some ⟨w.heap.size + 1, 0, none⟩) 1 1) [([], [])] ∧
    Sl tHead (((w.alloc A).alloc (.cells #[.slice none 0 0, .slice none 0 0] 42)).alloc (.cells #[.string (ByteArray.mk #[109, 97, 105, 110]), .int .i64 0] 46)) (fun k => w.heap.size ≤ k) (.slice (some ⟨w.heap.size + 1 + 1, 0, none⟩) 1 1) [((ByteArray.mk #[109, 97, 105, 110]), 0)] := by
  have s1 : (w.alloc A).heap.size = w.heap.size + 1 := by simp
  obtain ⟨w1, hw1⟩ : ∃ w1, w1 = w.alloc A := ⟨_, rfl⟩
  rw [← hw1] at s1 ⊢
  have hc := (Own.lit (E := tCommit) (e := 42) (B := w1.heap.size) (C := fun _ => False) (Each.one [.slice none 0 0, .slice none 0 0] (([], []) : Commit) (tCommit_mk (Sl.nil tRow w1 _) (Sl.nil tInt w1 _))) rfl (by unfold maxLen; simp) (Nat.le_refl _)).sl (D := fun k => w.heap.size ≤ k) (fun _ h => h.elim) (fun k hk => by omega)
  have hc2 := hc.call ((Below.refl _ _).alloc (Nat.le_refl _) (.cells #[.string (ByteArray.mk #[109, 97, 105, 110]), .int .i64 0] 46))
  have s2 : (w1.alloc (.cells #[.slice none 0 0, .slice none 0 0] 42)).heap.size = w.heap.size + 1 + 1 := by simp [s1]
  have hh := (Own.lit (E := tHead) (e := 46) (w := w1.alloc (.cells #[.slice none 0 0, .slice none 0 0] 42)) (B := (w1.alloc (.cells #[.slice none 0 0, .slice none 0 0] 42)).heap.size) (C := fun _ => False) (Each.one [.string (ByteArray.mk #[109, 97, 105, 110]), .int .i64 0] (((ByteArray.mk #[109, 97, 105, 110]), 0) : Head) ⟨rfl, ok_small (a := 0) (by decide), by unfold maxLen; show 4 ≤ _; omega⟩) rfl (by unfold maxLen; simp) (Nat.le_refl _)).sl (D := fun k => w.heap.size ≤ k) (fun _ h => h.elim) (fun k hk => by omega)
  rw [s2] at hh
  rw [s1] at hc2
  exact ⟨hc2, hh⟩
theorem repoBegin (w : World) : Calls Tryz.prog 39 #[] w (Ret w fun r w' => Rp w' (fun k => w.heap.size ≤ k) r ([([], [])], [((ByteArray.mk #[109, 97, 105, 110]), 0)])) := by
  go_enter Tryz.func39, Tryz.ntmps39
  go_wp2_with fail
  obtain ⟨hc, hh⟩ := beginRp w (.cells #[.slice (some ⟨w.heap.size + 1, 0, none⟩) 1 1, .slice (some ⟨w.heap.size + 1 + 1, 0, none⟩) 1 1] 25)
  have hb : Below w.heap.size w (((w.alloc (.cells #[.slice (some ⟨w.heap.size + 1, 0, none⟩) 1 1, .slice (some ⟨w.heap.size + 1 + 1, 0, none⟩) 1 1] 25)).alloc (.cells #[.slice none 0 0, .slice none 0 0] 42)).alloc (.cells #[.string (ByteArray.mk #[109, 97, 105, 110]), .int .i64 0] 46)) := (((Below.refl _ _).alloc (Nat.le_refl _) _).alloc (by simp) _).alloc (by simp; omega) _
  have hg : (((w.alloc (.cells #[.slice (some ⟨w.heap.size + 1, 0, none⟩) 1 1, .slice (some ⟨w.heap.size + 1 + 1, 0, none⟩) 1 1] 25)).alloc (.cells #[.slice none 0 0, .slice none 0 0] 42)).alloc (.cells #[.string (ByteArray.mk #[109, 97, 105, 110]), .int .i64 0] 46)).heap[w.heap.size]? = some (.cells #[.slice (some ⟨w.heap.size + 1, 0, none⟩) 1 1, .slice (some ⟨w.heap.size + 1 + 1, 0, none⟩) 1 1] 25) :=
    (Below.heap_alloc _ _ _ (by simp; omega)).trans ((Below.heap_alloc _ _ _ (by simp)).trans (heap_alloc_new w _))
  exact bodyPost_ret (results_cell_row rfl _ _ _ _ _ _ _ rfl hg Tryz.underlying25 rfl rfl) rfl ⟨_, rfl, ⟨_, _, rfl, hc, hh⟩, hb⟩


def H3 (s t : ByteArray) : List Head := [(s, 3), (t, 1)]
theorem lit_toList (l : List UInt8) : (ByteArray.mk l.toArray).toList = l := ByteArray.toList_mk l
theorem nmMain : nameB (ByteArray.mk #[109, 97, 105, 110]) = true := by rw [nameB, ByteArray.toList_eq]; decide
theorem nmSide : nameB (ByteArray.mk #[115, 105, 100, 101]) = true := by rw [nameB, ByteArray.toList_eq]; decide
theorem nmBig : nameB (ByteArray.mk #[77, 97, 105, 110]) = false := by rw [nameB, ByteArray.toList_eq]; decide
theorem okShop : repoErr (crossL, H3 (ByteArray.mk #[109, 97, 105, 110]) (ByteArray.mk #[115, 105, 100, 101])) = 0 := by
  rw [repoErr_form (r := (crossL, H3 (ByteArray.mk #[109, 97, 105, 110]) (ByteArray.mk #[115, 105, 100, 101]))) okCross (by decide) (by simp only [H3, List.any_cons, nmMain, nmSide]; rfl) (c := true) (by simp [H3, headsRise, ByteArray.toList_eq, crossL]; decide)]; rfl
theorem badTwice : repoErr (crossL, H3 (ByteArray.mk #[109, 97, 105, 110]) (ByteArray.mk #[109, 97, 105, 110])) = 1 := by
  rw [repoErr_form (r := (crossL, H3 (ByteArray.mk #[109, 97, 105, 110]) (ByteArray.mk #[109, 97, 105, 110]))) okCross (by decide) (by simp only [H3, List.any_cons, nmMain]; rfl) (c := false) (by simp [H3, headsRise, ByteArray.toList_eq, less_irrefl])]; rfl
theorem badName : repoErr (crossL, H3 (ByteArray.mk #[77, 97, 105, 110]) (ByteArray.mk #[115, 105, 100, 101])) = 4 := by
  rw [repoErr_name (r := (crossL, H3 (ByteArray.mk #[77, 97, 105, 110]) (ByteArray.mk #[115, 105, 100, 101]))) okCross (by decide) (by simp only [H3, List.any_cons, nmBig]; rfl)]
theorem okBegin : repoErr ([([], [])], [((ByteArray.mk #[109, 97, 105, 110]), 0)]) = 0 := by
  rw [repoErr_form (r := ([([], [])], [((ByteArray.mk #[109, 97, 105, 110]), 0)])) (by decide) (by decide) (by simp only [List.any_cons, nmMain]; rfl) (c := true) (by simp [headsRise, ByteArray.toList_eq]; decide)]; rfl
theorem headSide : headP (crossL, H3 (ByteArray.mk #[109, 97, 105, 110]) (ByteArray.mk #[115, 105, 100, 101])) (ByteArray.mk #[115, 105, 100, 101]) = (1, 0) := by
  rw [headP, if_pos okShop]
  simp [H3, headK, ByteArray.toList_eq]
theorem headMain : headP (crossL, H3 (ByteArray.mk #[109, 97, 105, 110]) (ByteArray.mk #[115, 105, 100, 101])) (ByteArray.mk #[109, 97, 105, 110]) = (3, 0) := by
  rw [headP, if_pos okShop]
  simp [H3, headK, ByteArray.toList_eq]
theorem headNone : headP (crossL, H3 (ByteArray.mk #[109, 97, 105, 110]) (ByteArray.mk #[115, 105, 100, 101])) (ByteArray.mk #[110, 111, 110, 101]) = (0, 5) := by
  rw [headP, if_pos okShop]
  simp [H3, headK, ByteArray.toList_eq]
theorem logMain : logP (crossL, H3 (ByteArray.mk #[109, 97, 105, 110]) (ByteArray.mk #[115, 105, 100, 101])) (ByteArray.mk #[109, 97, 105, 110]) = ([3, 2, 1, 0], 0) := by
  rw [logP_is (n := 3) headMain]
  have : logL crossL 3 = [3, 2, 1, 0] := by decide
  rw [this]

end Go.Pch
end
