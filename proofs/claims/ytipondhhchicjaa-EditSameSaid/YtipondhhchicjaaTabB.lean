/- The walks of rows.Put, and of the document's FindOf and PutOf. -/
import Derived.Test.YtipondhhchicjaaTabA
namespace Go.Pch
open Go.RowKit Go.Proofs


theorem putP_bad1 {l : List Row} {key val : Int} (he : rowsErr l = 0) (hk : keyB key = false) : putP l key val = ([], 3) := by rw [putP, if_pos he, if_neg (by simp [hk])]
theorem putP_bad2 {l : List Row} {key val : Int} (he : rowsErr l = 0) (hv : valB val = false) : putP l key val = ([], 3) := by rw [putP, if_pos he, if_neg (by simp [hv])]
theorem putP_many {l : List Row} {key val : Int} (he : rowsErr l = 0) (hk : keyB key = true) (hv : valB val = true) (hm : 40 < (putL l key val).length) : putP l key val = ([], 2) := by rw [putP, if_pos he, if_pos (by simp [hk, hv]), if_pos hm]
theorem putP_ok {l : List Row} {key val : Int} (he : rowsErr l = 0) (hk : keyB key = true) (hv : valB val = true) (hm : ¬ 40 < (putL l key val).length) : putP l key val = (putL l key val, 0) := by rw [putP, if_pos he, if_pos (by simp [hk, hv]), if_neg hm]

set_option maxHeartbeats 1000000 in
theorem rowsPut (v : Value) (l : List Row) (key val : Int) (S : Blk) (w : World) (h : Sl tRow w S v l) (ok : i64ok key ∧ i64ok val) :
    Calls Try.prog 36 #[v, .int .i64 key, .int .i64 val] w (Ret w fun r w' => ∃ x, r = .tuple #[x, .int .i64 (putP l key val).2] ∧ Sl tRow w' (fun k => w.heap.size ≤ k) x (putP l key val).1) := by
  by_cases he : rowsErr l = 0
  · obtain ⟨h40, hrs⟩ := ok_rise he
    cases hk : keyB key with
    | false =>
      have HP := keepBack (putP_bad1 (val := val) he hk)
      go_enter Try.func36, Try.ntmps36
      go_wp2_with fail
      refine (rowsCheck v l S w h).mono ?_; rintro e w1 ⟨_, rfl, rfl, b1⟩
      rw [he]
      go_wp2_with fail
      refine (rowsKey_of key w1 hk).mono ?_; rintro e w' ⟨rfl, rfl⟩
      go_wp2
      go_ret2
      exact ⟨_, rfl, ⟨_, by rw [HP.out]; rfl, by rw [HP.out]; exact Sl.nil _ _ _⟩, b1⟩
    | true =>
      cases hv : valB val with
      | false =>
        have HP := keepBack (putP_bad2 (key := key) he hv)
        go_enter Try.func36, Try.ntmps36
        go_wp2_with fail
        refine (rowsCheck v l S w h).mono ?_; rintro e w1 ⟨_, rfl, rfl, b1⟩
        rw [he]
        go_wp2_with fail
        refine (rowsKey_of key w1 hk).mono ?_; rintro e w' ⟨rfl, rfl⟩
        go_wp2_with fail
        refine (rowsVal_of val w1 hv).mono ?_; rintro e w' ⟨rfl, rfl⟩
        go_wp2
        go_ret2
        exact ⟨_, rfl, ⟨_, by rw [HP.out]; rfl, by rw [HP.out]; exact Sl.nil _ _ _⟩, b1⟩
      | true =>
        have HPM := keepBack (putP_many he hk hv)
        have HPO := keepBack (putP_ok he hk hv)
        have HSL := keepBack (setL_put hrs hk hv)
        have hl := setL_len l key val
        rw [HSL.out] at hl
        go_enter Try.func36, Try.ntmps36
        go_wp2_with fail
        refine (rowsCheck v l S w h).mono ?_; rintro e w1 ⟨_, rfl, rfl, b1⟩
        rw [he]
        have s1 := b1.size
        go_wp2_with fail
        refine (rowsKey_of key w1 hk).mono ?_; rintro e w' ⟨rfl, rfl⟩
        go_wp2_with fail
        refine (rowsVal_of val w1 hv).mono ?_; rintro e w' ⟨rfl, rfl⟩
        go_wp2_with fail
        refine (rowsSet v l key val S w1 (h.call b1) hrs (by omega) ok).mono ?_; rintro e w2 ⟨x, rfl, ho, b2⟩
        rw [HSL.out] at ho
        have hx := ho.sl (D := fun k => w.heap.size ≤ k) (fun _ h => h.elim) (fun k hk => by omega)
        clear ho
        generalize putL l key val = m at *
        obtain ⟨ax, cx, rfl, _, _, _⟩ := hx.shape
        by_cases hm : 40 < m.length
        · have HP := keepBack (HPM.out hm)
          go_wp2
          go_ret2
          exact ⟨_, rfl, ⟨_, by rw [HP.out]; rfl, by rw [HP.out]; exact Sl.nil _ _ _⟩, b1.trans (b2.mono s1)⟩
        · have HP := keepBack (HPO.out hm)
          go_wp2
          go_ret2
          exact ⟨_, rfl, ⟨_, by rw [HP.out]; rfl, by rw [HP.out]; exact hx⟩, b1.trans (b2.mono s1)⟩
  · have he' : (rowsErr l != 0) = true := by simp [he]
    have HP := keepBack (show putP l key val = ([], rowsErr l) by rw [putP, if_neg he])
    go_enter Try.func36, Try.ntmps36
    go_wp2_with fail
    refine (rowsCheck v l S w h).mono ?_; rintro e w1 ⟨_, rfl, rfl, b1⟩
    go_wp2
    go_ret2
    exact ⟨_, rfl, ⟨_, by rw [HP.out]; rfl, by rw [HP.out]; exact Sl.nil _ _ _⟩, b1⟩

set_option maxRecDepth 100000 in
set_option maxHeartbeats 1000000 in
theorem refPutOf (v : Value) (l : List Row) (key val : Int) (S : Blk) (w : World) (h : Sl tRow w S v l) :
    Calls Try.prog 62 #[v, .int .i64 key, .int .i64 val] w (Ret w fun r w' => ∃ x, r = .tuple #[x, .int .i64 (putP l key val).2] ∧ Sl tRow w' (fun k => w.heap.size ≤ k) x (putP l key val).1) := by
  by_cases he : rowsErr l = 0
  · obtain ⟨h40, hrs⟩ := ok_rise he
    cases hk : keyB key with
    | false =>
      have HP := keepBack (putP_bad1 (val := val) he hk)
      go_enter Try.func62, Try.ntmps62
      go_wp2_with fail
      refine (refRowsError v l S w h).mono ?_; rintro e w1 ⟨rfl, d1⟩
      rw [he]
      go_wp2_with fail
      refine (refIsKey_of key w1 hk).mono ?_; rintro e w' ⟨rfl, rfl⟩
      go_wp2
      go_ret2
      exact ⟨_, rfl, ⟨_, by rw [HP.out]; rfl, by rw [HP.out]; exact Sl.nil _ _ _⟩, d1.below⟩
    | true =>
      cases hv : valB val with
      | false =>
        have HP := keepBack (putP_bad2 (key := key) he hv)
        go_enter Try.func62, Try.ntmps62
        go_wp2_with fail
        refine (refRowsError v l S w h).mono ?_; rintro e w1 ⟨rfl, d1⟩
        rw [he]
        go_wp2_with fail
        refine (refIsKey_of key w1 hk).mono ?_; rintro e w' ⟨rfl, rfl⟩
        go_wp2_with fail
        refine (refWithin_of _ _ _ w1 hv).mono ?_; rintro e w' ⟨rfl, rfl⟩
        go_wp2
        go_ret2
        exact ⟨_, rfl, ⟨_, by rw [HP.out]; rfl, by rw [HP.out]; exact Sl.nil _ _ _⟩, d1.below⟩
      | true =>
        have HPM := keepBack (putP_many he hk hv)
        have HPO := keepBack (putP_ok he hk hv)
        have hkk := key_yes hk
        have hvv : -1 ≤ val ∧ val ≤ 996 := by simpa [valB] using hv
        obtain ⟨kn, rfl⟩ : ∃ kn : Nat, key = (kn : Int) := ⟨key.toNat, by omega⟩
        have HPUT : Hid (putL l kn val = folded fun j => if j = (kn : Int) then val else valueOf l j) := keepBack rfl
        have hbd : ∀ j, -1 ≤ (fun j => if j = (kn : Int) then val else valueOf l j) j ∧ (fun j => if j = (kn : Int) then val else valueOf l j) j ≤ 996 := fun j => by
          show -1 ≤ (if j = (kn : Int) then val else valueOf l j) ∧ (if j = (kn : Int) then val else valueOf l j) ≤ 996
          split
          · exact hvv
          · exact valueOf_bounds hrs j
        have HBD := keepBack hbd
        clear hbd
        go_enter Try.func62, Try.ntmps62
        go_wp2_with fail
        refine (refRowsError v l S w h).mono ?_; rintro e w1 ⟨rfl, d1⟩
        rw [he]
        have b1 := d1.below
        have s1 := b1.size
        go_wp2_with fail
        refine (refIsKey_of _ w1 hk).mono ?_; rintro e w' ⟨rfl, rfl⟩
        go_wp2_with fail
        refine (refWithin_of _ _ _ w1 hv).mono ?_; rintro e w' ⟨rfl, rfl⟩
        go_wp2_with fail
        refine (refSpread v l S w1 (h.call b1)).mono ?_; rintro e w2 ⟨_, rfl, rfl, b2⟩
        have s2 := b2.size
        have b02 := b1.trans (b2.mono s1)
        obtain ⟨A, hA⟩ : ∃ A, A = (tabL (valueOf l)).toArray := ⟨_, rfl⟩
        have HSZ : Hid ((Try.prog.info? 67).map (·.size) = some A.size) := keepBack (by rw [hA]; exact tabSize' (valueOf l))
        have HONE : Hid (A.all (·.oneCell') = true) := keepBack (by rw [hA]; exact tab_ones (valueOf l))
        have HA := keepBack hA
        rw [← hA]
        clear hA
        have hkn : kn < 100 := by omega
        go_wp2_with (first
          | (refine wpList_store_row rfl 67 (.tmp 9) (.tmp 25) rfl w2.heap.size A rfl rfl _ _ (heap_alloc_new w2 _) HSZ.out (by rw [HA.out]; simp [tabL_len]) HONE.out ?_
             generalize hW : World.setRow _ _ _ = W3
             have ht3 : TabAt W3 w2.heap.size (valueOf l) := by rw [← hW]; unfold TabAt; rw [← HA.out]; exact setRow_heap _ _ _ _ _ _ (heap_alloc_new w2 _)
             have hb3 : Below w.heap.size w W3 := by rw [← hW]; exact below_setRow (b02.alloc (by omega) _) (by omega) _
             have hc3 := ht3.cell kn hkn
             have hf3 := ht3.free kn
             have HT3 := keepBack (ht3.set kn hkn val)
             have hz3 := ht3.lt
             clear ht3 hW)
          | (refine wpList_load_row rfl 67 (.tmp 9) rfl w2.heap.size rfl _ _ _ _ HT3.out Try.underlying67 rfl (tabSize' _) ?_))
        refine (refFolded _ _ HBD.out).mono ?_; rintro e w5 ⟨x, rfl, hx, b5⟩
        rw [← HPUT.out] at hx
        generalize putL l (kn : Int) val = m at *
        obtain ⟨ax, cx, rfl, _, _, _⟩ := hx.shape
        have hb4 : Below w.heap.size w (W3.setCell ⟨w2.heap.size, kn, none⟩ (.int .i64 val)) := hb3.setCell (by simp; omega) _
        have s4 := hb4.size
        have hx' := hx.mono (S' := fun k => w.heap.size ≤ k) fun k hk _ => Nat.le_trans s4 hk
        have hb5 := hb4.trans (b5.mono s4)
        clear hx
        by_cases hm : 40 < m.length
        · have HP := keepBack (HPM.out hm)
          go_wp2
          go_ret2
          exact ⟨_, rfl, ⟨_, by rw [HP.out]; rfl, by rw [HP.out]; exact Sl.nil _ _ _⟩, hb5⟩
        · have HP := keepBack (HPO.out hm)
          go_wp2
          go_ret2
          exact ⟨_, rfl, ⟨_, by rw [HP.out]; rfl, by rw [HP.out]; exact hx'⟩, hb5⟩
  · have he' : (rowsErr l != 0) = true := by simp [he]
    have HP := keepBack (show putP l key val = ([], rowsErr l) by rw [putP, if_neg he])
    go_enter Try.func62, Try.ntmps62
    go_wp2_with fail
    refine (refRowsError v l S w h).mono ?_; rintro e w1 ⟨rfl, d1⟩
    go_wp2
    go_ret2
    exact ⟨_, rfl, ⟨_, by rw [HP.out]; rfl, by rw [HP.out]; exact Sl.nil _ _ _⟩, d1.below⟩

end Go.Pch
