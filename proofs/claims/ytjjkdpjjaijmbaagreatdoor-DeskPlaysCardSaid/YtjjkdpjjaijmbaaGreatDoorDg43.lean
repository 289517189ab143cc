/- The walks of package desk: what the words do (those that read). (gen_dki.py) -/
import Derived.Test.YtjjkdpjjaijmbaaGreatDoorDg42
section
namespace Go.Pch
open Go.RowKit Go.Proofs
set_option maxRecDepth 100000
set_option linter.unusedSimpArgs false
set_option linter.unusedVariables false
theorem topL_le (t : List (List (List Row))) : 0 ≤ topL t ∧ topL t ≤ 996 := by
  rw [topL]
  split
  · decide
  · exact fold_bounds _
theorem betw_ge : ∀ (a b : List Row), fineB a = true → fineB b = true → ∀ x ∈ betw a b, -1 ≤ x.1 ∧ -1 ≤ x.2.1 ∧ -1 ≤ x.2.2
  | [], [], _, _, x, hx => by rw [betw_nil] at hx; cases hx
  | r :: a, [], ha, hb, x, hx => by
    obtain ⟨h1, h2⟩ := fineB_cons.1 ha
    rw [betw_left (.inl rfl)] at hx
    rcases List.mem_cons.1 hx with rfl | hx
    · exact ⟨by show -1 ≤ r.1; omega, by show -1 ≤ r.2; omega, by show (-1 : Int) ≤ -1; omega⟩
    · exact betw_ge a [] h2 hb x hx
  | [], q :: b, ha, hb, x, hx => by
    obtain ⟨h1, h2⟩ := fineB_cons.1 hb
    rw [betw_right (.inl rfl)] at hx
    rcases List.mem_cons.1 hx with rfl | hx
    · exact ⟨by show -1 ≤ q.1; omega, by show (-1 : Int) ≤ -1; omega, by show -1 ≤ q.2; omega⟩
    · exact betw_ge [] b ha h2 x hx
  | r :: a, q :: b, ha, hb, x, hx => by
    obtain ⟨h1, h2⟩ := fineB_cons.1 ha
    obtain ⟨h3, h4⟩ := fineB_cons.1 hb
    rw [betw] at hx
    split at hx
    · rcases List.mem_cons.1 hx with rfl | hx
      · exact ⟨by show -1 ≤ r.1; omega, by show -1 ≤ r.2; omega, by show (-1 : Int) ≤ -1; omega⟩
      · exact betw_ge a (q :: b) h2 hb x hx
    · split at hx
      · rcases List.mem_cons.1 hx with rfl | hx
        · exact ⟨by show -1 ≤ q.1; omega, by show (-1 : Int) ≤ -1; omega, by show -1 ≤ q.2; omega⟩
        · exact betw_ge (r :: a) b ha h4 x hx
      · split at hx
        · exact betw_ge a b h2 h4 x hx
        · rcases List.mem_cons.1 hx with rfl | hx
          · exact ⟨by show -1 ≤ r.1; omega, by show -1 ≤ r.2; omega, by show -1 ≤ q.2; omega⟩
          · exact betw_ge a b h2 h4 x hx
termination_by a b => a.length + b.length
theorem hdRows_fine {r : Repo} (hr : repoErr r = 0) (h : Bytes) : rowsErr (hdRows r h).1 = 0 ∧ (hdRows r h).1.length ≤ 40 ∧ fineB (hdRows r h).1 = true := by
  have h1 := hdRows_ok hr h
  exact ⟨h1, (ok_rise h1).1, fine_of_rise (by decide) (ok_rise h1).2⟩
theorem logL_fine {r : Repo} (hr : repoErr r = 0) (n : Nat) : (logL r.1 n).length ≤ 1000 ∧ ∀ m ∈ logL r.1 n, 0 ≤ m := by
  have hd := (dag_ok (repo_ok hr).1).1
  constructor
  · rw [logL, List.length_reverse, List.length_map]
    have := List.length_filter_le (ab r.1 n) (List.range r.1.length)
    rw [List.length_range] at this
    omega
  · intro m hm
    rw [logL, List.mem_reverse, List.mem_map] at hm
    obtain ⟨k, _, rfl⟩ := hm
    exact Int.natCast_nonneg k
theorem deskLogOf {c : List Int × Int} (v : Value) (r : Repo) (key : ByteArray) (S : Blk) (w : World) (h : Rp w S v r) (hc : logP r key = c) :
    Calls Tryz.prog 69 #[v, .string key] w (Ret w fun x w' => ∃ y, x = .tuple #[y, .int .i64 c.2] ∧ Sl tInt w' (fun k => w.heap.size ≤ k) y c.1) := hc ▸ repoLog v r key S w h
set_option maxHeartbeats 4000000 in
theorem wordRows [Zone] (T cb : Nat) (r : Repo) (h : Bytes) (hr : repoErr r = 0) (w : World) (hV : Vars w) (hD : DeskTab w T r) (hc : Held w cb T) (v : Value) (hs : Sl tStr w (fun k => k ≠ T) v [bl h]) :
    Calls Tryz.prog 60 #[v, .pointer (some ⟨cb, 0, none⟩)] w (Does T w r (rowsO r (hdRows r h))) := by
  obtain ⟨b0, o0, ix0, n0, l0, c0⟩ := hs.idxStr aStr 0 0 (bl h) rfl rfl
  have lc := hc.lt
  have nTc := hc.ne hD
  have hT := hD.lt
  have Sb : ∀ W, Below w.heap.size w W → (fun W => W.cell? ⟨cb, 0, none⟩ = some (.pointer (some ⟨T, 0, none⟩)) ∧ W.cell? ⟨b0, o0, none⟩ = some (.string (bl h))) W := fun W hW => ⟨(hc.call hW).cell, (hW.cell (p := ⟨b0, o0, none⟩) l0).trans c0⟩
  have St : ∀ W, Step (fun k => k = T) w W → (fun W => W.cell? ⟨cb, 0, none⟩ = some (.pointer (some ⟨T, 0, none⟩)) ∧ W.cell? ⟨b0, o0, none⟩ = some (.string (bl h))) W := fun W hW => ⟨(hW.cell (p := ⟨cb, 0, none⟩) lc nTc).trans hc.cell, (hW.cell (p := ⟨b0, o0, none⟩) l0 n0).trans c0⟩
  have R := keepBack (fun W (hW : DeskTab W T r) => deskRows T r h W hW)
  have hfine := hdRows_fine hr h
  by_cases hz : (hdRows r h).2 = 0
  · obtain ⟨X, hX⟩ : ∃ X, hdRows r h = (X, 0) := ⟨_, Prod.ext rfl hz⟩
    have HP : Hid (rowsO r (hdRows r h) = (r, lsL (X.map rowT), 0)) := keepBack (by rw [rowsO, hX]; rfl)
    rw [hX] at hfine
    obtain ⟨-, hlen, hfb⟩ := hfine
    have HX := keepBack hX
    clear hz hX
    go_enter Tryz.func60, Tryz.ntmps60
    go_wp2_with fail
    refine wp_region_held (S := (fun W => W.cell? ⟨cb, 0, none⟩ = some (.pointer (some ⟨T, 0, none⟩)) ∧ W.cell? ⟨b0, o0, none⟩ = some (.string (bl h)))) (by kernel_rfl) ?_
    change wpAnyH _ _ _ _ _ _ _ _ (World.drew _)
    have b9 := (Below.refl w.heap.size w).trans ((Below.refl _ _).drew.mono (Below.refl w.heap.size w).size)
    refine wpAnyH_take (i := 0) (v := ?_) rfl (by kernel_rfl) (by kernel_rfl) (by kernel_rfl) (fun _ _ _ h => h) (Or.inl ⟨by rfl, ?hy34⟩) (Sb _ b9) ?rest34
    case hy34 => (intro W hW; obtain ⟨q1, q2⟩ := hW; go_simp; try with_reducible rfl)
    try simp only [Go.Act.put, List.setIfInBounds_toArray, List.set_cons_zero, List.set_cons_succ]
    refine wpAnyH_take (i := 1) (v := ?_) rfl (by kernel_rfl) (by kernel_rfl) (by kernel_rfl) (fun _ _ _ h => h) (Or.inl ⟨by rfl, ?hy35⟩) (Sb _ b9) ?rest35
    case hy35 => (intro W hW; obtain ⟨q1, q2⟩ := hW; go_simp; try with_reducible rfl)
    try simp only [Go.Act.put, List.setIfInBounds_toArray, List.set_cons_zero, List.set_cons_succ]
    refine wpAnyH_take (i := 2) (v := ?_) rfl (by kernel_rfl) (by kernel_rfl) (by kernel_rfl) (fun _ _ _ h => h) (Or.inl ⟨by rfl, ?hy36⟩) (Sb _ b9) ?rest36
    case hy36 => (intro W hW; obtain ⟨q1, q2⟩ := hW; go_simp; try with_reducible rfl)
    try simp only [Go.Act.put, List.setIfInBounds_toArray, List.set_cons_zero, List.set_cons_succ]
    refine wpAnyH_take (i := 3) (v := ?_) rfl (by kernel_rfl) (by kernel_rfl) (by kernel_rfl) (fun _ _ _ h => h) (Or.inl ⟨by rfl, ?hy37⟩) (Sb _ b9) ?rest37
    case hy37 => (intro W hW; obtain ⟨q1, q2⟩ := hW; go_simp; try with_reducible rfl)
    try simp only [Go.Act.put, List.setIfInBounds_toArray, List.set_cons_zero, List.set_cons_succ]
    refine wpAnyH_one (i := 4) (by kernel_rfl) rfl (fun K hK => ?_)
    go_simp
    refine (R.out _ (hD.call b9)).mono ?_; rintro e w1 ⟨bw1, hq⟩
    rw [HX.out, if_pos rfl] at hq
    obtain ⟨vl, rfl, hl⟩ := hq
    have b01 : Below w.heap.size w w1 := b9.trans (bw1.mono b9.size)
    refine hK _ _ (Sb _ b01) ?_
    clear hK K
    refine wpAnyH_one (i := 5) (by kernel_rfl) rfl (fun K hK => ?_)
    go_simp
    refine (deskListRow vl X _ w1 (hV.call b01) hl (by omega) fun x hx => ?_).mono ?_
    · obtain ⟨i, hi, rfl⟩ := List.getElem_of_mem hx
      have := fine_get hfb hi
      omega
    rintro e w2 ⟨_, rfl, rfl, b2⟩
    have b02 := b01.trans (b2.mono b01.size)
    refine hK _ _ (Sb _ b02) ?_
    clear hK K
    refine wpAnyH_one (i := 6) (by kernel_rfl) rfl (fun K hK => ?_)
    go_simp
    refine hK _ _ (Sb _ b02) ?_
    clear hK K
    refine wpAnyH_done (by kernel_rfl) ?_ _
    go_wp2
    go_ret
    rw [HP.out]
    exact Does.ok rfl (Step.of_below b02) rfl (hD.call b02)
  · obtain ⟨c, hcd⟩ : ∃ c, c = (hdRows r h).2 := ⟨_, rfl⟩
    have hc0 : c ≠ 0 := by rw [hcd]; exact hz
    have HP : Hid (rowsO r (hdRows r h) = noO c) := keepBack (by rw [rowsO]; rw [if_neg hz, hcd])
    have HC := keepBack hcd
    clear hcd hz hfine
    go_enter Tryz.func60, Tryz.ntmps60
    go_wp2_with fail
    refine wp_region_held (S := (fun W => W.cell? ⟨cb, 0, none⟩ = some (.pointer (some ⟨T, 0, none⟩)) ∧ W.cell? ⟨b0, o0, none⟩ = some (.string (bl h)))) (by kernel_rfl) ?_
    change wpAnyH _ _ _ _ _ _ _ _ (World.drew _)
    have b9 := (Below.refl w.heap.size w).trans ((Below.refl _ _).drew.mono (Below.refl w.heap.size w).size)
    refine wpAnyH_take (i := 0) (v := ?_) rfl (by kernel_rfl) (by kernel_rfl) (by kernel_rfl) (fun _ _ _ h => h) (Or.inl ⟨by rfl, ?hy38⟩) (Sb _ b9) ?rest38
    case hy38 => (intro W hW; obtain ⟨q1, q2⟩ := hW; go_simp; try with_reducible rfl)
    try simp only [Go.Act.put, List.setIfInBounds_toArray, List.set_cons_zero, List.set_cons_succ]
    refine wpAnyH_take (i := 1) (v := ?_) rfl (by kernel_rfl) (by kernel_rfl) (by kernel_rfl) (fun _ _ _ h => h) (Or.inl ⟨by rfl, ?hy39⟩) (Sb _ b9) ?rest39
    case hy39 => (intro W hW; obtain ⟨q1, q2⟩ := hW; go_simp; try with_reducible rfl)
    try simp only [Go.Act.put, List.setIfInBounds_toArray, List.set_cons_zero, List.set_cons_succ]
    refine wpAnyH_take (i := 2) (v := ?_) rfl (by kernel_rfl) (by kernel_rfl) (by kernel_rfl) (fun _ _ _ h => h) (Or.inl ⟨by rfl, ?hy40⟩) (Sb _ b9) ?rest40
    case hy40 => (intro W hW; obtain ⟨q1, q2⟩ := hW; go_simp; try with_reducible rfl)
    try simp only [Go.Act.put, List.setIfInBounds_toArray, List.set_cons_zero, List.set_cons_succ]
    refine wpAnyH_take (i := 3) (v := ?_) rfl (by kernel_rfl) (by kernel_rfl) (by kernel_rfl) (fun _ _ _ h => h) (Or.inl ⟨by rfl, ?hy41⟩) (Sb _ b9) ?rest41
    case hy41 => (intro W hW; obtain ⟨q1, q2⟩ := hW; go_simp; try with_reducible rfl)
    try simp only [Go.Act.put, List.setIfInBounds_toArray, List.set_cons_zero, List.set_cons_succ]
    refine wpAnyH_one (i := 4) (by kernel_rfl) rfl (fun K hK => ?_)
    go_simp
    refine (R.out _ (hD.call b9)).mono ?_; rintro e w1 ⟨bw1, hq⟩
    rw [← HC.out, if_neg hc0] at hq
    subst hq
    refine ⟨rfl, ?_⟩
    have b01 := b9.trans (bw1.mono b9.size)
    rw [HP.out]
    exact Does.no hc0 (Step.of_below b01) rfl (hD.call b01)
set_option maxHeartbeats 4000000 in
theorem wordRoot [Zone] (T cb : Nat) (r : Repo) (h : Bytes) (hr : repoErr r = 0) (w : World) (hV : Vars w) (hD : DeskTab w T r) (hc : Held w cb T) (v : Value) (hs : Sl tStr w (fun k => k ≠ T) v [bl h]) :
    Calls Tryz.prog 65 #[v, .pointer (some ⟨cb, 0, none⟩)] w (Does T w r (rootO r (hdRows r h))) := by
  obtain ⟨b0, o0, ix0, n0, l0, c0⟩ := hs.idxStr aStr 0 0 (bl h) rfl rfl
  have lc := hc.lt
  have nTc := hc.ne hD
  have hT := hD.lt
  have Sb : ∀ W, Below w.heap.size w W → (fun W => W.cell? ⟨cb, 0, none⟩ = some (.pointer (some ⟨T, 0, none⟩)) ∧ W.cell? ⟨b0, o0, none⟩ = some (.string (bl h))) W := fun W hW => ⟨(hc.call hW).cell, (hW.cell (p := ⟨b0, o0, none⟩) l0).trans c0⟩
  have St : ∀ W, Step (fun k => k = T) w W → (fun W => W.cell? ⟨cb, 0, none⟩ = some (.pointer (some ⟨T, 0, none⟩)) ∧ W.cell? ⟨b0, o0, none⟩ = some (.string (bl h))) W := fun W hW => ⟨(hW.cell (p := ⟨cb, 0, none⟩) lc nTc).trans hc.cell, (hW.cell (p := ⟨b0, o0, none⟩) l0 n0).trans c0⟩
  have R := keepBack (fun W (hW : DeskTab W T r) => deskRows T r h W hW)
  have hfine := hdRows_fine hr h
  by_cases hz : (hdRows r h).2 = 0
  · obtain ⟨X, hX⟩ : ∃ X, hdRows r h = (X, 0) := ⟨_, Prod.ext rfl hz⟩
    have HP : Hid (rootO r (hdRows r h) = (r, dgL (topL (treeL X)), 0)) := keepBack (by rw [rootO, hX]; rfl)
    rw [hX] at hfine
    obtain ⟨hro, -, -⟩ := hfine
    have HX := keepBack hX
    clear hz hX
    have hto := treeErr_tree hro
    have htl := topL_le (treeL X)
    go_enter Tryz.func65, Tryz.ntmps65
    go_wp2_with fail
    refine wp_region_held (S := (fun W => W.cell? ⟨cb, 0, none⟩ = some (.pointer (some ⟨T, 0, none⟩)) ∧ W.cell? ⟨b0, o0, none⟩ = some (.string (bl h)))) (by kernel_rfl) ?_
    change wpAnyH _ _ _ _ _ _ _ _ (World.drew _)
    have b9 := (Below.refl w.heap.size w).trans ((Below.refl _ _).drew.mono (Below.refl w.heap.size w).size)
    refine wpAnyH_take (i := 0) (v := ?_) rfl (by kernel_rfl) (by kernel_rfl) (by kernel_rfl) (fun _ _ _ h => h) (Or.inl ⟨by rfl, ?hy42⟩) (Sb _ b9) ?rest42
    case hy42 => (intro W hW; obtain ⟨q1, q2⟩ := hW; go_simp; try with_reducible rfl)
    try simp only [Go.Act.put, List.setIfInBounds_toArray, List.set_cons_zero, List.set_cons_succ]
    refine wpAnyH_take (i := 1) (v := ?_) rfl (by kernel_rfl) (by kernel_rfl) (by kernel_rfl) (fun _ _ _ h => h) (Or.inl ⟨by rfl, ?hy43⟩) (Sb _ b9) ?rest43
    case hy43 => (intro W hW; obtain ⟨q1, q2⟩ := hW; go_simp; try with_reducible rfl)
    try simp only [Go.Act.put, List.setIfInBounds_toArray, List.set_cons_zero, List.set_cons_succ]
    refine wpAnyH_take (i := 2) (v := ?_) rfl (by kernel_rfl) (by kernel_rfl) (by kernel_rfl) (fun _ _ _ h => h) (Or.inl ⟨by rfl, ?hy44⟩) (Sb _ b9) ?rest44
    case hy44 => (intro W hW; obtain ⟨q1, q2⟩ := hW; go_simp; try with_reducible rfl)
    try simp only [Go.Act.put, List.setIfInBounds_toArray, List.set_cons_zero, List.set_cons_succ]
    refine wpAnyH_take (i := 3) (v := ?_) rfl (by kernel_rfl) (by kernel_rfl) (by kernel_rfl) (fun _ _ _ h => h) (Or.inl ⟨by rfl, ?hy45⟩) (Sb _ b9) ?rest45
    case hy45 => (intro W hW; obtain ⟨q1, q2⟩ := hW; go_simp; try with_reducible rfl)
    try simp only [Go.Act.put, List.setIfInBounds_toArray, List.set_cons_zero, List.set_cons_succ]
    refine wpAnyH_one (i := 4) (by kernel_rfl) rfl (fun K hK => ?_)
    go_simp
    refine (R.out _ (hD.call b9)).mono ?_; rintro e w1 ⟨bw1, hq⟩
    rw [HX.out, if_pos rfl] at hq
    obtain ⟨vl, rfl, hl⟩ := hq
    have b01 : Below w.heap.size w w1 := b9.trans (bw1.mono b9.size)
    refine hK _ _ (Sb _ b01) ?_
    clear hK K
    refine wpAnyH_one (i := 5) (by kernel_rfl) rfl (fun K hK => ?_)
    go_simp
    refine (treeOf vl X _ w1 hl hro).mono ?_; rintro e w2 ⟨vt, rfl, ht, b2⟩
    have b02 := b01.trans (b2.mono b01.size)
    refine hK _ _ (Sb _ b02) ?_
    clear hK K
    refine wpAnyH_one (i := 6) (by kernel_rfl) rfl (fun K hK => ?_)
    go_simp
    refine (treeTop vt (treeL X) _ w2 ht hto).mono ?_; rintro e w3 ⟨_, rfl, rfl, b3⟩
    have b03 := b02.trans (b3.mono b02.size)
    refine hK _ _ (Sb _ b03) ?_
    clear hK K
    refine wpAnyH_one (i := 7) (by kernel_rfl) rfl (fun K hK => ?_)
    go_simp
    refine (itoaC (topL (treeL X)) ⟨by omega, by omega⟩ w3 (hV.call b03)).mono ?_; rintro e w4 ⟨_, rfl, rfl, b4⟩
    have b04 := b03.trans (b4.mono b03.size)
    refine hK _ _ (Sb _ b04) ?_
    clear hK K
    refine wpAnyH_one (i := 8) (by kernel_rfl) rfl (fun K hK => ?_)
    go_simp
    refine hK _ _ (Sb _ b04) ?_
    clear hK K
    refine wpAnyH_done (by kernel_rfl) ?_ _
    rw [dgL_itoa htl.1]
    go_wp2
    go_ret
    rw [HP.out]
    exact Does.ok rfl (Step.of_below b04) rfl (hD.call b04)
  · obtain ⟨c, hcd⟩ : ∃ c, c = (hdRows r h).2 := ⟨_, rfl⟩
    have hc0 : c ≠ 0 := by rw [hcd]; exact hz
    have HP : Hid (rootO r (hdRows r h) = noO c) := keepBack (by rw [rootO]; rw [if_neg hz, hcd])
    have HC := keepBack hcd
    clear hcd hz hfine
    go_enter Tryz.func65, Tryz.ntmps65
    go_wp2_with fail
    refine wp_region_held (S := (fun W => W.cell? ⟨cb, 0, none⟩ = some (.pointer (some ⟨T, 0, none⟩)) ∧ W.cell? ⟨b0, o0, none⟩ = some (.string (bl h)))) (by kernel_rfl) ?_
    change wpAnyH _ _ _ _ _ _ _ _ (World.drew _)
    have b9 := (Below.refl w.heap.size w).trans ((Below.refl _ _).drew.mono (Below.refl w.heap.size w).size)
    refine wpAnyH_take (i := 0) (v := ?_) rfl (by kernel_rfl) (by kernel_rfl) (by kernel_rfl) (fun _ _ _ h => h) (Or.inl ⟨by rfl, ?hy46⟩) (Sb _ b9) ?rest46
    case hy46 => (intro W hW; obtain ⟨q1, q2⟩ := hW; go_simp; try with_reducible rfl)
    try simp only [Go.Act.put, List.setIfInBounds_toArray, List.set_cons_zero, List.set_cons_succ]
    refine wpAnyH_take (i := 1) (v := ?_) rfl (by kernel_rfl) (by kernel_rfl) (by kernel_rfl) (fun _ _ _ h => h) (Or.inl ⟨by rfl, ?hy47⟩) (Sb _ b9) ?rest47
    case hy47 => (intro W hW; obtain ⟨q1, q2⟩ := hW; go_simp; try with_reducible rfl)
    try simp only [Go.Act.put, List.setIfInBounds_toArray, List.set_cons_zero, List.set_cons_succ]
    refine wpAnyH_take (i := 2) (v := ?_) rfl (by kernel_rfl) (by kernel_rfl) (by kernel_rfl) (fun _ _ _ h => h) (Or.inl ⟨by rfl, ?hy48⟩) (Sb _ b9) ?rest48
    case hy48 => (intro W hW; obtain ⟨q1, q2⟩ := hW; go_simp; try with_reducible rfl)
    try simp only [Go.Act.put, List.setIfInBounds_toArray, List.set_cons_zero, List.set_cons_succ]
    refine wpAnyH_take (i := 3) (v := ?_) rfl (by kernel_rfl) (by kernel_rfl) (by kernel_rfl) (fun _ _ _ h => h) (Or.inl ⟨by rfl, ?hy49⟩) (Sb _ b9) ?rest49
    case hy49 => (intro W hW; obtain ⟨q1, q2⟩ := hW; go_simp; try with_reducible rfl)
    try simp only [Go.Act.put, List.setIfInBounds_toArray, List.set_cons_zero, List.set_cons_succ]
    refine wpAnyH_one (i := 4) (by kernel_rfl) rfl (fun K hK => ?_)
    go_simp
    refine (R.out _ (hD.call b9)).mono ?_; rintro e w1 ⟨bw1, hq⟩
    rw [← HC.out, if_neg hc0] at hq
    subst hq
    refine ⟨rfl, ?_⟩
    have b01 := b9.trans (bw1.mono b9.size)
    rw [HP.out]
    exact Does.no hc0 (Step.of_below b01) rfl (hD.call b01)
set_option maxHeartbeats 4000000 in
theorem wordLog [Zone] (T cb : Nat) (r : Repo) (h : Bytes) (hr : repoErr r = 0) (w : World) (hV : Vars w) (hD : DeskTab w T r) (hc : Held w cb T) (v : Value) (hs : Sl tStr w (fun k => k ≠ T) v [bl h]) :
    Calls Tryz.prog 68 #[v, .pointer (some ⟨cb, 0, none⟩)] w (Does T w r (logO r (logP r (bl h)))) := by
  obtain ⟨b0, o0, ix0, n0, l0, c0⟩ := hs.idxStr aStr 0 0 (bl h) rfl rfl
  have lc := hc.lt
  have nTc := hc.ne hD
  have hT := hD.lt
  have Sb : ∀ W, Below w.heap.size w W → (fun W => W.cell? ⟨cb, 0, none⟩ = some (.pointer (some ⟨T, 0, none⟩)) ∧ W.cell? ⟨b0, o0, none⟩ = some (.string (bl h))) W := fun W hW => ⟨(hc.call hW).cell, (hW.cell (p := ⟨b0, o0, none⟩) l0).trans c0⟩
  have St : ∀ W, Step (fun k => k = T) w W → (fun W => W.cell? ⟨cb, 0, none⟩ = some (.pointer (some ⟨T, 0, none⟩)) ∧ W.cell? ⟨b0, o0, none⟩ = some (.string (bl h))) W := fun W hW => ⟨(hW.cell (p := ⟨cb, 0, none⟩) lc nTc).trans hc.cell, (hW.cell (p := ⟨b0, o0, none⟩) l0 n0).trans c0⟩
  have hDD := hD
  obtain ⟨⟨vc, vh, hrw, hcs, hhs⟩, _⟩ := hD
  obtain ⟨ac, cc, hvc, _, _, _⟩ := hcs.shape
  obtain ⟨ah, ch, hvh, _, _, _⟩ := hhs.shape
  obtain ⟨nc, hnc⟩ : ∃ n, n = r.1.length := ⟨_, rfl⟩
  obtain ⟨nh, hnh⟩ : ∃ n, n = r.2.length := ⟨_, rfl⟩
  rw [← hnc] at hvc
  rw [← hnh] at hvh
  clear hnc hnh
  subst hvc hvh
  have b8 := (Below.refl w.heap.size w).drew
  have t0 : w.drew.cell? ⟨T, 0, none⟩ = some (.slice ac nc cc) := (b8.cell (p := ⟨T, 0, none⟩) hT).trans (by rw [World.cell?, hrw]; rfl)
  have t1 : w.drew.cell? ⟨T, 1, none⟩ = some (.slice ah nh ch) := (b8.cell (p := ⟨T, 1, none⟩) hT).trans (by rw [World.cell?, hrw]; rfl)
  have HR : Hid (Rp w (Away T) (.agg #[.slice ac nc cc, .slice ah nh ch]) r) := keepBack ⟨_, _, rfl, hcs, hhs⟩
  clear hrw hcs hhs
  by_cases hz : (headP r (bl h)).2 = 0
  · obtain ⟨X, hX⟩ : ∃ X, X = logL r.1 (headP r (bl h)).1.toNat := ⟨_, rfl⟩
    have hlp : logP r (bl h) = (X, 0) := by rw [logP, if_pos hz, hX]
    have hfine := logL_fine hr (headP r (bl h)).1.toNat
    rw [← hX] at hfine
    obtain ⟨hlen, hge⟩ := hfine
    have HP : Hid (logO r (logP r (bl h)) = (r, lsL (X.map dgL), 0)) := keepBack (by rw [logO, hlp]; rfl)
    have HJ := keepBack hlp
    clear hlp hz hX
    go_enter Tryz.func68, Tryz.ntmps68
    go_wp2_with fail
    refine wp_region_held (S := (fun W => W.cell? ⟨cb, 0, none⟩ = some (.pointer (some ⟨T, 0, none⟩)) ∧ W.cell? ⟨b0, o0, none⟩ = some (.string (bl h)))) (by kernel_rfl) ?_
    change wpAnyH _ _ _ _ _ _ _ _ (World.drew _)
    have b9 := (Below.refl w.heap.size w).trans ((Below.refl _ _).drew.mono (Below.refl w.heap.size w).size)
    refine wpAnyH_take (i := 0) (v := ?_) rfl (by kernel_rfl) (by kernel_rfl) (by kernel_rfl) (fun _ _ _ h => h) (Or.inl ⟨by rfl, ?hy50⟩) (Sb _ b9) ?rest50
    case hy50 => (intro W hW; obtain ⟨q1, q2⟩ := hW; go_simp; try with_reducible rfl)
    try simp only [Go.Act.put, List.setIfInBounds_toArray, List.set_cons_zero, List.set_cons_succ]
    refine wpAnyH_take (i := 1) (v := ?_) rfl (by kernel_rfl) (by kernel_rfl) (by kernel_rfl) (fun _ _ _ h => h) (Or.inl ⟨by rfl, ?hy51⟩) (Sb _ b9) ?rest51
    case hy51 => (intro W hW; obtain ⟨q1, q2⟩ := hW; go_simp; try with_reducible rfl)
    try simp only [Go.Act.put, List.setIfInBounds_toArray, List.set_cons_zero, List.set_cons_succ]
    refine wpAnyH_take (i := 2) (v := ?_) rfl (by kernel_rfl) (by kernel_rfl) (by kernel_rfl) (fun _ _ _ h => h) (Or.inl ⟨by rfl, ?hy52⟩) (Sb _ b9) ?rest52
    case hy52 => (intro W hW; obtain ⟨q1, q2⟩ := hW; go_simp; try with_reducible rfl)
    try simp only [Go.Act.put, List.setIfInBounds_toArray, List.set_cons_zero, List.set_cons_succ]
    refine wpAnyH_take (i := 4) (v := ?_) rfl (by kernel_rfl) (by kernel_rfl) (by kernel_rfl) (fun _ _ _ h => h) (Or.inl ⟨by rfl, ?hy53⟩) (Sb _ b9) ?rest53
    case hy53 => (intro W hW; obtain ⟨q1, q2⟩ := hW; go_simp; try with_reducible rfl)
    try simp only [Go.Act.put, List.setIfInBounds_toArray, List.set_cons_zero, List.set_cons_succ]
    refine wpAnyH_take (i := 5) (v := ?_) rfl (by kernel_rfl) (by kernel_rfl) (by kernel_rfl) (fun _ _ _ h => h) (Or.inl ⟨by rfl, ?hy54⟩) (Sb _ b9) ?rest54
    case hy54 => (intro W hW; obtain ⟨q1, q2⟩ := hW; go_simp; try with_reducible rfl)
    try simp only [Go.Act.put, List.setIfInBounds_toArray, List.set_cons_zero, List.set_cons_succ]
    refine wpAnyH_take (i := 6) (v := ?_) rfl (by kernel_rfl) (by kernel_rfl) (by kernel_rfl) (fun _ _ _ h => h) (Or.inl ⟨by rfl, ?hy55⟩) (Sb _ b9) ?rest55
    case hy55 => (intro W hW; obtain ⟨q1, q2⟩ := hW; go_simp; try with_reducible rfl)
    try simp only [Go.Act.put, List.setIfInBounds_toArray, List.set_cons_zero, List.set_cons_succ]
    refine wpAnyH_one (i := 3) (by kernel_rfl) rfl (fun K hK => ?_)
    go_simp
    refine hK _ _ (Sb _ b9) ?_
    clear hK K
    refine wpAnyH_one (i := 7) (by kernel_rfl) rfl (fun K hK => ?_)
    go_simp
    refine (deskLogOf _ r _ _ _ (HR.out.call b8) HJ.out).mono ?_; rintro e w5 ⟨_, rfl, ⟨y, rfl, hy⟩, b5⟩
    have b05 : Below w.heap.size w w5 := b8.trans (b5.mono b8.size)
    refine hK _ _ (Sb _ b05) ?_
    clear hK K
    refine wpAnyH_take (i := 8) (v := ?_) rfl (by kernel_rfl) (by kernel_rfl) (by kernel_rfl) (fun _ _ _ h => h) (Or.inl ⟨by rfl, ?hy56⟩) (Sb _ b05) ?rest56
    case hy56 => (intro W hW; obtain ⟨q1, q2⟩ := hW; go_simp; try with_reducible rfl)
    try simp only [Go.Act.put, List.setIfInBounds_toArray, List.set_cons_zero, List.set_cons_succ]
    refine wpAnyH_take (i := 9) (v := ?_) rfl (by kernel_rfl) (by kernel_rfl) (by kernel_rfl) (fun _ _ _ h => h) (Or.inl ⟨by rfl, ?hy57⟩) (Sb _ b05) ?rest57
    case hy57 => (intro W hW; obtain ⟨q1, q2⟩ := hW; go_simp; try with_reducible rfl)
    try simp only [Go.Act.put, List.setIfInBounds_toArray, List.set_cons_zero, List.set_cons_succ]
    refine wpAnyH_take (i := 10) (v := ?_) rfl (by kernel_rfl) (by kernel_rfl) (by kernel_rfl) (fun _ _ _ h => h) (Or.inl ⟨by rfl, ?hy58⟩) (Sb _ b05) ?rest58
    case hy58 => (intro W hW; obtain ⟨q1, q2⟩ := hW; go_simp; try with_reducible rfl)
    try simp only [Go.Act.put, List.setIfInBounds_toArray, List.set_cons_zero, List.set_cons_succ]
    refine wpAnyH_one (i := 11) (by kernel_rfl) rfl (fun K hK => ?_)
    go_simp
    refine hK _ _ (Sb _ b05) ?_
    clear hK K
    refine wpAnyH_one (i := 12) (by kernel_rfl) rfl (fun K hK => ?_)
    go_simp
    refine hK _ _ (Sb _ b05) ?_
    clear hK K
    refine wpAnyH_done (by kernel_rfl) ?_ _
    go_wp2_with fail
    refine (mustOk 0 w5).mono ?_; rintro e w6 ⟨rfl, rfl⟩
    go_wp2_with fail
    refine (deskListInt y X _ w5 (hV.call b05) hy hlen hge).mono ?_; rintro e w7 ⟨_, rfl, rfl, b7⟩
    have b07 := b05.trans (b7.mono b05.size)
    go_wp2
    go_ret
    rw [HP.out]
    exact Does.ok rfl (Step.of_below b07) rfl (hDD.call b07)
  · obtain ⟨c, hcd⟩ : ∃ c, c = (headP r (bl h)).2 := ⟨_, rfl⟩
    have hc0 : c ≠ 0 := by rw [hcd]; exact hz
    have hlp : logP r (bl h) = ([], c) := by rw [logP, if_neg hz, hcd]
    have HP : Hid (logO r (logP r (bl h)) = noO c) := keepBack (by rw [logO, hlp, if_neg hc0])
    have HJ := keepBack hlp
    have hqc : (c == 0) = false := by rw [beq_eq_false_iff_ne]; exact hc0
    clear hlp hz hcd
    go_enter Tryz.func68, Tryz.ntmps68
    go_wp2_with fail
    refine wp_region_held (S := (fun W => W.cell? ⟨cb, 0, none⟩ = some (.pointer (some ⟨T, 0, none⟩)) ∧ W.cell? ⟨b0, o0, none⟩ = some (.string (bl h)))) (by kernel_rfl) ?_
    change wpAnyH _ _ _ _ _ _ _ _ (World.drew _)
    have b9 := (Below.refl w.heap.size w).trans ((Below.refl _ _).drew.mono (Below.refl w.heap.size w).size)
    refine wpAnyH_take (i := 0) (v := ?_) rfl (by kernel_rfl) (by kernel_rfl) (by kernel_rfl) (fun _ _ _ h => h) (Or.inl ⟨by rfl, ?hy59⟩) (Sb _ b9) ?rest59
    case hy59 => (intro W hW; obtain ⟨q1, q2⟩ := hW; go_simp; try with_reducible rfl)
    try simp only [Go.Act.put, List.setIfInBounds_toArray, List.set_cons_zero, List.set_cons_succ]
    refine wpAnyH_take (i := 1) (v := ?_) rfl (by kernel_rfl) (by kernel_rfl) (by kernel_rfl) (fun _ _ _ h => h) (Or.inl ⟨by rfl, ?hy60⟩) (Sb _ b9) ?rest60
    case hy60 => (intro W hW; obtain ⟨q1, q2⟩ := hW; go_simp; try with_reducible rfl)
    try simp only [Go.Act.put, List.setIfInBounds_toArray, List.set_cons_zero, List.set_cons_succ]
    refine wpAnyH_take (i := 2) (v := ?_) rfl (by kernel_rfl) (by kernel_rfl) (by kernel_rfl) (fun _ _ _ h => h) (Or.inl ⟨by rfl, ?hy61⟩) (Sb _ b9) ?rest61
    case hy61 => (intro W hW; obtain ⟨q1, q2⟩ := hW; go_simp; try with_reducible rfl)
    try simp only [Go.Act.put, List.setIfInBounds_toArray, List.set_cons_zero, List.set_cons_succ]
    refine wpAnyH_take (i := 4) (v := ?_) rfl (by kernel_rfl) (by kernel_rfl) (by kernel_rfl) (fun _ _ _ h => h) (Or.inl ⟨by rfl, ?hy62⟩) (Sb _ b9) ?rest62
    case hy62 => (intro W hW; obtain ⟨q1, q2⟩ := hW; go_simp; try with_reducible rfl)
    try simp only [Go.Act.put, List.setIfInBounds_toArray, List.set_cons_zero, List.set_cons_succ]
    refine wpAnyH_take (i := 5) (v := ?_) rfl (by kernel_rfl) (by kernel_rfl) (by kernel_rfl) (fun _ _ _ h => h) (Or.inl ⟨by rfl, ?hy63⟩) (Sb _ b9) ?rest63
    case hy63 => (intro W hW; obtain ⟨q1, q2⟩ := hW; go_simp; try with_reducible rfl)
    try simp only [Go.Act.put, List.setIfInBounds_toArray, List.set_cons_zero, List.set_cons_succ]
    refine wpAnyH_take (i := 6) (v := ?_) rfl (by kernel_rfl) (by kernel_rfl) (by kernel_rfl) (fun _ _ _ h => h) (Or.inl ⟨by rfl, ?hy64⟩) (Sb _ b9) ?rest64
    case hy64 => (intro W hW; obtain ⟨q1, q2⟩ := hW; go_simp; try with_reducible rfl)
    try simp only [Go.Act.put, List.setIfInBounds_toArray, List.set_cons_zero, List.set_cons_succ]
    refine wpAnyH_one (i := 3) (by kernel_rfl) rfl (fun K hK => ?_)
    go_simp
    refine hK _ _ (Sb _ b9) ?_
    clear hK K
    refine wpAnyH_one (i := 7) (by kernel_rfl) rfl (fun K hK => ?_)
    go_simp
    refine (deskLogOf _ r _ _ _ (HR.out.call b8) HJ.out).mono ?_; rintro e w5 ⟨_, rfl, ⟨y, rfl, hy⟩, b5⟩
    have b05 : Below w.heap.size w w5 := b8.trans (b5.mono b8.size)
    refine hK _ _ (Sb _ b05) ?_
    clear hK K
    refine wpAnyH_take (i := 8) (v := ?_) rfl (by kernel_rfl) (by kernel_rfl) (by kernel_rfl) (fun _ _ _ h => h) (Or.inl ⟨by rfl, ?hy65⟩) (Sb _ b05) ?rest65
    case hy65 => (intro W hW; obtain ⟨q1, q2⟩ := hW; go_simp; try with_reducible rfl)
    try simp only [Go.Act.put, List.setIfInBounds_toArray, List.set_cons_zero, List.set_cons_succ]
    refine wpAnyH_take (i := 9) (v := ?_) rfl (by kernel_rfl) (by kernel_rfl) (by kernel_rfl) (fun _ _ _ h => h) (Or.inl ⟨by rfl, ?hy66⟩) (Sb _ b05) ?rest66
    case hy66 => (intro W hW; obtain ⟨q1, q2⟩ := hW; go_simp; try with_reducible rfl)
    try simp only [Go.Act.put, List.setIfInBounds_toArray, List.set_cons_zero, List.set_cons_succ]
    refine wpAnyH_take (i := 10) (v := ?_) rfl (by kernel_rfl) (by kernel_rfl) (by kernel_rfl) (fun _ _ _ h => h) (Or.inl ⟨by rfl, ?hy67⟩) (Sb _ b05) ?rest67
    case hy67 => (intro W hW; obtain ⟨q1, q2⟩ := hW; go_simp; try with_reducible rfl)
    try simp only [Go.Act.put, List.setIfInBounds_toArray, List.set_cons_zero, List.set_cons_succ]
    refine wpAnyH_one (i := 11) (by kernel_rfl) rfl (fun K hK => ?_)
    go_simp
    refine hK _ _ (Sb _ b05) ?_
    clear hK K
    refine wpAnyH_one (i := 12) (by kernel_rfl) rfl (fun K hK => ?_)
    go_simp
    refine hK _ _ (Sb _ b05) ?_
    clear hK K
    refine wpAnyH_done (by kernel_rfl) ?_ _
    go_wp2_with fail
    refine (mustNo c w5).mono ?_; rintro e w6 ⟨rfl, rfl⟩
    go_wp2
    refine ⟨rfl, ?_⟩
    rw [HP.out]
    exact Does.no hc0 (Step.of_below b05) rfl (hDD.call b05)
set_option maxHeartbeats 4000000 in
theorem wordDiff [Zone] (T cb : Nat) (r : Repo) (h k : Bytes) (hr : repoErr r = 0) (w : World) (hV : Vars w) (hD : DeskTab w T r) (hc : Held w cb T) (v : Value) (hs : Sl tStr w (fun k => k ≠ T) v [bl h, bl k]) :
    Calls Tryz.prog 71 #[v, .pointer (some ⟨cb, 0, none⟩)] w (Does T w r (diffO r (hdRows r h) (hdRows r k))) := by
  obtain ⟨b0, o0, ix0, n0, l0, c0⟩ := hs.idxStr aStr 0 0 (bl h) rfl rfl
  obtain ⟨b1, o1, ix1, n1, l1, c1⟩ := hs.idxStr aStr 1 1 (bl k) rfl rfl
  have lc := hc.lt
  have nTc := hc.ne hD
  have hT := hD.lt
  have Sb : ∀ W, Below w.heap.size w W → (fun W => W.cell? ⟨cb, 0, none⟩ = some (.pointer (some ⟨T, 0, none⟩)) ∧ W.cell? ⟨b0, o0, none⟩ = some (.string (bl h)) ∧ W.cell? ⟨b1, o1, none⟩ = some (.string (bl k))) W := fun W hW => ⟨(hc.call hW).cell, (hW.cell (p := ⟨b0, o0, none⟩) l0).trans c0, (hW.cell (p := ⟨b1, o1, none⟩) l1).trans c1⟩
  have St : ∀ W, Step (fun k => k = T) w W → (fun W => W.cell? ⟨cb, 0, none⟩ = some (.pointer (some ⟨T, 0, none⟩)) ∧ W.cell? ⟨b0, o0, none⟩ = some (.string (bl h)) ∧ W.cell? ⟨b1, o1, none⟩ = some (.string (bl k))) W := fun W hW => ⟨(hW.cell (p := ⟨cb, 0, none⟩) lc nTc).trans hc.cell, (hW.cell (p := ⟨b0, o0, none⟩) l0 n0).trans c0, (hW.cell (p := ⟨b1, o1, none⟩) l1 n1).trans c1⟩
  have R := keepBack (fun W (hW : DeskTab W T r) => deskRows T r h W hW)
  have R' := keepBack (fun W (hW : DeskTab W T r) => deskRows T r k W hW)
  have hfine := hdRows_fine hr h
  have gfine := hdRows_fine hr k
  by_cases hz : (hdRows r h).2 = 0
  · obtain ⟨X, hX⟩ : ∃ X, hdRows r h = (X, 0) := ⟨_, Prod.ext rfl hz⟩
    rw [hX] at hfine
    obtain ⟨-, hlen, hfb⟩ := hfine
    clear hz
    by_cases hz : (hdRows r k).2 = 0
    · obtain ⟨Y, hY⟩ : ∃ Y, hdRows r k = (Y, 0) := ⟨_, Prod.ext rfl hz⟩
      rw [hY] at gfine
      obtain ⟨-, glen, gfb⟩ := gfine
      clear hz
      have HP : Hid (diffO r (hdRows r h) (hdRows r k) = (r, lsL ((betw X Y).map chgL), 0)) := keepBack (by rw [diffO, hX, hY]; rfl)
      have HX := keepBack hX
      have HY := keepBack hY
      clear hX hY
      have hbl := betw_len X Y
      have hbg := betw_ge X Y hfb gfb
      go_enter Tryz.func71, Tryz.ntmps71
      go_wp2_with fail
      refine wp_region_held (S := (fun W => W.cell? ⟨cb, 0, none⟩ = some (.pointer (some ⟨T, 0, none⟩)) ∧ W.cell? ⟨b0, o0, none⟩ = some (.string (bl h)) ∧ W.cell? ⟨b1, o1, none⟩ = some (.string (bl k)))) (by kernel_rfl) ?_
      change wpAnyH _ _ _ _ _ _ _ _ (World.drew _)
      have b9 := (Below.refl w.heap.size w).trans ((Below.refl _ _).drew.mono (Below.refl w.heap.size w).size)
      refine wpAnyH_take (i := 0) (v := ?_) rfl (by kernel_rfl) (by kernel_rfl) (by kernel_rfl) (fun _ _ _ h => h) (Or.inl ⟨by rfl, ?hy68⟩) (Sb _ b9) ?rest68
      case hy68 => (intro W hW; obtain ⟨q1, q2, q3⟩ := hW; go_simp; try with_reducible rfl)
      try simp only [Go.Act.put, List.setIfInBounds_toArray, List.set_cons_zero, List.set_cons_succ]
      refine wpAnyH_take (i := 1) (v := ?_) rfl (by kernel_rfl) (by kernel_rfl) (by kernel_rfl) (fun _ _ _ h => h) (Or.inl ⟨by rfl, ?hy69⟩) (Sb _ b9) ?rest69
      case hy69 => (intro W hW; obtain ⟨q1, q2, q3⟩ := hW; go_simp; try with_reducible rfl)
      try simp only [Go.Act.put, List.setIfInBounds_toArray, List.set_cons_zero, List.set_cons_succ]
      refine wpAnyH_take (i := 2) (v := ?_) rfl (by kernel_rfl) (by kernel_rfl) (by kernel_rfl) (fun _ _ _ h => h) (Or.inl ⟨by rfl, ?hy70⟩) (Sb _ b9) ?rest70
      case hy70 => (intro W hW; obtain ⟨q1, q2, q3⟩ := hW; go_simp; try with_reducible rfl)
      try simp only [Go.Act.put, List.setIfInBounds_toArray, List.set_cons_zero, List.set_cons_succ]
      refine wpAnyH_take (i := 3) (v := ?_) rfl (by kernel_rfl) (by kernel_rfl) (by kernel_rfl) (fun _ _ _ h => h) (Or.inl ⟨by rfl, ?hy71⟩) (Sb _ b9) ?rest71
      case hy71 => (intro W hW; obtain ⟨q1, q2, q3⟩ := hW; go_simp; try with_reducible rfl)
      try simp only [Go.Act.put, List.setIfInBounds_toArray, List.set_cons_zero, List.set_cons_succ]
      refine wpAnyH_take (i := 5) (v := ?_) rfl (by kernel_rfl) (by kernel_rfl) (by kernel_rfl) (fun _ _ _ h => h) (Or.inl ⟨by rfl, ?hy72⟩) (Sb _ b9) ?rest72
      case hy72 => (intro W hW; obtain ⟨q1, q2, q3⟩ := hW; go_simp; try with_reducible rfl)
      try simp only [Go.Act.put, List.setIfInBounds_toArray, List.set_cons_zero, List.set_cons_succ]
      refine wpAnyH_take (i := 6) (v := ?_) rfl (by kernel_rfl) (by kernel_rfl) (by kernel_rfl) (fun _ _ _ h => h) (Or.inl ⟨by rfl, ?hy73⟩) (Sb _ b9) ?rest73
      case hy73 => (intro W hW; obtain ⟨q1, q2, q3⟩ := hW; go_simp; try with_reducible rfl)
      try simp only [Go.Act.put, List.setIfInBounds_toArray, List.set_cons_zero, List.set_cons_succ]
      refine wpAnyH_take (i := 7) (v := ?_) rfl (by kernel_rfl) (by kernel_rfl) (by kernel_rfl) (fun _ _ _ h => h) (Or.inl ⟨by rfl, ?hy74⟩) (Sb _ b9) ?rest74
      case hy74 => (intro W hW; obtain ⟨q1, q2, q3⟩ := hW; go_simp; try with_reducible rfl)
      try simp only [Go.Act.put, List.setIfInBounds_toArray, List.set_cons_zero, List.set_cons_succ]
      refine wpAnyH_take (i := 8) (v := ?_) rfl (by kernel_rfl) (by kernel_rfl) (by kernel_rfl) (fun _ _ _ h => h) (Or.inl ⟨by rfl, ?hy75⟩) (Sb _ b9) ?rest75
      case hy75 => (intro W hW; obtain ⟨q1, q2, q3⟩ := hW; go_simp; try with_reducible rfl)
      try simp only [Go.Act.put, List.setIfInBounds_toArray, List.set_cons_zero, List.set_cons_succ]
      refine wpAnyH_one (i := 4) (by kernel_rfl) rfl (fun K hK => ?_)
      go_simp
      refine (R.out _ (hD.call b9)).mono ?_; rintro e w1 ⟨bw1, hq⟩
      rw [HX.out, if_pos rfl] at hq
      obtain ⟨vl, rfl, hl⟩ := hq
      have b01 : Below w.heap.size w w1 := b9.trans (bw1.mono b9.size)
      refine hK _ _ (Sb _ b01) ?_
      clear hK K
      refine wpAnyH_one (i := 9) (by kernel_rfl) rfl (fun K hK => ?_)
      go_simp
      refine (R'.out _ (hD.call b01)).mono ?_; rintro e w2 ⟨bw2, hq⟩
      rw [HY.out, if_pos rfl] at hq
      obtain ⟨vk, rfl, hk⟩ := hq
      have b02 : Below w.heap.size w w2 := b01.trans (bw2.mono b01.size)
      refine hK _ _ (Sb _ b02) ?_
      clear hK K
      refine wpAnyH_one (i := 10) (by kernel_rfl) rfl (fun K hK => ?_)
      go_simp
      refine hK _ _ (Sb _ b02) ?_
      clear hK K
      refine wpAnyH_one (i := 11) (by kernel_rfl) rfl (fun K hK => ?_)
      go_simp
      refine hK _ _ (Sb _ b02) ?_
      clear hK K
      refine wpAnyH_done (by kernel_rfl) ?_ _
      have hl2 := hl.call bw2
      go_wp2_with fail
      refine (between vl vk X Y _ _ w2 hl2 hk hfb gfb (by omega)).mono ?_; rintro e w3 ⟨vd, rfl, hd, b3⟩
      have b03 := b02.trans (b3.mono b02.size)
      go_wp2_with fail
      refine (deskListChg vd (betw X Y) _ w3 (hV.call b03) (hd.sl (D := fun _ => True) (fun _ _ => trivial) (fun _ _ => trivial)) (by omega) hbg).mono ?_; rintro e w4 ⟨_, rfl, rfl, b4⟩
      have b04 := b03.trans (b4.mono b03.size)
      go_wp2
      go_ret
      rw [HP.out]
      exact Does.ok rfl (Step.of_below b04) rfl (hD.call b04)
    · obtain ⟨c, hcd⟩ : ∃ c, c = (hdRows r k).2 := ⟨_, rfl⟩
      have hc0 : c ≠ 0 := by rw [hcd]; exact hz
      have HP : Hid (diffO r (hdRows r h) (hdRows r k) = noO c) := keepBack (by rw [diffO, hX, if_pos rfl, if_neg hz, hcd])
      have HC := keepBack hcd
      have HX := keepBack hX
      clear hcd hz gfine hX
      go_enter Tryz.func71, Tryz.ntmps71
      go_wp2_with fail
      refine wp_region_held (S := (fun W => W.cell? ⟨cb, 0, none⟩ = some (.pointer (some ⟨T, 0, none⟩)) ∧ W.cell? ⟨b0, o0, none⟩ = some (.string (bl h)) ∧ W.cell? ⟨b1, o1, none⟩ = some (.string (bl k)))) (by kernel_rfl) ?_
      change wpAnyH _ _ _ _ _ _ _ _ (World.drew _)
      have b9 := (Below.refl w.heap.size w).trans ((Below.refl _ _).drew.mono (Below.refl w.heap.size w).size)
      refine wpAnyH_take (i := 0) (v := ?_) rfl (by kernel_rfl) (by kernel_rfl) (by kernel_rfl) (fun _ _ _ h => h) (Or.inl ⟨by rfl, ?hy76⟩) (Sb _ b9) ?rest76
      case hy76 => (intro W hW; obtain ⟨q1, q2, q3⟩ := hW; go_simp; try with_reducible rfl)
      try simp only [Go.Act.put, List.setIfInBounds_toArray, List.set_cons_zero, List.set_cons_succ]
      refine wpAnyH_take (i := 1) (v := ?_) rfl (by kernel_rfl) (by kernel_rfl) (by kernel_rfl) (fun _ _ _ h => h) (Or.inl ⟨by rfl, ?hy77⟩) (Sb _ b9) ?rest77
      case hy77 => (intro W hW; obtain ⟨q1, q2, q3⟩ := hW; go_simp; try with_reducible rfl)
      try simp only [Go.Act.put, List.setIfInBounds_toArray, List.set_cons_zero, List.set_cons_succ]
      refine wpAnyH_take (i := 2) (v := ?_) rfl (by kernel_rfl) (by kernel_rfl) (by kernel_rfl) (fun _ _ _ h => h) (Or.inl ⟨by rfl, ?hy78⟩) (Sb _ b9) ?rest78
      case hy78 => (intro W hW; obtain ⟨q1, q2, q3⟩ := hW; go_simp; try with_reducible rfl)
      try simp only [Go.Act.put, List.setIfInBounds_toArray, List.set_cons_zero, List.set_cons_succ]
      refine wpAnyH_take (i := 3) (v := ?_) rfl (by kernel_rfl) (by kernel_rfl) (by kernel_rfl) (fun _ _ _ h => h) (Or.inl ⟨by rfl, ?hy79⟩) (Sb _ b9) ?rest79
      case hy79 => (intro W hW; obtain ⟨q1, q2, q3⟩ := hW; go_simp; try with_reducible rfl)
      try simp only [Go.Act.put, List.setIfInBounds_toArray, List.set_cons_zero, List.set_cons_succ]
      refine wpAnyH_take (i := 5) (v := ?_) rfl (by kernel_rfl) (by kernel_rfl) (by kernel_rfl) (fun _ _ _ h => h) (Or.inl ⟨by rfl, ?hy80⟩) (Sb _ b9) ?rest80
      case hy80 => (intro W hW; obtain ⟨q1, q2, q3⟩ := hW; go_simp; try with_reducible rfl)
      try simp only [Go.Act.put, List.setIfInBounds_toArray, List.set_cons_zero, List.set_cons_succ]
      refine wpAnyH_take (i := 6) (v := ?_) rfl (by kernel_rfl) (by kernel_rfl) (by kernel_rfl) (fun _ _ _ h => h) (Or.inl ⟨by rfl, ?hy81⟩) (Sb _ b9) ?rest81
      case hy81 => (intro W hW; obtain ⟨q1, q2, q3⟩ := hW; go_simp; try with_reducible rfl)
      try simp only [Go.Act.put, List.setIfInBounds_toArray, List.set_cons_zero, List.set_cons_succ]
      refine wpAnyH_take (i := 7) (v := ?_) rfl (by kernel_rfl) (by kernel_rfl) (by kernel_rfl) (fun _ _ _ h => h) (Or.inl ⟨by rfl, ?hy82⟩) (Sb _ b9) ?rest82
      case hy82 => (intro W hW; obtain ⟨q1, q2, q3⟩ := hW; go_simp; try with_reducible rfl)
      try simp only [Go.Act.put, List.setIfInBounds_toArray, List.set_cons_zero, List.set_cons_succ]
      refine wpAnyH_take (i := 8) (v := ?_) rfl (by kernel_rfl) (by kernel_rfl) (by kernel_rfl) (fun _ _ _ h => h) (Or.inl ⟨by rfl, ?hy83⟩) (Sb _ b9) ?rest83
      case hy83 => (intro W hW; obtain ⟨q1, q2, q3⟩ := hW; go_simp; try with_reducible rfl)
      try simp only [Go.Act.put, List.setIfInBounds_toArray, List.set_cons_zero, List.set_cons_succ]
      refine wpAnyH_one (i := 4) (by kernel_rfl) rfl (fun K hK => ?_)
      go_simp
      refine (R.out _ (hD.call b9)).mono ?_; rintro e w1 ⟨bw1, hq⟩
      rw [HX.out, if_pos rfl] at hq
      obtain ⟨vl, rfl, hl⟩ := hq
      have b01 : Below w.heap.size w w1 := b9.trans (bw1.mono b9.size)
      refine hK _ _ (Sb _ b01) ?_
      clear hK K
      refine wpAnyH_one (i := 9) (by kernel_rfl) rfl (fun K hK => ?_)
      go_simp
      refine (R'.out _ (hD.call b01)).mono ?_; rintro e w2 ⟨bw2, hq⟩
      rw [← HC.out, if_neg hc0] at hq
      subst hq
      refine ⟨rfl, ?_⟩
      have b02 : Below w.heap.size w w2 := b01.trans (bw2.mono b01.size)
      rw [HP.out]
      exact Does.no hc0 (Step.of_below b02) rfl (hD.call b02)
  · obtain ⟨c, hcd⟩ : ∃ c, c = (hdRows r h).2 := ⟨_, rfl⟩
    have hc0 : c ≠ 0 := by rw [hcd]; exact hz
    have HP : Hid (diffO r (hdRows r h) (hdRows r k) = noO c) := keepBack (by rw [diffO, if_neg hz, hcd])
    have HC := keepBack hcd
    clear hcd hz hfine gfine R'
    go_enter Tryz.func71, Tryz.ntmps71
    go_wp2_with fail
    refine wp_region_held (S := (fun W => W.cell? ⟨cb, 0, none⟩ = some (.pointer (some ⟨T, 0, none⟩)) ∧ W.cell? ⟨b0, o0, none⟩ = some (.string (bl h)) ∧ W.cell? ⟨b1, o1, none⟩ = some (.string (bl k)))) (by kernel_rfl) ?_
    change wpAnyH _ _ _ _ _ _ _ _ (World.drew _)
    have b9 := (Below.refl w.heap.size w).trans ((Below.refl _ _).drew.mono (Below.refl w.heap.size w).size)
    refine wpAnyH_take (i := 0) (v := ?_) rfl (by kernel_rfl) (by kernel_rfl) (by kernel_rfl) (fun _ _ _ h => h) (Or.inl ⟨by rfl, ?hy84⟩) (Sb _ b9) ?rest84
    case hy84 => (intro W hW; obtain ⟨q1, q2, q3⟩ := hW; go_simp; try with_reducible rfl)
    try simp only [Go.Act.put, List.setIfInBounds_toArray, List.set_cons_zero, List.set_cons_succ]
    refine wpAnyH_take (i := 1) (v := ?_) rfl (by kernel_rfl) (by kernel_rfl) (by kernel_rfl) (fun _ _ _ h => h) (Or.inl ⟨by rfl, ?hy85⟩) (Sb _ b9) ?rest85
    case hy85 => (intro W hW; obtain ⟨q1, q2, q3⟩ := hW; go_simp; try with_reducible rfl)
    try simp only [Go.Act.put, List.setIfInBounds_toArray, List.set_cons_zero, List.set_cons_succ]
    refine wpAnyH_take (i := 2) (v := ?_) rfl (by kernel_rfl) (by kernel_rfl) (by kernel_rfl) (fun _ _ _ h => h) (Or.inl ⟨by rfl, ?hy86⟩) (Sb _ b9) ?rest86
    case hy86 => (intro W hW; obtain ⟨q1, q2, q3⟩ := hW; go_simp; try with_reducible rfl)
    try simp only [Go.Act.put, List.setIfInBounds_toArray, List.set_cons_zero, List.set_cons_succ]
    refine wpAnyH_take (i := 3) (v := ?_) rfl (by kernel_rfl) (by kernel_rfl) (by kernel_rfl) (fun _ _ _ h => h) (Or.inl ⟨by rfl, ?hy87⟩) (Sb _ b9) ?rest87
    case hy87 => (intro W hW; obtain ⟨q1, q2, q3⟩ := hW; go_simp; try with_reducible rfl)
    try simp only [Go.Act.put, List.setIfInBounds_toArray, List.set_cons_zero, List.set_cons_succ]
    refine wpAnyH_take (i := 5) (v := ?_) rfl (by kernel_rfl) (by kernel_rfl) (by kernel_rfl) (fun _ _ _ h => h) (Or.inl ⟨by rfl, ?hy88⟩) (Sb _ b9) ?rest88
    case hy88 => (intro W hW; obtain ⟨q1, q2, q3⟩ := hW; go_simp; try with_reducible rfl)
    try simp only [Go.Act.put, List.setIfInBounds_toArray, List.set_cons_zero, List.set_cons_succ]
    refine wpAnyH_take (i := 6) (v := ?_) rfl (by kernel_rfl) (by kernel_rfl) (by kernel_rfl) (fun _ _ _ h => h) (Or.inl ⟨by rfl, ?hy89⟩) (Sb _ b9) ?rest89
    case hy89 => (intro W hW; obtain ⟨q1, q2, q3⟩ := hW; go_simp; try with_reducible rfl)
    try simp only [Go.Act.put, List.setIfInBounds_toArray, List.set_cons_zero, List.set_cons_succ]
    refine wpAnyH_take (i := 7) (v := ?_) rfl (by kernel_rfl) (by kernel_rfl) (by kernel_rfl) (fun _ _ _ h => h) (Or.inl ⟨by rfl, ?hy90⟩) (Sb _ b9) ?rest90
    case hy90 => (intro W hW; obtain ⟨q1, q2, q3⟩ := hW; go_simp; try with_reducible rfl)
    try simp only [Go.Act.put, List.setIfInBounds_toArray, List.set_cons_zero, List.set_cons_succ]
    refine wpAnyH_take (i := 8) (v := ?_) rfl (by kernel_rfl) (by kernel_rfl) (by kernel_rfl) (fun _ _ _ h => h) (Or.inl ⟨by rfl, ?hy91⟩) (Sb _ b9) ?rest91
    case hy91 => (intro W hW; obtain ⟨q1, q2, q3⟩ := hW; go_simp; try with_reducible rfl)
    try simp only [Go.Act.put, List.setIfInBounds_toArray, List.set_cons_zero, List.set_cons_succ]
    refine wpAnyH_one (i := 4) (by kernel_rfl) rfl (fun K hK => ?_)
    go_simp
    refine (R.out _ (hD.call b9)).mono ?_; rintro e w1 ⟨bw1, hq⟩
    rw [← HC.out, if_neg hc0] at hq
    subst hq
    refine ⟨rfl, ?_⟩
    have b01 := b9.trans (bw1.mono b9.size)
    rw [HP.out]
    exact Does.no hc0 (Step.of_below b01) rfl (hD.call b01)
end Go.Pch
end
