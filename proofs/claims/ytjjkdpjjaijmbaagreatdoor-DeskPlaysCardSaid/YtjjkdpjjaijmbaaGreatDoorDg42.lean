/- The walks of package desk: what the words do (those that change the repo). (gen_dki.py) -/
import Derived.Test.YtjjkdpjjaijmbaaGreatDoorDg41
section
namespace Go.Pch
open Go.RowKit Go.Proofs
set_option maxRecDepth 100000
set_option linter.unusedSimpArgs false
set_option linter.unusedVariables false
theorem deskBranchOf {c : Repo × Int} (v : Value) (r : Repo) (s f : ByteArray) (S : Blk) (w : World) (h : Rp w S v r) (hc : jBranch r s f = c) :
    Calls Tryz.prog 55 #[v, .string s, .string f] w (Ret w (RepoRet w.heap.size c)) := hc ▸ workBranch v r s f S w h
theorem deskDropOf {c : Repo × Int} (v : Value) (r : Repo) (s : ByteArray) (S : Blk) (w : World) (h : Rp w S v r) (hc : jDrop r s = c) :
    Calls Tryz.prog 57 #[v, .string s] w (Ret w (RepoRet w.heap.size c)) := hc ▸ workDrop v r s S w h
set_option maxHeartbeats 4000000 in
theorem wordCut [Zone] (T cb : Nat) (r : Repo) (h k : Bytes) (hr : repoErr r = 0) (w : World) (hV : Vars w) (hD : DeskTab w T r) (hc : Held w cb T) (v : Value) (hs : Sl tStr w (fun k => k ≠ T) v [bl h, bl k]) (hk : k.length ≤ 4096) :
    Calls Tryz.prog 52 #[v, .pointer (some ⟨cb, 0, none⟩)] w (Does T w r (cutO r h k)) := by
  obtain ⟨b0, o0, ix0, n0, l0, c0⟩ := hs.idxStr aStr 0 0 (bl h) rfl rfl
  obtain ⟨b1, o1, ix1, n1, l1, c1⟩ := hs.idxStr aStr 1 1 (bl k) rfl rfl
  have lc := hc.lt
  have nTc := hc.ne hD
  have hT := hD.lt
  have Sb : ∀ W, Below w.heap.size w W → (fun W => W.cell? ⟨cb, 0, none⟩ = some (.pointer (some ⟨T, 0, none⟩)) ∧ W.cell? ⟨b0, o0, none⟩ = some (.string (bl h)) ∧ W.cell? ⟨b1, o1, none⟩ = some (.string (bl k))) W := fun W hW => ⟨(hc.call hW).cell, (hW.cell (p := ⟨b0, o0, none⟩) l0).trans c0, (hW.cell (p := ⟨b1, o1, none⟩) l1).trans c1⟩
  have St : ∀ W, Step (fun k => k = T) w W → (fun W => W.cell? ⟨cb, 0, none⟩ = some (.pointer (some ⟨T, 0, none⟩)) ∧ W.cell? ⟨b0, o0, none⟩ = some (.string (bl h)) ∧ W.cell? ⟨b1, o1, none⟩ = some (.string (bl k))) W := fun W hW => ⟨(hW.cell (p := ⟨cb, 0, none⟩) lc nTc).trans hc.cell, (hW.cell (p := ⟨b0, o0, none⟩) l0 n0).trans c0, (hW.cell (p := ⟨b1, o1, none⟩) l1 n1).trans c1⟩
  cases hn : numP k with
  | none =>
    have HP : Hid (cutO r h k = noO 1) := keepBack (by rw [cutO, hn])
    go_enter Tryz.func52, Tryz.ntmps52
    go_wp2_with fail
    refine (deskNum k hk w hV).mono ?_; rintro e w1 ⟨b01, hq⟩
    rw [hn] at hq
    subst hq
    refine ⟨rfl, ?_⟩
    rw [HP.out]
    exact Does.no (by decide) (Step.of_below b01) rfl (hD.call b01)
  | some n =>
    have HP : Hid (cutO r h k = okO (chgP r h n (-1))) := keepBack (by rw [cutO, hn])
    have nk := numP_lt hn
    go_enter Tryz.func52, Tryz.ntmps52
    go_wp2_with fail
    refine (deskNum k hk w hV).mono ?_; rintro e w1 ⟨b01, hq⟩
    rw [hn] at hq
    subst hq
    go_wp2_with fail
    refine wp_region_held (S := (fun W => W.cell? ⟨cb, 0, none⟩ = some (.pointer (some ⟨T, 0, none⟩)) ∧ W.cell? ⟨b0, o0, none⟩ = some (.string (bl h)) ∧ W.cell? ⟨b1, o1, none⟩ = some (.string (bl k)))) (by kernel_rfl) ?_
    change wpAnyH _ _ _ _ _ _ _ _ (World.drew _)
    have b9 := b01.trans ((Below.refl _ _).drew.mono b01.size)
    refine wpAnyH_take (i := 0) (v := ?_) rfl (by kernel_rfl) (by kernel_rfl) (by kernel_rfl) (fun _ _ _ h => h) (Or.inl ⟨by rfl, ?hy1⟩) (Sb _ b9) ?rest1
    case hy1 => (intro W hW; obtain ⟨q1, q2, q3⟩ := hW; go_simp; try with_reducible rfl)
    try simp only [Go.Act.put, List.setIfInBounds_toArray, List.set_cons_zero, List.set_cons_succ]
    refine wpAnyH_take (i := 1) (v := ?_) rfl (by kernel_rfl) (by kernel_rfl) (by kernel_rfl) (fun _ _ _ h => h) (Or.inl ⟨by rfl, ?hy2⟩) (Sb _ b9) ?rest2
    case hy2 => (intro W hW; obtain ⟨q1, q2, q3⟩ := hW; go_simp; try with_reducible rfl)
    try simp only [Go.Act.put, List.setIfInBounds_toArray, List.set_cons_zero, List.set_cons_succ]
    refine wpAnyH_take (i := 2) (v := ?_) rfl (by kernel_rfl) (by kernel_rfl) (by kernel_rfl) (fun _ _ _ h => h) (Or.inl ⟨by rfl, ?hy3⟩) (Sb _ b9) ?rest3
    case hy3 => (intro W hW; obtain ⟨q1, q2, q3⟩ := hW; go_simp; try with_reducible rfl)
    try simp only [Go.Act.put, List.setIfInBounds_toArray, List.set_cons_zero, List.set_cons_succ]
    refine wpAnyH_take (i := 3) (v := ?_) rfl (by kernel_rfl) (by kernel_rfl) (by kernel_rfl) (fun _ _ _ h => h) (Or.inl ⟨by rfl, ?hy4⟩) (Sb _ b9) ?rest4
    case hy4 => (intro W hW; obtain ⟨q1, q2, q3⟩ := hW; go_simp; try with_reducible rfl)
    try simp only [Go.Act.put, List.setIfInBounds_toArray, List.set_cons_zero, List.set_cons_succ]
    refine wpAnyH_take (i := 4) (v := ?_) rfl (by kernel_rfl) (by kernel_rfl) (by kernel_rfl) (fun _ _ _ h => h) (Or.inl ⟨by rfl, ?hy5⟩) (Sb _ b9) ?rest5
    case hy5 => (intro W hW; obtain ⟨q1, q2, q3⟩ := hW; go_simp; try with_reducible rfl)
    try simp only [Go.Act.put, List.setIfInBounds_toArray, List.set_cons_zero, List.set_cons_succ]
    refine wpAnyH_one (i := 5) (by kernel_rfl) rfl (fun K hK => ?_)
    go_simp
    refine (deskPut T r h n (-1) ⟨by omega, by omega⟩ ⟨by omega, by omega⟩ hr _ (hD.call b9)).mono ?_; rintro e w9 hdo
    have hdo : Does T w r (cutO r h k) e w9 := by rw [HP.out]; exact hdo.after (Step.of_below b9)
    obtain ⟨hst, hif⟩ := hdo
    by_cases hp0 : (cutO r h k).2.2 = 0
    · rw [if_pos hp0] at hif
      obtain ⟨rfl, ht⟩ := hif
      refine hK _ _ (St _ hst) ?_
      clear hK K
      refine wpAnyH_one (i := 6) (by kernel_rfl) rfl (fun K hK => ?_)
      go_simp
      refine hK _ _ (St _ hst) ?_
      clear hK K
      refine wpAnyH_done (by kernel_rfl) ?_ _
      go_wp2
      go_ret
      exact Does.ok hp0 hst rfl ht
    · rw [if_neg hp0] at hif
      obtain ⟨rfl, ht⟩ := hif
      exact ⟨rfl, Does.no hp0 hst rfl ht⟩
set_option maxHeartbeats 4000000 in
theorem wordBranch [Zone] (T cb : Nat) (r : Repo) (h k : Bytes) (hr : repoErr r = 0) (w : World) (hV : Vars w) (hD : DeskTab w T r) (hc : Held w cb T) (v : Value) (hs : Sl tStr w (fun k => k ≠ T) v [bl h, bl k]) :
    Calls Tryz.prog 53 #[v, .pointer (some ⟨cb, 0, none⟩)] w (Does T w r (okO (jBranch r (bl h) (bl k)))) := by
  obtain ⟨b0, o0, ix0, n0, l0, c0⟩ := hs.idxStr aStr 0 0 (bl h) rfl rfl
  obtain ⟨b1, o1, ix1, n1, l1, c1⟩ := hs.idxStr aStr 1 1 (bl k) rfl rfl
  have lc := hc.lt
  have nTc := hc.ne hD
  have hT := hD.lt
  have Sb : ∀ W, Below w.heap.size w W → (fun W => W.cell? ⟨cb, 0, none⟩ = some (.pointer (some ⟨T, 0, none⟩)) ∧ W.cell? ⟨b0, o0, none⟩ = some (.string (bl h)) ∧ W.cell? ⟨b1, o1, none⟩ = some (.string (bl k))) W := fun W hW => ⟨(hc.call hW).cell, (hW.cell (p := ⟨b0, o0, none⟩) l0).trans c0, (hW.cell (p := ⟨b1, o1, none⟩) l1).trans c1⟩
  have St : ∀ W, Step (fun k => k = T) w W → (fun W => W.cell? ⟨cb, 0, none⟩ = some (.pointer (some ⟨T, 0, none⟩)) ∧ W.cell? ⟨b0, o0, none⟩ = some (.string (bl h)) ∧ W.cell? ⟨b1, o1, none⟩ = some (.string (bl k))) W := fun W hW => ⟨(hW.cell (p := ⟨cb, 0, none⟩) lc nTc).trans hc.cell, (hW.cell (p := ⟨b0, o0, none⟩) l0 n0).trans c0, (hW.cell (p := ⟨b1, o1, none⟩) l1 n1).trans c1⟩
  have hDD := hD
  obtain ⟨⟨vc, vh, hrw, hcs, hhs⟩, _⟩ := hD
  obtain ⟨ac, cc, hvc, _, _, _⟩ := hcs.shape
  obtain ⟨ah, ch, hvh, _, _, _⟩ := hhs.shape
  obtain ⟨nc, hnc⟩ : ∃ n, n = r.1.length := ⟨_, rfl⟩
  obtain ⟨nh, hnh⟩ : ∃ n, n = r.2.length := ⟨_, rfl⟩
  rw [← hnc] at hvc
  rw [← hnh] at hvh
  clear hnc hnh
  subst hvc hvh
  have b8 := (Below.refl w.heap.size w).drew
  have t0 : w.drew.cell? ⟨T, 0, none⟩ = some (.slice ac nc cc) := (b8.cell (p := ⟨T, 0, none⟩) hT).trans (by rw [World.cell?, hrw]; rfl)
  have t1 : w.drew.cell? ⟨T, 1, none⟩ = some (.slice ah nh ch) := (b8.cell (p := ⟨T, 1, none⟩) hT).trans (by rw [World.cell?, hrw]; rfl)
  have HR : Hid (Rp w (Away T) (.agg #[.slice ac nc cc, .slice ah nh ch]) r) := keepBack ⟨_, _, rfl, hcs, hhs⟩
  clear hrw hcs hhs
  obtain ⟨p, hp⟩ : ∃ p, p = jBranch r (bl h) (bl k) := ⟨_, rfl⟩
  have HP : Hid (okO (jBranch r (bl h) (bl k)) = okO p) := keepBack (by rw [hp])
  have HJ := keepBack hp.symm
  clear hp
  go_enter Tryz.func53, Tryz.ntmps53
  go_wp2_with fail
  refine wp_region_held (S := (fun W => W.cell? ⟨cb, 0, none⟩ = some (.pointer (some ⟨T, 0, none⟩)) ∧ W.cell? ⟨b0, o0, none⟩ = some (.string (bl h)) ∧ W.cell? ⟨b1, o1, none⟩ = some (.string (bl k)))) (by kernel_rfl) ?_
  change wpAnyH _ _ _ _ _ _ _ _ (World.drew _)
  have b9 := (Below.refl w.heap.size w).trans ((Below.refl _ _).drew.mono (Below.refl w.heap.size w).size)
  refine wpAnyH_take (i := 0) (v := ?_) rfl (by kernel_rfl) (by kernel_rfl) (by kernel_rfl) (fun _ _ _ h => h) (Or.inl ⟨by rfl, ?hy6⟩) (Sb _ b9) ?rest6
  case hy6 => (intro W hW; obtain ⟨q1, q2, q3⟩ := hW; go_simp; try with_reducible rfl)
  try simp only [Go.Act.put, List.setIfInBounds_toArray, List.set_cons_zero, List.set_cons_succ]
  refine wpAnyH_take (i := 1) (v := ?_) rfl (by kernel_rfl) (by kernel_rfl) (by kernel_rfl) (fun _ _ _ h => h) (Or.inl ⟨by rfl, ?hy7⟩) (Sb _ b9) ?rest7
  case hy7 => (intro W hW; obtain ⟨q1, q2, q3⟩ := hW; go_simp; try with_reducible rfl)
  try simp only [Go.Act.put, List.setIfInBounds_toArray, List.set_cons_zero, List.set_cons_succ]
  refine wpAnyH_take (i := 2) (v := ?_) rfl (by kernel_rfl) (by kernel_rfl) (by kernel_rfl) (fun _ _ _ h => h) (Or.inl ⟨by rfl, ?hy8⟩) (Sb _ b9) ?rest8
  case hy8 => (intro W hW; obtain ⟨q1, q2, q3⟩ := hW; go_simp; try with_reducible rfl)
  try simp only [Go.Act.put, List.setIfInBounds_toArray, List.set_cons_zero, List.set_cons_succ]
  refine wpAnyH_take (i := 3) (v := ?_) rfl (by kernel_rfl) (by kernel_rfl) (by kernel_rfl) (fun _ _ _ h => h) (Or.inl ⟨by rfl, ?hy9⟩) (Sb _ b9) ?rest9
  case hy9 => (intro W hW; obtain ⟨q1, q2, q3⟩ := hW; go_simp; try with_reducible rfl)
  try simp only [Go.Act.put, List.setIfInBounds_toArray, List.set_cons_zero, List.set_cons_succ]
  refine wpAnyH_take (i := 5) (v := ?_) rfl (by kernel_rfl) (by kernel_rfl) (by kernel_rfl) (fun _ _ _ h => h) (Or.inl ⟨by rfl, ?hy10⟩) (Sb _ b9) ?rest10
  case hy10 => (intro W hW; obtain ⟨q1, q2, q3⟩ := hW; go_simp; try with_reducible rfl)
  try simp only [Go.Act.put, List.setIfInBounds_toArray, List.set_cons_zero, List.set_cons_succ]
  refine wpAnyH_take (i := 6) (v := ?_) rfl (by kernel_rfl) (by kernel_rfl) (by kernel_rfl) (fun _ _ _ h => h) (Or.inl ⟨by rfl, ?hy11⟩) (Sb _ b9) ?rest11
  case hy11 => (intro W hW; obtain ⟨q1, q2, q3⟩ := hW; go_simp; try with_reducible rfl)
  try simp only [Go.Act.put, List.setIfInBounds_toArray, List.set_cons_zero, List.set_cons_succ]
  refine wpAnyH_take (i := 7) (v := ?_) rfl (by kernel_rfl) (by kernel_rfl) (by kernel_rfl) (fun _ _ _ h => h) (Or.inl ⟨by rfl, ?hy12⟩) (Sb _ b9) ?rest12
  case hy12 => (intro W hW; obtain ⟨q1, q2, q3⟩ := hW; go_simp; try with_reducible rfl)
  try simp only [Go.Act.put, List.setIfInBounds_toArray, List.set_cons_zero, List.set_cons_succ]
  refine wpAnyH_take (i := 8) (v := ?_) rfl (by kernel_rfl) (by kernel_rfl) (by kernel_rfl) (fun _ _ _ h => h) (Or.inl ⟨by rfl, ?hy13⟩) (Sb _ b9) ?rest13
  case hy13 => (intro W hW; obtain ⟨q1, q2, q3⟩ := hW; go_simp; try with_reducible rfl)
  try simp only [Go.Act.put, List.setIfInBounds_toArray, List.set_cons_zero, List.set_cons_succ]
  refine wpAnyH_take (i := 9) (v := ?_) rfl (by kernel_rfl) (by kernel_rfl) (by kernel_rfl) (fun _ _ _ h => h) (Or.inl ⟨by rfl, ?hy14⟩) (Sb _ b9) ?rest14
  case hy14 => (intro W hW; obtain ⟨q1, q2, q3⟩ := hW; go_simp; try with_reducible rfl)
  try simp only [Go.Act.put, List.setIfInBounds_toArray, List.set_cons_zero, List.set_cons_succ]
  refine wpAnyH_take (i := 10) (v := ?_) rfl (by kernel_rfl) (by kernel_rfl) (by kernel_rfl) (fun _ _ _ h => h) (Or.inl ⟨by rfl, ?hy15⟩) (Sb _ b9) ?rest15
  case hy15 => (intro W hW; obtain ⟨q1, q2, q3⟩ := hW; go_simp; try with_reducible rfl)
  try simp only [Go.Act.put, List.setIfInBounds_toArray, List.set_cons_zero, List.set_cons_succ]
  refine wpAnyH_one (i := 4) (by kernel_rfl) rfl (fun K hK => ?_)
  go_simp
  refine hK _ _ (Sb _ b9) ?_
  clear hK K
  refine wpAnyH_one (i := 11) (by kernel_rfl) rfl (fun K hK => ?_)
  go_simp
  refine (deskBranchOf _ r _ _ _ _ (HR.out.call b8) HJ.out).mono ?_; rintro e w5 ⟨_, rfl, ⟨y, rfl, hy⟩, b5⟩
  have b05 : Below w.heap.size w w5 := b8.trans (b5.mono b8.size)
  have hy' := hy.notT (T := T) hT hDD.zone
  refine hK _ _ (Sb _ b05) ?_
  clear hK K
  refine wpAnyH_take (i := 12) (v := ?_) rfl (by kernel_rfl) (by kernel_rfl) (by kernel_rfl) (fun _ _ _ h => h) (Or.inl ⟨by rfl, ?hy16⟩) (Sb _ b05) ?rest16
  case hy16 => (intro W hW; obtain ⟨q1, q2, q3⟩ := hW; go_simp; try with_reducible rfl)
  try simp only [Go.Act.put, List.setIfInBounds_toArray, List.set_cons_zero, List.set_cons_succ]
  refine wpAnyH_take (i := 13) (v := ?_) rfl (by kernel_rfl) (by kernel_rfl) (by kernel_rfl) (fun _ _ _ h => h) (Or.inl ⟨by rfl, ?hy17⟩) (Sb _ b05) ?rest17
  case hy17 => (intro W hW; obtain ⟨q1, q2, q3⟩ := hW; go_simp; try with_reducible rfl)
  try simp only [Go.Act.put, List.setIfInBounds_toArray, List.set_cons_zero, List.set_cons_succ]
  refine wpAnyH_one (i := 14) (by kernel_rfl) rfl (fun K hK => ?_)
  go_simp
  refine (deskTurn T r p y _ (hDD.call b05) hy').mono ?_; rintro e w9 hdo
  have hdo : Does T w r (okO (jBranch r (bl h) (bl k))) e w9 := by rw [HP.out]; exact hdo.after (Step.of_below b05)
  obtain ⟨hst, hif⟩ := hdo
  by_cases hp0 : (okO (jBranch r (bl h) (bl k))).2.2 = 0
  · rw [if_pos hp0] at hif
    obtain ⟨rfl, ht⟩ := hif
    refine hK _ _ (St _ hst) ?_
    clear hK K
    refine wpAnyH_one (i := 15) (by kernel_rfl) rfl (fun K hK => ?_)
    go_simp
    refine hK _ _ (St _ hst) ?_
    clear hK K
    refine wpAnyH_done (by kernel_rfl) ?_ _
    go_wp2
    go_ret
    exact Does.ok hp0 hst rfl ht
  · rw [if_neg hp0] at hif
    obtain ⟨rfl, ht⟩ := hif
    exact ⟨rfl, Does.no hp0 hst rfl ht⟩
set_option maxHeartbeats 4000000 in
theorem wordDrop [Zone] (T cb : Nat) (r : Repo) (h : Bytes) (hr : repoErr r = 0) (w : World) (hV : Vars w) (hD : DeskTab w T r) (hc : Held w cb T) (v : Value) (hs : Sl tStr w (fun k => k ≠ T) v [bl h]) :
    Calls Tryz.prog 56 #[v, .pointer (some ⟨cb, 0, none⟩)] w (Does T w r (okO (jDrop r (bl h)))) := by
  obtain ⟨b0, o0, ix0, n0, l0, c0⟩ := hs.idxStr aStr 0 0 (bl h) rfl rfl
  have lc := hc.lt
  have nTc := hc.ne hD
  have hT := hD.lt
  have Sb : ∀ W, Below w.heap.size w W → (fun W => W.cell? ⟨cb, 0, none⟩ = some (.pointer (some ⟨T, 0, none⟩)) ∧ W.cell? ⟨b0, o0, none⟩ = some (.string (bl h))) W := fun W hW => ⟨(hc.call hW).cell, (hW.cell (p := ⟨b0, o0, none⟩) l0).trans c0⟩
  have St : ∀ W, Step (fun k => k = T) w W → (fun W => W.cell? ⟨cb, 0, none⟩ = some (.pointer (some ⟨T, 0, none⟩)) ∧ W.cell? ⟨b0, o0, none⟩ = some (.string (bl h))) W := fun W hW => ⟨(hW.cell (p := ⟨cb, 0, none⟩) lc nTc).trans hc.cell, (hW.cell (p := ⟨b0, o0, none⟩) l0 n0).trans c0⟩
  have hDD := hD
  obtain ⟨⟨vc, vh, hrw, hcs, hhs⟩, _⟩ := hD
  obtain ⟨ac, cc, hvc, _, _, _⟩ := hcs.shape
  obtain ⟨ah, ch, hvh, _, _, _⟩ := hhs.shape
  obtain ⟨nc, hnc⟩ : ∃ n, n = r.1.length := ⟨_, rfl⟩
  obtain ⟨nh, hnh⟩ : ∃ n, n = r.2.length := ⟨_, rfl⟩
  rw [← hnc] at hvc
  rw [← hnh] at hvh
  clear hnc hnh
  subst hvc hvh
  have b8 := (Below.refl w.heap.size w).drew
  have t0 : w.drew.cell? ⟨T, 0, none⟩ = some (.slice ac nc cc) := (b8.cell (p := ⟨T, 0, none⟩) hT).trans (by rw [World.cell?, hrw]; rfl)
  have t1 : w.drew.cell? ⟨T, 1, none⟩ = some (.slice ah nh ch) := (b8.cell (p := ⟨T, 1, none⟩) hT).trans (by rw [World.cell?, hrw]; rfl)
  have HR : Hid (Rp w (Away T) (.agg #[.slice ac nc cc, .slice ah nh ch]) r) := keepBack ⟨_, _, rfl, hcs, hhs⟩
  clear hrw hcs hhs
  obtain ⟨p, hp⟩ : ∃ p, p = jDrop r (bl h) := ⟨_, rfl⟩
  have HP : Hid (okO (jDrop r (bl h)) = okO p) := keepBack (by rw [hp])
  have HJ := keepBack hp.symm
  clear hp
  go_enter Tryz.func56, Tryz.ntmps56
  go_wp2_with fail
  refine wp_region_held (S := (fun W => W.cell? ⟨cb, 0, none⟩ = some (.pointer (some ⟨T, 0, none⟩)) ∧ W.cell? ⟨b0, o0, none⟩ = some (.string (bl h)))) (by kernel_rfl) ?_
  change wpAnyH _ _ _ _ _ _ _ _ (World.drew _)
  have b9 := (Below.refl w.heap.size w).trans ((Below.refl _ _).drew.mono (Below.refl w.heap.size w).size)
  refine wpAnyH_take (i := 0) (v := ?_) rfl (by kernel_rfl) (by kernel_rfl) (by kernel_rfl) (fun _ _ _ h => h) (Or.inl ⟨by rfl, ?hy18⟩) (Sb _ b9) ?rest18
  case hy18 => (intro W hW; obtain ⟨q1, q2⟩ := hW; go_simp; try with_reducible rfl)
  try simp only [Go.Act.put, List.setIfInBounds_toArray, List.set_cons_zero, List.set_cons_succ]
  refine wpAnyH_take (i := 1) (v := ?_) rfl (by kernel_rfl) (by kernel_rfl) (by kernel_rfl) (fun _ _ _ h => h) (Or.inl ⟨by rfl, ?hy19⟩) (Sb _ b9) ?rest19
  case hy19 => (intro W hW; obtain ⟨q1, q2⟩ := hW; go_simp; try with_reducible rfl)
  try simp only [Go.Act.put, List.setIfInBounds_toArray, List.set_cons_zero, List.set_cons_succ]
  refine wpAnyH_take (i := 2) (v := ?_) rfl (by kernel_rfl) (by kernel_rfl) (by kernel_rfl) (fun _ _ _ h => h) (Or.inl ⟨by rfl, ?hy20⟩) (Sb _ b9) ?rest20
  case hy20 => (intro W hW; obtain ⟨q1, q2⟩ := hW; go_simp; try with_reducible rfl)
  try simp only [Go.Act.put, List.setIfInBounds_toArray, List.set_cons_zero, List.set_cons_succ]
  refine wpAnyH_take (i := 3) (v := ?_) rfl (by kernel_rfl) (by kernel_rfl) (by kernel_rfl) (fun _ _ _ h => h) (Or.inl ⟨by rfl, ?hy21⟩) (Sb _ b9) ?rest21
  case hy21 => (intro W hW; obtain ⟨q1, q2⟩ := hW; go_simp; try with_reducible rfl)
  try simp only [Go.Act.put, List.setIfInBounds_toArray, List.set_cons_zero, List.set_cons_succ]
  refine wpAnyH_take (i := 5) (v := ?_) rfl (by kernel_rfl) (by kernel_rfl) (by kernel_rfl) (fun _ _ _ h => h) (Or.inl ⟨by rfl, ?hy22⟩) (Sb _ b9) ?rest22
  case hy22 => (intro W hW; obtain ⟨q1, q2⟩ := hW; go_simp; try with_reducible rfl)
  try simp only [Go.Act.put, List.setIfInBounds_toArray, List.set_cons_zero, List.set_cons_succ]
  refine wpAnyH_take (i := 6) (v := ?_) rfl (by kernel_rfl) (by kernel_rfl) (by kernel_rfl) (fun _ _ _ h => h) (Or.inl ⟨by rfl, ?hy23⟩) (Sb _ b9) ?rest23
  case hy23 => (intro W hW; obtain ⟨q1, q2⟩ := hW; go_simp; try with_reducible rfl)
  try simp only [Go.Act.put, List.setIfInBounds_toArray, List.set_cons_zero, List.set_cons_succ]
  refine wpAnyH_take (i := 7) (v := ?_) rfl (by kernel_rfl) (by kernel_rfl) (by kernel_rfl) (fun _ _ _ h => h) (Or.inl ⟨by rfl, ?hy24⟩) (Sb _ b9) ?rest24
  case hy24 => (intro W hW; obtain ⟨q1, q2⟩ := hW; go_simp; try with_reducible rfl)
  try simp only [Go.Act.put, List.setIfInBounds_toArray, List.set_cons_zero, List.set_cons_succ]
  refine wpAnyH_one (i := 4) (by kernel_rfl) rfl (fun K hK => ?_)
  go_simp
  refine hK _ _ (Sb _ b9) ?_
  clear hK K
  refine wpAnyH_one (i := 8) (by kernel_rfl) rfl (fun K hK => ?_)
  go_simp
  refine (deskDropOf _ r _ _ _ (HR.out.call b8) HJ.out).mono ?_; rintro e w5 ⟨_, rfl, ⟨y, rfl, hy⟩, b5⟩
  have b05 : Below w.heap.size w w5 := b8.trans (b5.mono b8.size)
  have hy' := hy.notT (T := T) hT hDD.zone
  refine hK _ _ (Sb _ b05) ?_
  clear hK K
  refine wpAnyH_take (i := 9) (v := ?_) rfl (by kernel_rfl) (by kernel_rfl) (by kernel_rfl) (fun _ _ _ h => h) (Or.inl ⟨by rfl, ?hy25⟩) (Sb _ b05) ?rest25
  case hy25 => (intro W hW; obtain ⟨q1, q2⟩ := hW; go_simp; try with_reducible rfl)
  try simp only [Go.Act.put, List.setIfInBounds_toArray, List.set_cons_zero, List.set_cons_succ]
  refine wpAnyH_take (i := 10) (v := ?_) rfl (by kernel_rfl) (by kernel_rfl) (by kernel_rfl) (fun _ _ _ h => h) (Or.inl ⟨by rfl, ?hy26⟩) (Sb _ b05) ?rest26
  case hy26 => (intro W hW; obtain ⟨q1, q2⟩ := hW; go_simp; try with_reducible rfl)
  try simp only [Go.Act.put, List.setIfInBounds_toArray, List.set_cons_zero, List.set_cons_succ]
  refine wpAnyH_one (i := 11) (by kernel_rfl) rfl (fun K hK => ?_)
  go_simp
  refine (deskTurn T r p y _ (hDD.call b05) hy').mono ?_; rintro e w9 hdo
  have hdo : Does T w r (okO (jDrop r (bl h))) e w9 := by rw [HP.out]; exact hdo.after (Step.of_below b05)
  obtain ⟨hst, hif⟩ := hdo
  by_cases hp0 : (okO (jDrop r (bl h))).2.2 = 0
  · rw [if_pos hp0] at hif
    obtain ⟨rfl, ht⟩ := hif
    refine hK _ _ (St _ hst) ?_
    clear hK K
    refine wpAnyH_one (i := 12) (by kernel_rfl) rfl (fun K hK => ?_)
    go_simp
    refine hK _ _ (St _ hst) ?_
    clear hK K
    refine wpAnyH_done (by kernel_rfl) ?_ _
    go_wp2
    go_ret
    exact Does.ok hp0 hst rfl ht
  · rw [if_neg hp0] at hif
    obtain ⟨rfl, ht⟩ := hif
    exact ⟨rfl, Does.no hp0 hst rfl ht⟩
set_option maxHeartbeats 4000000 in
theorem wordMerge [Zone] (T cb : Nat) (r : Repo) (h k : Bytes) (hr : repoErr r = 0) (w : World) (hV : Vars w) (hD : DeskTab w T r) (hc : Held w cb T) (v : Value) (hs : Sl tStr w (fun k => k ≠ T) v [bl h, bl k]) :
    Calls Tryz.prog 58 #[v, .pointer (some ⟨cb, 0, none⟩)] w (Does T w r (mergeO r (jJoin r (bl h) (bl k)))) := by
  obtain ⟨b0, o0, ix0, n0, l0, c0⟩ := hs.idxStr aStr 0 0 (bl h) rfl rfl
  obtain ⟨b1, o1, ix1, n1, l1, c1⟩ := hs.idxStr aStr 1 1 (bl k) rfl rfl
  have lc := hc.lt
  have nTc := hc.ne hD
  have hT := hD.lt
  have Sb : ∀ W, Below w.heap.size w W → (fun W => W.cell? ⟨cb, 0, none⟩ = some (.pointer (some ⟨T, 0, none⟩)) ∧ W.cell? ⟨b0, o0, none⟩ = some (.string (bl h)) ∧ W.cell? ⟨b1, o1, none⟩ = some (.string (bl k))) W := fun W hW => ⟨(hc.call hW).cell, (hW.cell (p := ⟨b0, o0, none⟩) l0).trans c0, (hW.cell (p := ⟨b1, o1, none⟩) l1).trans c1⟩
  have St : ∀ W, Step (fun k => k = T) w W → (fun W => W.cell? ⟨cb, 0, none⟩ = some (.pointer (some ⟨T, 0, none⟩)) ∧ W.cell? ⟨b0, o0, none⟩ = some (.string (bl h)) ∧ W.cell? ⟨b1, o1, none⟩ = some (.string (bl k))) W := fun W hW => ⟨(hW.cell (p := ⟨cb, 0, none⟩) lc nTc).trans hc.cell, (hW.cell (p := ⟨b0, o0, none⟩) l0 n0).trans c0, (hW.cell (p := ⟨b1, o1, none⟩) l1 n1).trans c1⟩
  go_enter Tryz.func58, Tryz.ntmps58
  go_wp2_with fail
  refine wp_region_held (S := (fun W => W.cell? ⟨cb, 0, none⟩ = some (.pointer (some ⟨T, 0, none⟩)) ∧ W.cell? ⟨b0, o0, none⟩ = some (.string (bl h)) ∧ W.cell? ⟨b1, o1, none⟩ = some (.string (bl k)))) (by kernel_rfl) ?_
  change wpAnyH _ _ _ _ _ _ _ _ (World.drew _)
  have b9 := (Below.refl w.heap.size w).trans ((Below.refl _ _).drew.mono (Below.refl w.heap.size w).size)
  refine wpAnyH_take (i := 0) (v := ?_) rfl (by kernel_rfl) (by kernel_rfl) (by kernel_rfl) (fun _ _ _ h => h) (Or.inl ⟨by rfl, ?hy27⟩) (Sb _ b9) ?rest27
  case hy27 => (intro W hW; obtain ⟨q1, q2, q3⟩ := hW; go_simp; try with_reducible rfl)
  try simp only [Go.Act.put, List.setIfInBounds_toArray, List.set_cons_zero, List.set_cons_succ]
  refine wpAnyH_take (i := 1) (v := ?_) rfl (by kernel_rfl) (by kernel_rfl) (by kernel_rfl) (fun _ _ _ h => h) (Or.inl ⟨by rfl, ?hy28⟩) (Sb _ b9) ?rest28
  case hy28 => (intro W hW; obtain ⟨q1, q2, q3⟩ := hW; go_simp; try with_reducible rfl)
  try simp only [Go.Act.put, List.setIfInBounds_toArray, List.set_cons_zero, List.set_cons_succ]
  refine wpAnyH_take (i := 2) (v := ?_) rfl (by kernel_rfl) (by kernel_rfl) (by kernel_rfl) (fun _ _ _ h => h) (Or.inl ⟨by rfl, ?hy29⟩) (Sb _ b9) ?rest29
  case hy29 => (intro W hW; obtain ⟨q1, q2, q3⟩ := hW; go_simp; try with_reducible rfl)
  try simp only [Go.Act.put, List.setIfInBounds_toArray, List.set_cons_zero, List.set_cons_succ]
  refine wpAnyH_take (i := 3) (v := ?_) rfl (by kernel_rfl) (by kernel_rfl) (by kernel_rfl) (fun _ _ _ h => h) (Or.inl ⟨by rfl, ?hy30⟩) (Sb _ b9) ?rest30
  case hy30 => (intro W hW; obtain ⟨q1, q2, q3⟩ := hW; go_simp; try with_reducible rfl)
  try simp only [Go.Act.put, List.setIfInBounds_toArray, List.set_cons_zero, List.set_cons_succ]
  refine wpAnyH_take (i := 4) (v := ?_) rfl (by kernel_rfl) (by kernel_rfl) (by kernel_rfl) (fun _ _ _ h => h) (Or.inl ⟨by rfl, ?hy31⟩) (Sb _ b9) ?rest31
  case hy31 => (intro W hW; obtain ⟨q1, q2, q3⟩ := hW; go_simp; try with_reducible rfl)
  try simp only [Go.Act.put, List.setIfInBounds_toArray, List.set_cons_zero, List.set_cons_succ]
  refine wpAnyH_take (i := 5) (v := ?_) rfl (by kernel_rfl) (by kernel_rfl) (by kernel_rfl) (fun _ _ _ h => h) (Or.inl ⟨by rfl, ?hy32⟩) (Sb _ b9) ?rest32
  case hy32 => (intro W hW; obtain ⟨q1, q2, q3⟩ := hW; go_simp; try with_reducible rfl)
  try simp only [Go.Act.put, List.setIfInBounds_toArray, List.set_cons_zero, List.set_cons_succ]
  refine wpAnyH_take (i := 6) (v := ?_) rfl (by kernel_rfl) (by kernel_rfl) (by kernel_rfl) (fun _ _ _ h => h) (Or.inl ⟨by rfl, ?hy33⟩) (Sb _ b9) ?rest33
  case hy33 => (intro W hW; obtain ⟨q1, q2, q3⟩ := hW; go_simp; try with_reducible rfl)
  try simp only [Go.Act.put, List.setIfInBounds_toArray, List.set_cons_zero, List.set_cons_succ]
  refine wpAnyH_one (i := 7) (by kernel_rfl) rfl (fun K hK => ?_)
  go_simp
  refine (deskMerge T r h k hr _ (hV.call b9) (hD.call b9)).mono ?_; rintro e w9 hdo
  have hdo : Does T w r (mergeO r (jJoin r (bl h) (bl k))) e w9 := by exact hdo.after (Step.of_below b9)
  obtain ⟨hst, hif⟩ := hdo
  by_cases hp0 : (mergeO r (jJoin r (bl h) (bl k))).2.2 = 0
  · rw [if_pos hp0] at hif
    obtain ⟨rfl, ht⟩ := hif
    refine hK _ _ (St _ hst) ?_
    clear hK K
    refine wpAnyH_one (i := 8) (by kernel_rfl) rfl (fun K hK => ?_)
    go_simp
    refine hK _ _ (St _ hst) ?_
    clear hK K
    refine wpAnyH_done (by kernel_rfl) ?_ _
    go_wp2
    go_ret
    exact Does.ok hp0 hst rfl ht
  · rw [if_neg hp0] at hif
    obtain ⟨rfl, ht⟩ := hif
    exact ⟨rfl, Does.no hp0 hst rfl ht⟩
end Go.Pch
end
