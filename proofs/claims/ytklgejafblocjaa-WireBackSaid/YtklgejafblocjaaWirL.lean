/- The walk of wireBegun; the laws WireWrites and WireBack. -/
import Derived.Test.YtklgejafblocjaaWirP
import Derived.Test.YtklgejafblocjaaEarB
import Derived.Test.YtklgejafblocjaaGlaE
import Derived.Test.YtklgejafblocjaaRepI
namespace Go.Pch
open Go.RowKit Go.Proofs
set_option maxRecDepth 100000

theorem wireRead (s : ByteArray) (w : World) (hs : s.size ≤ maxLen) : Calls Try.prog 23 #[.string s] w (ReadPost w (readP s.data.toList)) := by
  have e := bl_data s
  have hl : s.data.toList.length = s.size := Array.length_toList
  by_cases h : 4096 < s.data.toList.length
  · have hp : readP s.data.toList = (([], []), 2) := by rw [readP, if_pos h]
    rw [hp]
    have := wireReadBig s.data.toList w h (by omega)
    rw [e] at this
    exact this
  · have := wireReadFew s.data.toList w (by omega)
    rw [e] at this
    exact this
theorem readPost_of {w : World} {a b : Repo × Int} {e : Ending} {w' : World} (h : ReadPost w a e w') (hab : a = b) : ReadPost w b e w' := hab ▸ h

abbrev shopR : Repo := (crossL, H3 (ByteArray.mk #[109, 97, 105, 110]) (ByteArray.mk #[115, 105, 100, 101]))
theorem shopLen : (repoBy shopR).length = 41 := by decide +kernel
theorem shopX : readP (repoBy shopR ++ [120]) = (([], []), 1) := by
  have h : repoG (repoBy shopR ++ [120]) = some (shopR, [120]) := by
    have e : repoBy shopR ++ [120] = enc1 shopR.1.length ++ (shopR.1.flatMap comBy ++ (enc1 shopR.2.length ++ (shopR.2.flatMap headBy ++ [120]))) := by simp [repoBy]
    have hf := repo_fit okShop
    rw [e, repoG, listG_enc shopR.1 hf.1.1 _ fun c hc s => comG_enc (hf.1.2 c hc) s]
    simp only [Option.bind_some]
    rw [listG_enc shopR.2 hf.2.1 [120] fun x hx s => headG_enc (hf.2.2 x hx) s]
    rfl
  exact readP_rest (by rw [List.length_append, shopLen]; decide) h
theorem blAdd (a b : Bytes) : bl a ++ bl b = bl (a ++ b) := by
  apply ByteArray.ext
  rw [ByteArray.data_append]
  simp [bl]

set_option maxHeartbeats 1000000 in
theorem wireBegun (w : World) : Calls Try.prog 24 #[] w (Ret w fun x _ => x = .bool true) := by
  have hW : writeP shopR = (repoBy shopR, 0) := by rw [writeP, if_pos okShop]
  have hR : readP (repoBy shopR) = (shopR, 0) := read_written okShop (by rw [shopLen]; decide)
  have hX := shopX
  have hL := shopLen
  go_enter Try.func24, Try.ntmps24
  go_wp2_with fail
  refine (shopAt _).mono ?_; rintro e w1 ⟨_, rfl, ⟨a1, c1, g1, rfl, h1⟩, b1⟩
  have s1 := b1.size
  have T := wireWrite _ shopR _ w1 (h1.rp (by decide) (by decide))
  rw [hW] at T
  clear hW
  go_wp2_with fail
  refine T.mono ?_; rintro e w2 ⟨_, rfl, rfl, b2⟩
  clear T
  have b02 := b1.trans (b2.mono s1)
  have s2 := b02.size
  have T := wireReadFew (repoBy shopR) w2 (by rw [hL]; decide)
  rw [hR] at T
  clear hR
  have T2 := fun w => wireReadFew (repoBy shopR ++ [120]) w (by rw [List.length_append, hL]; decide)
  rw [hX] at T2
  clear hX
  have hsz := bl_size (repoBy shopR)
  rw [hL] at hsz
  clear hL
  generalize repoBy shopR = S41 at *
  have hcat : bl S41 ++ (ByteArray.mk #[120]) = bl (S41 ++ [120]) := blAdd S41 [120]
  generalize S41 ++ [120] = S42 at *
  go_wp2_with fail
  refine T.mono ?_; rintro e w3 ⟨_, rfl, ⟨v3, rfl, R3⟩, b3⟩
  clear T
  obtain ⟨vc, vh, rfl, hc3, hh3⟩ := R3
  obtain ⟨a3, c3, rfl, _, _, _⟩ := hc3.shape
  obtain ⟨a4, c4, rfl, _, _, _⟩ := hh3.shape
  have R3 : Rp w3 (fun k => w2.heap.size ≤ k) (.agg #[.slice a3 shopR.1.length c3, .slice a4 shopR.2.length c4]) shopR := ⟨_, _, rfl, hc3, hh3⟩
  generalize shopR.1.length = n1 at *
  generalize shopR.2.length = n2 at *
  have b03 := b02.trans (b3.mono s2)
  have s3 := b03.size
  obtain ⟨wX, hwX⟩ : ∃ wX, wX = w3.alloc (.cells #[.slice a3 n1 c3, .slice a4 n2 c4] 43) := ⟨_, rfl⟩
  have bX : Below w3.heap.size w3 wX := by rw [hwX]; exact (Below.refl _ _).alloc (Nat.le_refl _) _
  have zX : wX.heap.size = w3.heap.size + 1 := by rw [hwX]; simp
  have KX : Hid (∀ W, Below wX.heap.size wX W → W.cell? ⟨w3.heap.size, 0, none⟩ = some (.slice a3 n1 c3) ∧ W.cell? ⟨w3.heap.size, 1, none⟩ = some (.slice a4 n2 c4)) := keepBack fun W hW => by
    have k0 : wX.cell? ⟨w3.heap.size, 0, none⟩ = some (.slice a3 n1 c3) := by rw [hwX]; simp
    have k1 : wX.cell? ⟨w3.heap.size, 1, none⟩ = some (.slice a4 n2 c4) := by rw [hwX]; simp
    exact ⟨(hW.cell (p := ⟨w3.heap.size, 0, none⟩) (by simp; omega)).trans k0, (hW.cell (p := ⟨w3.heap.size, 1, none⟩) (by simp; omega)).trans k1⟩
  have HWX := keepBack hwX
  clear hwX
  have RX := R3.call bX
  go_wp2_with fail
  rw [← HWX.out]
  refine (T2 wX).mono ?_; rintro e w5 ⟨_, rfl, ⟨v5, rfl, R5⟩, b5⟩
  clear T2
  obtain ⟨vc5, vh5, rfl, hc5, hh5⟩ := R5
  obtain ⟨a5, c5, rfl, _, _, _⟩ := hc5.shape
  obtain ⟨a6, c6, rfl, _, _, _⟩ := hh5.shape
  clear hc5 hh5 hc3 hh3
  have R5 := RX.call b5
  have b0X := b03.trans (bX.mono s3)
  have b05 := b0X.trans (b5.mono b0X.size)
  have s5 := b05.size
  have KS : ∀ W, Below w5.heap.size w5 W → Below w5.heap.size w5 W ∧ W.cell? ⟨w3.heap.size, 0, none⟩ = some (.slice a3 n1 c3) ∧ W.cell? ⟨w3.heap.size, 1, none⟩ = some (.slice a4 n2 c4) := fun W hW => ⟨hW, KX.out W (b5.trans (hW.mono b5.size))⟩
  have hsr : (decide (shopR.1 = shopR.1) && decide (shopR.2 = shopR.2)) = true := by simp
  obtain ⟨q0, q1⟩ := (KS w5 (Below.refl _ _)).2
  go_wp2_with fail
  go_region_held3 (fun W => Below w5.heap.size w5 W ∧ W.cell? ⟨w3.heap.size, 0, none⟩ = some (.slice a3 n1 c3) ∧ W.cell? ⟨w3.heap.size, 1, none⟩ = some (.slice a4 n2 c4))
    (first
      | exact KS _ (by assumption)
      | exact KS _ (Below.refl _ _)
      | exact KS _ (Below.refl _ _).drew
      | exact KS _ (Below.drew (by assumption))
      | exact KS _ ((Below.refl _ _).alloc (Nat.le_refl _) _).drew
      | fail)
    (first
      | (go_at_call 57; refine (shopAt _).mono ?_; rintro e w6 ⟨_, rfl, ⟨a7, c7, g7, rfl, h7⟩, b6⟩; have d6 : Below w5.heap.size w5 w6 := below_on ((Below.refl w5.heap.size w5).alloc (Nat.le_refl _) _).drew b6)
      | (go_at_call 25; refine (refSameRepos _ _ shopR shopR _ _ _ (R5.call (by assumption)) (h7.rp (by decide) (by decide))).mono ?_; rintro e w8 ⟨_, rfl, rfl, b8⟩; have d8 : Below w5.heap.size w5 w8 := below_on (by assumption) b8)
      | fail)
  go_wp2
  go_ret
  exact ⟨_, rfl, by simp, b05.trans (d8.mono (by omega))⟩

end Go.Pch
