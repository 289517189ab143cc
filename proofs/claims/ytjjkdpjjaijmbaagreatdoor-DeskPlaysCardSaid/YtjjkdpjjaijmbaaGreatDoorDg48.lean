/- Scripts, line by line: plain laws. The document's desk: a line: rows. (gen_dmc.py) -/
import Derived.Test.YtjjkdpjjaijmbaaGreatDoorDg47
import Derived.Test.YtjjkdpjjaijmbaaGreatDoorDg39
import Derived.Test.YtjjkdpjjaijmbaaGreatDoorDg43
import Derived.Test.YtjjkdpjjaijmbaaGreatDoorDg13
section
namespace Go.Pch
open Go.RowKit Go.Proofs
theorem lsL_len (l : List Bytes) (n m : Nat) (hn : l.length ≤ n) (h : ∀ x ∈ l, x.length ≤ m) : (lsL l).length ≤ n * (m + 1) + 1 := by
  rw [lsL]
  split
  · simp
  · exact Nat.le_trans (join_len l m h) (Nat.le_succ_of_le (Nat.mul_le_mul_right _ hn))
theorem lsMap_len {α : Type} (f : α → Bytes) (l : List α) (n m : Nat) (hn : l.length ≤ n) (h : ∀ x ∈ l, (f x).length ≤ m) : (lsL (l.map f)).length ≤ n * (m + 1) + 1 :=
  lsL_len _ n m (by simpa using hn) (by intro x hx; obtain ⟨y, hy, rfl⟩ := List.mem_map.1 hx; exact h y hy)
theorem fine_ok {l : List Row} (h : fineB l = true) : ∀ x ∈ l, 0 ≤ x.1 ∧ x.1 ≤ 99 ∧ 0 ≤ x.2 ∧ x.2 ≤ 996 := by
  intro x hx
  obtain ⟨i, hi, rfl⟩ := List.getElem_of_mem hx
  exact fine_get h hi
theorem betw_le : ∀ (a b : List Row), fineB a = true → fineB b = true → ∀ x ∈ betw a b, x.1 ≤ 996 ∧ x.2.1 ≤ 996 ∧ x.2.2 ≤ 996
  | [], [], _, _, x, hx => by rw [betw_nil] at hx; cases hx
  | r :: a, [], ha, hb, x, hx => by
    obtain ⟨h1, h2⟩ := fineB_cons.1 ha
    rw [betw_left (.inl rfl)] at hx
    rcases List.mem_cons.1 hx with rfl | hx
    · exact ⟨by show r.1 ≤ 996; omega, by show r.2 ≤ 996; omega, by show (-1 : Int) ≤ 996; omega⟩
    · exact betw_le a [] h2 hb x hx
  | [], q :: b, ha, hb, x, hx => by
    obtain ⟨h1, h2⟩ := fineB_cons.1 hb
    rw [betw_right (.inl rfl)] at hx
    rcases List.mem_cons.1 hx with rfl | hx
    · exact ⟨by show q.1 ≤ 996; omega, by show (-1 : Int) ≤ 996; omega, by show q.2 ≤ 996; omega⟩
    · exact betw_le [] b ha h2 x hx
  | r :: a, q :: b, ha, hb, x, hx => by
    obtain ⟨h1, h2⟩ := fineB_cons.1 ha
    obtain ⟨h3, h4⟩ := fineB_cons.1 hb
    rw [betw] at hx
    split at hx
    · rcases List.mem_cons.1 hx with rfl | hx
      · exact ⟨by show r.1 ≤ 996; omega, by show r.2 ≤ 996; omega, by show (-1 : Int) ≤ 996; omega⟩
      · exact betw_le a (q :: b) h2 hb x hx
    · split at hx
      · rcases List.mem_cons.1 hx with rfl | hx
        · exact ⟨by show q.1 ≤ 996; omega, by show (-1 : Int) ≤ 996; omega, by show q.2 ≤ 996; omega⟩
        · exact betw_le (r :: a) b ha h4 x hx
      · split at hx
        · exact betw_le a b h2 h4 x hx
        · rcases List.mem_cons.1 hx with rfl | hx
          · exact ⟨by show r.1 ≤ 996; omega, by show r.2 ≤ 996; omega, by show q.2 ≤ 996; omega⟩
          · exact betw_le a b h2 h4 x hx
termination_by a b => a.length + b.length
theorem dgL_ok {n : Int} (h : n ≤ 1000000) : (dgL n).length ≤ 20 := dgL_len (by omega)
theorem logL_le {r : Repo} (hr : repoErr r = 0) (n : Nat) : ∀ m ∈ logL r.1 n, m ≤ 1000000 := by
  have hd := (dag_ok (repo_ok hr).1).1
  intro m hm
  rw [logL, List.mem_reverse, List.mem_map] at hm
  obtain ⟨k, hk, rfl⟩ := hm
  have := List.mem_range.1 (List.mem_filter.1 hk).1
  show (k : Int) ≤ 1000000
  omega
def stepS (st : Repo × Bytes) (x : Bytes) : Repo × Bytes := ((lineP st.1 (Lib.trimSuffix x [10])).1, st.2 ++ ((lineP st.1 (Lib.trimSuffix x [10])).2 ++ [10]))
def runS (l : List Bytes) : Repo × Bytes := l.foldl stepS (beginR, [])
theorem runS_next (l : List Bytes) (x : Bytes) : runS (l ++ [x]) = stepS (runS l) x := by rw [runS, List.foldl_append]; rfl
theorem runS_right (l : List Bytes) : repoErr (runS l).1 = 0 := by
  unfold runS
  have h0 : repoErr beginR = 0 := by decide +kernel
  revert h0
  generalize (beginR : Repo) = r
  intro h0
  have : ∀ (l : List Bytes) (st : Repo × Bytes), repoErr st.1 = 0 → repoErr (l.foldl stepS st).1 = 0 := by
    intro l
    induction l with
    | nil => exact fun _ h => h
    | cons x l ih => exact fun st h => ih _ (lineP_right h _)
  exact this l (r, []) h0
theorem play_fold : ∀ (l : List Bytes) (r : Repo) (o : Bytes), (l.foldl stepS (r, o)).2 = o ++ playL r (l.map fun x => Lib.trimSuffix x [10])
  | [], r, o => by simp [playL]
  | x :: l, r, o => by
    rw [List.foldl_cons]
    have := play_fold l (lineP r (Lib.trimSuffix x [10])).1 (o ++ ((lineP r (Lib.trimSuffix x [10])).2 ++ [10]))
    rw [show stepS (r, o) x = ((lineP r (Lib.trimSuffix x [10])).1, o ++ ((lineP r (Lib.trimSuffix x [10])).2 ++ [10])) from rfl, this, List.map_cons, playL]
    simp
theorem trim_lf (s : Bytes) : Lib.trimSuffix (s ++ [10]) [10] = s := by
  have h : Lib.hasSuffix (s ++ [10]) [10] = true := by
    rw [Lib.hasSuffix, List.isSuffixOf_iff_suffix]
    exact ⟨s, rfl⟩
  rw [Lib.trimSuffix, if_pos h]
  simp
theorem lns_lin : ∀ t : Bytes, (t = [] ∨ t.getLast? = some 10) → lns t = (lin t).map (· ++ [10])
  | [], _ => rfl
  | [c], h => by
    have hc : c = 10 := by simpa using h
    subst hc
    rfl
  | c :: d :: t, h => by
    have hd : (d :: t) = [] ∨ (d :: t).getLast? = some 10 := .inr (by simpa [List.getLast?_cons_cons] using h)
    have ih := lns_lin (d :: t) hd
    rw [lns, lin, ih]
    split
    · rfl
    · cases hl : lin (d :: t) with
      | nil =>
        exfalso
        rw [hl, List.map_nil] at ih
        rw [lns] at ih
        split at ih
        · cases ih
        · split at ih <;> cases ih
      | cons x xs => rfl
theorem lns_trim (t : Bytes) (h : t = [] ∨ t.getLast? = some 10) : (lns t).map (fun x => Lib.trimSuffix x [10]) = lin t := by
  rw [lns_lin t h, List.map_map]
  conv => rhs; rw [← List.map_id (lin t)]
  exact List.map_congr_left fun x _ => trim_lf x
theorem runS_play (t : Bytes) (h : t = [] ∨ t.getLast? = some 10) : (runS (lns t)).2 = playL beginR (lin t) := by
  rw [runS, play_fold, List.nil_append, lns_trim t h]
theorem lns_short : ∀ t : Bytes, ∀ x ∈ lns t, x.length ≤ t.length
  | [], x, hx => by cases hx
  | c :: t, x, hx => by
    have ih := lns_short t
    rw [lns] at hx
    split at hx
    · rcases List.mem_cons.1 hx with rfl | hx
      · simp
      · have := ih x hx; simp; omega
    · split at hx
      · have : x = [c] := by simpa using hx
        subst this; simp
      · rename_i y ys he
        rw [he] at ih
        rcases List.mem_cons.1 hx with rfl | hx
        · have := ih y (by simp); simp; omega
        · have := ih x (by simp [hx]); simp; omega
theorem lns_count : ∀ t : Bytes, (lns t).length ≤ t.count 10 + 1
  | [] => by simp [lns]
  | c :: t => by
    have ih := lns_count t
    rw [lns]
    split
    · rename_i h; subst h; simp; omega
    · rename_i h
      rw [List.count_cons_of_ne (by simpa using h)]
      split
      · simp
      · rename_i y ys he
        rw [he] at ih
        simpa using ih
theorem trim_short (x : Bytes) : (Lib.trimSuffix x [10]).length ≤ x.length := by
  rw [Lib.trimSuffix]
  split
  · rw [List.length_take]; omega
  · exact Nat.le_refl _
theorem jJoin_le {r : Repo} {s f : ByteArray} : ∀ k ∈ (jJoin r s f).2.1, k ≤ 1000000 := by
  have hm : ∀ a b c : List Row, ∀ k ∈ (mergeP a b c).2.1, k ≤ 1000000 := by
    intro a b c
    rw [mergeP]
    split
    · split
      · simp
      · exact fun k hk => by have := ((mem_clash 100 0).1 hk).2.1; omega
    · simp
  rw [jJoin]
  split
  · split
    · rw [joinN]
      repeat' split
      all_goals first | exact hm _ _ _ | simp
    · simp
  · simp
theorem lineP_len {r : Repo} (hr : repoErr r = 0) (s : Bytes) : (lineP r s).2.length ≤ 100000 := by
  have hw : ∀ l : List Bytes, (wordsO r l).2.2 = 0 → (wordsO r l).2.1.length ≤ 100000 := by
    have hok : ∀ p : Repo × Int, (okO p).2.1.length ≤ 100000 := fun p => by show (2 : Nat) ≤ 100000; omega
    have hno : ∀ e : Int, (noO e).2.1.length ≤ 100000 := fun e => by show (0 : Nat) ≤ 100000; omega
    have hrows : ∀ h, (rowsO r (hdRows r h)).2.1.length ≤ 100000 := fun h => by
      obtain ⟨-, h40, hf⟩ := hdRows_fine hr h
      rw [rowsO]
      split
      · refine Nat.le_trans (lsMap_len _ _ 40 62 h40 fun x hx => ?_) (by decide)
        have := fine_ok hf x hx
        have h1 := dgL_ok (n := x.1) (by omega)
        have h2 := dgL_ok (n := x.2) (by omega)
        simp only [List.length_append, List.length_cons]
        omega
      · exact hno _
    have hroot : ∀ h, (rootO r (hdRows r h)).2.1.length ≤ 100000 := fun h => by
      rw [rootO]
      split
      · have := topL_le (treeL (hdRows r h).1)
        have h1 := dgL_ok (n := topL (treeL (hdRows r h).1)) (by omega)
        exact Nat.le_trans h1 (by decide)
      · exact hno _
    have hlog : ∀ h, (logO r (logP r (bl h))).2.1.length ≤ 100000 := fun h => by
      rw [logO]
      split
      · rename_i h0
        have e : (logP r (bl h)).1 = logL r.1 (headP r (bl h)).1.toNat ∨ (logP r (bl h)).1 = [] := by
          rw [logP]; split <;> simp
        refine Nat.le_trans (lsMap_len _ _ 1000 20 ?_ fun x hx => ?_) (by decide)
        · rcases e with e | e
          · rw [e]; exact (logL_fine hr _).1
          · rw [e]; simp
        · rcases e with e | e
          · rw [e] at hx; exact dgL_ok (logL_le hr _ x hx)
          · rw [e] at hx; cases hx
      · exact hno _
    have hmerge : ∀ a b, (mergeO r (jJoin r (bl a) (bl b))).2.1.length ≤ 100000 := fun a b => by
      rw [mergeO]
      split
      · have hk := jJoin_keys (r := r) (s := bl a) (f := bl b)
        have hb := jJoin_le (r := r) (s := bl a) (f := bl b)
        have := lsMap_len dgL (jJoin r (bl a) (bl b)).2.1 100 20 hk.1 fun x hx => dgL_ok (hb x hx)
        simp only [List.length_append, List.length_cons, List.length_nil]
        omega
      · show (2 : Nat) ≤ 100000; omega
    have hdiff : ∀ a b, (diffO r (hdRows r a) (hdRows r b)).2.1.length ≤ 100000 := fun a b => by
      obtain ⟨-, a40, ha⟩ := hdRows_fine hr a
      obtain ⟨-, b40, hb⟩ := hdRows_fine hr b
      rw [diffO]
      split
      · split
        · have hl := betw_len (hdRows r a).1 (hdRows r b).1
          refine Nat.le_trans (lsMap_len _ _ 80 62 (by omega) fun x hx => ?_) (by decide)
          have := betw_le _ _ ha hb x hx
          have h1 := dgL_ok (n := x.1) (by omega)
          have h2 := dgL_ok (n := x.2.1) (by omega)
          have h3 := dgL_ok (n := x.2.2) (by omega)
          simp only [chgL, List.length_append, List.length_cons]
          omega
        · exact hno _
      · exact hno _
    intro l _
    match l with
    | [] => exact hno 1
    | [_] => exact hno 1
    | [c, h] =>
      rw [wordsO2]
      repeat' split
      all_goals first | exact hok _ | exact hrows _ | exact hroot _ | exact hlog _ | exact hno _
    | [c, h, k] =>
      rw [wordsO3]
      split
      · rw [cutO]; split
        · exact hok _
        · exact hno _
      · repeat' split
        all_goals first | exact hok _ | exact hmerge _ _ | exact hdiff _ _ | exact hno _
    | [c, h, k, v] =>
      rw [wordsO4]
      split
      · rw [putO]; split
        · exact hok _
        · exact hno _
      · exact hno _
    | _ :: _ :: _ :: _ :: _ :: _ => exact hno 1
  by_cases h : (wordsO r (spl s)).2.2 = 0
  · rw [lineP_ok h]; exact hw _ h
  · rw [lineP_no h]
    have hb := wordsO_b hr (spl s)
    have := dgL_ok (n := (wordsO r (spl s)).2.2) (by have := hb.2; omega)
    simp only [List.length_append, List.length_cons, List.length_nil]
    omega
theorem runS_len (l : List Bytes) : (runS l).2.length ≤ l.length * 100001 := by
  have : ∀ (l : List Bytes) (st : Repo × Bytes), repoErr st.1 = 0 → (l.foldl stepS st).2.length ≤ st.2.length + l.length * 100001 := by
    intro l
    induction l with
    | nil => exact fun st _ => by simp
    | cons x l ih =>
      intro st h
      have h1 := ih (stepS st x) (lineP_right h _)
      have h2 := lineP_len h (Lib.trimSuffix x [10])
      rw [List.foldl_cons]
      simp only [stepS, List.length_append, List.length_cons, List.length_nil] at h1 h2 ⊢
      omega
  have h0 : repoErr beginR = 0 := by decide +kernel
  have := this l (beginR, []) h0
  simpa [runS] using this
end Go.Pch
end

section
namespace Go.Pch
open Go.RowKit Go.Proofs
set_option maxRecDepth 100000
set_option linter.unusedVariables false
set_option maxHeartbeats 4000000 in
theorem playedRows (v : Value) (r : Repo) (s : Bytes) (hs : s.length ≤ 4096) (hr : repoErr r = 0) (S : Blk) (w : World) (h : Rp w S v r) {N : Nat} {c0 c1 c2 c3 : Bytes} (hP : Padded s N c0 c1 c2 c3) {k2 k3 : Int} (hk2 : numI (numP c2) = k2) (hk3 : numI (numP c3) = k3) (hlen : N = 2) (hw : c0 = wRows) :
    Calls Tryz.prog 16 #[v, .string (bl s)] w (Ret w (PlayedPost w.heap.size S (rowsO r (hdRows r c1)))) := by
  obtain ⟨p, hp⟩ : ∃ p, p = hdRows r c1 := ⟨_, rfl⟩
  rw [← hp]
  have HP := keepBack hp
  clear hp
  have hR := h
  have HK2 := keepBack hk2
  have HK3 := keepBack hk3
  clear hk2 hk3
  have hl2 := Nat.le_trans (pad_short s _ _ hP.w2) hs
  have hl3 := Nat.le_trans (pad_short s _ _ hP.w3) hs
  have HC0 := keepBack hw
  clear hw
  have HLEN := keepBack hlen
  clear hlen
  obtain ⟨vc, vh, rfl, hc, hh⟩ := h
  obtain ⟨ac, cc, hvc, _, _, _⟩ := hc.shape
  obtain ⟨ah, ch, hvh, _, _, _⟩ := hh.shape
  obtain ⟨nc, hnc⟩ : ∃ n, n = r.1.length := ⟨_, rfl⟩
  obtain ⟨nh, hnh⟩ : ∃ n, n = r.2.length := ⟨_, rfl⟩
  rw [← hnc] at hvc
  rw [← hnh] at hvh
  clear hnc hnh
  subst hvc hvh
  clear hc hh
  have hX := boxAt w (.slice ac nc cc) (.slice ah nh ch)
  obtain ⟨wB, hwB⟩ : ∃ wB, wB = (w.alloc (.cells #[.slice ac nc cc, .slice ah nh ch] 33)).alloc (.cells #[.slice none 0 0, .slice none 0 0] 33) := ⟨_, rfl⟩
  rw [← hwB] at hX
  have HWB := keepBack hwB
  clear hwB
  have HZB := keepBack hX.size
  go_enter Tryz.func16, Tryz.ntmps16
  go_wp2_with fail
  rw [← HWB.out]
  refine (refSplit s hs wB).mono ?_; rintro e w1 ⟨_, rfl, ho, b1⟩
  obtain ⟨ag, cg, hv, _, _⟩ := ho.shape
  rw [List.length_map, hP.len] at hv
  have hNs : N ≤ 4097 := by rw [← hP.len, spl_len]; have := List.count_le_length (a := (32 : UInt8)) (l := s); omega
  have hN1 : 1 ≤ N := by rw [← hP.len, spl_len]; omega
  subst hv
  have hob := ho.block
  have z1 := b1.size
  have hsrc := srcEmpty w1 (fun _ => False)
  go_wp2_with (at_builtin; refine wpList_grow rfl (.tmp 37) (.tmp 38) rfl aStr rfl (ho.alloc _) rfl rfl hsrc (by simp) (fun _ h => h.elim) (by rw [List.length_map, hP.len]; simp only [List.length_cons, List.length_nil]; omega) (by simp; omega) ?_)
  intro v2 w2 ho2 hg2
  have hb2 : Below wB.heap.size wB w2 := (b1.alloc (by have := b1.size; omega) _).grown hg2 (by have := b1.size; simp; omega) (fun g hg => (hob g hg).1)
  clear hsrc hg2 hob
  have hsl : Sl tStr w2 (fun k => wB.heap.size ≤ k) v2 ((spl s ++ [[], [], [], []]).map bl) := by rw [List.map_append]; exact ho2.sl (fun _ h => h.elim) (fun _ h => h)
  clear ho2 ho
  obtain ⟨⟨a2, g2, hv⟩, x0, o0, x1, o1, x2, o2, x3, o3, hA⟩ := padAt hP hsl
  clear hsl
  have hN : N = 2 := HLEN.out
  subst hN
  replace hv : v2 = .slice a2 6 g2 := hv
  subst hv
  clear hNs hN1
  have i0 := hA.i0
  have i1 := hA.i1
  have i2 := hA.i2
  have i3 := hA.i3
  have HA := keepBack hA
  have KS : Hid (∀ W, Below w2.heap.size w2 W → Below w2.heap.size w2 W ∧ W.cell? ⟨x2, o2, none⟩ = some (.string (bl c2)) ∧ W.cell? ⟨x3, o3, none⟩ = some (.string (bl c3))) := keepBack fun W hW => ⟨hW, (hA.call hW).e2, (hA.call hW).e3⟩
  clear hA
  go_wp2_with fail
  go_region_held3 (fun W => Below w2.heap.size w2 W ∧ W.cell? ⟨x2, o2, none⟩ = some (.string (bl c2)) ∧ W.cell? ⟨x3, o3, none⟩ = some (.string (bl c3)))
    (first
      | exact KS.out _ (by assumption)
      | exact KS.out _ (Below.refl _ _)
      | exact KS.out _ (Below.refl _ _).drew
      | exact KS.out _ (Below.drew (by assumption))
      | fail)
    (first
      | (go_at_call 32; refine (refNum _ (by first | exact hl2 | exact hl3) _).mono ?_; rintro e w3 ⟨_, rfl, rfl, b3⟩; have cB : Below w2.heap.size w2 w3 := below_onD (by first | assumption | exact (Below.refl _ _).drew | exact Below.refl _ _ | exact Below.drew (by assumption)) b3)
      | fail)
  have hl1 := Nat.le_trans (pad_short s _ _ hP.w1) hs
  clear KS hl2 hl3
  rw [HK2.out, HK3.out]
  have b23 : Below w2.heap.size w2 w3 := by assumption
  have hb3 := hb2.trans (b23.mono hb2.size)
  have hA3 := HA.out.call b23
  have e0 := hA3.e0
  have e1 := hA3.e1
  have e2 := hA3.e2
  have e3 := hA3.e3
  have HA3 := keepBack hA3
  clear hA3
  obtain ⟨y0, y1, y2, y3, yf⟩ := hX.on hb3
  clear b1 hb2
  have q0 : ¬ (bl c0).toList = [112, 117, 116] := by rw [bl_list, HC0.out]; decide
  have q1 : ¬ (bl c0).toList = [99, 117, 116] := by rw [bl_list, HC0.out]; decide
  have q2 : ¬ (bl c0).toList = [98, 114, 97, 110, 99, 104] := by rw [bl_list, HC0.out]; decide
  have q3 : ¬ (bl c0).toList = [100, 114, 111, 112] := by rw [bl_list, HC0.out]; decide
  have q4 : ¬ (bl c0).toList = [109, 101, 114, 103, 101] := by rw [bl_list, HC0.out]; decide
  have q5 : (bl c0).toList = [114, 111, 119, 115] := by rw [bl_list, HC0.out]; decide
  have hR3 : Rp w3 S (.agg #[.slice ac nc cc, .slice ah nh ch]) r := hR.call (hX.low.trans (hb3.mono (by rw [HZB.out]; omega)))
  have KR : ∀ W, Below w3.heap.size w3 W → Below w3.heap.size w3 W ∧ W.cell? ⟨w.heap.size, 0, none⟩ = some (.slice ac nc cc) ∧ W.cell? ⟨w.heap.size, 1, none⟩ = some (.slice ah nh ch) ∧ W.cell? ⟨x1, o1, none⟩ = some (.string (bl c1)) ∧ W.cell? ⟨x2, o2, none⟩ = some (.string (bl c2)) := fun W hW => by
    obtain ⟨u0, u1, _, _, _⟩ := hX.on (hb3.trans (hW.mono hb3.size))
    have hu := HA3.out.call hW
    exact ⟨hW, u0, u1, hu.e1, hu.e2⟩
  have T : ∀ W, Below w3.heap.size w3 W → Calls Tryz.prog 38 #[.agg #[.slice ac nc cc, .slice ah nh ch], .string (bl c1)] W (Ret W fun x w' => ∃ y, x = .tuple #[y, .int .i64 p.2] ∧ Sl tRow w' S y p.1) := fun W hW => by
    rw [HP.out]
    exact refRowsAt _ r c1 S W (hR3.call hW)
  have hok : rowsErr p.1 = 0 := by rw [HP.out]; exact hdRows_ok hr c1
  have h40 := (ok_rise hok).1
  have hj : (Lib.join (p.1.map fun x => dgL x.1 ++ 61 :: dgL x.2) [32]).length ≤ 1000000000 := by
    refine Nat.le_trans (join_len _ 62 fun x hx => ?_) (by rw [List.length_map]; omega)
    obtain ⟨y, hy, rfl⟩ := List.mem_map.1 hx
    have := fine_ok (fine_of_rise (by decide) (ok_rise hok).2) y hy
    have e1 := dgL_len (n := y.1) (by omega)
    have e2 := dgL_len (n := y.2) (by omega)
    simp only [List.length_append, List.length_cons]
    omega
  go_wp2_with fail
  go_region_held3 (fun W => Below w3.heap.size w3 W ∧ W.cell? ⟨w.heap.size, 0, none⟩ = some (.slice ac nc cc) ∧ W.cell? ⟨w.heap.size, 1, none⟩ = some (.slice ah nh ch) ∧ W.cell? ⟨x1, o1, none⟩ = some (.string (bl c1)) ∧ W.cell? ⟨x2, o2, none⟩ = some (.string (bl c2)))
    (first
      | exact KR _ (by assumption)
      | exact KR _ (Below.refl _ _)
      | exact KR _ (Below.refl _ _).drew
      | exact KR _ (Below.drew (by assumption))
      | fail)
    (first
      | (go_at_call 38; refine (T _ (by first | assumption | exact (Below.refl _ _).drew | exact Below.refl _ _ | exact Below.drew (by assumption))).mono ?_; rintro e w4 ⟨_, rfl, ⟨y, rfl, hy⟩, b4⟩; obtain ⟨al, cl, hal, _, _, _⟩ := hy.shape; obtain ⟨n, hn⟩ : ∃ n, n = p.1.length := ⟨_, rfl⟩; rw [← hn] at hal; have HNL := keepBack hn; clear hn; subst hal; have b34 : Below w3.heap.size w3 w4 := below_onD (by first | assumption | exact (Below.refl _ _).drew | exact Below.refl _ _ | exact Below.drew (by assumption)) b4)
      | fail)
  have b5 := hb3.trans (b34.mono hb3.size)
  obtain ⟨z0, z1, z2, z3, zf⟩ := hX.on b5
  clear T y0 y1 y2 y3 yf e0 e1 e2 e3 i0 i1 i2 i3
  have hcd : Below w4.heap.size w4 w4.drew := (Below.refl _ _).drew
  have hnb : n ≤ 100 := by rw [HNL.out]; omega
  go_wp2_with fail
  go_loopw [24, 25] (fun out i wr => ∃ (k : Nat) (q : List ByteArray), k ≤ n ∧ i = .int .i64 k ∧ Below w4.heap.size w4 wr ∧ Own tStr 9 wr w4.heap.size (fun _ => False) out q ∧ Hid (q = (p.1.take k).map fun x => bl (dgL x.1 ++ 61 :: dgL x.2))) (fun _ i _ => n - (intOf i).toNat)
  case atStart => exact ⟨0, [], Nat.zero_le _, rfl, Below.refl _ _, .nil, rfl⟩
  case round =>
    obtain ⟨k, q, hk, rfl, hb, ho, HQ⟩ := hrel
    have hz := hb.size
    by_cases hlt : k < n
    · obtain ⟨x, hx⟩ : ∃ x, p.1[k]? = some x := ⟨_, List.getElem?_eq_getElem (by have := HNL.out; omega)⟩
      obtain ⟨b, o, hix, _, hbs, ok1, ok2, hc0', hc1'⟩ := hy.idxRowAt aRow k k x rfl hx
      have KL : ∀ W, Below w4.heap.size w4 W → Below w4.heap.size w4 W ∧ W.cell? ⟨b, o, none⟩ = some (.int .i64 x.1) ∧ W.cell? ⟨b, o + 1, none⟩ = some (.int .i64 x.2) := fun W hW => ⟨hW, (hW.cell (p := ⟨b, o, none⟩) hbs).trans hc0', (hW.cell (p := ⟨b, o + 1, none⟩) hbs).trans hc1'⟩
      have la := dgL_len ok1.2
      have lb := dgL_len ok2.2
      have r1 : ¬ 9223372036854775807 < (bl (dgL x.1)).size + 1 := by rw [bl_size]; omega
      have r2 : ¬ 9223372036854775807 < (bl (dgL x.1)).size + 1 + (bl (dgL x.2)).size := by rw [bl_size, bl_size]; omega
      clear la lb hc0' hc1'
      have HN : Hid (q ++ [bl (dgL x.1 ++ 61 :: dgL x.2)] = (p.1.take (k + 1)).map fun x => bl (dgL x.1 ++ 61 :: dgL x.2)) := keepBack (by rw [HQ.out, List.take_add_one, hx]; simp)
      have hql : q.length ≤ k := by rw [HQ.out]; simp; omega
      clear hx
      have hob := ho.block
      have hsrc := fun (W : World) (u : ByteArray) (t : TypeId) => Src.one (E := tStr) (w := W) (D := fun _ => False) (cs := [.string u]) (a := u) ⟨rfl, trivial⟩ t
      have hrd : Below wr.heap.size wr wr.drew := (Below.refl _ _).drew
      have hni : (k : Int) < n := by omega
      go_wp2_with fail
      go_region_held3 (fun W => Below w4.heap.size w4 W ∧ W.cell? ⟨b, o, none⟩ = some (.int .i64 x.1) ∧ W.cell? ⟨b, o + 1, none⟩ = some (.int .i64 x.2))
        (first
          | exact KL _ hb
          | exact KL _ hb.drew
          | exact KL _ k8
          | exact KL _ (hb.trans (c6.mono hb.size))
          | exact KL _ ((hb.trans (c6.mono hb.size)).alloc (Nat.le_trans hb.size c6.size) _)
          | fail)
        (first
          | (go_at_call 17; refine (refDigits _ _ (by first | exact ok1 | exact ok2)).mono ?_; rintro e w6 ⟨_, rfl, rfl, b6⟩; have c6 : Below wr.heap.size wr w6 := below_onD (by first | assumption | exact (Below.refl _ _).drew | exact Below.refl _ _ | exact Below.drew (by assumption)) b6)
          | (refine step_grow rfl (.tmp 197) (.tmp 212) rfl aStr rfl (ho.call (c6.alloc c6.size _)) rfl rfl (hsrc _ _ _) (by simp) (fun _ h => h.elim) (by simp only [List.length_cons, List.length_nil]; omega) (by have := c6.size; simp; omega) ?_; intro v2 w8 ho8 hg8; have k8 : Below w4.heap.size w4 w8 := ((hb.trans (c6.mono hb.size)).alloc (Nat.le_trans hb.size c6.size) _).grown hg8 (by have := c6.size; simp; omega) (fun g hg => (hob g hg).1))
          | fail)
      go_wp2
      go_roundw
      case rel => exact ⟨k + 1, _, by omega, by go_num, k8, ho8, by rw [← HN.out, ← bl_append3]; exact keepBack rfl⟩
      case measure => simp [intOf]; omega
    · obtain rfl : k = n := by omega
      have hq : q = (p.1.map fun x => dgL x.1 ++ 61 :: dgL x.2).map bl := by rw [HQ.out, HNL.out, List.take_length, List.map_map]; rfl
      rw [hq] at ho
      have hs := ho.sl (D := fun _ => True) (fun _ h => h.elim) (fun _ _ => trivial)
      have b9 := b5.trans (hb.mono b5.size)
      obtain ⟨t0, t1, t2, t3, tf⟩ := hX.on b9
      have hrd : Below wr.heap.size wr wr.drew := (Below.refl _ _).drew
      clear hq HQ z0 z1 z2 z3 zf
      obtain ⟨ag', cg', hv, _, _⟩ := ho.shape
      obtain ⟨m, hm⟩ : ∃ m, m = ((p.1.map fun x => dgL x.1 ++ 61 :: dgL x.2).map bl).length := ⟨_, rfl⟩
      rw [← hm] at hv
      clear hm
      subst hv
      go_wp2_with fail
      go_region_law (first
        | (go_simp; go_at_call 39; refine (refJoined _ (p.1.map fun x => dgL x.1 ++ 61 :: dgL x.2) _ _ (by first | exact hs | exact hs.call hrd) (by rw [List.length_map]; omega) hj).mono ?_; rintro e w6 ⟨_, rfl, rfl, b6⟩; have b7 : Below wr.heap.size wr w6 := (by first | exact b6 | exact hrd.trans b6); have b8 := b9.trans (b7.mono b9.size); obtain ⟨v0, v1, v2, v3, vf⟩ := hX.on b8)
        | fail)
      all_goals
        clear t0 t1 t2 t3 tf
        go_wp2
        refine bodyPost_ret (joinResults rfl _ _ _ _ _ _ _ _ rfl rfl rfl (hX.fin b8 _ _).1) rfl ?_
        refine ⟨_, rfl, ?_, (hX.fin b8 _ _).2⟩
        by_cases hz : p.2 = 0
        · have HO : rowsO r p = (r, lsL (p.1.map fun x => dgL x.1 ++ 61 :: dgL x.2), 0) := if_pos hz
          unfold PlayedPost
          rw [HO, ← hz]
          exact ⟨_, _, _, _, _, _, _, rfl, fun _ => ⟨rfl, (hR.call (hX.fin b8 _ _).2).more fun k hk _ => .inl hk⟩⟩
        · have HO : rowsO r p = noO p.2 := if_neg hz
          exact PlayedPost.no (by rw [HO]; rfl) hz
end Go.Pch
end
