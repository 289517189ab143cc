/- The walk of Play. (gen_dkz.py) Play, whatever the text. Play at the empty text. (gen_dkz.py) Play's answer. What deskBegun looks at: a script and its answer: a plain fact. The law DeskPlays: the walk. -/
import Derived.Test.YtjjkdpjjaijmbaaGreatDoorDg50
import Derived.Test.YtjjkdpjjaijmbaaGreatDoorDg9
section
namespace Go.Pch
open Go.RowKit Go.Proofs
attribute [local go_sem] Oper.semAt_some
set_option maxRecDepth 100000
set_option linter.unusedVariables false
set_option linter.unusedSimpArgs false
theorem bytes_flat {w : World} {D : Blk} : ∀ (xs : List (List Value)) (l : Bytes), Each tByte w D xs l → xs.flatten = Lib.byteCells l := by
  intro xs l h
  have : xs = l.map fun b => [Value.int .u8 (b.toNat : Int)] := by
    apply List.ext_getElem?
    intro i
    by_cases hi : i < xs.length
    · have hl : i < l.length := by rw [← h.1]; exact hi
      have := (h.2 i xs[i] l[i] (List.getElem?_eq_getElem hi) (List.getElem?_eq_getElem hl)).1
      rw [List.getElem?_eq_getElem hi, List.getElem?_map, List.getElem?_eq_getElem hl, this]
      rfl
    · rw [List.getElem?_eq_none (by omega), List.getElem?_eq_none (by rw [List.length_map, ← h.1]; omega)]
  rw [this, flat_one]
  rfl
theorem Bld.isF {w : World} {B b : Nat} {v : Value} {l : Bytes} (h : Bld w B b v l) : Lib.IsBuilderF 40 5 B b (Lib.byteCells l) w := by
  obtain ⟨hlow, ⟨p, hp, hr⟩, ⟨xs, ho, hE⟩, hne⟩ := h
  have hx := bytes_flat xs l hE
  rw [hx] at ho
  have hA : Lib.BuilderAtF 40 5 B b p (Lib.byteCells l) w := ⟨hlow, v, hr, by rw [Lib.byteCells_length]; exact World.ownsRowF_of ho, hne⟩
  rcases hp with rfl | rfl
  · exact .inl hA
  · exact .inr hA
theorem PlayI.stay {S W w3 : World} {T : Nat} {l : List Bytes} {v : Value} (h : PlayI S T l W v) (hz : T + 5 < W.heap.size) (h3 : Step (fun k => k = T) W w3) : Bld w3 T (T + 1 + 1) v (runS l).2 := by
  show Bld w3 T (T + 2) v (runS l).2
  refine ⟨h.bld.low, ?_, Own.keep h.bld.own fun k hk hlt => h3.block k hlt (fun e => ?_), h.bld.ne⟩
  · obtain ⟨p, hp, hr⟩ := h.bld.row
    exact ⟨p, hp, (h3.block (T + 2) (by omega) (by omega)).trans hr⟩
  · rcases hk with hk | hk
    · exact hk
    · have := h.far k hk
      omega
theorem rdCommit_there {w : World} (S : Blk) (cs : List Value) (a : Commit) (hrd : tCommit.rd w S cs a) : tCommit.rd w (fun k => S k ∧ k < w.heap.size) cs a := by
  obtain ⟨x', y', rfl, hr, hi⟩ := rd_commit hrd
  obtain ⟨_, _, rfl, _, _, _⟩ := hr.shape
  obtain ⟨_, _, rfl, _, _, _⟩ := hi.shape
  exact ⟨_, _, rfl, hr.there fun S cs a hrd => hrd, hi.there fun S cs a hrd => hrd⟩
set_option maxHeartbeats 4000000 in
theorem deskPlay (t : Bytes) (w : World) (hV : Vars w) (h1 : t.length ≤ 4096) (h2 : t.count 10 ≤ 60) (h3 : Lib.hasSuffix t [10] = true) (h4 : t ≠ []) :
    Calls Tryz.prog 4 #[.string (bl t)] w (Ret w fun x _ => x = .tuple #[.string (bl (runS (lns t)).2), .int .i64 0]) := by
  have hsz := bl_size t
  have hd1 : decide ((4096 : Int) < (t.length : Int)) = false := by simp; omega
  have hd2 : decide ((60 : Int) < (t.count 10 : Int)) = false := by simp; omega
  have hem : (bl t).toList.isEmpty = false := by rw [bl_none]; cases t with | nil => exact absurd rfl h4 | cons _ _ => rfl
  refine (callsIn_wide (n := 0)).1 (callsIn_of_wp_marks Tryz.func4 rfl trivial ?_)
  simp only [Tryz.ntmps4, List.size_toArray, List.length_cons, List.length_nil, Nat.reduceAdd, Nat.reduceSub, Array.replicate_succ, Array.replicate_zero, List.push_toArray, List.append_toArray, List.nil_append, List.cons_append]
  gi_wp2_with fail
  refine ⟨trivial, rfl, callsIn_wide.2 ?_⟩
  refine (countLF t w).mono ?_; rintro e w' ⟨rfl, rfl⟩
  gi_wp2_with fail
  refine ⟨trivial, rfl, callsIn_wide.2 ?_⟩
  refine (suffLF t h1 w').mono ?_; rintro e w'' ⟨rfl, rfl⟩
  rw [h3]
  gi_wp2_with fail
  refine ⟨trivial, rfl, callsIn_wide.2 ?_⟩
  refine (repoBegin w'').mono ?_; rintro e w1 ⟨y, rfl, hy, b1⟩
  obtain ⟨vc, vh, rfl, hc, hh⟩ := hy
  obtain ⟨ac, cc, rfl, _, _, _⟩ := hc.shape
  obtain ⟨ah, ch, rfl, _, _, _⟩ := hh.shape
  gi_wp2_with fail
  refine ⟨trivial, rfl, callsIn_wide.2 ?_⟩
  refine (linesOf (bl t) _).mono ?_; rintro e w2 ⟨rfl, rfl⟩
  gi_wp2_with fail
  obtain ⟨T, hT⟩ : ∃ T, T = w1.heap.size := ⟨_, rfl⟩
  rw [← hT]
  obtain ⟨wa, hwa⟩ : ∃ wa, wa = w1.alloc (.cells #[.slice ac 1 cc, .slice ah 1 ch] 36) := ⟨_, rfl⟩
  obtain ⟨wb, hwb⟩ : ∃ wb, wb = wa.alloc (.cells #[.pointer (some ⟨T, 0, none⟩)] 29) := ⟨_, rfl⟩
  obtain ⟨wc, hwc⟩ : ∃ wc, wc = wb.alloc (.cells #[.pointer none, .slice none 0 0] 40) := ⟨_, rfl⟩
  obtain ⟨w4, hw4⟩ : ∃ w4, w4 = wc.alloc (.cells #[.string (bl t)] 9) := ⟨_, rfl⟩
  rw [← hwa, ← hwb, ← hwc, ← hw4]
  have za : wa.heap.size = T + 1 := by rw [hwa, hT]; simp
  have zb : wb.heap.size = T + 2 := by rw [hwb]; simp; omega
  have zc : wc.heap.size = T + 3 := by rw [hwc]; simp; omega
  have z4 : w4.heap.size = T + 4 := by rw [hw4]; simp; omega
  have ba : Below T w1 wa := by rw [hwa, hT]; exact (Below.refl _ _).alloc (Nat.le_refl _) _
  have ka : wa.heap[T]? = some (.cells #[.slice ac 1 cc, .slice ah 1 ch] 36) := by rw [hwa, hT]; exact heap_alloc_new w1 _
  have kb : wb.heap[T + 1]? = some (.cells #[.pointer (some ⟨T, 0, none⟩)] 29) := by rw [hwb, ← za]; exact heap_alloc_new wa _
  have kc : wc.heap[T + 2]? = some (.cells #[.pointer none, .slice none 0 0] 40) := by rw [hwc, ← zb]; exact heap_alloc_new wb _
  have k4 : w4.heap[T + 3]? = some (.cells #[.string (bl t)] 9) := by rw [hw4, ← zc]; exact heap_alloc_new wc _
  have oa : ∀ k, k < T → w4.heap[k]? = w1.heap[k]? := fun k hk => by
    rw [hw4, hwc, hwb]
    exact (Below.heap_alloc _ _ _ (by rw [← hwb, ← hwc]; omega)).trans ((Below.heap_alloc _ _ _ (by rw [← hwb]; omega)).trans ((Below.heap_alloc _ _ _ (by omega)).trans (ba.block k hk)))
  have ob : w4.heap[T]? = some (.cells #[.slice ac 1 cc, .slice ah 1 ch] 36) := by
    rw [hw4, hwc, hwb]
    exact (Below.heap_alloc _ _ _ (by rw [← hwb, ← hwc]; omega)).trans ((Below.heap_alloc _ _ _ (by rw [← hwb]; omega)).trans ((Below.heap_alloc _ _ _ (by omega)).trans ka))
  have oc : w4.heap[T + 1]? = some (.cells #[.pointer (some ⟨T, 0, none⟩)] 29) := by
    rw [hw4, hwc]
    exact (Below.heap_alloc _ _ _ (by rw [← hwc]; omega)).trans ((Below.heap_alloc _ _ _ (by omega)).trans kb)
  have od : w4.heap[T + 2]? = some (.cells #[.pointer none, .slice none 0 0] 40) := by
    rw [hw4]
    exact (Below.heap_alloc _ _ _ (by omega)).trans kc
  have hw14 : w4.os = w1.os ∧ w4.tape = w1.tape ∧ w4.output = w1.output := by rw [hw4, hwc, hwb, hwa]; exact ⟨rfl, rfl, rfl⟩
  have hS := b1.size
  have hbig := hV.big
  have b14 : Below w''.heap.size w'' w4 := ⟨hw14.1.trans b1.os, hw14.2.1.trans b1.tape, hw14.2.2.trans b1.output, by omega, fun k hk => (oa k (by omega)).trans (b1.block k hk)⟩
  have hV4 := hV.call b14
  have hfresh : ∀ k, k < w1.heap.size → k ≠ T ∧ ¬ PZ T (.slice none 0 0) k := fun k hk => ⟨by omega, fun e => by
    rcases e with e | e
    · omega
    · simp [Value.ownBlock] at e⟩
  have hI0 : PlayI w'' T [] w4 (.slice none 0 0) := by
    refine ⟨⟨_, _, ob, ?_, ?_⟩, oc, ⟨by omega, ⟨_, .inl rfl, od⟩, .nil, by simp [Value.ownBlock]⟩, fun g hg => by simp [Value.ownBlock] at hg, hV4, b14, by omega, by omega⟩
    · exact ((hc.there rdCommit_there).keep fun k hk hlt => oa k (by omega)).mono fun k hk _ => hfresh k hk.2
    · exact ((hh.there fun S cs a hrd => hrd).keep fun k hk hlt => oa k (by omega)).mono fun k hk _ => hfresh k hk.2
  have cBl : w4.cell? ⟨T + 3, 0, none⟩ = some (.string (bl t)) := by rw [World.cell?, k4]; rfl
  have fBl := frozen_of_row w4 (T + 3) 0 _ _ k4
  clear hwa hwb hwc hw4 za zb zc ba ka kb kc k4 oa ob oc od hw14 b14 hV4
  have hlc := lns_count t
  subst hT
  refine wpIn_overS (R := fun k => k = w1.heap.size ∨ k = w1.heap.size + 2) (Bl := w1.heap.size + 3) rfl (enters_of Tryz.func22 (by kernel_rfl) rfl) (linesSeq w4 w4.heap.size (w1.heap.size + 3) _ t cBl fBl (by omega) (by omega) (by omega)) (by omega) rfl
    (fun pre W => ∃ l v, pre = l.map bl ∧ l <+: lns t ∧ PlayI w'' w1.heap.size l W v) ?hI ?hI2 ⟨[], _, rfl, List.nil_prefix, hI0⟩ (fun x => { tmps := #[.string (bl t), undef, .string ⟨#[]⟩, .int .i64 0, .pointer (some ⟨w1.heap.size + 1, 0, none⟩), .pointer (some ⟨w1.heap.size + 1 + 1, 0, none⟩), .string x, .string (bl t), .int .i64 t.length, .bool false, .bool false, .string (bl t), .int .i64 (t.count 10 : Nat), .bool false, .bool false, .string (bl t),
      .bool true, .bool true, .string (bl t), .bool true, .bool false, .bool false, .agg #[.slice ac 1 cc, .slice ah 1 ch], .agg #[.slice ac 1 cc, .slice ah 1 ch], .pointer (some ⟨w1.heap.size, 0, none⟩), .string (bl t), .func (.func 22) #[] #[.pointer (some ⟨w1.heap.size + 1 + 1 + 1, 0, none⟩)], .string x, undef, undef, undef, undef, undef, undef, undef], defers := [] }) ?assign ?body ?done
  case hI =>
    rintro pre A B ⟨l, v, rfl, hl, hP⟩ hg
    exact ⟨l, v, rfl, hl, hP.keep ⟨hg.os, hg.tape, hg.output⟩ hg.size fun k hk h3 _ _ => hg.block k hk (by intro e; exact h3 (Option.some.inj e))⟩
  case hI2 =>
    rintro pre A o ⟨l, v, rfl, hl, hP⟩
    exact ⟨l, v, rfl, hl, hP.keep ⟨rfl, rfl, rfl⟩ (by simp) fun k hk _ _ h5 => World.putObj_heap_other (by omega)⟩
  case assign =>
    intro l v W K hK
    gi_wp2
    exact hK
  case body =>
    rintro ll pre x A W2 hll ⟨l, v, rfl, hl, hP⟩ hlA hsz2 hww hkk hpre
    obtain ⟨y, rfl, hly⟩ := pre_line hl hpre
    have hP2 := hP.keep hww hsz2 fun k hk h3 h4 h5 => hkk k hk h3 (by omega)
    have hz2 : w1.heap.size + 5 < W2.heap.size := by omega
    have hD2 := hP2.tab hz2
    have cT : W2.drew.cell? ⟨w1.heap.size + 1, 0, none⟩ = some (.pointer (some ⟨w1.heap.size, 0, none⟩)) := hP2.held.cell
    have hym : y ∈ lns t := hly.subset (by simp)
    have hyl := lns_short t y hym
    have htl := trim_short y
    gi_wp2_with fail
    refine wpIn_region_any (by kernel_rfl) ?_
    change wpAnyIn _ _ _ _ _ _ _ _ _ (World.drew _)
    have b9 := (Below.refl W2.heap.size W2).drew
    refine wpAnyIn_two (i := 0) (k := 1) (by kernel_rfl) rfl rfl (fun K hK => ?_) (fun K hK => ?_)
    · go_simp
      refine hK _ _ ?_
      clear hK K
      try simp only [Go.Act.put, List.setIfInBounds_toArray, List.set_cons_zero, List.set_cons_succ]
      refine wpAnyIn_one (i := 1) (by kernel_rfl) rfl (fun K hK => ?_)
      go_simp
      refine hK _ _ ?_
      clear hK K
      try simp only [Go.Act.put, List.setIfInBounds_toArray, List.set_cons_zero, List.set_cons_succ]
      refine wpAnyIn_one (i := 2) (by kernel_rfl) rfl (fun K hK => ?_)
      go_simp
      refine ⟨trivial, rfl, CallsIn.inRound _ (callsIn_wide.2 ?_)⟩
      refine (trimLF y (by omega) W2.drew).mono ?_; rintro e wt ⟨rfl, rfl⟩
      refine hK _ _ ?_
      clear hK K
      try simp only [Go.Act.put, List.setIfInBounds_toArray, List.set_cons_zero, List.set_cons_succ]
      refine wpAnyIn_one (i := 3) (by kernel_rfl) rfl (fun K hK => ?_)
      go_simp
      refine ⟨trivial, rfl, CallsIn.inRound _ (callsIn_wide.2 ?_)⟩
      refine (@deskLine ⟨PZ w1.heap.size v⟩ w1.heap.size (runS l).1 (Lib.trimSuffix y [10]) W2.drew (runS_right l) (hP2.vars.call b9) (@DeskTab.call ⟨PZ w1.heap.size v⟩ _ _ _ _ hD2 b9) (by omega) hP2.big).mono ?_; rintro e w3 ⟨hst, rfl, hd3⟩
      have hst3 : Step (fun k => k = w1.heap.size) W2 w3 := (Step.of_below b9).on hst
      have hzl := lineP_len (runS_right l) (Lib.trimSuffix y [10])
      obtain ⟨z, hz⟩ : ∃ z, z = (lineP (runS l).1 (Lib.trimSuffix y [10])).2 := ⟨_, rfl⟩
      rw [← hz] at hzl ⊢
      have HZ := keepBack hz
      clear hz
      refine hK _ _ ?_
      clear hK K
      try simp only [Go.Act.put, List.setIfInBounds_toArray, List.set_cons_zero, List.set_cons_succ]
      have hzs := bl_size z
      have hq1 : ¬ 9223372036854775807 < z.length + 1 := by omega
      have hq2 : ¬ (9223372036854775807 : Int) < ((bl z).size : Int) + 1 := by omega
      have hq3 : (bl z).size + 1 ≤ 9223372036854775807 := by omega
      refine wpAnyIn_one (i := 4) (by kernel_rfl) rfl (fun K hK => ?_)
      go_simp
      refine hK _ _ ?_
      clear hK K
      try simp only [Go.Act.put, List.setIfInBounds_toArray, List.set_cons_zero, List.set_cons_succ]
      have hb3 : Bld w3 w1.heap.size (w1.heap.size + 1 + 1) v (runS l).2 := hP2.stay hz2 hst3
      have hl1 := runS_len l
      have hl2 := hl.length_le
      refine wpAnyIn_one (i := 5) (by kernel_rfl) rfl (fun K hK => ?_)
      go_simp
      refine ⟨trivial, rfl, CallsIn.inRound _ (callsIn_wide.2 ?_)⟩
      have hz10 : (bl z ++ ByteArray.mk #[10]).size ≤ 100001 := by rw [ByteArray.size_append]; have : (ByteArray.mk #[10]).size = 1 := rfl; omega
      have hdw := deskWrite w1.heap.size (w1.heap.size + 1 + 1) v (runS l).2 (bl z ++ ByteArray.mk #[10]) w3 hb3 (by omega)
      refine hdw.mono ?_; rintro e w5 ⟨⟨xr, rfl⟩, v', hb5, hv5, hst5⟩
      refine hK _ _ ?_
      clear hK K
      try simp only [Go.Act.put, List.setIfInBounds_toArray, List.set_cons_zero, List.set_cons_succ]
      refine wpAnyIn_done (by kernel_rfl) ?_ _
      have hzd : (bl z ++ ByteArray.mk #[10]).data.toList = z ++ [10] := by simp [bl]
      rw [hzd, HZ.out] at hb5
      obtain ⟨hN, hK1, hK2, hK3⟩ := hP2.next (y := y) hz2 hst3 hd3 hst5 hb5 hv5
      gi_wp2
      exact ⟨⟨l ++ [y], by simp, hly, v', hN⟩, hK1, hK2, hK3⟩
    · go_simp
      refine hK _ _ ?_
      clear hK K
      try simp only [Go.Act.put, List.setIfInBounds_toArray, List.set_cons_zero, List.set_cons_succ]
      refine wpAnyIn_two (i := 0) (k := 2) (by kernel_rfl) rfl rfl (fun K hK => ?_) (fun K hK => ?_)
      · go_simp
        refine hK _ _ ?_
        clear hK K
        try simp only [Go.Act.put, List.setIfInBounds_toArray, List.set_cons_zero, List.set_cons_succ]
        refine wpAnyIn_one (i := 2) (by kernel_rfl) rfl (fun K hK => ?_)
        go_simp
        refine ⟨trivial, rfl, CallsIn.inRound _ (callsIn_wide.2 ?_)⟩
        refine (trimLF y (by omega) W2.drew).mono ?_; rintro e wt ⟨rfl, rfl⟩
        refine hK _ _ ?_
        clear hK K
        try simp only [Go.Act.put, List.setIfInBounds_toArray, List.set_cons_zero, List.set_cons_succ]
        refine wpAnyIn_one (i := 3) (by kernel_rfl) rfl (fun K hK => ?_)
        go_simp
        refine ⟨trivial, rfl, CallsIn.inRound _ (callsIn_wide.2 ?_)⟩
        refine (@deskLine ⟨PZ w1.heap.size v⟩ w1.heap.size (runS l).1 (Lib.trimSuffix y [10]) W2.drew (runS_right l) (hP2.vars.call b9) (@DeskTab.call ⟨PZ w1.heap.size v⟩ _ _ _ _ hD2 b9) (by omega) hP2.big).mono ?_; rintro e w3 ⟨hst, rfl, hd3⟩
        have hst3 : Step (fun k => k = w1.heap.size) W2 w3 := (Step.of_below b9).on hst
        have hzl := lineP_len (runS_right l) (Lib.trimSuffix y [10])
        obtain ⟨z, hz⟩ : ∃ z, z = (lineP (runS l).1 (Lib.trimSuffix y [10])).2 := ⟨_, rfl⟩
        rw [← hz] at hzl ⊢
        have HZ := keepBack hz
        clear hz
        refine hK _ _ ?_
        clear hK K
        try simp only [Go.Act.put, List.setIfInBounds_toArray, List.set_cons_zero, List.set_cons_succ]
        have hzs := bl_size z
        have hq1 : ¬ 9223372036854775807 < z.length + 1 := by omega
        have hq2 : ¬ (9223372036854775807 : Int) < ((bl z).size : Int) + 1 := by omega
        have hq3 : (bl z).size + 1 ≤ 9223372036854775807 := by omega
        refine wpAnyIn_one (i := 4) (by kernel_rfl) rfl (fun K hK => ?_)
        go_simp
        refine hK _ _ ?_
        clear hK K
        try simp only [Go.Act.put, List.setIfInBounds_toArray, List.set_cons_zero, List.set_cons_succ]
        have hb3 : Bld w3 w1.heap.size (w1.heap.size + 1 + 1) v (runS l).2 := hP2.stay hz2 hst3
        have hl1 := runS_len l
        have hl2 := hl.length_le
        refine wpAnyIn_one (i := 5) (by kernel_rfl) rfl (fun K hK => ?_)
        go_simp
        refine ⟨trivial, rfl, CallsIn.inRound _ (callsIn_wide.2 ?_)⟩
        have hz10 : (bl z ++ ByteArray.mk #[10]).size ≤ 100001 := by rw [ByteArray.size_append]; have : (ByteArray.mk #[10]).size = 1 := rfl; omega
        have hdw := deskWrite w1.heap.size (w1.heap.size + 1 + 1) v (runS l).2 (bl z ++ ByteArray.mk #[10]) w3 hb3 (by omega)
        refine hdw.mono ?_; rintro e w5 ⟨⟨xr, rfl⟩, v', hb5, hv5, hst5⟩
        refine hK _ _ ?_
        clear hK K
        try simp only [Go.Act.put, List.setIfInBounds_toArray, List.set_cons_zero, List.set_cons_succ]
        refine wpAnyIn_done (by kernel_rfl) ?_ _
        have hzd : (bl z ++ ByteArray.mk #[10]).data.toList = z ++ [10] := by simp [bl]
        rw [hzd, HZ.out] at hb5
        obtain ⟨hN, hK1, hK2, hK3⟩ := hP2.next (y := y) hz2 hst3 hd3 hst5 hb5 hv5
        gi_wp2
        exact ⟨⟨l ++ [y], by simp, hly, v', hN⟩, hK1, hK2, hK3⟩
      · go_simp
        refine ⟨trivial, rfl, CallsIn.inRound _ (callsIn_wide.2 ?_)⟩
        refine (trimLF y (by omega) W2.drew).mono ?_; rintro e wt ⟨rfl, rfl⟩
        refine hK _ _ ?_
        clear hK K
        try simp only [Go.Act.put, List.setIfInBounds_toArray, List.set_cons_zero, List.set_cons_succ]
        refine wpAnyIn_one (i := 0) (by kernel_rfl) rfl (fun K hK => ?_)
        go_simp
        refine hK _ _ ?_
        clear hK K
        try simp only [Go.Act.put, List.setIfInBounds_toArray, List.set_cons_zero, List.set_cons_succ]
        refine wpAnyIn_one (i := 3) (by kernel_rfl) rfl (fun K hK => ?_)
        go_simp
        refine ⟨trivial, rfl, CallsIn.inRound _ (callsIn_wide.2 ?_)⟩
        refine (@deskLine ⟨PZ w1.heap.size v⟩ w1.heap.size (runS l).1 (Lib.trimSuffix y [10]) W2.drew (runS_right l) (hP2.vars.call b9) (@DeskTab.call ⟨PZ w1.heap.size v⟩ _ _ _ _ hD2 b9) (by omega) hP2.big).mono ?_; rintro e w3 ⟨hst, rfl, hd3⟩
        have hst3 : Step (fun k => k = w1.heap.size) W2 w3 := (Step.of_below b9).on hst
        have hzl := lineP_len (runS_right l) (Lib.trimSuffix y [10])
        obtain ⟨z, hz⟩ : ∃ z, z = (lineP (runS l).1 (Lib.trimSuffix y [10])).2 := ⟨_, rfl⟩
        rw [← hz] at hzl ⊢
        have HZ := keepBack hz
        clear hz
        refine hK _ _ ?_
        clear hK K
        try simp only [Go.Act.put, List.setIfInBounds_toArray, List.set_cons_zero, List.set_cons_succ]
        have hzs := bl_size z
        have hq1 : ¬ 9223372036854775807 < z.length + 1 := by omega
        have hq2 : ¬ (9223372036854775807 : Int) < ((bl z).size : Int) + 1 := by omega
        have hq3 : (bl z).size + 1 ≤ 9223372036854775807 := by omega
        refine wpAnyIn_one (i := 4) (by kernel_rfl) rfl (fun K hK => ?_)
        go_simp
        refine hK _ _ ?_
        clear hK K
        try simp only [Go.Act.put, List.setIfInBounds_toArray, List.set_cons_zero, List.set_cons_succ]
        have hb3 : Bld w3 w1.heap.size (w1.heap.size + 1 + 1) v (runS l).2 := hP2.stay hz2 hst3
        have hl1 := runS_len l
        have hl2 := hl.length_le
        refine wpAnyIn_one (i := 5) (by kernel_rfl) rfl (fun K hK => ?_)
        go_simp
        refine ⟨trivial, rfl, CallsIn.inRound _ (callsIn_wide.2 ?_)⟩
        have hz10 : (bl z ++ ByteArray.mk #[10]).size ≤ 100001 := by rw [ByteArray.size_append]; have : (ByteArray.mk #[10]).size = 1 := rfl; omega
        have hdw := deskWrite w1.heap.size (w1.heap.size + 1 + 1) v (runS l).2 (bl z ++ ByteArray.mk #[10]) w3 hb3 (by omega)
        refine hdw.mono ?_; rintro e w5 ⟨⟨xr, rfl⟩, v', hb5, hv5, hst5⟩
        refine hK _ _ ?_
        clear hK K
        try simp only [Go.Act.put, List.setIfInBounds_toArray, List.set_cons_zero, List.set_cons_succ]
        refine wpAnyIn_done (by kernel_rfl) ?_ _
        have hzd : (bl z ++ ByteArray.mk #[10]).data.toList = z ++ [10] := by simp [bl]
        rw [hzd, HZ.out] at hb5
        obtain ⟨hN, hK1, hK2, hK3⟩ := hP2.next (y := y) hz2 hst3 hd3 hst5 hb5 hv5
        gi_wp2
        exact ⟨⟨l ++ [y], by simp, hly, v', hN⟩, hK1, hK2, hK3⟩
  case done =>
    rintro W ⟨l, v, hel, hl, hP⟩ hD
    have hL : l = lns t := hl.eq_of_length (by have := congrArg List.length hel; simpa using this.symm)
    subst hL
    have hB := hP.bld.isF
    have hzT := hP.desk.lt
    gi_wp2_with fail
    refine ⟨trivial, rfl, callsIn_wide.2 ?_⟩
    have hcall := Any.Builder_String_any_k Tryz.lays169 Tryz.Builder_Extra_169 w1.heap.size (w1.heap.size + 1 + 1) (runS (lns t)).2 W hB (by omega)
    refine Calls.mono hcall ?_; rintro e w5 ⟨rfl, _, hb5, hk5⟩
    rw [z4] at hD
    have hD5 := hk5 _ _ hD (by intro e; have := Option.some.inj e; omega) (by intro c fz e; cases e)
    gi_wp2
    refine ⟨by simp, .inl ⟨_, _, rfl, run_takeDeferred hD5, ?_⟩⟩
    refine ⟨_, results_tmp2 rfl _ _ _, _, rfl, rfl, ?_⟩
    have hlow := hP.low
    exact (hP.old.trans (hb5.mono hlow)).trans ⟨rfl, rfl, rfl, by simp, fun k hk => World.putObj_heap_other (by have := hP.old.size; have := hb5.size; omega)⟩
end Go.Pch
end

section
namespace Go.Pch
open Go.RowKit Go.Proofs
attribute [local go_sem] Oper.semAt_some
set_option maxRecDepth 100000
theorem hasSuffix_last (t : Bytes) : Lib.hasSuffix t [10] = decide (t.getLast? = some 10) := by
  rw [Bool.eq_iff_iff, Lib.hasSuffix, List.isSuffixOf_iff_suffix, decide_eq_true_eq]
  constructor
  · rintro ⟨s, rfl⟩; simp
  · intro h
    obtain ⟨s, hs⟩ := List.getLast?_eq_some_iff.1 h
    exact ⟨s, hs.symm⟩
set_option maxHeartbeats 1000000 in
theorem deskPlayBig (t : Bytes) (w : World) (hb : 4096 < t.length) (hm : t.length ≤ maxLen) :
    Calls Tryz.prog 4 #[.string (bl t)] w (Ret w fun x _ => x = .tuple #[.string ⟨#[]⟩, .int .i64 2]) := by
  have hsz := bl_size t
  unfold maxLen at hm
  have hd1 : decide ((4096 : Int) < (t.length : Int)) = true := by simp; omega
  go_enter Tryz.func4, Tryz.ntmps4
  go_wp2
  go_ret2
  exact ⟨_, rfl, rfl, Below.refl _ _⟩
set_option maxHeartbeats 1000000 in
theorem deskPlayMany (t : Bytes) (w : World) (hb : t.length ≤ 4096) (hc : 60 < t.count 10) :
    Calls Tryz.prog 4 #[.string (bl t)] w (Ret w fun x _ => x = .tuple #[.string ⟨#[]⟩, .int .i64 2]) := by
  have hsz := bl_size t
  have hd1 : decide ((4096 : Int) < (t.length : Int)) = false := by simp; omega
  have hd2 : decide ((60 : Int) < (t.count 10 : Int)) = true := by simp; omega
  go_enter Tryz.func4, Tryz.ntmps4
  go_wp2_with fail
  refine (countLF t w).mono ?_; rintro e w' ⟨rfl, rfl⟩
  go_wp2
  go_ret2
  exact ⟨_, rfl, rfl, Below.refl _ _⟩
set_option maxHeartbeats 1000000 in
theorem deskPlayForm (t : Bytes) (w : World) (h1 : t.length ≤ 4096) (h2 : t.count 10 ≤ 60) (h3 : Lib.hasSuffix t [10] = false) (h4 : t ≠ []) :
    Calls Tryz.prog 4 #[.string (bl t)] w (Ret w fun x _ => x = .tuple #[.string ⟨#[]⟩, .int .i64 1]) := by
  have hsz := bl_size t
  have hd1 : decide ((4096 : Int) < (t.length : Int)) = false := by simp; omega
  have hd2 : decide ((60 : Int) < (t.count 10 : Int)) = false := by simp; omega
  have hem : (bl t).toList.isEmpty = false := by rw [bl_none]; cases t with | nil => exact absurd rfl h4 | cons _ _ => rfl
  go_enter Tryz.func4, Tryz.ntmps4
  go_wp2_with fail
  refine (countLF t w).mono ?_; rintro e w' ⟨rfl, rfl⟩
  go_wp2_with fail
  refine (suffLF t h1 w').mono ?_; rintro e w'' ⟨rfl, rfl⟩
  rw [h3]
  go_wp2
  go_ret2
  exact ⟨_, rfl, rfl, Below.refl _ _⟩
end Go.Pch
end

section
namespace Go.Pch
open Go.RowKit Go.Proofs
attribute [local go_sem] Oper.semAt_some
set_option maxRecDepth 100000
set_option linter.unusedVariables false
set_option linter.unusedSimpArgs false
set_option maxHeartbeats 4000000 in
theorem deskPlayNone (t : Bytes) (w : World) (hV : Vars w) (h1 : t.length ≤ 4096) (h2 : t.count 10 ≤ 60) (h4 : t = []) :
    Calls Tryz.prog 4 #[.string (bl t)] w (Ret w fun x _ => x = .tuple #[.string (bl (runS (lns t)).2), .int .i64 0]) := by
  have hsz := bl_size t
  have hd1 : decide ((4096 : Int) < (t.length : Int)) = false := by simp; omega
  have hd2 : decide ((60 : Int) < (t.count 10 : Int)) = false := by simp; omega
  have hem : (bl t).toList.isEmpty = true := by rw [bl_none, h4]; rfl
  have HT4 : Hid (t = []) := keepBack h4
  clear h4
  refine (callsIn_wide (n := 0)).1 (callsIn_of_wp_marks Tryz.func4 rfl trivial ?_)
  simp only [Tryz.ntmps4, List.size_toArray, List.length_cons, List.length_nil, Nat.reduceAdd, Nat.reduceSub, Array.replicate_succ, Array.replicate_zero, List.push_toArray, List.append_toArray, List.nil_append, List.cons_append]
  gi_wp2_with fail
  refine ⟨trivial, rfl, callsIn_wide.2 ?_⟩
  refine (countLF t w).mono ?_; rintro e w' ⟨rfl, rfl⟩
  gi_wp2_with fail
  refine ⟨trivial, ?_⟩
  gi_wp2_with fail
  refine ⟨trivial, rfl, callsIn_wide.2 ?_⟩
  refine (repoBegin w').mono ?_; rintro e w1 ⟨y, rfl, hy, b1⟩
  obtain ⟨vc, vh, rfl, hc, hh⟩ := hy
  obtain ⟨ac, cc, rfl, _, _, _⟩ := hc.shape
  obtain ⟨ah, ch, rfl, _, _, _⟩ := hh.shape
  gi_wp2_with fail
  refine ⟨trivial, rfl, callsIn_wide.2 ?_⟩
  refine (linesOf (bl t) _).mono ?_; rintro e w2 ⟨rfl, rfl⟩
  gi_wp2_with fail
  obtain ⟨T, hT⟩ : ∃ T, T = w1.heap.size := ⟨_, rfl⟩
  rw [← hT]
  obtain ⟨wa, hwa⟩ : ∃ wa, wa = w1.alloc (.cells #[.slice ac 1 cc, .slice ah 1 ch] 36) := ⟨_, rfl⟩
  obtain ⟨wb, hwb⟩ : ∃ wb, wb = wa.alloc (.cells #[.pointer (some ⟨T, 0, none⟩)] 29) := ⟨_, rfl⟩
  obtain ⟨wc, hwc⟩ : ∃ wc, wc = wb.alloc (.cells #[.pointer none, .slice none 0 0] 40) := ⟨_, rfl⟩
  obtain ⟨w4, hw4⟩ : ∃ w4, w4 = wc.alloc (.cells #[.string (bl t)] 9) := ⟨_, rfl⟩
  rw [← hwa, ← hwb, ← hwc, ← hw4]
  have za : wa.heap.size = T + 1 := by rw [hwa, hT]; simp
  have zb : wb.heap.size = T + 2 := by rw [hwb]; simp; omega
  have zc : wc.heap.size = T + 3 := by rw [hwc]; simp; omega
  have z4 : w4.heap.size = T + 4 := by rw [hw4]; simp; omega
  have ba : Below T w1 wa := by rw [hwa, hT]; exact (Below.refl _ _).alloc (Nat.le_refl _) _
  have ka : wa.heap[T]? = some (.cells #[.slice ac 1 cc, .slice ah 1 ch] 36) := by rw [hwa, hT]; exact heap_alloc_new w1 _
  have kb : wb.heap[T + 1]? = some (.cells #[.pointer (some ⟨T, 0, none⟩)] 29) := by rw [hwb, ← za]; exact heap_alloc_new wa _
  have kc : wc.heap[T + 2]? = some (.cells #[.pointer none, .slice none 0 0] 40) := by rw [hwc, ← zb]; exact heap_alloc_new wb _
  have k4 : w4.heap[T + 3]? = some (.cells #[.string (bl t)] 9) := by rw [hw4, ← zc]; exact heap_alloc_new wc _
  have oa : ∀ k, k < T → w4.heap[k]? = w1.heap[k]? := fun k hk => by
    rw [hw4, hwc, hwb]
    exact (Below.heap_alloc _ _ _ (by rw [← hwb, ← hwc]; omega)).trans ((Below.heap_alloc _ _ _ (by rw [← hwb]; omega)).trans ((Below.heap_alloc _ _ _ (by omega)).trans (ba.block k hk)))
  have ob : w4.heap[T]? = some (.cells #[.slice ac 1 cc, .slice ah 1 ch] 36) := by
    rw [hw4, hwc, hwb]
    exact (Below.heap_alloc _ _ _ (by rw [← hwb, ← hwc]; omega)).trans ((Below.heap_alloc _ _ _ (by rw [← hwb]; omega)).trans ((Below.heap_alloc _ _ _ (by omega)).trans ka))
  have oc : w4.heap[T + 1]? = some (.cells #[.pointer (some ⟨T, 0, none⟩)] 29) := by
    rw [hw4, hwc]
    exact (Below.heap_alloc _ _ _ (by rw [← hwc]; omega)).trans ((Below.heap_alloc _ _ _ (by omega)).trans kb)
  have od : w4.heap[T + 2]? = some (.cells #[.pointer none, .slice none 0 0] 40) := by
    rw [hw4]
    exact (Below.heap_alloc _ _ _ (by omega)).trans kc
  have hw14 : w4.os = w1.os ∧ w4.tape = w1.tape ∧ w4.output = w1.output := by rw [hw4, hwc, hwb, hwa]; exact ⟨rfl, rfl, rfl⟩
  have hS := b1.size
  have hbig := hV.big
  have b14 : Below w'.heap.size w' w4 := ⟨hw14.1.trans b1.os, hw14.2.1.trans b1.tape, hw14.2.2.trans b1.output, by omega, fun k hk => (oa k (by omega)).trans (b1.block k hk)⟩
  have hV4 := hV.call b14
  have hfresh : ∀ k, k < w1.heap.size → k ≠ T ∧ ¬ PZ T (.slice none 0 0) k := fun k hk => ⟨by omega, fun e => by
    rcases e with e | e
    · omega
    · simp [Value.ownBlock] at e⟩
  have hI0 : PlayI w' T [] w4 (.slice none 0 0) := by
    refine ⟨⟨_, _, ob, ?_, ?_⟩, oc, ⟨by omega, ⟨_, .inl rfl, od⟩, .nil, by simp [Value.ownBlock]⟩, fun g hg => by simp [Value.ownBlock] at hg, hV4, b14, by omega, by omega⟩
    · exact ((hc.there rdCommit_there).keep fun k hk hlt => oa k (by omega)).mono fun k hk _ => hfresh k hk.2
    · exact ((hh.there fun S cs a hrd => hrd).keep fun k hk hlt => oa k (by omega)).mono fun k hk _ => hfresh k hk.2
  have cBl : w4.cell? ⟨T + 3, 0, none⟩ = some (.string (bl t)) := by rw [World.cell?, k4]; rfl
  have fBl := frozen_of_row w4 (T + 3) 0 _ _ k4
  clear hwa hwb hwc hw4 za zb zc ba ka kb kc k4 oa ob oc od hw14 b14 hV4
  have hlc := lns_count t
  subst hT
  refine wpIn_overS (R := fun k => k = w1.heap.size ∨ k = w1.heap.size + 2) (Bl := w1.heap.size + 3) rfl (enters_of Tryz.func22 (by kernel_rfl) rfl) (linesSeq w4 w4.heap.size (w1.heap.size + 3) _ t cBl fBl (by omega) (by omega) (by omega)) (by omega) rfl
    (fun pre W => ∃ l v, pre = l.map bl ∧ l <+: lns t ∧ PlayI w' w1.heap.size l W v) ?hI ?hI2 ⟨[], _, rfl, List.nil_prefix, hI0⟩ (fun x => { tmps := #[.string (bl t), undef, .string ⟨#[]⟩, .int .i64 0, .pointer (some ⟨w1.heap.size + 1, 0, none⟩), .pointer (some ⟨w1.heap.size + 1 + 1, 0, none⟩), .string x, .string (bl t), .int .i64 t.length, .bool false, .bool false, .string (bl t), .int .i64 (t.count 10 : Nat), .bool false, .bool false, .string (bl t),
      .bool false, .bool false, undef, undef, undef, .bool false, .agg #[.slice ac 1 cc, .slice ah 1 ch], .agg #[.slice ac 1 cc, .slice ah 1 ch], .pointer (some ⟨w1.heap.size, 0, none⟩), .string (bl t), .func (.func 22) #[] #[.pointer (some ⟨w1.heap.size + 1 + 1 + 1, 0, none⟩)], .string x, undef, undef, undef, undef, undef, undef, undef], defers := [] }) ?assign ?body ?done
  case hI =>
    rintro pre A B ⟨l, v, rfl, hl, hP⟩ hg
    exact ⟨l, v, rfl, hl, hP.keep ⟨hg.os, hg.tape, hg.output⟩ hg.size fun k hk h3 _ _ => hg.block k hk (by intro e; exact h3 (Option.some.inj e))⟩
  case hI2 =>
    rintro pre A o ⟨l, v, rfl, hl, hP⟩
    exact ⟨l, v, rfl, hl, hP.keep ⟨rfl, rfl, rfl⟩ (by simp) fun k hk _ _ h5 => World.putObj_heap_other (by omega)⟩
  case assign =>
    intro l v W K hK
    gi_wp2
    exact hK
  case body =>
    rintro ll pre x A W2 hll ⟨l, v, rfl, hl, hP⟩ hlA hsz2 hww hkk hpre
    exfalso
    rw [HT4.out] at hpre
    obtain ⟨m, hm⟩ := hpre
    simp [lns] at hm
  case done =>
    rintro W ⟨l, v, hel, hl, hP⟩ hD
    have hL : l = lns t := hl.eq_of_length (by have := congrArg List.length hel; simpa using this.symm)
    subst hL
    have hB := hP.bld.isF
    have hzT := hP.desk.lt
    gi_wp2_with fail
    refine ⟨trivial, rfl, callsIn_wide.2 ?_⟩
    have hcall := Any.Builder_String_any_k Tryz.lays169 Tryz.Builder_Extra_169 w1.heap.size (w1.heap.size + 1 + 1) (runS (lns t)).2 W hB (by omega)
    refine Calls.mono hcall ?_; rintro e w5 ⟨rfl, _, hb5, hk5⟩
    rw [z4] at hD
    have hD5 := hk5 _ _ hD (by intro e; have := Option.some.inj e; omega) (by intro c fz e; cases e)
    gi_wp2
    refine ⟨by simp, .inl ⟨_, _, rfl, run_takeDeferred hD5, ?_⟩⟩
    refine ⟨_, results_tmp2 rfl _ _ _, _, rfl, rfl, ?_⟩
    have hlow := hP.low
    exact (hP.old.trans (hb5.mono hlow)).trans ⟨rfl, rfl, rfl, by simp, fun k hk => World.putObj_heap_other (by have := hP.old.size; have := hb5.size; omega)⟩
end Go.Pch
end

section
namespace Go.Pch
open Go.RowKit Go.Proofs
theorem deskPlayAll (t : Bytes) (w : World) (hV : Vars w) (hm : t.length ≤ maxLen) :
    Calls Tryz.prog 4 #[.string (bl t)] w (Ret w fun x _ => x = .tuple #[.string (bl (playP t).1), .int .i64 (playP t).2]) := by
  by_cases h1 : 4096 < t.length
  · rw [playP, if_pos (.inl h1)]
    exact deskPlayBig t w h1 hm
  by_cases h2 : 60 < t.count 10
  · rw [playP, if_pos (.inr h2)]
    exact deskPlayMany t w (by omega) h2
  have hn : ¬ (4096 < t.length ∨ 60 < t.count 10) := by omega
  by_cases h4 : t = []
  · rw [playP, if_neg hn, if_neg (fun h => h.1 h4), ← runS_play t (.inl h4)]
    exact deskPlayNone t w hV (by omega) (by omega) h4
  · by_cases h3 : t.getLast? = some 10
    · rw [playP, if_neg hn, if_neg (fun h => h.2 h3), ← runS_play t (.inr h3)]
      exact deskPlay t w hV (by omega) (by omega) (by rw [hasSuffix_last]; simpa using h3) h4
    · rw [playP, if_neg hn, if_pos ⟨h4, h3⟩]
      exact deskPlayForm t w (by omega) (by omega) (by rw [hasSuffix_last]; simpa using h3) h4
end Go.Pch
end

section
namespace Go.Pch
open Go.RowKit Go.Proofs
set_option maxRecDepth 100000
def begunT : Bytes := [112, 117, 116, 32, 109, 97, 105, 110, 32, 51, 32, 55, 10, 112, 117, 116, 32, 109, 97, 105, 110, 32, 51, 32, 55, 10, 98, 114, 97, 110, 99, 104, 32, 98, 32, 109, 97, 105, 110, 10, 112, 117, 116, 32, 109, 97, 105, 110, 32, 53, 32, 49, 10, 112, 117, 116, 32, 98, 32, 51, 32, 56, 10, 112, 117, 116, 32, 98, 32, 57, 32, 50, 10, 100, 105, 102, 102, 32, 109, 97, 105, 110, 32, 98, 10, 109, 101, 114, 103, 101, 32, 109, 97, 105, 110, 32, 98, 10, 109, 101, 114, 103, 101, 32, 98, 32, 109, 97, 105, 110, 10, 114, 111, 119, 115, 32, 109, 97, 105, 110, 10, 108, 111, 103, 32, 109, 97, 105, 110, 10, 112, 117, 116, 32, 109, 97, 105, 110, 32, 51, 32, 57, 10, 112, 117, 116, 32, 98, 32, 51, 32, 49, 48, 10, 109, 101, 114, 103, 101, 32, 109, 97, 105, 110, 32, 98, 10, 109, 101, 114, 103, 101, 32, 109, 97, 105, 110, 32, 99, 10, 99, 117, 116, 32, 98, 32, 52, 10, 100, 114, 111, 112, 32, 98, 10, 114, 111, 119, 115, 32, 98, 10, 120, 10]
def begunO : Bytes := [111, 107, 10, 101, 114, 114, 111, 114, 32, 57, 10, 111, 107, 10, 111, 107, 10, 111, 107, 10, 111, 107, 10, 51, 58, 55, 62, 56, 32, 53, 58, 49, 62, 45, 32, 57, 58, 45, 62, 50, 10, 111, 107, 10, 111, 107, 10, 51, 61, 56, 32, 53, 61, 49, 32, 57, 61, 50, 10, 53, 32, 52, 32, 51, 32, 50, 32, 49, 32, 48, 10, 111, 107, 10, 111, 107, 10, 99, 108, 97, 115, 104, 32, 51, 10, 101, 114, 114, 111, 114, 32, 53, 10, 101, 114, 114, 111, 114, 32, 57, 10, 111, 107, 10, 101, 114, 114, 111, 114, 32, 53, 10, 101, 114, 114, 111, 114, 32, 49, 10]
theorem begunP : playP begunT = (begunO, 0) := by decide +kernel
end Go.Pch
end

section
namespace Go.Pch
open Go.RowKit Go.Proofs
set_option maxRecDepth 100000
theorem refPlayAll (t : Bytes) (w : World) (ht : t.length ≤ maxLen) : Calls Tryz.prog 5 #[.string (bl t)] w (Ret w fun x _ => x = .tuple #[.string (bl (playP t).1), .int .i64 (playP t).2]) := by
  by_cases h : 4096 < t.length ∨ 60 < t.count 10
  · exact refPlayOfMany t w ht h
  · by_cases h0 : t = []
    · subst h0
      exact refPlayOfNil w
    · exact refPlayOf t w (by omega) (by omega) (List.length_pos_iff.2 h0)
theorem begunLen : begunT.length ≤ maxLen := by unfold maxLen; decide +kernel
set_option maxHeartbeats 2000000 in
theorem deskBegun (w : World) (hV : Vars w) : Calls Tryz.prog 6 #[] w (Ret w fun r _ => r = .bool true) := by
  have T := deskPlayAll begunT w hV begunLen
  rw [begunP] at T
  have hE : (bl begunO).toList = [111, 107, 10, 101, 114, 114, 111, 114, 32, 57, 10, 111, 107, 10, 111, 107, 10, 111, 107, 10, 111, 107, 10, 51, 58, 55, 62, 56, 32, 53, 58, 49, 62, 45, 32, 57, 58, 45, 62, 50, 10, 111, 107, 10, 111, 107, 10, 51, 61, 56, 32, 53, 61, 49, 32, 57, 61, 50, 10, 53, 32, 52, 32, 51, 32, 50, 32, 49, 32, 48, 10, 111, 107, 10, 111, 107, 10, 99, 108, 97, 115, 104, 32, 51, 10, 101, 114, 114, 111, 114, 32, 53, 10, 101, 114, 114, 111, 114, 32, 57, 10, 111, 107, 10, 101, 114, 114, 111, 114, 32, 53, 10, 101, 114, 114, 111, 114, 32, 49, 10] := bl_list _
  obtain ⟨B, hB⟩ : ∃ B, B = bl begunO := ⟨_, rfl⟩
  rw [← hB] at hE
  replace T : Calls Tryz.prog 4 #[.string (bl begunT)] w (Ret w fun x _ => x = .tuple #[.string B, .int .i64 0]) := by rw [hB]; exact T
  have HT := keepBack T
  clear hB T
  go_enter Tryz.func6, Tryz.ntmps6
  go_wp2_with fail
  refine HT.out.mono ?_; rintro e w1 ⟨_, rfl, rfl, b1⟩
  clear HT
  go_wp2
  go_ret
  exact ⟨_, rfl, rfl, b1⟩
set_option maxHeartbeats 2000000 in
theorem lawDeskPlays (s : ByteArray) (w : World) (hV : Vars w) (hz : s.size ≤ maxLen) : Calls Tryz.prog 3 #[.string s] w (Ret w fun r _ => r = .bool true) := by
  obtain ⟨t, rfl⟩ : ∃ t : Bytes, s = bl t := ⟨s.data.toList, by apply ByteArray.ext; simp [bl]⟩
  rw [bl_size] at hz
  have T1 := deskPlayAll t w hV hz
  have T2 := fun W => refPlayAll t W hz
  obtain ⟨x, n⟩ := playP t
  generalize bl x = X at T1 T2
  have H1 := keepBack T1
  have H2 := keepBack T2
  clear T1 T2
  go_enter Tryz.func3, Tryz.ntmps3
  go_wp2_with fail
  refine H1.out.mono ?_; rintro e w1 ⟨_, rfl, rfl, b1⟩
  go_wp2_with fail
  refine (H2.out w1).mono ?_; rintro e w2 ⟨_, rfl, rfl, b2⟩
  have b02 := b1.trans (b2.mono b1.size)
  have hV2 := hV.call b02
  clear H1 H2
  go_wp2_with fail
  refine (deskBegun w2 hV2).mono ?_; rintro e w3 ⟨_, rfl, rfl, b3⟩
  go_wp2
  go_ret
  exact ⟨_, rfl, rfl, b02.trans (b3.mono b02.size)⟩
end Go.Pch
end
