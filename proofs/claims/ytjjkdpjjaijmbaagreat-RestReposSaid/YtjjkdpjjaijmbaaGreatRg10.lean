/- Chapter 12: reading bytes: plain words, and how a glass' cell reads. Plain words of chapter 1: where a key stands in right rows, and putting it there; no program is named here. Plain words of chapters 6 and 7: changes, differences, patches, merges of rows; no program is named here. -/
import Derived.Test.YtjjkdpjjaijmbaaGreatRg9
import Derived.Laws.BitsLemmas
import Derived.Test.YtjjkdpjjaijmbaaGreatRg1
section
namespace Go.Pch
open Go.RowKit Go.Proofs
set_option maxRecDepth 100000

theorem bl_take (s : Bytes) (n : Nat) : (bl s).extract 0 n = bl (s.take n) := by
  apply ByteArray.ext
  simp [bl, ByteArray.data_extract]
theorem bl_drop (s : Bytes) (n : Nat) : (bl s).extract n s.length = bl (s.drop n) := by
  apply ByteArray.ext
  simp only [bl, ByteArray.data_extract]
  apply Array.ext'
  simp [List.take_of_length_le]

/-- L1: numbers of one byte, of two. -/
def num1 : Bytes → Option (Int × Bytes)
  | c :: s => some ((c.toNat : Int), s)
  | [] => none
def num2 : Bytes → Option (Int × Bytes)
  | c :: d :: s => some (256 * (c.toNat : Int) + d.toNat, s)
  | _ => none
def rowG (s : Bytes) : Option (Row × Bytes) := (num1 s).bind fun x => (num2 x.2).map fun y => ((x.1, y.1), y.2)
def repG {α : Type} (p : Bytes → Option (α × Bytes)) : Nat → Bytes → Option (List α × Bytes)
  | 0, s => some ([], s)
  | n + 1, s => (p s).bind fun x => (repG p n x.2).map fun y => (x.1 :: y.1, y.2)
def listG {α : Type} (p : Bytes → Option (α × Bytes)) (s : Bytes) : Option (List α × Bytes) := (num1 s).bind fun x => repG p x.1.toNat x.2
def comG (s : Bytes) : Option (Commit × Bytes) := (listG rowG s).bind fun x => (listG num1 x.2).map fun y => ((x.1, y.1), y.2)
def takeG (n : Nat) (s : Bytes) : Option (Bytes × Bytes) := if n ≤ s.length then some (s.take n, s.drop n) else none
def textG (s : Bytes) : Option (ByteArray × Bytes) := (num1 s).bind fun x => (takeG x.1.toNat x.2).map fun y => (bl y.1, y.2)
def headG (s : Bytes) : Option (Head × Bytes) := (textG s).bind fun x => (num1 x.2).map fun y => ((x.1, y.1), y.2)
def repoG (s : Bytes) : Option (Repo × Bytes) := (listG comG s).bind fun x => (listG headG x.2).map fun y => ((x.1, y.1), y.2)
/-- L1: Read's answer. -/
def readP (b : Bytes) : Repo × Int :=
  if 4096 < b.length then (([], []), 2) else match repoG b with
    | some (r, []) => if repoErr r = 0 then (r, 0) else (([], []), 1)
    | _ => (([], []), 1)

/-- A glass lies in block gb; what is left of its text is s. -/
def GlassAt (w : World) (gb : Nat) (s : Bytes) : Prop := w.heap[gb]? = some (.cells #[.string (bl s)] 115)
/-- A glass' block may turn, and new ones come. -/
abbrev GOn (gb : Nat) (w w' : World) : Prop := Step (fun k => k = gb) w w'
theorem GlassAt.lt {w : World} {gb : Nat} {s : Bytes} (h : GlassAt w gb s) : gb < w.heap.size := (Array.getElem?_eq_some_iff.1 h).1
theorem GlassAt.cell {w : World} {gb : Nat} {s : Bytes} (h : GlassAt w gb s) : w.cell? ⟨gb, 0, none⟩ = some (.string (bl s)) := by rw [World.cell?, h]; rfl
theorem GlassAt.free {w : World} {gb : Nat} {s : Bytes} (h : GlassAt w gb s) : w.frozen? ⟨gb, 0, none⟩ = false := frozen_of_row w gb 0 _ _ h
theorem GlassAt.set {w : World} {gb : Nat} {s : Bytes} (h : GlassAt w gb s) (t : Bytes) : GlassAt (w.setCell ⟨gb, 0, none⟩ (.string (bl t))) gb t := heap_setCell_same w gb 0 _ _ _ h
theorem GlassAt.call {w w' : World} {gb : Nat} {s : Bytes} (h : GlassAt w gb s) (hb : Below w.heap.size w w') : GlassAt w' gb s := (hb.block gb h.lt).trans h
theorem GOn.set {gb : Nat} (w : World) (u : Value) : GOn gb w (w.setCell ⟨gb, 0, none⟩ u) := Step.setCell _ _ rfl
theorem GOn.of {gb : Nat} {w w' : World} (h : Below w.heap.size w w') : GOn gb w w' := Step.of_below h
/-- What is thrown when bytes end too early. -/
def short : List PanicEntry := [{ v := .iface 156 (.agg #[]), recovered := false }]

set_option maxHeartbeats 400000 in
theorem takeOk (gb : Nat) (s : Bytes) (n : Nat) (m : Int) (hm : m = (n : Int)) (w : World) (h : GlassAt w gb s) (hn : n ≤ s.length) :
    Calls Tryz.prog 94 #[.pointer (some ⟨gb, 0, none⟩), .int .i64 m] w fun e w' => e = .returned (.string (bl (s.take n))) ∧ GlassAt w' gb (s.drop n) ∧ GOn gb w w' := by
  subst hm
  have g0 := h.cell
  have gf := h.free
  have hsz := bl_size s
  go_enter Tryz.func94, Tryz.ntmps94
  go_wp2
  go_ret
  rw [bl_take, bl_drop]
  exact ⟨rfl, h.set _, GOn.set _ _⟩

set_option maxHeartbeats 400000 in
theorem takeShort (gb : Nat) (s : Bytes) (n : Nat) (m : Int) (hm : m = (n : Int)) (w : World) (h : GlassAt w gb s) (hn : s.length < n) :
    Calls Tryz.prog 94 #[.pointer (some ⟨gb, 0, none⟩), .int .i64 m] w fun e w' => e = .panicked short ∧ GOn gb w w' := by
  subst hm
  have g0 := h.cell
  have gf := h.free
  have hsz := bl_size s
  go_enter Tryz.func94, Tryz.ntmps94
  go_wp2
  exact ⟨rfl, rfl, Step.refl _ _⟩

theorem or_byte (a c : Int) (h0 : 0 ≤ a) (h1 : a < 65536) (h2 : 0 ≤ c) (h3 : c < 256) : bits .or .i64 (a * 256) c = 256 * a + c := by
  rw [Int.mul_comm a 256]
  exact bits_join .i64 62 (by decide) (fun n g0 g1 => by rw [IntKind.wrap_i64]; omega) 8 (256 * a) c (by omega) (by omega) (by omega) h2 (by omega) (by omega)
theorem byte_lt (c : UInt8) : 0 ≤ (c.toNat : Int) ∧ (c.toNat : Int) < 256 := ⟨Int.natCast_nonneg _, by have := c.toNat_lt; omega⟩
theorem strSl (w : World) (s : ByteArray) (hm : s.size ≤ maxLen) : ∃ (c : Nat) (w' : World), (convert 9 75 (.string s)).run Tryz.prog w = .ok (.slice (some ⟨w.heap.size, 0, none⟩) s.size c) w' ∧ Sl tByte w' (fun k => w.heap.size ≤ k) (.slice (some ⟨w.heap.size, 0, none⟩) s.size c) s.data.toList ∧ Below w.heap.size w w' := by
  have hr := run_bytes_of_string (P := Tryz.prog) w 9 75 5 s Tryz.underlying9 Tryz.underlying75 Tryz.underlying5
  refine ⟨_, _, hr, ?_, ((Below.refl _ _).drew).alloc (Nat.le_refl _) _⟩
  have hge := grownCap_ge w s.size 0 5
  have hm := grownCap_le_maxLen w s.size 0 5 hm
  · refine ⟨_, s.size, _, rfl, Array.length_toList, hge, hm, (fun h => by cases h), fun i a hi => ⟨w.heap.size, 0, rfl, Nat.le_refl _, [.int .u8 (a.toNat : Int)], ⟨rfl, trivial⟩, fun j u hj => ?_⟩⟩
    cases j with
    | succ j => simp at hj
    | zero =>
      simp at hj
      subst hj
      obtain ⟨hi', ha⟩ := List.getElem?_eq_some_iff.1 hi
      have hi2 : i < s.data.size := by simpa using hi'
      have hb := bytesRow_at s (grownCap w s.size 0 5) i hi2
      have hx : (0 : Nat) + i * 1 + 0 = i := by omega
      show (w.drew.alloc _).cell? ⟨w.drew.heap.size, 0 + i * 1 + 0, none⟩ = _ ∧ (w.drew.alloc _).frozen? ⟨w.drew.heap.size, 0 + i * 1 + 0, none⟩ = _
      rw [hx, World.cell?_alloc_mark, World.frozen?_alloc_mark, hb]
      have hlt := (Array.getElem?_eq_some_iff.1 hb).1
      subst ha
      refine ⟨by simp, ?_⟩
      rw [decide_eq_false (by omega)]
      rfl


/-- The number that bytes are. -/
def numV (l : Bytes) : Int := l.foldl (fun a c => 256 * a + (c.toNat : Int)) 0
theorem numV_next {l : Bytes} {k : Nat} (h : k < l.length) : numV (l.take (k + 1)) = 256 * numV (l.take k) + (l[k].toNat : Int) := by
  rw [numV, List.take_succ_eq_append_getElem h, List.foldl_append]; rfl
theorem numV_small : ∀ l : Bytes, l.length ≤ 2 → 0 ≤ numV l ∧ numV l < 65536
  | [], _ => by simp [numV]
  | [a], _ => by have := byte_lt a; simp only [numV, List.foldl]; omega
  | [a, b], _ => by have := byte_lt a; have := byte_lt b; simp only [numV, List.foldl]; omega
  | _ :: _ :: _ :: _, h => by simp at h

set_option maxHeartbeats 300000 in
theorem numIs (gb : Nat) (l s : Bytes) (m : Int) (hm : m = (l.length : Int)) (hl : l.length ≤ 2) (w : World) (h : GlassAt w gb (l ++ s)) :
    Calls Tryz.prog 66 #[.pointer (some ⟨gb, 0, none⟩), .int .i64 m] w fun e w' => e = .returned (.int .i64 (numV l)) ∧ GlassAt w' gb s ∧ GOn gb w w' := by
  have T := takeOk gb (l ++ s) l.length m hm w h (by simp)
  rw [show (l ++ s).take l.length = l from List.take_left' rfl, show (l ++ s).drop l.length = s from List.drop_left' rfl] at T
  have HM := keepBack hm
  clear hm
  go_enter Tryz.func66, Tryz.ntmps66
  go_wp2_with fail
  refine T.mono ?_; rintro e w1 ⟨rfl, h1, on1⟩
  clear T
  obtain ⟨cp, w2, hcv, hsl, hb⟩ := strSl w1 (bl l) (by rw [bl_size]; unfold maxLen; omega)
  have hsz := bl_size l
  have hls : (bl l).data.toList = l := by simp [bl]
  rw [hls, hsz] at hsl
  rw [hsz] at hcv
  clear hls
  go_wp2
  go_loop [5, 7, 13] (fun n _ i => ∃ (k : Nat), k ≤ l.length ∧ i = .int .i64 k ∧ n = .int .i64 (numV (l.take k))) (fun _ _ i => l.length - (intOf i).toNat)
  case atStart => exact ⟨0, Nat.zero_le _, rfl, rfl⟩
  case round =>
    obtain ⟨k, hk, rfl, rfl⟩ := hrel
    by_cases hlt : k < l.length
    · have hlt' : k < l.length := hlt
      obtain ⟨b, o, cs, hix, _, hbs, ⟨rfl, _⟩, hc⟩ := hsl.idx aByte k k rfl hlt'
      have hc0 := hc 0 _ rfl
      rw [Nat.add_zero] at hc0
      have HN := keepBack (numV_next hlt')
      have hv := numV_small (l.take k) (by rw [List.length_take]; omega)
      have hcl := byte_lt l[k]
      have hor := or_byte (numV (l.take k)) l[k].toNat hv.1 hv.2 hcl.1 hcl.2
      generalize l[k].toNat = c at *
      generalize numV (l.take k) = a at *
      go_wp2
      go_round
      case rel => exact ⟨k + 1, by omega, by go_num, by rw [HN.out]⟩
      case measure => simp [intOf]; omega
    · obtain rfl : k = l.length := by omega
      rw [List.take_length]
      go_wp2
      go_ret
      exact ⟨rfl, h1.call hb, on1.on (GOn.of hb)⟩

set_option maxHeartbeats 300000 in
theorem numShort (gb : Nat) (s : Bytes) (n : Nat) (m : Int) (hm : m = (n : Int)) (hn : s.length < n) (w : World) (h : GlassAt w gb s) :
    Calls Tryz.prog 66 #[.pointer (some ⟨gb, 0, none⟩), .int .i64 m] w fun e w' => e = .panicked short ∧ GOn gb w w' := by
  have T := takeShort gb s n m hm w h hn
  have HM := keepBack hm
  clear hm
  go_enter Tryz.func66, Tryz.ntmps66
  go_wp2_with fail
  refine T.mono ?_; rintro e w1 ⟨rfl, on1⟩
  clear T
  go_wp2
  exact ⟨rfl, rfl, on1⟩

/-- What a reading function leaves: what it read, and the glass behind it; or it throws. -/
def Reads {α : Type} (gb : Nat) (w : World) (V : α → Value → World → Prop) (o : Option (α × Bytes)) (e : Ending) (w' : World) : Prop :=
  GOn gb w w' ∧ match o with
    | some x => (∃ v, e = .returned v ∧ V x.1 v w') ∧ GlassAt w' gb x.2
    | none => e = .panicked short
theorem Reads.ok {α : Type} {gb : Nat} {w w' : World} {V : α → Value → World → Prop} {o : Option (α × Bytes)} {e : Ending} {a : α} {s : Bytes} (h : Reads gb w V o e w') (ho : o = some (a, s)) : ∃ v, e = .returned v ∧ V a v w' ∧ GlassAt w' gb s ∧ GOn gb w w' := by
  subst ho
  obtain ⟨h1, ⟨v, h2, h3⟩, h4⟩ := h
  exact ⟨v, h2, h3, h4, h1⟩
theorem Reads.no {α : Type} {gb : Nat} {w w' : World} {V : α → Value → World → Prop} {o : Option (α × Bytes)} {e : Ending} (h : Reads gb w V o e w') (ho : o = none) : e = .panicked short ∧ GOn gb w w' := by
  subst ho
  exact ⟨h.2, h.1⟩
theorem Reads.mk {α : Type} {gb : Nat} {w w' : World} {V : α → Value → World → Prop} {o : Option (α × Bytes)} {e : Ending} {a : α} {s : Bytes} {v : Value} (ho : o = some (a, s)) (he : e = .returned v) (hv : V a v w') (hg : GlassAt w' gb s) (hn : GOn gb w w') : Reads gb w V o e w' := by
  subst ho
  exact ⟨hn, ⟨v, he, hv⟩, hg⟩
theorem Reads.mkNo {α : Type} {gb : Nat} {w w' : World} {V : α → Value → World → Prop} {o : Option (α × Bytes)} {e : Ending} (ho : o = none) (he : e = .panicked short) (hn : GOn gb w w') : Reads gb w V o e w' := by
  subst ho
  exact ⟨hn, he⟩
/-- A number. -/
def VInt (n : Int) (v : Value) (_ : World) : Prop := v = .int .i64 n
theorem numOne (gb : Nat) (s : Bytes) (w : World) (h : GlassAt w gb s) :
    Calls Tryz.prog 66 #[.pointer (some ⟨gb, 0, none⟩), .int .i64 1] w (Reads gb w VInt (num1 s)) := by
  match s, h with
  | [], h => exact (numShort gb [] 1 1 rfl (by simp) w h).mono fun e w' ⟨h1, h2⟩ => Reads.mkNo rfl h1 h2
  | c :: s, h => exact (numIs gb [c] s 1 rfl (by simp) w h).mono fun e w' ⟨h1, h2, h3⟩ => Reads.mk (a := (c.toNat : Int)) rfl h1 (by simp [numV, VInt]) h2 h3
theorem numTwo (gb : Nat) (s : Bytes) (w : World) (h : GlassAt w gb s) :
    Calls Tryz.prog 66 #[.pointer (some ⟨gb, 0, none⟩), .int .i64 2] w (Reads gb w VInt (num2 s)) := by
  match s, h with
  | [], h => exact (numShort gb [] 2 2 rfl (by simp) w h).mono fun e w' ⟨h1, h2⟩ => Reads.mkNo rfl h1 h2
  | [c], h => exact (numShort gb [c] 2 2 rfl (by simp) w h).mono fun e w' ⟨h1, h2⟩ => Reads.mkNo rfl h1 h2
  | c :: d :: s, h => exact (numIs gb [c, d] s 2 rfl (by simp) w h).mono fun e w' ⟨h1, h2, h3⟩ => Reads.mk (a := 256 * (c.toNat : Int) + d.toNat) rfl h1 (by simp [numV, VInt]) h2 h3
theorem num1_fit {s t : Bytes} {n : Int} (h : num1 s = some (n, t)) : 0 ≤ n ∧ n < 256 ∧ t.length < s.length := by
  cases s with
  | nil => simp [num1] at h
  | cons c s =>
    simp only [num1, Option.some.injEq, Prod.mk.injEq] at h
    obtain ⟨rfl, rfl⟩ := h
    have := byte_lt c
    exact ⟨this.1, this.2, by simp⟩

/-- A text. -/
def VStr (s : ByteArray) (v : Value) (_ : World) : Prop := v = .string s
set_option maxHeartbeats 400000 in
theorem glaText (gb : Nat) (s : Bytes) (w : World) (h : GlassAt w gb s) :
    Calls Tryz.prog 67 #[.pointer (some ⟨gb, 0, none⟩)] w (Reads gb w VStr (textG s)) := by
  cases h1 : num1 s with
  | none =>
    have HT : Hid (textG s = none) := by rw [textG, h1]; rfl
    have T := numOne gb s w h
    go_enter Tryz.func67, Tryz.ntmps67
    go_wp2_with fail
    refine T.mono ?_; intro e w1 hT
    obtain ⟨rfl, on1⟩ := hT.no h1
    clear T
    go_wp2
    exact ⟨rfl, Reads.mkNo HT.out rfl on1⟩
  | some x =>
    obtain ⟨n, t⟩ := x
    have hf := num1_fit h1
    obtain ⟨k, hk⟩ : ∃ k : Nat, n = (k : Int) := ⟨n.toNat, by omega⟩
    have T := numOne gb s w h
    go_enter Tryz.func67, Tryz.ntmps67
    go_wp2_with fail
    refine T.mono ?_; intro e w1 hT
    obtain ⟨_, rfl, rfl, g1, on1⟩ := hT.ok h1
    clear T hT
    have HF := keepBack hf
    by_cases hkt : k ≤ t.length
    · have ht : textG s = some (bl (t.take k), t.drop k) := by rw [textG, h1, hk]; simp [takeG, hkt]
      have T := takeOk gb t k n hk w1 g1 hkt
      have HK := keepBack hk
      have HT := keepBack ht
      clear hk ht hf h1
      go_wp2_with fail
      refine T.mono ?_; rintro e w2 ⟨rfl, g2, on2⟩
      clear T
      go_wp2
      go_ret
      exact Reads.mk HT.out rfl rfl g2 (on1.on on2)
    · have ht : textG s = none := by rw [textG, h1, hk]; simp [takeG, hkt]
      have T := takeShort gb t k n hk w1 g1 (by omega)
      have HK := keepBack hk
      have HT := keepBack ht
      clear hk ht hf h1
      go_wp2_with fail
      refine T.mono ?_; rintro e w2 ⟨rfl, on2⟩
      clear T
      go_wp2
      exact ⟨rfl, Reads.mkNo HT.out rfl (on1.on on2)⟩

end Go.Pch
end

section
namespace Go.Pch

/-- How many rows have lesser keys. -/
def seekN : List Row → Int → Nat
  | [], _ => 0
  | r :: l, k => if r.1 < k then seekN l k + 1 else 0
/-- Is the key there? -/
def hasB (l : List Row) (k : Int) : Bool := match l[seekN l k]? with
  | some r => decide (r.1 = k)
  | none => false

theorem seekN_le : ∀ (l : List Row) (k : Int), seekN l k ≤ l.length
  | [], _ => Nat.le_refl _
  | r :: l, k => by
    rw [seekN]
    split
    · have := seekN_le l k
      simp only [List.length_cons]
      omega
    · omega
theorem seekN_low : ∀ (l : List Row) (k : Int) (i : Nat) (h : i < l.length), i < seekN l k → l[i].1 < k
  | [], _, i, h, _ => by simp at h
  | r :: l, k, i, h, hi => by
    rw [seekN] at hi
    split at hi
    · rename_i hr
      cases i with
      | zero => exact hr
      | succ i => exact seekN_low l k i (by simpa using h) (by omega)
    · omega
theorem rise_all {m : Int} : ∀ {l : List Row}, riseB m l = true → ∀ r ∈ l, m < r.1
  | [], _, r, hr => by cases hr
  | q :: l, h, r, hr => by
    rw [riseB_cons] at h
    rcases List.mem_cons.1 hr with rfl | hr
    · exact h.1.1
    · have := rise_all h.2 r hr; omega
theorem seekN_high : ∀ {m : Int} {l : List Row}, riseB m l = true → ∀ (k : Int) (i : Nat) (h : i < l.length), seekN l k ≤ i → k ≤ l[i].1
  | _, [], _, _, i, h, _ => by simp at h
  | m, r :: l, hr, k, i, h, hi => by
    rw [riseB_cons] at hr
    rw [seekN] at hi
    split at hi
    · cases i with
      | zero => omega
      | succ i => exact seekN_high hr.2 k i (by simpa using h) (by omega)
    · rename_i hk
      have := rise_all (m := r.1 - 1) (l := r :: l) (by rw [riseB_cons]; exact ⟨by omega, hr.2⟩) _ (List.getElem_mem h)
      omega
theorem rise_lt {m : Int} : ∀ {l : List Row}, riseB m l = true → ∀ {i j : Nat} (_ : i < j) (hj : j < l.length), l[i].1 < l[j].1
  | [], _, i, j, _, hj => by simp at hj
  | r :: l, h, i, j, hij, hj => by
    rw [riseB_cons] at h
    cases j with
    | zero => omega
    | succ j =>
      have hj' : j < l.length := by simpa using hj
      cases i with
      | zero => exact rise_all h.2 _ (List.getElem_mem hj')
      | succ i => exact rise_lt h.2 (by omega) hj'
/-- The one place that parts the lesser keys from the others. -/
theorem seekN_eq {m : Int} {l : List Row} (h : riseB m l = true) {k : Int} {i : Nat} (hi : i ≤ l.length) (h1 : ∀ (j : Nat) (hj : j < l.length), j < i → l[j].1 < k) (h2 : ∀ (j : Nat) (hj : j < l.length), i ≤ j → k ≤ l[j].1) : seekN l k = i := by
  have hn := seekN_le l k
  rcases Nat.lt_trichotomy (seekN l k) i with hlt | he | hgt
  · have a := h1 (seekN l k) (by omega) hlt
    have b := seekN_high h k (seekN l k) (by omega) (Nat.le_refl _)
    omega
  · exact he
  · have a := h2 i (by omega) (Nat.le_refl _)
    have b := seekN_low l k i (by omega) hgt
    omega
theorem valueOf_seek : ∀ {m : Int} {l : List Row}, riseB m l = true → ∀ (k : Int), valueOf l k = match l[seekN l k]? with | some r => if r.1 = k then r.2 else -1 | none => -1
  | _, [], _, k => rfl
  | m, r :: l, h, k => by
    rw [riseB_cons] at h
    rw [valueOf, seekN]
    by_cases h1 : r.1 = k
    · rw [if_pos h1, if_neg (by omega)]
      simp [h1]
    · rw [if_neg h1]
      by_cases h2 : r.1 < k
      · rw [if_pos h2, List.getElem?_cons_succ]
        exact valueOf_seek h.2 k
      · rw [if_neg h2, valueOf_low h.2 (by omega)]
        simp [h1]
theorem valueOf_has {m : Int} {l : List Row} (h : riseB m l = true) {k : Int} (hk : hasB l k = true) : ∃ r, l[seekN l k]? = some r ∧ r.1 = k ∧ valueOf l k = r.2 := by
  rw [valueOf_seek h k]
  unfold hasB at hk
  cases hl : l[seekN l k]? with
  | none => rw [hl] at hk; cases hk
  | some r =>
    rw [hl] at hk
    have hk' : r.1 = k := by simpa using hk
    exact ⟨r, rfl, hk', by simp [hk']⟩
theorem valueOf_hasnt {m : Int} {l : List Row} (h : riseB m l = true) {k : Int} (hk : hasB l k = false) : valueOf l k = -1 := by
  rw [valueOf_seek h k]
  unfold hasB at hk
  cases hl : l[seekN l k]? with
  | none => rfl
  | some r =>
    rw [hl] at hk
    have hk' : ¬ r.1 = k := by simpa using hk
    simp [hk']

/-- Rows, a key of which is set (-1: taken away). -/
def setL (l : List Row) (key val : Int) : List Row :=
  l.take (seekN l key) ++ ((if val = -1 then [] else [(key, val)]) ++ l.drop (seekN l key + if hasB l key then 1 else 0))

theorem setL_cons_lt {r : Row} {l : List Row} {key val : Int} (h : r.1 < key) : setL (r :: l) key val = r :: setL l key val := by
  unfold setL hasB
  rw [seekN, if_pos h]
  simp only [List.take_succ_cons, List.getElem?_cons_succ, List.cons_append]
  rw [show seekN l key + 1 + (if (match l[seekN l key]? with | some r => decide (r.1 = key) | none => false) = true then 1 else 0) = (seekN l key + (if (match l[seekN l key]? with | some r => decide (r.1 = key) | none => false) = true then 1 else 0)) + 1 by omega, List.drop_succ_cons]
theorem setL_cons_eq {r : Row} {l : List Row} {key val : Int} (h : r.1 = key) : setL (r :: l) key val = (if val = -1 then [] else [(key, val)]) ++ l := by
  unfold setL hasB
  rw [seekN, if_neg (by omega)]
  simp [h]
theorem setL_cons_gt {r : Row} {l : List Row} {key val : Int} (h : key < r.1) : setL (r :: l) key val = (if val = -1 then [] else [(key, val)]) ++ r :: l := by
  unfold setL hasB
  rw [seekN, if_neg (by omega)]
  simp [show ¬ r.1 = key by omega]
theorem setL_nil (key val : Int) : setL [] key val = if val = -1 then [] else [(key, val)] := by simp [setL]

theorem setL_rise : ∀ {m : Int} {l : List Row}, riseB m l = true → ∀ {key val : Int}, m < key → key ≤ 99 → -1 ≤ val → val ≤ 996 → riseB m (setL l key val) = true
  | m, [], _, key, val, h1, h2, h3, h4 => by
    rw [setL_nil]
    split
    · rfl
    · rw [riseB_cons]; exact ⟨⟨h1, h2, by show 0 ≤ val; omega, h4⟩, rfl⟩
  | m, r :: l, h, key, val, h1, h2, h3, h4 => by
    have h' := h
    rw [riseB_cons] at h
    rcases Int.lt_trichotomy r.1 key with hlt | heq | hgt
    · rw [setL_cons_lt hlt, riseB_cons]
      exact ⟨h.1, setL_rise h.2 hlt h2 h3 h4⟩
    · rw [setL_cons_eq heq]
      split
      · exact riseB_weaken h.2 (by omega)
      · rw [List.singleton_append, riseB_cons]
        exact ⟨⟨h1, h2, by show 0 ≤ val; omega, h4⟩, by show riseB key l = true; rw [← heq]; exact h.2⟩
    · rw [setL_cons_gt hgt]
      split
      · exact h'
      · rw [List.singleton_append, riseB_cons]
        refine ⟨⟨h1, h2, by show 0 ≤ val; omega, h4⟩, ?_⟩
        rw [riseB_cons]
        exact ⟨⟨hgt, h.1.2⟩, h.2⟩
theorem setL_value : ∀ {m : Int} {l : List Row}, riseB m l = true → ∀ (key val k : Int), valueOf (setL l key val) k = if k = key then val else valueOf l k
  | m, [], _, key, val, k => by
    rw [setL_nil]
    by_cases hv : val = -1
    · rw [if_pos hv, valueOf]
      split
      · exact hv.symm
      · rfl
    · rw [if_neg hv, valueOf, valueOf]
      by_cases hk : key = k
      · rw [if_pos hk, if_pos hk.symm]
      · rw [if_neg hk, if_neg (fun e => hk e.symm)]; rfl
  | m, r :: l, h, key, val, k => by
    rw [riseB_cons] at h
    rcases Int.lt_trichotomy r.1 key with hlt | heq | hgt
    · rw [setL_cons_lt hlt, valueOf, valueOf]
      by_cases hk : r.1 = k
      · rw [if_pos hk, if_pos hk, if_neg (by omega)]
      · rw [if_neg hk, if_neg hk]
        exact setL_value h.2 key val k
    · rw [setL_cons_eq heq]
      by_cases hv : val = -1
      · rw [if_pos hv, List.nil_append]
        by_cases hk : k = key
        · rw [if_pos hk, hv]; exact valueOf_low h.2 (by omega)
        · rw [if_neg hk, valueOf, if_neg (by omega)]
      · rw [if_neg hv, List.singleton_append, valueOf]
        by_cases hk : key = k
        · rw [if_pos hk, if_pos hk.symm]
        · rw [if_neg hk, if_neg (fun e => hk e.symm), valueOf, if_neg (by omega)]
    · rw [setL_cons_gt hgt]
      by_cases hv : val = -1
      · rw [if_pos hv, List.nil_append]
        by_cases hk : k = key
        · rw [if_pos hk, hv, valueOf, if_neg (by omega)]; exact valueOf_low h.2 (by omega)
        · rw [if_neg hk]
      · rw [if_neg hv, List.singleton_append, valueOf]
        by_cases hk : key = k
        · rw [if_pos hk, if_pos hk.symm]
        · rw [if_neg hk, if_neg (fun e => hk e.symm)]
/-- Set is what the table says. -/
theorem setL_put {l : List Row} (h : riseB (-1) l = true) {key val : Int} (h1 : keyB key = true) (h2 : valB val = true) : setL l key val = putL l key val := by
  simp only [keyB, valB, Bool.and_eq_true, decide_eq_true_eq] at h1 h2
  refine folded_eq (setL_rise h (by omega) h1.2 h2.1 h2.2) (fun k h3 h4 => ?_) fun k => ?_
  · rw [setL_value h]
  · split
    · exact h2
    · exact valueOf_bounds h k
theorem setL_len (l : List Row) (key val : Int) : (setL l key val).length ≤ l.length + 1 := by
  have := seekN_le l key
  unfold setL
  split <;> simp <;> omega

/-- A2: Find's and Put's answers. -/
def findP (l : List Row) (key : Int) : Int × Int := if rowsErr l = 0 then (if keyB key then (valueOf l key, 0) else (0, 3)) else (0, rowsErr l)
def putP (l : List Row) (key val : Int) : List Row × Int :=
  if rowsErr l = 0 then (if (keyB key && valB val) = true then (if 40 < (putL l key val).length then ([], 2) else (putL l key val, 0)) else ([], 3)) else ([], rowsErr l)

end Go.Pch
end

section
namespace Go.Pch

/-- A change: Key, Old, New. -/
abbrev Change := Int × Int × Int

/-- Changes rise behind 'last', within their bounds, and each changes something. -/
def fineC : Int → List Change → Bool
  | _, [] => true
  | last, x :: d => !(decide (x.1 ≤ last) || decide (99 < x.1) || !valB x.2.1 || !valB x.2.2 || decide (x.2.1 = x.2.2)) && fineC x.1 d
theorem fineC_cons {last : Int} {x : Change} {d : List Change} : fineC last (x :: d) = true ↔ (last < x.1 ∧ x.1 ≤ 99 ∧ valB x.2.1 = true ∧ valB x.2.2 = true ∧ x.2.1 ≠ x.2.2) ∧ fineC x.1 d = true := by
  simp only [fineC, Bool.and_eq_true, Bool.not_eq_true', Bool.or_eq_false_iff, decide_eq_false_iff_not, Bool.not_eq_false']
  constructor
  · rintro ⟨⟨⟨⟨⟨h1, h2⟩, h3⟩, h4⟩, h5⟩, h6⟩; exact ⟨⟨by omega, by omega, h3, h4, h5⟩, h6⟩
  · rintro ⟨⟨h1, h2, h3, h4, h5⟩, h6⟩; exact ⟨⟨⟨⟨⟨by omega, by omega⟩, h3⟩, h4⟩, h5⟩, h6⟩
theorem fineC_go {m : Int} {d : List Change} {k : Nat} (hk : k < d.length) (h : (m < d[k].1 ∧ d[k].1 ≤ 99) ∧ valB d[k].2.1 = true ∧ valB d[k].2.2 = true ∧ d[k].2.1 ≠ d[k].2.2) : fineC m (d.drop k) = fineC d[k].1 (d.drop (k + 1)) := by
  rw [List.drop_eq_getElem_cons hk, Bool.eq_iff_iff, fineC_cons]
  exact ⟨fun h => h.2, fun g => ⟨⟨h.1.1, h.1.2, h.2.1, h.2.2.1, h.2.2.2⟩, g⟩⟩
theorem fineC_stop {m : Int} {d : List Change} {k : Nat} (hk : k < d.length) (h : d[k].1 ≤ m ∨ 99 < d[k].1 ∨ valB d[k].2.1 = false ∨ valB d[k].2.2 = false ∨ d[k].2.1 = d[k].2.2) : fineC m (d.drop k) = false := by
  rw [List.drop_eq_getElem_cons hk, Bool.eq_false_iff]
  intro g
  have := (fineC_cons.1 g).1
  rcases h with h | h | h | h | h
  · omega
  · omega
  · rw [h] at this; exact absurd this.2.2.1 (by simp)
  · rw [h] at this; exact absurd this.2.2.2.1 (by simp)
  · exact this.2.2.2.2 h
theorem fineC_end {m : Int} {d : List Change} {k : Nat} (hk : ¬ k < d.length) : fineC m (d.drop k) = true := by
  rw [List.drop_of_length_le (by omega)]; rfl
theorem fineC_weaken {a b : Int} {d : List Change} (h : fineC b d = true) (hab : a ≤ b) : fineC a d = true := by
  cases d with
  | nil => rfl
  | cons x d =>
    rw [fineC_cons] at h ⊢
    exact ⟨⟨by omega, h.1.2⟩, h.2⟩
theorem fineC_all {m : Int} : ∀ {d : List Change}, fineC m d = true → ∀ x ∈ d, m < x.1 ∧ x.1 ≤ 99 ∧ valB x.2.1 = true ∧ valB x.2.2 = true ∧ x.2.1 ≠ x.2.2
  | [], _, x, hx => by cases hx
  | y :: d, h, x, hx => by
    rw [fineC_cons] at h
    rcases List.mem_cons.1 hx with rfl | hx
    · exact h.1
    · have := fineC_all h.2 x hx
      exact ⟨by omega, this.2⟩
theorem fineC_len {m : Int} : ∀ {d : List Change}, fineC m d = true → m ≤ 99 → (d.length : Int) ≤ 99 - m
  | [], _, h => by simp; omega
  | x :: d, h, _ => by
    rw [fineC_cons] at h
    have := fineC_len h.2 h.1.2.1
    rw [List.length_cons]
    omega

/-! ### Differences -/
/-- What differs between two tables, from key k on (n keys). -/
def diffFrom (x y : Int → Int) : Nat → Int → List Change
  | 0, _ => []
  | n + 1, k => if x k = y k then diffFrom x y n (k + 1) else (k, x k, y k) :: diffFrom x y n (k + 1)
/-- F1: what differs between two tables. -/
def diffL (x y : Int → Int) : List Change := diffFrom x y 100 0
theorem diff_congr {x y x' y' : Int → Int} : ∀ (n : Nat) (k : Int), (∀ j, k ≤ j → j < k + n → (x j = y j ↔ x' j = y' j) ∧ (x j ≠ y j → x j = x' j ∧ y j = y' j)) → diffFrom x y n k = diffFrom x' y' n k
  | 0, _, _ => rfl
  | n + 1, k, h => by
    have h0 := h k (Int.le_refl _) (by omega)
    have ih := diff_congr n (k + 1) fun j h1 h2 => h j (by omega) (by omega)
    rw [diffFrom, diffFrom, ih]
    by_cases he : x k = y k
    · rw [if_pos he, if_pos (h0.1.1 he)]
    · rw [if_neg he, if_neg (fun e => he (h0.1.2 e)), (h0.2 he).1, (h0.2 he).2]

/-- Between right rows: what differs, by going through both. -/
def betw : List Row → List Row → List Change
  | [], [] => []
  | r :: a, [] => (r.1, r.2, -1) :: betw a []
  | [], q :: b => (q.1, -1, q.2) :: betw [] b
  | r :: a, q :: b =>
    if r.1 < q.1 then (r.1, r.2, -1) :: betw a (q :: b)
    else if q.1 < r.1 then (q.1, -1, q.2) :: betw (r :: a) b
    else if r.2 = q.2 then betw a b else (r.1, r.2, q.2) :: betw a b
termination_by a b => a.length + b.length

theorem betw_nil : betw [] [] = [] := by rw [betw]
theorem betw_left {r : Row} {a b : List Row} (h : b = [] ∨ ∃ q c, b = q :: c ∧ r.1 < q.1) : betw (r :: a) b = (r.1, r.2, -1) :: betw a b := by
  rcases h with rfl | ⟨q, c, rfl, h⟩
  · rw [betw]
  · rw [betw, if_pos h]
theorem betw_right {q : Row} {a b : List Row} (h : a = [] ∨ ∃ r c, a = r :: c ∧ q.1 < r.1) : betw a (q :: b) = (q.1, -1, q.2) :: betw a b := by
  rcases h with rfl | ⟨r, c, rfl, h⟩
  · rw [betw]
  · rw [betw, if_neg (by omega), if_pos h]
theorem betw_both {r q : Row} {a b : List Row} (h : r.1 = q.1) : betw (r :: a) (q :: b) = if r.2 = q.2 then betw a b else (r.1, r.2, q.2) :: betw a b := by
  rw [betw, if_neg (by omega), if_neg (by omega)]

theorem betw_len : ∀ (a b : List Row), (betw a b).length ≤ a.length + b.length
  | [], [] => by rw [betw_nil]; simp
  | r :: a, [] => by
    have := betw_len a []
    rw [betw_left (.inl rfl), List.length_cons, List.length_cons]
    omega
  | [], q :: b => by
    have := betw_len [] b
    rw [betw_right (.inl rfl), List.length_cons, List.length_cons]
    omega
  | r :: a, q :: b => by
    rw [betw]
    split
    · have := betw_len a (q :: b)
      simp only [List.length_cons] at this ⊢
      omega
    · split
      · have := betw_len (r :: a) b
        simp only [List.length_cons] at this ⊢
        omega
      · have := betw_len a b
        split <;> simp only [List.length_cons] <;> omega
termination_by a b => a.length + b.length

theorem valueOf_head {r : Row} {a : List Row} : valueOf (r :: a) r.1 = r.2 := by rw [valueOf, if_pos rfl]
theorem valueOf_tail {r : Row} {a : List Row} {k : Int} (h : r.1 ≠ k) : valueOf (r :: a) k = valueOf a k := by rw [valueOf, if_neg h]

theorem diff_betw : ∀ (n : Nat) (k : Int) (a b : List Row), k + n = 100 → riseB (k - 1) a = true → riseB (k - 1) b = true → diffFrom (valueOf a) (valueOf b) n k = betw a b
  | 0, k, a, b, hk, ha, hb => by
    have ea : a = [] := by
      cases a with
      | nil => rfl
      | cons r a => rw [riseB_cons] at ha; omega
    have eb : b = [] := by
      cases b with
      | nil => rfl
      | cons r b => rw [riseB_cons] at hb; omega
    subst ea eb
    rw [betw_nil]; rfl
  | n + 1, k, a, b, hk, ha, hb => by
    -- without the rows of key k
    have strip : ∀ c : List Row, riseB (k - 1) c = true → (riseB k c = true ∧ valueOf c k = -1) ∨ ∃ r c', c = r :: c' ∧ r.1 = k ∧ riseB k c' = true ∧ 0 ≤ r.2 := by
      intro c hc
      cases c with
      | nil => exact .inl ⟨rfl, rfl⟩
      | cons r c =>
        rw [riseB_cons] at hc
        by_cases hr : r.1 = k
        · exact .inr ⟨r, c, rfl, hr, by rw [← hr]; exact hc.2, hc.1.2.2.1⟩
        · have : riseB k (r :: c) = true := by rw [riseB_cons]; exact ⟨⟨by omega, hc.1.2⟩, hc.2⟩
          exact .inl ⟨this, valueOf_low this (Int.le_refl _)⟩
    have hd : ∀ c : List Row, riseB k c = true → c = [] ∨ ∃ q c', c = q :: c' ∧ k < q.1 := by
      intro c hc
      cases c with
      | nil => exact .inl rfl
      | cons q c => rw [riseB_cons] at hc; exact .inr ⟨q, c, rfl, hc.1.1⟩
    have e1 : ∀ c, riseB k c = true → riseB (k + 1 - 1) c = true := fun c h => by rw [show k + 1 - 1 = k by omega]; exact h
    rw [diffFrom]
    rcases strip a ha with ⟨a1, a2⟩ | ⟨r, a', rfl, a1, a2, a3⟩
    · rcases strip b hb with ⟨b1, b2⟩ | ⟨q, b', rfl, b1, b2, b3⟩
      · rw [a2, b2, if_pos rfl]
        exact diff_betw n (k + 1) a b (by omega) (e1 a a1) (e1 b b1)
      · have hq : valueOf (q :: b') k = q.2 := by rw [← b1]; exact valueOf_head
        rw [a2, hq, if_neg (by omega)]
        have hb2 : betw a (q :: b') = (q.1, -1, q.2) :: betw a b' := betw_right (by
          rcases hd a a1 with rfl | ⟨r, c, rfl, h⟩
          · exact .inl rfl
          · exact .inr ⟨r, c, rfl, by omega⟩)
        rw [hb2, b1, ← diff_betw n (k + 1) a b' (by omega) (e1 a a1) (e1 b' b2)]
        congr 1
        refine diff_congr n (k + 1) fun j h1 _ => ?_
        rw [valueOf_tail (r := q) (by omega)]
        exact ⟨Iff.rfl, fun _ => ⟨rfl, rfl⟩⟩
    · have hr : valueOf (r :: a') k = r.2 := by rw [← a1]; exact valueOf_head
      rcases strip b hb with ⟨b1, b2⟩ | ⟨q, b', rfl, b1, b2, b3⟩
      · rw [hr, b2, if_neg (by omega)]
        have hb2 : betw (r :: a') b = (r.1, r.2, -1) :: betw a' b := betw_left (by
          rcases hd b b1 with rfl | ⟨q, c, rfl, h⟩
          · exact .inl rfl
          · exact .inr ⟨q, c, rfl, by omega⟩)
        rw [hb2, a1, ← diff_betw n (k + 1) a' b (by omega) (e1 a' a2) (e1 b b1)]
        congr 1
        refine diff_congr n (k + 1) fun j h1 _ => ?_
        rw [valueOf_tail (r := r) (by omega)]
        exact ⟨Iff.rfl, fun _ => ⟨rfl, rfl⟩⟩
      · have hq : valueOf (q :: b') k = q.2 := by rw [← b1]; exact valueOf_head
        have hrest : diffFrom (valueOf (r :: a')) (valueOf (q :: b')) n (k + 1) = betw a' b' := by
          rw [← diff_betw n (k + 1) a' b' (by omega) (e1 a' a2) (e1 b' b2)]
          refine diff_congr n (k + 1) fun j h1 _ => ?_
          rw [valueOf_tail (r := r) (by omega), valueOf_tail (r := q) (by omega)]
          exact ⟨Iff.rfl, fun _ => ⟨rfl, rfl⟩⟩
        rw [hr, hq, hrest, betw_both (by omega), a1]
/-- Between is what differs. -/
theorem betw_diff {a b : List Row} (ha : riseB (-1) a = true) (hb : riseB (-1) b = true) : betw a b = diffL (valueOf a) (valueOf b) := (diff_betw 100 0 a b (by omega) ha hb).symm

theorem diff_fine (x y : Int → Int) (hx : ∀ k, -1 ≤ x k ∧ x k ≤ 996) (hy : ∀ k, -1 ≤ y k ∧ y k ≤ 996) : ∀ (n : Nat) (k : Int), k + n ≤ 100 → fineC (k - 1) (diffFrom x y n k) = true
  | 0, _, _ => rfl
  | n + 1, k, h => by
    have ih := diff_fine x y hx hy n (k + 1) (by omega)
    rw [show k + 1 - 1 = k by omega] at ih
    rw [diffFrom]
    by_cases he : x k = y k
    · rw [if_pos he]; exact fineC_weaken ih (by omega)
    · rw [if_neg he, fineC_cons]
      have a := hx k
      have b := hy k
      exact ⟨⟨by show k - 1 < k; omega, by show k ≤ 99; omega, by simp [valB]; omega, by simp [valB]; omega, he⟩, ih⟩
theorem diffL_fine {x y : Int → Int} (hx : ∀ k, -1 ≤ x k ∧ x k ≤ 996) (hy : ∀ k, -1 ≤ y k ∧ y k ≤ 996) : fineC (-1) (diffL x y) = true := diff_fine x y hx hy 100 0 (by omega)
theorem mem_diff {x y : Int → Int} {c : Change} : ∀ (n : Nat) (k : Int), c ∈ diffFrom x y n k ↔ (k ≤ c.1 ∧ c.1 < k + n ∧ c.2.1 = x c.1 ∧ c.2.2 = y c.1 ∧ x c.1 ≠ y c.1)
  | 0, k => by
    simp only [diffFrom, List.not_mem_nil, false_iff]
    rintro ⟨h1, h2, _⟩
    omega
  | n + 1, k => by
    have ih := mem_diff (x := x) (y := y) (c := c) n (k + 1)
    rw [diffFrom]
    by_cases he : x k = y k
    · rw [if_pos he, ih]
      constructor
      · rintro ⟨h1, h2, h3⟩; exact ⟨by omega, by omega, h3⟩
      · rintro ⟨h1, h2, h3, h4, h5⟩
        refine ⟨?_, by omega, h3, h4, h5⟩
        rcases Int.lt_or_eq_of_le h1 with h | h
        · omega
        · rw [← h] at h5; exact absurd he h5
    · rw [if_neg he, List.mem_cons, ih]
      constructor
      · rintro (rfl | ⟨h1, h2, h3⟩)
        · exact ⟨Int.le_refl _, by show k < k + _; omega, rfl, rfl, he⟩
        · exact ⟨by omega, by omega, h3⟩
      · rintro ⟨h1, h2, h3, h4, h5⟩
        rcases Int.lt_or_eq_of_le h1 with h | h
        · exact .inr ⟨by omega, by omega, h3, h4, h5⟩
        · left
          obtain ⟨c1, c2, c3⟩ := c
          simp only at h h3 h4
          subst h h3 h4
          rfl

/-! ### Patches -/
/-- Rows, with all changes done. -/
def setAll (l : List Row) (d : List Change) : List Row := d.foldl (fun m x => setL m x.1 x.2.2) l
theorem setAll_cons (l : List Row) (x : Change) (d : List Change) : setAll l (x :: d) = setAll (setL l x.1 x.2.2) d := rfl
theorem setAll_snoc (l : List Row) (d : List Change) (x : Change) : setAll l (d ++ [x]) = setL (setAll l d) x.1 x.2.2 := by simp [setAll]
theorem setAll_rise {last : Int} (h0 : -1 ≤ last) : ∀ {d : List Change} {l : List Row}, riseB (-1) l = true → fineC last d = true → riseB (-1) (setAll l d) = true
  | [], _, h, _ => h
  | x :: d, l, h, hd => by
    rw [fineC_cons] at hd
    have hv : -1 ≤ x.2.2 ∧ x.2.2 ≤ 996 := by have := hd.1.2.2.2.1; simpa [valB] using this
    show riseB (-1) (setAll (setL l x.1 x.2.2) d) = true
    exact setAll_rise (last := x.1) (by omega) (setL_rise h (by omega) hd.1.2.1 hv.1 hv.2) hd.2
theorem setAll_len (l : List Row) : ∀ (d : List Change), (setAll l d).length ≤ l.length + d.length := by
  intro d
  induction d generalizing l with
  | nil => exact Nat.le_refl _
  | cons x d ih =>
    have h1 := setL_len l x.1 x.2.2
    have h2 := ih (setL l x.1 x.2.2)
    rw [setAll_cons, List.length_cons]
    omega
/-- A key behind which no change is has what it had. -/
theorem setAll_other : ∀ {last : Int} {d : List Change} {l : List Row}, -1 ≤ last → riseB (-1) l = true → fineC last d = true → ∀ k, k ≤ last → valueOf (setAll l d) k = valueOf l k
  | _, [], _, _, _, _, _, _ => rfl
  | last, x :: d, l, h0, h, hd, k, hk => by
    rw [fineC_cons] at hd
    have hv : -1 ≤ x.2.2 ∧ x.2.2 ≤ 996 := by have := hd.1.2.2.2.1; simpa [valB] using this
    rw [setAll_cons, setAll_other (last := x.1) (by omega) (setL_rise h (by omega) hd.1.2.1 hv.1 hv.2) hd.2 k (by omega), setL_value h, if_neg (by omega)]
/-- What a key has behind all changes. -/
theorem setAll_value : ∀ {last : Int} {d : List Change} {l : List Row}, -1 ≤ last → riseB (-1) l = true → fineC last d = true → ∀ k, valueOf (setAll l d) k = match d.find? (fun x => decide (x.1 = k)) with | some x => x.2.2 | none => valueOf l k
  | _, [], _, _, _, _, _ => rfl
  | last, x :: d, l, h0, h, hd, k => by
    rw [fineC_cons] at hd
    have hv : -1 ≤ x.2.2 ∧ x.2.2 ≤ 996 := by have := hd.1.2.2.2.1; simpa [valB] using this
    have hs := setL_rise h (key := x.1) (val := x.2.2) (by omega) hd.1.2.1 hv.1 hv.2
    rw [setAll_cons, List.find?_cons]
    by_cases hk : x.1 = k
    · rw [setAll_other (last := x.1) (by omega) hs hd.2 k (by omega), setL_value h, if_pos hk.symm]
      simp [hk]
    · rw [setAll_value (last := x.1) (by omega) hs hd.2 k]
      simp only [hk, decide_false]
      cases d.find? (fun x => decide (x.1 = k)) with
      | some y => rfl
      | none => show valueOf (setL l x.1 x.2.2) k = valueOf l k; rw [setL_value h, if_neg (fun e => hk e.symm)]

/-- Do all changes speak of what is there? -/
def matchB (l : List Row) (d : List Change) : Bool := d.all fun x => decide (valueOf l x.1 = x.2.1)
/-- F1: Patch's and Back's answers. -/
def patchP (l : List Row) (d : List Change) : List Row × Int :=
  if rowsErr l = 0 then (if fineC (-1) d then (if matchB l d then (if 40 < (setAll l d).length then ([], 2) else (setAll l d, 0)) else ([], 7)) else ([], 1)) else ([], rowsErr l)
def swapC (x : Change) : Change := (x.1, x.2.2, x.2.1)
def backP (d : List Change) : List Change × Int := if fineC (-1) d then (d.map swapC, 0) else ([], 1)

end Go.Pch
end
