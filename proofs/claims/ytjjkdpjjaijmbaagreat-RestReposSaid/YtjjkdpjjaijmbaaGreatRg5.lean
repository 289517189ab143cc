/- The walks of a pen: Text; append of a text. The walks of names: strings.ContainsFunc at the program's predicate, repo.Name. The walks of repo.Check. -/
import Derived.Test.YtjjkdpjjaijmbaaGreatRg4
import Derived.Test.YtjjkdpjjaijmbaaGreatRg3
import Derived.Deep.LoopGhost
import Derived.Lib.OthersKept
import Derived.Lib.TrimU
section
namespace Go.Pch
open Go.RowKit Go.Proofs
set_option maxRecDepth 100000

theorem byteInfo : (Tryz.prog.info? 5).map (fun i => (i.zero, i.size, i.bytes)) = some (some (.int .u8 0), 1, 1) := by kernel_rfl
theorem strEach (w : World) (D : Blk) : ∀ l : Bytes, Each tByte w D (l.map fun b => [Value.int .u8 (b.toNat : Int)]) l
  | [] => Each.nil
  | b :: l => by
    have := (Each.one (E := tByte) (w := w) (D := D) [Value.int .u8 (b.toNat : Int)] b ⟨rfl, trivial⟩).app (strEach w D l)
    simpa using this
theorem flat_one {α β : Type} (f : α → β) : ∀ l : List α, (l.map fun b => [f b]).flatten = l.map f
  | [] => rfl
  | b :: l => by rw [List.map_cons, List.flatten_cons, flat_one f l]; rfl
/-- append of a text's bytes. -/
theorem Own.runS {w : World} {B : Nat} {C : Blk} {v : Value} {l : Bytes} (h : Own tByte 5 w B C v l) (s : ByteArray) (ty : TypeId) (hn : l.length + s.size ≤ 1000000000000) (hB : B ≤ w.heap.size) :
    ∃ v' w', (Builtin.append_ #[75, 9] ty #[v, .string s]).run Tryz.prog w = .ok v' w' ∧ Own tByte 5 w' B C v' (l ++ s.data.toList) ∧ w.grownBy w' v.ownBlock ∧ (v'.ownBlock = v.ownBlock ∨ v'.ownBlock = some w.heap.size) := by
  obtain ⟨q, i1, i2, i3, i4⟩ := info_parts byteInfo
  obtain ⟨xs, hr, hE⟩ := h
  have h63 : l.length + s.size ≤ maxLen := by unfold maxLen; omega
  have hs1 : tByte.size = 1 := rfl
  rw [hs1] at hr
  have hxl : xs.flatten.length = l.length := by simpa using hr.1
  obtain ⟨v', w', hrun, hown, hgrow, hnil⟩ := Lib.run_append_own_string (P := Tryz.prog) w B 75 9 ty 5 q Tryz.underlying75 Tryz.underlying9 i1 i2 i3 i4 v l.length xs.flatten hr s h63 (by omega) hB
  have hblk : v'.ownBlock = v.ownBlock ∨ v'.ownBlock = some w.heap.size := by
    rcases hr.2 with ⟨rfl, h0⟩ | ⟨g, cap, cur, rfl, hb, hg, h1, h2, h3, h4⟩
    · by_cases hm : s.size = 0
      · obtain rfl := hnil.2 ⟨rfl, hm⟩
        exact .inl rfl
      · have hr2 := run_append_nil_string (P := Tryz.prog) w 75 9 ty 5 q (.int .u8 0) Tryz.underlying75 Tryz.underlying9 i1 i2 s (by omega) (by unfold maxLen at h63; omega) (by rw [i4]; omega)
        rw [hrun] at hr2
        simp only [Result.ok.injEq] at hr2
        rw [hr2.1]
        exact .inr rfl
    · by_cases hroom : l.length + s.size ≤ cap
      · have hr2 := Lib.run_append_room_string (P := Tryz.prog) w 75 9 ty 5 q Tryz.underlying75 Tryz.underlying9 i1 i3 g l.length cap cur hg s hroom (by omega)
        rw [hrun] at hr2
        simp only [Result.ok.injEq] at hr2
        rw [hr2.1]
        exact .inl rfl
      · have holds := hr.cells (g := g) rfl
        have hr2 := Lib.run_append_grow_string (P := Tryz.prog) w 75 9 ty 5 q (.int .u8 0) Tryz.underlying75 Tryz.underlying9 i1 i2 ⟨g, 0, none⟩ l.length cap xs.flatten (by rw [i3]; omega) holds s (by omega) (by unfold maxLen at h63; omega) (by rw [i4]; exact growslice_fits (by omega) (by omega))
        rw [hrun] at hr2
        simp only [Result.ok.injEq] at hr2
        rw [hr2.1]
        exact .inr rfl
  refine ⟨v', w', hrun, ⟨xs ++ s.data.toList.map fun b => [Value.int .u8 (b.toNat : Int)], ?_, ?_⟩, hgrow, hblk⟩
  · have e1 : (xs ++ s.data.toList.map fun b => [Value.int .u8 (b.toNat : Int)]).flatten = xs.flatten ++ Lib.strCells s := by
      rw [List.flatten_append]
      congr 1
      exact flat_one _ _
    rw [e1, List.length_append, show s.data.toList.length = s.size from Array.length_toList]
    exact hown
  · have hE' : Each tByte w' (fun k => C k ∧ some k ≠ v'.ownBlock) xs l := ⟨hE.1, fun i cs a hc ha => hE.2 i cs a hc ha⟩
    exact hE'.app (strEach w' _ s.data.toList)

/-- One number for a pen: Put, handed a row of one that has just been laid. -/
theorem penOne (pb B : Nat) (vl : Value) (n : Int) (w W : World) (v : Value) (bs : Bytes) (bad : Bool) (hp : PenAt w B pb v bs bad) (hb : Below w.heap.size w W) (hs : Sl tInt W (fun k => w.heap.size ≤ k) vl [n]) (hbs : bs.length ≤ 1000000000) :
    Calls Tryz.prog 36 #[.pointer (some ⟨pb, 0, none⟩), .int .i64 1, vl] W fun e w' => e = .returned (.tuple #[]) ∧ ∃ v', PenAt w' B pb v' (bs ++ enc1 n) (bad || outN 1 n) ∧ PenOn pb v v' w w' := by
  have hS : ∀ k, w.heap.size ≤ k → ¬ penX pb v k := by
    intro k hk hx
    have := hp.lt
    rcases hx with rfl | hx
    · omega
    · have := (hp.own.block k hx).2; omega
  refine (penPut1 pb B vl [n] _ W v bs bad (hp.call hb) hs hS (by simp) hbs).mono ?_
  rintro e w' ⟨rfl, v', h1, h2⟩
  exact ⟨rfl, v', by simpa using h1, PenOn.trans (v' := v) ⟨Step.of_below hb, fun g hg => .inl hg⟩ h2⟩
theorem penTwo (pb B : Nat) (vl : Value) (n : Int) (w W : World) (v : Value) (bs : Bytes) (bad : Bool) (hp : PenAt w B pb v bs bad) (hb : Below w.heap.size w W) (hs : Sl tInt W (fun k => w.heap.size ≤ k) vl [n]) (hbs : bs.length ≤ 1000000000) :
    Calls Tryz.prog 36 #[.pointer (some ⟨pb, 0, none⟩), .int .i64 2, vl] W fun e w' => e = .returned (.tuple #[]) ∧ ∃ v', PenAt w' B pb v' (bs ++ enc2 n) (bad || outN 2 n) ∧ PenOn pb v v' w w' := by
  have hS : ∀ k, w.heap.size ≤ k → ¬ penX pb v k := by
    intro k hk hx
    have := hp.lt
    rcases hx with rfl | hx
    · omega
    · have := (hp.own.block k hx).2; omega
  refine (penPut2 pb B vl [n] _ W v bs bad (hp.call hb) hs hS (by simp) hbs).mono ?_
  rintro e w' ⟨rfl, v', h1, h2⟩
  exact ⟨rfl, v', by simpa using h1, PenOn.trans (v' := v) ⟨Step.of_below hb, fun g hg => .inl hg⟩ h2⟩
/-- A row of one number, just laid. -/
theorem litOne (w : World) (n : Int) (hn : i64ok n) : Sl tInt (w.alloc (.cells #[.int .i64 n] 3)) (fun k => w.heap.size ≤ k) (.slice (some ⟨w.heap.size, 0, none⟩) 1 1) [n] :=
  (Own.lit (E := tInt) (e := 3) (B := w.heap.size) (C := fun _ => False) (Each.one _ _ ⟨rfl, hn⟩) rfl (by simp [maxLen]) (Nat.le_refl _)).sl (fun _ h => h.elim) (fun _ h => h)

theorem litOneAt (w : World) (n : Int) (hn : i64ok n) (k : Nat) (hk : k = w.heap.size) : Sl tInt (w.alloc (.cells #[.int .i64 n] 3)) (fun k => w.heap.size ≤ k) (.slice (some ⟨k, 0, none⟩) 1 1) [n] := by
  subst hk
  exact litOne w n hn

theorem penOneL (pb B : Nat) (n : Int) (w : World) (k : Nat) (hk : k = w.heap.size) (v : Value) (bs : Bytes) (bad : Bool) (hp : PenAt w B pb v bs bad) (hn : i64ok n) (hbs : bs.length ≤ 1000000000) :
    Calls Tryz.prog 36 #[.pointer (some ⟨pb, 0, none⟩), .int .i64 1, .slice (some ⟨k, 0, none⟩) 1 1] (w.alloc (.cells #[.int .i64 n] 3)) fun e w' => e = .returned (.tuple #[]) ∧ ∃ v', PenAt w' B pb v' (bs ++ enc1 n) (bad || outN 1 n) ∧ PenOn pb v v' w w' :=
  penOne pb B _ n w _ v bs bad hp ((Below.refl _ _).alloc (Nat.le_refl _) _) (litOneAt w n hn k hk) hbs
theorem penTwoL (pb B : Nat) (n : Int) (w : World) (k : Nat) (hk : k = w.heap.size) (v : Value) (bs : Bytes) (bad : Bool) (hp : PenAt w B pb v bs bad) (hn : i64ok n) (hbs : bs.length ≤ 1000000000) :
    Calls Tryz.prog 36 #[.pointer (some ⟨pb, 0, none⟩), .int .i64 2, .slice (some ⟨k, 0, none⟩) 1 1] (w.alloc (.cells #[.int .i64 n] 3)) fun e w' => e = .returned (.tuple #[]) ∧ ∃ v', PenAt w' B pb v' (bs ++ enc2 n) (bad || outN 2 n) ∧ PenOn pb v v' w w' :=
  penTwo pb B _ n w _ v bs bad hp ((Below.refl _ _).alloc (Nat.le_refl _) _) (litOneAt w n hn k hk) hbs
theorem PenOn.cell {pb : Nat} {v v' : Value} {w w' : World} (h : PenOn pb v v' w w') {p : Addr} (hp : p.block < w.heap.size) (hx : ¬ penX pb v p.block) : w'.cell? p = w.cell? p := h.1.cell hp hx
theorem PenAt.notNew {w : World} {B pb : Nat} {v : Value} {bs : Bytes} {bad : Bool} (h : PenAt w B pb v bs bad) {k : Nat} (hk : w.heap.size ≤ k) : ¬ penX pb v k := by
  intro hx
  have := h.lt
  rcases hx with rfl | hx
  · omega
  · have := (h.own.block k hx).2; omega
theorem PenAt.notOld {w : World} {B pb : Nat} {v : Value} {bs : Bytes} {bad : Bool} (h : PenAt w B pb v bs bad) {k : Nat} (hk : k < B) : ¬ penX pb v k := by
  intro hx
  have := h.low
  rcases hx with rfl | hx
  · omega
  · have := (h.own.block k hx).1; omega
theorem PenOn.alloc {pb : Nat} {v v' : Value} {w w' : World} (h : PenOn pb v v' w w') (o : Obj) : PenOn pb v v' w (w'.alloc o) :=
  h.trans ⟨Step.of_below ((Below.refl _ _).alloc (Nat.le_refl _) _), fun _ h => .inl h⟩
/-- Bytes as a text. -/
theorem Own.text {w : World} {B : Nat} {v : Value} {bs : Bytes} (h : Own tByte 5 w B (fun _ => False) v bs) (h0 : 0 < bs.length) : (convert 75 9 v).run Tryz.prog w = .ok (.string (bl bs)) w := by
  have hs := h.sl (D := fun _ => True) (fun _ h => h.elim) (fun _ _ => trivial)
  obtain ⟨ao, cap, rfl, _, _, _⟩ := hs.shape
  obtain ⟨b, o, cs, rfl, _, _, _, _⟩ := hs.get 0 bs[0] (List.getElem?_eq_getElem h0)
  have := run_convert_bytes_back (P := Tryz.prog) w 75 9 5 ⟨b, o, none⟩ cap bs Tryz.underlying75 Tryz.underlying5 Tryz.underlying9 (fun j hj => by
    obtain ⟨b', o', cs', hbo, _, _, hrd, hc⟩ := hs.get j bs[j] (List.getElem?_eq_getElem hj)
    simp only [Option.some.injEq, Addr.mk.injEq] at hbo
    obtain ⟨rfl, rfl, _⟩ := hbo
    obtain ⟨rfl, _⟩ := hrd
    have := hc 0 _ rfl
    rw [Addr.add_lit]
    simpa [tByte, Ty.flat] using this)
  exact this

theorem PenAt.text {w : World} {B pb : Nat} {v : Value} {bs : Bytes} {bad : Bool} (h : PenAt w B pb v bs bad) (h0 : 0 < bs.length) : (convert 75 9 v).run Tryz.prog w = .ok (.string (bl bs)) w := h.own.text h0

set_option maxHeartbeats 2000000 in
theorem penText (pb B : Nat) (s : ByteArray) (w : World) (v : Value) (bs : Bytes) (bad : Bool) (hp : PenAt w B pb v bs bad) (hbs : bs.length ≤ 900000000) (hs : s.size ≤ 100000000000) :
    Calls Tryz.prog 37 #[.pointer (some ⟨pb, 0, none⟩), .string s] w fun e w' => e = .returned (.tuple #[]) ∧ ∃ v', PenAt w' B pb v' (bs ++ enc1 s.size ++ s.data.toList) (bad || outN 1 s.size) ∧ PenOn pb v v' w w' := by
  have hok : i64ok (s.size : Int) := by unfold i64ok; omega
  have hlit := litOne w (s.size : Int) hok
  have hb0 := (Below.refl w.heap.size w).alloc (Nat.le_refl _) (.cells #[.int .i64 (s.size : Int)] 3)
  go_enter Tryz.func37, Tryz.ntmps37
  go_wp2_with fail
  refine (penOne pb B _ _ w _ v bs bad hp hb0 hlit (by omega)).mono ?_; rintro e w1 ⟨rfl, v1, hp1, hon1⟩
  have q0 := hp1.cell0
  have qf := hp1.free 0
  obtain ⟨v2, w2, hrun, ho2, hg2, hn2⟩ := hp1.own.runS s 75 (by simp [enc1]; omega) (Nat.le_trans hp1.low (Nat.le_of_lt hp1.lt))
  obtain ⟨a2, c2, rfl, _, _⟩ := ho2.shape
  generalize (bs ++ enc1 ↑s.size ++ s.data.toList).length = L at *
  have hr2 : w2.heap[pb]? = some (.cells #[v1, .bool (bad || outN 1 s.size)] 77) := (hg2.block pb hp1.lt fun e => hp1.apart e.symm).trans hp1.row
  have r0 : w2.cell? ⟨pb, 0, none⟩ = some v1 := by rw [World.cell?, hr2]; rfl
  have rf := frozen_of_row w2 pb 0 _ _ hr2
  have hpn := hp1.setB ho2 hg2
  have honn := hon1.setB hg2 (fun g hg => by
    rcases hn2 with h | h
    · exact .inl (h ▸ hg)
    · rw [h] at hg; exact .inr (Nat.le_of_eq (Option.some.inj hg))) (.slice a2 L c2)
  clear hr2
  go_wp2_with (at_builtin; refine Lib.wpList_append_run _ rfl _ _ _ _ rfl _ _ rfl rfl _ _ hrun ?_)
  go_end0
  exact ⟨rfl, _, hpn, honn⟩

end Go.Pch
end

section
namespace Go.Pch
open Go.RowKit Go.Proofs
set_option maxRecDepth 100000

/-- A byte that is no letter opens a rune that is none. -/
theorem decodeN_high (n b0 b1 b2 b3 : Nat) (h0 : 128 ≤ b0) : 128 ≤ (Lib.decodeN n b0 b1 b2 b3).1 := by
  unfold Lib.decodeN
  repeat' split
  all_goals (simp only; omega)
theorem rune_out (s : ByteArray) (pos : Nat) (h : pos < s.size) (hb : letB (s[pos]'h) = false) : (Utf8.decode s pos).1 < 97 ∨ 122 < (Utf8.decode s pos).1 := by
  by_cases ha : (s[pos]'h).toNat < 128
  · rw [decode_ascii s pos h ha]
    simp [letB] at hb
    by_cases h1 : (s[pos]'h).toNat < 97
    · exact .inl h1
    · exact .inr (hb (by omega))
  · refine .inr ?_
    rw [Lib.decode_at]
    have := decodeN_high (s.size - pos) (s.get! pos).toNat (s.get! (pos + 1)).toNat (s.get! (pos + 2)).toNat (s.get! (pos + 3)).toNat (by
      have e : s.get! pos = s[pos]'h := by
        cases s with
        | mk d =>
          have hd : pos < d.size := h
          simp [ByteArray.get!, hd]
          rfl
      rw [e]; omega)
    omega
theorem rune_in (s : ByteArray) (pos : Nat) (h : pos < s.size) (hb : letB (s[pos]'h) = true) : Utf8.decode s pos = ((s[pos]'h).toNat, 1) ∧ 97 ≤ (s[pos]'h).toNat ∧ (s[pos]'h).toNat ≤ 122 := by
  simp [letB] at hb
  exact ⟨decode_ascii s pos h (by omega), hb.1, hb.2⟩
theorem letters_next {s : ByteArray} {pos : Nat} (h : pos < s.size) (hl : (s.toList.take pos).all letB = true) (hb : letB (s[pos]'h) = true) : (s.toList.take (pos + 1)).all letB = true := by
  rw [ByteArray.toList_eq] at *
  have hp : pos < s.data.toList.length := by simpa using h
  rw [List.take_add_one, List.getElem?_eq_getElem hp, List.all_append, hl]
  have hb' : letB (s.data[pos]'h) = true := hb
  simpa using hb'
theorem letters_not {s : ByteArray} {pos : Nat} (h : pos < s.size) (hb : letB (s[pos]'h) = false) : s.toList.all letB = false := by
  rw [ByteArray.toList_eq]
  have hp : pos < s.data.toList.length := by simpa using h
  rw [List.all_eq_false]
  have hb' : letB (s.data[pos]'h) = false := hb
  exact ⟨s.data.toList[pos], List.getElem_mem hp, by simpa using hb'⟩
theorem letters_all {s : ByteArray} {pos : Nat} (h : ¬ pos < s.size) (hl : (s.toList.take pos).all letB = true) : s.toList.all letB = true := by
  rw [List.take_of_length_le] at hl
  · exact hl
  · rw [ByteArray.toList_eq]; simp; have : s.data.size = s.size := rfl; omega

theorem nameRune (R : Nat) (w : World) : Calls Tryz.prog 79 #[.int .i32 R] w fun e w' => e = .returned (.bool (decide (R < 97) || decide (122 < R))) ∧ w = w' := by
  by_cases h1 : R < 97 <;> by_cases h2 : 122 < R
  all_goals
    have z1 : (R : Int) < 97 ↔ R < 97 := by omega
    have z2 : (122 : Int) < R ↔ 122 < R := by omega
    go_enter Tryz.func79, Tryz.ntmps79
    go_wp2
    all_goals first | (exfalso; omega) | (go_ret; exact ⟨by simp [h1, h2], rfl⟩)
theorem nameRune_of {c : Bool} (R : Nat) (w : World) (h : (decide (R < 97) || decide (122 < R)) = c) : Calls Tryz.prog 79 #[.int .i32 R] w fun e w' => e = .returned (.bool c) ∧ w = w' := h ▸ nameRune R w

set_option maxHeartbeats 2000000 in
theorem nameIndex (s : ByteArray) (w : World) :
    Calls Tryz.prog 128 #[.string s, .func (.func 79) #[] #[], .bool true] w (Ret w fun r _ => ∃ i : Int, r = .int .i64 i ∧ decide (0 ≤ i) = !(s.toList.all letB)) := by
  go_enter Tryz.func128, Tryz.ntmps128
  go_wp2
  go_loopg [] s.size (fun gf wx => ∃ pos : Nat, wx.heap[w.heap.size]? = some (.stringIter s pos) ∧ Below w.heap.size w wx ∧ Hid ((s.toList.take pos).all letB = true) ∧ s.size ≤ pos + gf)
  case atStart => exact ⟨0, World.iter_heap w s 0, (Below.refl _ w).alloc (Nat.le_refl _) _, keepBack (by simp), by omega⟩
  case round =>
    obtain ⟨pos, hit, hbw, HL, hfu⟩ := hrel
    by_cases hps : pos < s.size
    · obtain ⟨g', rfl⟩ : ∃ g', gk = g' + 1 := ⟨gk - 1, by omega⟩
      have hnx : ∀ ty, (Instr.next (.pointer (some ⟨w.heap.size, 0, none⟩)) true ty).run Tryz.prog wr = _ := fun ty => Lib.run_next_any_at wr w.heap.size s pos ty hit hps
      cases hb : letB (s[pos]'hps) with
      | true =>
        obtain ⟨e1, e2, e3⟩ := rune_in s pos hps hb
        rw [e1] at hnx
        have HN := keepBack (letters_next hps HL.out hb)
        have hit2 := Lib.iterAt_heap wr w.heap.size s pos (pos + 1) hit
        have hbw2 := Lib.below_iterAt hbw (k := w.heap.size) (Nat.le_refl _) s (pos + 1)
        obtain ⟨W, hWd⟩ : ∃ W, wr.iterAt w.heap.size s (pos + 1) = W := ⟨_, rfl⟩
        simp only [hWd] at hnx hit2 hbw2
        generalize (s[pos]'hps).toNat = R at *
        clear hb e1 hWd
        have cS := nameRune_of (c := false) R W (by simp; omega)
        go_wp2_with (go_at_call 79; refine cS.mono ?_; rintro e W' ⟨rfl, rfl⟩)
        go_roundg g'
        case measure => omega
        case rel => exact ⟨pos + 1, hit2, hbw2, HN, by omega⟩
      | false =>
        have HN := keepBack (letters_not hps hb)
        have ho := rune_out s pos hps hb
        have hbw2 := Lib.below_iterAt hbw (k := w.heap.size) (Nat.le_refl _) s (pos + (Utf8.decode s pos).2)
        obtain ⟨W, hWd⟩ : ∃ W, wr.iterAt w.heap.size s (pos + (Utf8.decode s pos).2) = W := ⟨_, rfl⟩
        rw [hWd] at hbw2
        simp only [hWd] at hnx
        generalize (Utf8.decode s pos).1 = R at *
        clear hb hWd
        have cS := nameRune_of (c := true) R W (by simp; omega)
        go_wp2_with (go_at_call 79; refine cS.mono ?_; rintro e W' ⟨rfl, rfl⟩)
        go_ret
        exact ⟨_, rfl, ⟨_, rfl, by rw [HN.out]; simp⟩, hbw2⟩
    · have hnx : ∀ ty, (Instr.next (.pointer (some ⟨w.heap.size, 0, none⟩)) true ty).run Tryz.prog wr = _ := fun ty => Lib.run_next_end_at wr w.heap.size s pos ty hit hps
      have HN := keepBack (letters_all hps HL.out)
      go_wp2
      go_ret
      exact ⟨_, rfl, ⟨_, rfl, by rw [HN.out]; rfl⟩, hbw⟩

theorem nameIndexF (s : ByteArray) (w : World) :
    Calls Tryz.prog 104 #[.string s, .func (.func 79) #[] #[]] w (Ret w fun r _ => ∃ i : Int, r = .int .i64 i ∧ decide (0 ≤ i) = !(s.toList.all letB)) := by
  go_enter Tryz.func104, Tryz.ntmps104
  go_wp2_with fail
  refine (nameIndex s w).mono ?_; rintro e w1 ⟨_, rfl, ⟨i, rfl, hi⟩, b1⟩
  go_wp2
  go_ret
  exact ⟨_, rfl, ⟨_, rfl, hi⟩, b1⟩
theorem nameContains (s : ByteArray) (w : World) :
    Calls Tryz.prog 78 #[.string s, .func (.func 79) #[] #[]] w (Ret w fun r _ => r = .bool (!(s.toList.all letB))) := by
  go_enter Tryz.func78, Tryz.ntmps78
  go_wp2_with fail
  refine (nameIndexF s w).mono ?_; rintro e w1 ⟨_, rfl, ⟨i, rfl, hi⟩, b1⟩
  go_wp2
  go_ret
  exact ⟨_, rfl, by rw [← hi]; rfl, b1⟩
theorem nameContains_of {c : Bool} (s : ByteArray) (w : World) (h : s.toList.all letB = c) :
    Calls Tryz.prog 78 #[.string s, .func (.func 79) #[] #[]] w (Ret w fun r _ => r = .bool (!c)) := h ▸ nameContains s w

theorem repoName (s : ByteArray) (w : World) : Calls Tryz.prog 45 #[.string s] w (Ret w fun r _ => r = .bool (nameB s)) := by
  by_cases h1 : 1 ≤ s.size
  · by_cases h2 : s.size ≤ 8
    · cases hc : s.toList.all letB with
      | true =>
        have HN := keepBack (show nameB s = true by simp [nameB, h1, h2, hc])
        go_enter Tryz.func45, Tryz.ntmps45
        go_wp2_with (go_at_call 78; refine (nameContains_of s w hc).mono ?_; rintro e w1 ⟨_, rfl, rfl, b1⟩)
        go_ret
        exact ⟨_, rfl, by rw [HN.out]; rfl, b1⟩
      | false =>
        have HN := keepBack (show nameB s = false by simp [nameB, hc])
        go_enter Tryz.func45, Tryz.ntmps45
        go_wp2_with (go_at_call 78; refine (nameContains_of s w hc).mono ?_; rintro e w1 ⟨_, rfl, rfl, b1⟩)
        go_ret
        exact ⟨_, rfl, by rw [HN.out]; rfl, b1⟩
    · have HN := keepBack (show nameB s = false by simp [nameB, h2])
      go_enter Tryz.func45, Tryz.ntmps45
      go_wp2_with fail
      go_ret
      exact ⟨_, rfl, by rw [HN.out]; rfl, Below.refl _ _⟩
  · have HN := keepBack (show nameB s = false by simp [nameB, h1])
    go_enter Tryz.func45, Tryz.ntmps45
    go_wp2_with fail
    go_ret
    exact ⟨_, rfl, by rw [HN.out]; rfl, Below.refl _ _⟩

end Go.Pch
end

section
namespace Go.Pch
open Go.RowKit Go.Proofs
set_option maxRecDepth 100000

theorem check1 (s : ByteArray) (n : Int) (w : World) : Calls Tryz.prog 111 #[.agg #[.string s, .int .i64 n]] w (Ret w fun r _ => r = .bool (!nameB s)) := by
  go_enter Tryz.func111, Tryz.ntmps111
  go_wp2_with fail
  refine (repoName s _).mono ?_; rintro e w1 ⟨_, rfl, rfl, b1⟩
  go_wp2
  go_ret
  exact ⟨_, rfl, rfl, ((Below.refl _ _).alloc (Nat.le_refl _) _).trans (b1.mono (by simp))⟩
theorem check1_of {c : Bool} (s : ByteArray) (n : Int) (w : World) (h : nameB s = c) : Calls Tryz.prog 111 #[.agg #[.string s, .int .i64 n]] w (Ret w fun r _ => r = .bool (!c)) := h ▸ check1 s n w

set_option maxHeartbeats 1000000 in
theorem headsIndex (v : Value) (hs : List Head) (S : Blk) (w : World) (h : Sl tHead w S v hs) :
    Calls Tryz.prog 132 #[v, .func (.func 111) #[] #[]] w (Ret w fun r _ => ∃ i : Int, r = .int .i64 i ∧ decide (0 ≤ i) = hs.any fun h => !nameB h.1) := by
  have hv := h.old
  obtain ⟨ao, cap, rfl, hcap, hmax, hnil⟩ := h.shape
  unfold maxLen at hmax
  go_enter Tryz.func132, Tryz.ntmps132
  go_wp2_with fail
  go_loopw [8] (fun i wr => ∃ (k : Nat), k ≤ hs.length ∧ i = .int .i64 k ∧ Below w.heap.size w wr ∧ Hid (((hs.take k).any fun h => !nameB h.1) = false)) (fun i _ => hs.length - (intOf i).toNat)
  case atStart => exact ⟨0, Nat.zero_le _, rfl, Below.refl _ _, keepBack rfl⟩
  case round =>
    obtain ⟨k, hk, rfl, hb, HA⟩ := hrel
    have hs' := hb.size
    by_cases hlt : k < hs.length
    · obtain ⟨x, hx⟩ : ∃ x, hs[k]? = some x := ⟨hs[k], List.getElem?_eq_getElem hlt⟩
      obtain ⟨b, o, hix, _, hbs, ok1, ok2, hc00, hc10⟩ := hv.idxHeadAt aHead k k x rfl hx
      have hc0 := (hb.cell (p := ⟨b, o, none⟩) hbs).trans hc00
      have hc1 := (hb.cell (p := ⟨b, o + 1, none⟩) hbs).trans hc10
      clear hc00 hc10
      have HX := keepBack hx
      clear hx
      cases hn : nameB x.1 with
      | true =>
        have HA2 : Hid (((hs.take (k + 1)).any fun h => !nameB h.1) = false) := keepBack (by rw [List.take_add_one, HX.out, List.any_append, HA.out]; simp [hn])
        go_wp2_with (go_at_call 111; refine (check1_of x.1 x.2 wr hn).mono ?_; rintro e w1 ⟨_, rfl, rfl, b1⟩)
        go_roundw
        case rel => exact ⟨k + 1, by omega, by go_num, hb.trans (b1.mono hs'), HA2⟩
        case measure => simp [intOf]; omega
      | false =>
        have HR : Hid ((hs.any fun h => !nameB h.1) = true) := keepBack (by rw [List.any_eq_true]; exact ⟨x, List.mem_of_getElem? HX.out, by simp [hn]⟩)
        go_wp2_with (go_at_call 111; refine (check1_of x.1 x.2 wr hn).mono ?_; rintro e w1 ⟨_, rfl, rfl, b1⟩)
        go_ret
        exact ⟨_, rfl, ⟨_, rfl, by rw [HR.out]; simp⟩, hb.trans (b1.mono hs')⟩
    · have HR : Hid ((hs.any fun h => !nameB h.1) = false) := keepBack (by have := HA.out; rwa [List.take_of_length_le (by omega)] at this)
      go_wp2
      go_ret
      exact ⟨_, rfl, ⟨_, rfl, by rw [HR.out]; rfl⟩, hb⟩
theorem headsContains (v : Value) (hs : List Head) (S : Blk) (w : World) (h : Sl tHead w S v hs) :
    Calls Tryz.prog 110 #[v, .func (.func 111) #[] #[]] w (Ret w fun r _ => r = .bool (hs.any fun h => !nameB h.1)) := by
  go_enter Tryz.func110, Tryz.ntmps110
  go_wp2_with fail
  refine (headsIndex v hs S w h).mono ?_; rintro e w1 ⟨_, rfl, ⟨i, rfl, hi⟩, b1⟩
  go_wp2
  go_ret
  exact ⟨_, rfl, by rw [← hi]; rfl, b1⟩
theorem headsContains_of {c : Bool} (v : Value) (hs : List Head) (S : Blk) (w : World) (h : Sl tHead w S v hs) (hc : (hs.any fun h => !nameB h.1) = c) :
    Calls Tryz.prog 110 #[v, .func (.func 111) #[] #[]] w (Ret w fun r _ => r = .bool c) := hc ▸ headsContains v hs S w h

theorem headsRise_go {n : Nat} {last : List UInt8} {hs : List Head} {k : Nat} {x : Head} (hx : hs[k]? = some x) (h : (Op.bytesLess last x.1.toList && (decide (0 ≤ x.2) && decide (x.2 < n))) = true) : headsRise n last (hs.drop k) = headsRise n x.1.toList (hs.drop (k + 1)) := by
  obtain ⟨hk, rfl⟩ := List.getElem?_eq_some_iff.1 hx
  rw [List.drop_eq_getElem_cons hk, headsRise, h, Bool.true_and]
theorem headsRise_stop {n : Nat} {last : List UInt8} {hs : List Head} {k : Nat} {x : Head} (hx : hs[k]? = some x) (h : (Op.bytesLess last x.1.toList && (decide (0 ≤ x.2) && decide (x.2 < n))) = false) : headsRise n last (hs.drop k) = false := by
  obtain ⟨hk, rfl⟩ := List.getElem?_eq_some_iff.1 hx
  rw [List.drop_eq_getElem_cons hk, headsRise, h, Bool.false_and]
theorem headsRise_end {n : Nat} {last : List UInt8} {hs : List Head} {k : Nat} (hk : ¬ k < hs.length) : headsRise n last (hs.drop k) = true := by
  rw [List.drop_of_length_le (by omega), headsRise]
theorem repoErr_dag {r : Repo} (h : commitsErr r.1 ≠ 0) : repoErr r = commitsErr r.1 := by rw [repoErr, if_pos h]
theorem repoErr_many {r : Repo} (h : commitsErr r.1 = 0) (h1 : 4 < r.2.length) : repoErr r = 2 := by rw [repoErr, if_neg (by simp [h]), if_pos h1]
theorem repoErr_name {r : Repo} (h : commitsErr r.1 = 0) (h1 : ¬ 4 < r.2.length) (h2 : (r.2.any fun h => !nameB h.1) = true) : repoErr r = 4 := by rw [repoErr, if_neg (by simp [h]), if_neg h1, if_pos h2]
theorem repoErr_form {r : Repo} (h : commitsErr r.1 = 0) (h1 : ¬ 4 < r.2.length) (h2 : (r.2.any fun h => !nameB h.1) = false) {c : Bool} (h3 : headsRise r.1.length [] r.2 = c) : repoErr r = if c = true then 0 else 1 := by rw [repoErr, if_neg (by simp [h]), if_neg h1, if_neg (by simp [h2]), h3]

set_option maxHeartbeats 4000000 in
theorem repoCheck (v : Value) (r : Repo) (S : Blk) (w : World) (h : Rp w S v r) : Calls Tryz.prog 95 #[v] w (Ret w fun x _ => x = .int .i64 (repoErr r)) := by
  obtain ⟨cs, hs⟩ := r
  obtain ⟨vc, vh, rfl, hc, hh⟩ := h
  obtain ⟨ac, cc, rfl, _, _, _⟩ := hc.shape
  obtain ⟨ah, ch, rfl, _, _, _⟩ := hh.shape
  simp only at hc hh
  obtain ⟨wA, hwA⟩ : ∃ wA, wA = w.alloc (.cells #[.slice ac cs.length cc, .slice ah hs.length ch] 25) := ⟨_, rfl⟩
  have bA : Below w.heap.size w wA := by rw [hwA]; exact (Below.refl _ _).alloc (Nat.le_refl _) _
  have sA : wA.heap.size = w.heap.size + 1 := by rw [hwA]; simp
  have k0 : wA.cell? ⟨w.heap.size, 0, none⟩ = some (.slice ac cs.length cc) := by rw [hwA]; simp
  have k1 : wA.cell? ⟨w.heap.size, 1, none⟩ = some (.slice ah hs.length ch) := by rw [hwA]; simp
  have HWA := keepBack hwA
  clear hwA
  by_cases hd : commitsErr cs = 0
  · by_cases hm : 4 < hs.length
    · have HP := keepBack (repoErr_many (r := (cs, hs)) hd hm)
      have hq : (4 : Int) < hs.length := by omega
      go_enter Tryz.func95, Tryz.ntmps95
      go_wp2_with fail
      rw [← HWA.out]
      refine (dagCheck_of _ cs _ wA (hc.call bA) hd).mono ?_; rintro e w1 ⟨_, rfl, rfl, b1⟩
      have r0 := (b1.cell (p := ⟨w.heap.size, 0, none⟩) (by simp; omega)).trans k0
      have r1 := (b1.cell (p := ⟨w.heap.size, 1, none⟩) (by simp; omega)).trans k1
      go_wp2_with fail
      go_ret
      exact ⟨_, rfl, by rw [HP.out]; rfl, bA.trans (b1.mono (by omega))⟩
    · have hq : ¬ (4 : Int) < hs.length := by omega
      cases hn : hs.any fun h => !nameB h.1 with
      | true =>
        have HP := keepBack (repoErr_name (r := (cs, hs)) hd hm hn)
        go_enter Tryz.func95, Tryz.ntmps95
        go_wp2_with fail
        rw [← HWA.out]
        refine (dagCheck_of _ cs _ wA (hc.call bA) hd).mono ?_; rintro e w1 ⟨_, rfl, rfl, b1⟩
        have s1 := b1.size
        have r0 := (b1.cell (p := ⟨w.heap.size, 0, none⟩) (by simp; omega)).trans k0
        have r1 := (b1.cell (p := ⟨w.heap.size, 1, none⟩) (by simp; omega)).trans k1
        go_wp2_with fail
        refine (headsContains_of _ hs _ w1 ((hh.call bA).call b1) hn).mono ?_; rintro e w2 ⟨_, rfl, rfl, b2⟩
        go_wp2_with fail
        go_ret
        exact ⟨_, rfl, by rw [HP.out]; rfl, (bA.trans (b1.mono (by omega))).trans (b2.mono (by omega))⟩
      | false =>
        have HP := fun c => @repoErr_form (cs, hs) hd hm hn c
        have HPK := keepBack HP
        clear HP
        go_enter Tryz.func95, Tryz.ntmps95
        go_wp2_with fail
        rw [← HWA.out]
        refine (dagCheck_of _ cs _ wA (hc.call bA) hd).mono ?_; rintro e w1 ⟨_, rfl, rfl, b1⟩
        have s1 := b1.size
        have r0 := (b1.cell (p := ⟨w.heap.size, 0, none⟩) (by simp; omega)).trans k0
        have r1 := (b1.cell (p := ⟨w.heap.size, 1, none⟩) (by simp; omega)).trans k1
        go_wp2_with fail
        refine (headsContains_of _ hs _ w1 ((hh.call bA).call b1) hn).mono ?_; rintro e w2 ⟨_, rfl, rfl, b2⟩
        have b02 := (bA.trans (b1.mono (by omega))).trans (b2.mono (by omega))
        have s2 := b2.size
        have q0 := (b2.cell (p := ⟨w.heap.size, 0, none⟩) (by simp; omega)).trans r0
        have q1 := (b2.cell (p := ⟨w.heap.size, 1, none⟩) (by simp; omega)).trans r1
        have hh2 := (((hh.call bA).call b1).call b2).old
        clear r0 r1 k0 k1
        go_wp2_with fail
        go_loopw [4, 23] (fun ls i wr => ∃ (k : Nat) (l : ByteArray), k ≤ hs.length ∧ i = .int .i64 k ∧ ls = .string l ∧ Below w2.heap.size w2 wr ∧ Hid (headsRise cs.length [] hs = headsRise cs.length l.toList (hs.drop k))) (fun _ i _ => hs.length - (intOf i).toNat)
        case atStart => exact ⟨0, _, Nat.zero_le _, rfl, rfl, Below.refl _ _, keepBack (by rw [List.drop_zero, ByteArray.toList_eq])⟩
        case round =>
          obtain ⟨k, l, hk, rfl, rfl, hb, HR⟩ := hrel
          have hs' := hb.size
          have z0 := (hb.cell (p := ⟨w.heap.size, 0, none⟩) (by simp; omega)).trans q0
          have bb : Below w.heap.size w wr := b02.trans (hb.mono (by omega))
          by_cases hlt : k < hs.length
          · obtain ⟨x, hx⟩ : ∃ x, hs[k]? = some x := ⟨hs[k], List.getElem?_eq_getElem hlt⟩
            obtain ⟨b, o, hix, _, hbs, ok1, ok2, hc00, hc10⟩ := hh2.idxHeadAt aHead k k x rfl hx
            have hc0 := (hb.cell (p := ⟨b, o, none⟩) hbs).trans hc00
            have hc1 := (hb.cell (p := ⟨b, o + 1, none⟩) hbs).trans hc10
            have hzne : w.heap.size ≠ wr.heap.size := by omega
            clear hc00 hc10 q0 q1
            have HX := keepBack hx
            clear hx
            have z1 : ∀ o, (wr.alloc o).cell? ⟨w.heap.size, 0, none⟩ = some (.slice ac cs.length cc) := fun o => (((Below.refl wr.heap.size wr).alloc (Nat.le_refl _) o).cell (p := ⟨w.heap.size, 0, none⟩) (by simp; omega)).trans z0
            have ADD : ∀ o, Below w.heap.size w (wr.alloc o) := fun o => bb.alloc bb.size o
            cases e1 : Op.bytesLess x.1.toList l.toList with
            | true =>
              have HE := keepBack (HPK.out false (HR.out.trans (headsRise_stop HX.out (by rw [less_asymm e1]; rfl))))
              go_wp2_with fail
              go_ret
              exact ⟨_, rfl, by rw [HE.out]; rfl, ADD _⟩
            | false =>
              cases e2 : (x.1.toList == l.toList) with
              | true =>
                have HE := keepBack (HPK.out false (HR.out.trans (headsRise_stop HX.out (by rw [eq_of_beq e2, less_irrefl]; rfl))))
                go_wp2_with fail
                go_ret
                exact ⟨_, rfl, by rw [HE.out]; rfl, ADD _⟩
              | false =>
                have e3 : Op.bytesLess l.toList x.1.toList = true := less_tri e1 (by simpa using e2)
                by_cases q1 : x.2 < 0
                · have HE := keepBack (HPK.out false (HR.out.trans (headsRise_stop HX.out (by simp; omega))))
                  go_wp2_with fail
                  go_ret
                  exact ⟨_, rfl, by rw [HE.out]; rfl, ADD _⟩
                · have d1 : decide (x.2 < 0) = false := by simpa using q1
                  have Q1 := keepBack q1
                  clear q1
                  by_cases q2 : (cs.length : Int) ≤ x.2
                  · have d2 : decide ((cs.length : Int) ≤ x.2) = true := by simpa using q2
                    have HE := keepBack (HPK.out false (HR.out.trans (headsRise_stop HX.out (by simp; omega))))
                    clear q2
                    go_wp2_with fail
                    go_ret
                    exact ⟨_, rfl, by rw [HE.out]; rfl, ADD _⟩
                  · have d2 : decide ((cs.length : Int) ≤ x.2) = false := by simpa using q2
                    have HG := keepBack (HR.out.trans (headsRise_go HX.out (by have := Q1.out; rw [e3]; simp; omega)))
                    clear q2
                    go_wp2_with fail
                    go_roundw
                    case rel => exact ⟨k + 1, x.1, by omega, by go_num, rfl, hb.alloc hs' _, HG⟩
                    case measure => simp [intOf]; omega
          · have HE := keepBack (HPK.out true (HR.out.trans (headsRise_end hlt)))
            go_wp2
            go_ret
            exact ⟨_, rfl, by rw [HE.out]; rfl, bb⟩
  · have HP := keepBack (repoErr_dag (r := (cs, hs)) hd)
    have hq : (commitsErr cs != 0) = true := by simp [hd]
    go_enter Tryz.func95, Tryz.ntmps95
    go_wp2_with fail
    rw [← HWA.out]
    refine (dagCheck _ cs _ wA (hc.call bA)).mono ?_; rintro e w1 ⟨_, rfl, rfl, b1⟩
    go_wp2_with fail
    go_ret
    exact ⟨_, rfl, by rw [HP.out]; rfl, bA.trans (b1.mono (by omega))⟩

end Go.Pch
end
