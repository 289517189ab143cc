/- The walks of a pen: Text; append of a text. -/
import Derived.Test.YtklgejafblocjaaPenA
namespace Go.Pch
open Go.RowKit Go.Proofs
set_option maxRecDepth 100000

theorem byteInfo : (Try.prog.info? 5).map (fun i => (i.zero, i.size, i.bytes)) = some (some (.int .u8 0), 1, 1) := by kernel_rfl
theorem strEach (w : World) (D : Blk) : ∀ l : Bytes, Each tByte w D (l.map fun b => [Value.int .u8 (b.toNat : Int)]) l
  | [] => Each.nil
  | b :: l => by
    have := (Each.one (E := tByte) (w := w) (D := D) [Value.int .u8 (b.toNat : Int)] b ⟨rfl, trivial⟩).app (strEach w D l)
    simpa using this
theorem flat_one {α β : Type} (f : α → β) : ∀ l : List α, (l.map fun b => [f b]).flatten = l.map f
  | [] => rfl
  | b :: l => by rw [List.map_cons, List.flatten_cons, flat_one f l]; rfl
/-- append of a text's bytes. -/
theorem Own.runS {w : World} {B : Nat} {C : Blk} {v : Value} {l : Bytes} (h : Own tByte 5 w B C v l) (s : ByteArray) (ty : TypeId) (hn : l.length + s.size ≤ 1000000000000) (hB : B ≤ w.heap.size) :
    ∃ v' w', (Builtin.append_ #[69, 9] ty #[v, .string s]).run Try.prog w = .ok v' w' ∧ Own tByte 5 w' B C v' (l ++ s.data.toList) ∧ w.grownBy w' v.ownBlock ∧ (v'.ownBlock = v.ownBlock ∨ v'.ownBlock = some w.heap.size) := by
  obtain ⟨q, i1, i2, i3, i4⟩ := info_parts byteInfo
  obtain ⟨xs, hr, hE⟩ := h
  have h63 : l.length + s.size ≤ maxLen := by unfold maxLen; omega
  have hs1 : tByte.size = 1 := rfl
  rw [hs1] at hr
  have hxl : xs.flatten.length = l.length := by simpa using hr.1
  obtain ⟨v', w', hrun, hown, hgrow, hnil⟩ := Lib.run_append_own_string (P := Try.prog) w B 69 9 ty 5 q Try.underlying69 Try.underlying9 i1 i2 i3 i4 v l.length xs.flatten hr s h63 (by omega) hB
  have hblk : v'.ownBlock = v.ownBlock ∨ v'.ownBlock = some w.heap.size := by
    rcases hr.2 with ⟨rfl, h0⟩ | ⟨g, cap, cur, rfl, hb, hg, h1, h2, h3, h4⟩
    · by_cases hm : s.size = 0
      · obtain rfl := hnil.2 ⟨rfl, hm⟩
        exact .inl rfl
      · have hr2 := run_append_nil_string (P := Try.prog) w 69 9 ty 5 q (.int .u8 0) Try.underlying69 Try.underlying9 i1 i2 s (by omega) (by unfold maxLen at h63; omega) (by rw [i4]; omega)
        rw [hrun] at hr2
        simp only [Result.ok.injEq] at hr2
        rw [hr2.1]
        exact .inr rfl
    · by_cases hroom : l.length + s.size ≤ cap
      · have hr2 := Lib.run_append_room_string (P := Try.prog) w 69 9 ty 5 q Try.underlying69 Try.underlying9 i1 i3 g l.length cap cur hg s hroom (by omega)
        rw [hrun] at hr2
        simp only [Result.ok.injEq] at hr2
        rw [hr2.1]
        exact .inl rfl
      · have holds := hr.cells (g := g) rfl
        have hr2 := Lib.run_append_grow_string (P := Try.prog) w 69 9 ty 5 q (.int .u8 0) Try.underlying69 Try.underlying9 i1 i2 ⟨g, 0, none⟩ l.length cap xs.flatten (by rw [i3]; omega) holds s (by omega) (by unfold maxLen at h63; omega) (by rw [i4]; exact growslice_fits (by omega) (by omega))
        rw [hrun] at hr2
        simp only [Result.ok.injEq] at hr2
        rw [hr2.1]
        exact .inr rfl
  refine ⟨v', w', hrun, ⟨xs ++ s.data.toList.map fun b => [Value.int .u8 (b.toNat : Int)], ?_, ?_⟩, hgrow, hblk⟩
  · have e1 : (xs ++ s.data.toList.map fun b => [Value.int .u8 (b.toNat : Int)]).flatten = xs.flatten ++ Lib.strCells s := by
      rw [List.flatten_append]
      congr 1
      exact flat_one _ _
    rw [e1, List.length_append, show s.data.toList.length = s.size from Array.length_toList]
    exact hown
  · have hE' : Each tByte w' (fun k => C k ∧ some k ≠ v'.ownBlock) xs l := ⟨hE.1, fun i cs a hc ha => hE.2 i cs a hc ha⟩
    exact hE'.app (strEach w' _ s.data.toList)

/-- One number for a pen: Put, handed a row of one that has just been laid. -/
theorem penOne (pb B : Nat) (vl : Value) (n : Int) (w W : World) (v : Value) (bs : Bytes) (bad : Bool) (hp : PenAt w B pb v bs bad) (hb : Below w.heap.size w W) (hs : Sl tInt W (fun k => w.heap.size ≤ k) vl [n]) (hbs : bs.length ≤ 100000) :
    Calls Try.prog 41 #[.pointer (some ⟨pb, 0, none⟩), .int .i64 1, vl] W fun e w' => e = .returned (.tuple #[]) ∧ ∃ v', PenAt w' B pb v' (bs ++ enc1 n) (bad || outN 1 n) ∧ PenOn pb v v' w w' := by
  have hS : ∀ k, w.heap.size ≤ k → ¬ penX pb v k := by
    intro k hk hx
    have := hp.lt
    rcases hx with rfl | hx
    · omega
    · have := (hp.own.block k hx).2; omega
  refine (penPut1 pb B vl [n] _ W v bs bad (hp.call hb) hs hS (by simp) hbs).mono ?_
  rintro e w' ⟨rfl, v', h1, h2⟩
  exact ⟨rfl, v', by simpa using h1, PenOn.trans (v' := v) ⟨Step.of_below hb, fun g hg => .inl hg⟩ h2⟩
theorem penTwo (pb B : Nat) (vl : Value) (n : Int) (w W : World) (v : Value) (bs : Bytes) (bad : Bool) (hp : PenAt w B pb v bs bad) (hb : Below w.heap.size w W) (hs : Sl tInt W (fun k => w.heap.size ≤ k) vl [n]) (hbs : bs.length ≤ 100000) :
    Calls Try.prog 41 #[.pointer (some ⟨pb, 0, none⟩), .int .i64 2, vl] W fun e w' => e = .returned (.tuple #[]) ∧ ∃ v', PenAt w' B pb v' (bs ++ enc2 n) (bad || outN 2 n) ∧ PenOn pb v v' w w' := by
  have hS : ∀ k, w.heap.size ≤ k → ¬ penX pb v k := by
    intro k hk hx
    have := hp.lt
    rcases hx with rfl | hx
    · omega
    · have := (hp.own.block k hx).2; omega
  refine (penPut2 pb B vl [n] _ W v bs bad (hp.call hb) hs hS (by simp) hbs).mono ?_
  rintro e w' ⟨rfl, v', h1, h2⟩
  exact ⟨rfl, v', by simpa using h1, PenOn.trans (v' := v) ⟨Step.of_below hb, fun g hg => .inl hg⟩ h2⟩
/-- A row of one number, just laid. -/
theorem litOne (w : World) (n : Int) (hn : i64ok n) : Sl tInt (w.alloc (.cells #[.int .i64 n] 3)) (fun k => w.heap.size ≤ k) (.slice (some ⟨w.heap.size, 0, none⟩) 1 1) [n] :=
  (Own.lit (E := tInt) (e := 3) (B := w.heap.size) (C := fun _ => False) (Each.one _ _ ⟨rfl, hn⟩) rfl (by simp [maxLen]) (Nat.le_refl _)).sl (fun _ h => h.elim) (fun _ h => h)

theorem litOneAt (w : World) (n : Int) (hn : i64ok n) (k : Nat) (hk : k = w.heap.size) : Sl tInt (w.alloc (.cells #[.int .i64 n] 3)) (fun k => w.heap.size ≤ k) (.slice (some ⟨k, 0, none⟩) 1 1) [n] := by
  subst hk
  exact litOne w n hn

theorem penOneL (pb B : Nat) (n : Int) (w : World) (k : Nat) (hk : k = w.heap.size) (v : Value) (bs : Bytes) (bad : Bool) (hp : PenAt w B pb v bs bad) (hn : i64ok n) (hbs : bs.length ≤ 100000) :
    Calls Try.prog 41 #[.pointer (some ⟨pb, 0, none⟩), .int .i64 1, .slice (some ⟨k, 0, none⟩) 1 1] (w.alloc (.cells #[.int .i64 n] 3)) fun e w' => e = .returned (.tuple #[]) ∧ ∃ v', PenAt w' B pb v' (bs ++ enc1 n) (bad || outN 1 n) ∧ PenOn pb v v' w w' :=
  penOne pb B _ n w _ v bs bad hp ((Below.refl _ _).alloc (Nat.le_refl _) _) (litOneAt w n hn k hk) hbs
theorem penTwoL (pb B : Nat) (n : Int) (w : World) (k : Nat) (hk : k = w.heap.size) (v : Value) (bs : Bytes) (bad : Bool) (hp : PenAt w B pb v bs bad) (hn : i64ok n) (hbs : bs.length ≤ 100000) :
    Calls Try.prog 41 #[.pointer (some ⟨pb, 0, none⟩), .int .i64 2, .slice (some ⟨k, 0, none⟩) 1 1] (w.alloc (.cells #[.int .i64 n] 3)) fun e w' => e = .returned (.tuple #[]) ∧ ∃ v', PenAt w' B pb v' (bs ++ enc2 n) (bad || outN 2 n) ∧ PenOn pb v v' w w' :=
  penTwo pb B _ n w _ v bs bad hp ((Below.refl _ _).alloc (Nat.le_refl _) _) (litOneAt w n hn k hk) hbs
theorem PenOn.cell {pb : Nat} {v v' : Value} {w w' : World} (h : PenOn pb v v' w w') {p : Addr} (hp : p.block < w.heap.size) (hx : ¬ penX pb v p.block) : w'.cell? p = w.cell? p := h.1.cell hp hx
theorem PenAt.notNew {w : World} {B pb : Nat} {v : Value} {bs : Bytes} {bad : Bool} (h : PenAt w B pb v bs bad) {k : Nat} (hk : w.heap.size ≤ k) : ¬ penX pb v k := by
  intro hx
  have := h.lt
  rcases hx with rfl | hx
  · omega
  · have := (h.own.block k hx).2; omega
theorem PenAt.notOld {w : World} {B pb : Nat} {v : Value} {bs : Bytes} {bad : Bool} (h : PenAt w B pb v bs bad) {k : Nat} (hk : k < B) : ¬ penX pb v k := by
  intro hx
  have := h.low
  rcases hx with rfl | hx
  · omega
  · have := (h.own.block k hx).1; omega
theorem PenOn.alloc {pb : Nat} {v v' : Value} {w w' : World} (h : PenOn pb v v' w w') (o : Obj) : PenOn pb v v' w (w'.alloc o) :=
  h.trans ⟨Step.of_below ((Below.refl _ _).alloc (Nat.le_refl _) _), fun _ h => .inl h⟩
/-- Bytes as a text. -/
theorem Own.text {w : World} {B : Nat} {v : Value} {bs : Bytes} (h : Own tByte 5 w B (fun _ => False) v bs) (h0 : 0 < bs.length) : (convert 69 9 v).run Try.prog w = .ok (.string (bl bs)) w := by
  have hs := h.sl (D := fun _ => True) (fun _ h => h.elim) (fun _ _ => trivial)
  obtain ⟨ao, cap, rfl, _, _, _⟩ := hs.shape
  obtain ⟨b, o, cs, rfl, _, _, _, _⟩ := hs.get 0 bs[0] (List.getElem?_eq_getElem h0)
  have := run_convert_bytes_back (P := Try.prog) w 69 9 5 ⟨b, o, none⟩ cap bs Try.underlying69 Try.underlying5 Try.underlying9 (fun j hj => by
    obtain ⟨b', o', cs', hbo, _, _, hrd, hc⟩ := hs.get j bs[j] (List.getElem?_eq_getElem hj)
    simp only [Option.some.injEq, Addr.mk.injEq] at hbo
    obtain ⟨rfl, rfl, _⟩ := hbo
    obtain ⟨rfl, _⟩ := hrd
    have := hc 0 _ rfl
    rw [Addr.add_lit]
    simpa [tByte, Ty.flat] using this)
  exact this

theorem PenAt.text {w : World} {B pb : Nat} {v : Value} {bs : Bytes} {bad : Bool} (h : PenAt w B pb v bs bad) (h0 : 0 < bs.length) : (convert 69 9 v).run Try.prog w = .ok (.string (bl bs)) w := h.own.text h0

set_option maxHeartbeats 2000000 in
theorem penText (pb B : Nat) (s : ByteArray) (w : World) (v : Value) (bs : Bytes) (bad : Bool) (hp : PenAt w B pb v bs bad) (hbs : bs.length ≤ 90000) (hs : s.size ≤ 100000000000) :
    Calls Try.prog 42 #[.pointer (some ⟨pb, 0, none⟩), .string s] w fun e w' => e = .returned (.tuple #[]) ∧ ∃ v', PenAt w' B pb v' (bs ++ enc1 s.size ++ s.data.toList) (bad || outN 1 s.size) ∧ PenOn pb v v' w w' := by
  have hok : i64ok (s.size : Int) := by unfold i64ok; omega
  have hlit := litOne w (s.size : Int) hok
  have hb0 := (Below.refl w.heap.size w).alloc (Nat.le_refl _) (.cells #[.int .i64 (s.size : Int)] 3)
  go_enter Try.func42, Try.ntmps42
  go_wp2_with fail
  refine (penOne pb B _ _ w _ v bs bad hp hb0 hlit (by omega)).mono ?_; rintro e w1 ⟨rfl, v1, hp1, hon1⟩
  have q0 := hp1.cell0
  have qf := hp1.free 0
  obtain ⟨v2, w2, hrun, ho2, hg2, hn2⟩ := hp1.own.runS s 69 (by simp [enc1]; omega) (Nat.le_trans hp1.low (Nat.le_of_lt hp1.lt))
  obtain ⟨a2, c2, rfl, _, _⟩ := ho2.shape
  generalize (bs ++ enc1 ↑s.size ++ s.data.toList).length = L at *
  have hr2 : w2.heap[pb]? = some (.cells #[v1, .bool (bad || outN 1 s.size)] 71) := (hg2.block pb hp1.lt fun e => hp1.apart e.symm).trans hp1.row
  have r0 : w2.cell? ⟨pb, 0, none⟩ = some v1 := by rw [World.cell?, hr2]; rfl
  have rf := frozen_of_row w2 pb 0 _ _ hr2
  have hpn := hp1.setB ho2 hg2
  have honn := hon1.setB hg2 (fun g hg => by
    rcases hn2 with h | h
    · exact .inl (h ▸ hg)
    · rw [h] at hg; exact .inr (Nat.le_of_eq (Option.some.inj hg))) (.slice a2 L c2)
  clear hr2
  go_wp2_with (at_builtin; refine Lib.wpList_append_run _ rfl _ _ _ _ rfl _ _ rfl rfl _ _ hrun ?_)
  go_end0
  exact ⟨rfl, _, hpn, honn⟩

end Go.Pch
