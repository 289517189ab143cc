/- The walks of wire.Read's other closures. -/
import Derived.Test.YtklgejafblocjaaGlaB
namespace Go.Pch
open Go.RowKit Go.Proofs
set_option maxRecDepth 100000

theorem Reads.imp {α : Type} {gb : Nat} {w w' : World} {V V' : α → Value → World → Prop} {o : Option (α × Bytes)} {e : Ending} (h : Reads gb w V o e w') (hV : ∀ a s v, o = some (a, s) → V a v w' → V' a v w') : Reads gb w V' o e w' := by
  cases ho : o with
  | none => obtain ⟨h1, h2⟩ := h.no ho; exact Reads.mkNo rfl h1 h2
  | some x =>
    obtain ⟨a, s⟩ := x
    obtain ⟨v, h1, h2, h3, h4⟩ := h.ok ho
    exact Reads.mk rfl h1 (hV a s v ho h2) h3 h4
theorem num2_fit {s t : Bytes} {n : Int} (h : num2 s = some (n, t)) : 0 ≤ n ∧ n < 65536 := by
  match s, h with
  | c :: d :: s, h =>
    simp only [num2, Option.some.injEq, Prod.mk.injEq] at h
    obtain ⟨rfl, rfl⟩ := h
    have := byte_lt c
    have := byte_lt d
    omega
theorem two_some {α β γ : Type} {o : Option (α × Bytes)} {f : Bytes → Option (β × Bytes)} {g : α → β → γ} {c : γ} {s : Bytes} (h : (o.bind fun x => (f x.2).map fun y => (g x.1 y.1, y.2)) = some (c, s)) :
    ∃ a t b, o = some (a, t) ∧ f t = some (b, s) ∧ c = g a b := by
  cases o with
  | none => simp at h
  | some x =>
    obtain ⟨a, t⟩ := x
    cases h2 : f t with
    | none => simp [h2] at h
    | some y =>
      obtain ⟨b, u⟩ := y
      simp [h2] at h
      exact ⟨a, t, b, rfl, by rw [h2, h.2], h.1.symm⟩
theorem readRowE (gv gb : Nat) (W : World) (s : Bytes) (h : GVar W gv gb s) : Calls Try.prog 50 #[.pointer (some ⟨gv, 0, none⟩)] W (Reads gb W (VElRow W) (rowG s)) :=
  (readRow gv gb s W h).mono fun e w' hr => hr.imp fun a t v ho hv => by
    obtain ⟨k, u, x, h1, h2, rfl⟩ := two_some (g := fun a b => ((a, b) : Row)) ho
    have g1 := num1_fit h1
    have g2 := num2_fit h2
    refine ⟨hv, ?_, ?_⟩ <;> (unfold i64ok; simp only; omega)
theorem textG_fit {s u : Bytes} {b : ByteArray} (h : textG s = some (b, u)) : b.size ≤ maxLen := by
  unfold textG at h
  cases h1 : num1 s with
  | none => rw [h1] at h; simp at h
  | some x =>
    rw [h1] at h
    have g := num1_fit (t := x.2) (n := x.1) h1
    have hb : ((takeG x.1.toNat x.2).map fun y => (bl y.1, y.2)) = some (b, u) := h
    unfold takeG at hb
    split at hb
    · simp at hb
      rw [← hb.1, bl_size, List.length_take]
      unfold maxLen
      omega
    · simp at hb
theorem readHeadE (gv gb : Nat) (W : World) (s : Bytes) (h : GVar W gv gb s) : Calls Try.prog 55 #[.pointer (some ⟨gv, 0, none⟩)] W (Reads gb W (VElHead W) (headG s)) :=
  (readHead gv gb s W h).mono fun e w' hr => hr.imp fun a t v ho hv => by
    obtain ⟨k, u, x, h1, h2, rfl⟩ := two_some (g := fun a b => ((a, b) : Head)) ho
    have g2 := num1_fit h2
    exact ⟨hv, by unfold i64ok; simp only; omega, textG_fit h1⟩

set_option maxHeartbeats 400000 in
theorem readInt (gv gb : Nat) (W : World) (s : Bytes) (h : GVar W gv gb s) : Calls Try.prog 53 #[.pointer (some ⟨gv, 0, none⟩)] W (Reads gb W (VElInt W) (num1 s)) := by
  have q := h.ptr
  cases h1 : num1 s with
  | none =>
    go_enter Try.func53, Try.ntmps53
    go_wp2_with fail
    refine (numOne gb s _ h.glass).mono ?_; intro e w1 hT
    obtain ⟨rfl, on1⟩ := hT.no h1
    clear hT
    go_wp2
    exact ⟨rfl, Reads.mkNo rfl rfl on1⟩
  | some x =>
    obtain ⟨k, t⟩ := x
    have hf := num1_fit h1
    go_enter Try.func53, Try.ntmps53
    go_wp2_with fail
    refine (numOne gb s _ h.glass).mono ?_; intro e w1 hT
    obtain ⟨_, rfl, rfl, g1, on1⟩ := hT.ok h1
    clear hT
    go_wp2
    go_ret
    exact Reads.mk rfl rfl ⟨rfl, by unfold i64ok; omega⟩ g1 on1

set_option maxHeartbeats 1000000 in
theorem readCom (gv gb : Nat) (W : World) (s : Bytes) (h : GVar W gv gb s) : Calls Try.prog 48 #[.pointer (some ⟨gv, 0, none⟩)] W (Reads gb W (VElCom W) (comG s)) := by
  have hmf : ∀ (fn : Fn) (first cap : Array Value) (w : World), (Instr.makeFunc fn first cap).run Try.prog w = .ok (.func fn first cap) w := fun _ _ _ _ => rfl
  have B0 : Below W.heap.size W (W.alloc (.cells #[.slice none 0 0, .slice none 0 0] 65)) := (Below.refl _ _).alloc (Nat.le_refl _) _
  have h0 := h.next (GOn.of B0) (h.glass.call B0)
  have q := h.ptr
  have q0 : (W.alloc (.cells #[.slice none 0 0, .slice none 0 0] 65)).cell? ⟨gv, 0, none⟩ = some (.pointer (some ⟨gb, 0, none⟩)) := h0.ptr
  have hgl := World.block_lt_of_cell? W _ h.ptr
  have hrow : (W.alloc (.cells #[.slice none 0 0, .slice none 0 0] 65)).heap[W.heap.size]? = some (.cells #[.slice none 0 0, .slice none 0 0] 65) := heap_alloc_new W _
  have hsz : W.heap.size < (W.alloc (.cells #[.slice none 0 0, .slice none 0 0] 65)).heap.size := by simp
  have hng : W.heap.size ≠ gb := by have := h.glass.lt; omega
  cases h1 : listG rowG s with
  | none =>
    have HT : Hid (comG s = none) := by rw [comG, h1]; rfl
    go_enter Try.func48, Try.ntmps48
    go_wp2_with fail
    refine (listRow rowG gv gb (readRowE gv gb) s _ h0).mono ?_; intro e w1 hT
    obtain ⟨rfl, on1⟩ := hT.no h1
    clear hT
    go_wp2
    exact ⟨rfl, Reads.mkNo HT.out rfl ((GOn.of B0).on on1)⟩
  | some x =>
    obtain ⟨rs, t⟩ := x
    cases h2 : listG num1 t with
    | none =>
      have HT : Hid (comG s = none) := by rw [comG, h1]; show Hid ((listG num1 t).map _ = none); rw [h2]; rfl
      go_enter Try.func48, Try.ntmps48
      go_wp2_with fail
      refine (listRow rowG gv gb (readRowE gv gb) s _ h0).mono ?_; intro e w1 hT
      obtain ⟨v1, rfl, hv1, g1, on1⟩ := hT.ok h1
      replace g1 := h0.next on1 g1
      have q1 := g1.ptr
      clear hT
      go_wp2_with fail
      refine (listInt num1 gv gb (readInt gv gb) t _ g1).mono ?_; intro e w2 hT
      obtain ⟨rfl, on2⟩ := hT.no h2
      clear hT
      go_wp2
      exact ⟨rfl, Reads.mkNo HT.out rfl ((GOn.of B0).on (on1.on on2))⟩
    | some y =>
      obtain ⟨ps, u⟩ := y
      have HT : Hid (comG s = some ((rs, ps), u)) := by rw [comG, h1]; show Hid ((listG num1 t).map _ = _); rw [h2]; rfl
      go_enter Try.func48, Try.ntmps48
      go_wp2_with fail
      refine (listRow rowG gv gb (readRowE gv gb) s _ h0).mono ?_; intro e w1 hT
      obtain ⟨v1, rfl, hv1, g1, on1⟩ := hT.ok h1
      replace g1 := h0.next on1 g1
      have q1 := g1.ptr
      clear hT
      go_wp2_with fail
      refine (listInt num1 gv gb (readInt gv gb) t _ g1).mono ?_; intro e w2 hT
      obtain ⟨v2, rfl, hv2, g2, on2⟩ := hT.ok h2
      replace g2 := g1.next on2 g2
      clear hT
      have hgbl := h.glass.lt
      have hs1 := on1.size
      have hv1' : Sl tRow w2 (fun k => W.heap.size + 1 ≤ k) v1 rs := (Sl.step hv1 on2 fun k hk e => by simp at hk; omega).mono fun k hk _ => by simpa using hk
      have hv2' : Sl tInt w2 (fun k => W.heap.size + 1 ≤ k) v2 ps := hv2.mono fun k hk _ => by simp at hs1; omega
      obtain ⟨a1, c1, rfl, _, _, _⟩ := hv1'.shape
      obtain ⟨a2, c2, rfl, _, _, _⟩ := hv2'.shape
      have hr2 := ((on1.on on2).block _ hsz hng).trans hrow
      obtain ⟨cc0, cc1, ff0, g4, g5, g6⟩ := twoCells hr2 hgl hng g2
      clear hv1 hv2 hs1 h1 h2
      generalize rs.length = n1 at *
      generalize ps.length = n2 at *
      have K1 : ∀ x y, Sl tRow ((w2.setCell ⟨W.heap.size, 0, none⟩ x).setCell ⟨W.heap.size, 1, none⟩ y) (fun k => W.heap.size ≤ k) (.slice a1 n1 c1) rs := fun x y =>
        (hv1'.keep fun k hk _ => (heap_setCell_other _ _ _ _ (by simp; omega)).trans (heap_setCell_other _ _ _ _ (by simp; omega))).mono fun k hk _ => by omega
      have K2 : ∀ x y, Sl tInt ((w2.setCell ⟨W.heap.size, 0, none⟩ x).setCell ⟨W.heap.size, 1, none⟩ y) (fun k => W.heap.size ≤ k) (.slice a2 n2 c2) ps := fun x y =>
        (hv2'.keep fun k hk _ => (heap_setCell_other _ _ _ _ (by simp; omega)).trans (heap_setCell_other _ _ _ _ (by simp; omega))).mono fun k hk _ => by omega
      go_wp2
      exact bodyPost_ret (results_cell_row rfl _ _ _ _ _ _ _ rfl (g5 _ _) Try.underlying65 rfl rfl) rfl (Reads.mk HT.out rfl ⟨_, _, rfl, K1 _ _, K2 _ _⟩ (g6 _ _) ((((GOn.of B0).on (on1.on on2)).late _ (Nat.le_refl _)).late _ (Nat.le_refl _)))

end Go.Pch
