/- The walks of package desk: a line, behind its words. -/
import Derived.Test.YtjjkdpjjaijmbaaGreatDoorDg44
import Derived.OrdersHeld
section
namespace Go.Pch
open Go.RowKit Go.Proofs
set_option maxRecDepth 100000
set_option linter.unusedSimpArgs false
set_option linter.unusedVariables false
theorem wpAnyH_more {P : Program} {ops : Array Oper} {Q : Exit → Act → World → Prop} {md : Region.Mode} {S S' : World → Prop} (hS : ∀ w, S' w → S w) :
    ∀ (fuel : Nat) (listed : Array Bool) (a : Act) (w : World), wpAnyH P md ops Q S' fuel listed a w → wpAnyH P md ops Q S fuel listed a w
  | 0, _, _, _, h => h
  | fuel + 1, _, _, _, h => ⟨h.1, fun i hi => wpOp_mono (fun a' w' h' => ⟨hS _ h'.1, wpAnyH_more hS fuel _ a' w' h'.2⟩) (h.2 i hi)⟩
theorem wpAnyH_two {P : Program} {ops : Array Oper} {Q : Exit → Act → World → Prop} {md : Region.Mode} {S : World → Prop} {i k : Nat} {o o' : Oper} {fuel : Nat} {listed : Array Bool} {a : Act} {w : World} (hr : Region.ready md ops listed = [i, k]) (ho : ops[i]? = some o) (ho' : ops[k]? = some o')
    (h : ∀ K' : Act → World → Prop, (∀ a w, S w → wpAnyH P md ops Q S fuel (listed.setIfInBounds i true) a w → K' a w) → if Region.wanted o (yielded ops a.tmps) = true then Oper.wp P o a w K' Q else K' (a.put o.dst undef) w)
    (g : ∀ K' : Act → World → Prop, (∀ a w, S w → wpAnyH P md ops Q S fuel (listed.setIfInBounds k true) a w → K' a w) → if Region.wanted o' (yielded ops a.tmps) = true then Oper.wp P o' a w K' Q else K' (a.put o'.dst undef) w) :
    wpAnyH P md ops Q S (fuel + 1) listed a w := wpAnyH_all hr (by simp) fun j hj => by
  have : j = i ∨ j = k := by simpa using hj
  rcases this with rfl | rfl
  · exact wpOp_step ho fun K' hK => h K' fun a w h1 h2 => hK a w ⟨h1, h2⟩
  · exact wpOp_step ho' fun K' hK => g K' fun a w h1 h2 => hK a w ⟨h1, h2⟩
theorem Sl.off {α : Type} {E : Ty α} {w : World} {S : Blk} {v : Value} {l : List α} {O : Nat} {x : ByteArray} {t : TypeId} (hO : w.heap[O]? = some (.cells #[.string x] t))
    (hE : ∀ S cs a, E.rd w S cs a → E.rd w (fun k => S k ∧ k ≠ O) cs a ∧ ∃ (j : Nat) (u : Value), cs[j]? = some u ∧ (0 < j ∨ ∀ s, u ≠ .string s)) (h : Sl E w S v l) : Sl E w (fun k => S k ∧ k ≠ O) v l := by
  obtain ⟨ao, len, cap, hv, h1, h2, h3, h4, h5⟩ := h
  refine ⟨ao, len, cap, hv, h1, h2, h3, h4, fun i a hi => ?_⟩
  obtain ⟨b, o, hb, hS, cs, hrd, hc⟩ := h5 i a hi
  obtain ⟨hrd', j, u, hj, hu⟩ := hE S cs a hrd
  refine ⟨b, o, hb, ⟨hS, ?_⟩, cs, hrd', hc⟩
  rintro rfl
  have hcell := (hc j u hj).1
  rw [World.cell?, hO] at hcell
  cases hk : o + i * E.size + j with
  | zero =>
    rw [hk] at hcell
    have : u = .string x := by simpa using hcell.symm
    rcases hu with hu | hu
    · omega
    · exact hu x this
  | succ n =>
    rw [hk] at hcell
    simp at hcell
theorem DeskTab.store [Zone] {w w' : World} {T O : Nat} {r : Repo} {x : ByteArray} {t : TypeId} (h : DeskTab w T r) (hO : w.heap[O]? = some (.cells #[.string x] t)) (hs : Step (fun k => k = O) w w') : DeskTab w' T r := by
  have hl := h.lt
  obtain ⟨⟨vc, vh, h1, h2, h3⟩, hz⟩ := h
  have hTO : T ≠ O := by
    rintro rfl
    have := h1.symm.trans hO
    simp at this
  have e1 : Sl tCommit w (fun k => Away T k ∧ k ≠ O) vc r.1 := h2.off hO fun S cs a hrd => by
    obtain ⟨x', y', rfl, hr, hi⟩ := rd_commit hrd
    obtain ⟨ax, cx, rfl, _, _, _⟩ := hr.shape
    have hr' := hr.off (S := S) hO fun S cs a hrd => ⟨hrd, by obtain ⟨rfl, _⟩ := hrd; exact ⟨0, _, rfl, .inr fun s e => by cases e⟩⟩
    have hi' := hi.off (S := S) hO fun S cs a hrd => ⟨hrd, by obtain ⟨rfl, _⟩ := hrd; exact ⟨0, _, rfl, .inr fun s e => by cases e⟩⟩
    exact ⟨⟨_, _, rfl, hr', hi'⟩, 0, _, rfl, .inr fun s e => by cases e⟩
  have e2 : Sl tHead w (fun k => Away T k ∧ k ≠ O) vh r.2 := h3.off hO fun S cs a hrd => ⟨hrd, by obtain ⟨rfl, _⟩ := hrd; exact ⟨1, _, rfl, .inl (by decide)⟩⟩
  exact ⟨⟨vc, vh, (hs.block T hl hTO).trans h1, (e1.keep fun k hk hlt => hs.block k hlt hk.2).mono fun k hk _ => hk.1, (e2.keep fun k hk hlt => hs.block k hlt hk.2).mono fun k hk _ => hk.1⟩, fun k hk => Nat.lt_of_lt_of_le (hz k hk) hs.size⟩
def LinePost [Zone] (T : Nat) (w : World) (r : Repo) (o : Out) (e : Ending) (w' : World) : Prop := Step (fun k => k = T) w w' ∧
  if o.2.2 = 0 then e = .returned (.string (bl o.2.1)) ∧ DeskTab w' T o.1 else e = .returned (.string (bl (101 :: 114 :: 114 :: 111 :: 114 :: 32 :: dgL o.2.2))) ∧ DeskTab w' T r
theorem lineResults (tmps : Array Value) (W : World) (O : Nat) (x : ByteArray) (h : tmps.getD 4 undef = .pointer (some ⟨O, 0, none⟩)) (hr : W.heap[O]? = some (.cells #[.string x] 9)) :
    (results Tryz.f12 tmps).run Tryz.prog W = .ok (.string x) W := by
  have h' : tmps[4]?.getD undef = .pointer (some ⟨O, 0, none⟩) := by simpa using h
  have r0 : W.cell? ⟨O, 0, none⟩ = some (.string x) := by rw [World.cell?, hr]; rfl
  simp [results, Tryz.results12, h', asAddr, go_sem, r0, Result.andThen]
theorem lineDies [Zone] (tmps : Array Value) (T : Nat) (r : Repo) (o : Out) (w W : World) (c : ByteArray) (ho : o.2.2 ≠ 0) (h0 : 0 ≤ o.2.2) (hb : i64ok o.2.2) (h : tmps.getD 4 undef = .pointer (some ⟨w.heap.size, 0, none⟩))
    (hr : W.heap[w.heap.size]? = some (.cells #[.string c] 9)) (hB : Step (fun k => k = T) w W) (hV : Vars W) (hD : DeskTab W T r) (hT : T < w.heap.size) :
    Leaves Tryz.prog Tryz.f12 tmps (LinePost T w r o) [{ target := .fn (.func 25) #[.pointer (some ⟨w.heap.size, 0, none⟩)], args := #[] }] (.panicking (thrown o.2.2)) W := by
  refine leaves_cons (f := 25) (args := #[.pointer (some ⟨w.heap.size, 0, none⟩)]) (by simp) (by simp [go_sem]) ?_
  refine (caughtOne w.heap.size o.2.2 hb h0 (.string c) [] W hV hr).mono ?_
  rintro e u' w'' ⟨rfl, rfl, hst, hr2⟩
  have hs : Step (fun k => k = T) w w'' := ⟨hst.os.trans hB.os, hst.tape.trans hB.tape, hst.output.trans hB.output, Nat.le_trans hB.size hst.size, fun k hk hn => (hst.block k (Nat.lt_of_lt_of_le hk hB.size) (by omega)).trans (hB.block k hk hn)⟩
  refine ⟨_, lineResults tmps _ w.heap.size _ h hr2, ?_, ?_⟩
  · exact hs
  · rw [if_neg ho]
    exact ⟨rfl, hD.store hr hst⟩
theorem lineLives [Zone] (tmps : Array Value) (T : Nat) (r : Repo) (o : Out) (w W : World) (ho : o.2.2 = 0) (h : tmps.getD 4 undef = .pointer (some ⟨w.heap.size, 0, none⟩))
    (hr : W.heap[w.heap.size]? = some (.cells #[.string (bl o.2.1)] 9)) (hB : Step (fun k => k = T) w W) (hD : DeskTab W T o.1) (hT : T < w.heap.size) :
    Leaves Tryz.prog Tryz.f12 tmps (LinePost T w r o) [{ target := .fn (.func 25) #[.pointer (some ⟨w.heap.size, 0, none⟩)], args := #[] }] .returning W := by
  refine leaves_cons (f := 25) (args := #[.pointer (some ⟨w.heap.size, 0, none⟩)]) (by simp) (by simp [go_sem]) ?_
  refine (caughtIdle ⟨w.heap.size, 0, none⟩ W).mono ?_
  rintro e u' w'' ⟨rfl, rfl, hb⟩
  have hlt := (Array.getElem?_eq_some_iff.1 hr).1
  refine ⟨_, lineResults tmps _ w.heap.size _ h ((hb.block _ hlt).trans hr), hB.on (Step.of_below hb), ?_⟩
  rw [if_pos ho]
  exact ⟨rfl, hD.call hb⟩
end Go.Pch
end
