/- The walks of the document's bytes: twoBytes, texted, RepoBytes. -/
import Derived.Test.YtjjkdpjjaijmbaaGreatRg8
import Derived.Deep.RegionHeld3
section
namespace Go.Pch
open Go.RowKit Go.Proofs
set_option maxRecDepth 100000

/-- Bytes just laid. -/
theorem litBytes (w : World) (a b : UInt8) : Sl tByte (w.alloc (.cells #[.int .u8 (a.toNat : Int), .int .u8 (b.toNat : Int)] 5)) (fun k => w.heap.size ≤ k) (.slice (some ⟨w.heap.size, 0, none⟩) 2 2) [a, b] :=
  (Own.lit (E := tByte) (e := 5) (B := w.heap.size) (C := fun _ => False) ((Each.one (E := tByte) [Value.int .u8 (a.toNat : Int)] a ⟨rfl, trivial⟩).app (Each.one (E := tByte) [Value.int .u8 (b.toNat : Int)] b ⟨rfl, trivial⟩)) rfl (by simp [maxLen]) (Nat.le_refl _)).sl (fun _ h => h.elim) (fun _ h => h)
theorem litByte (w : World) (B : Nat) (a : UInt8) (hB : B ≤ w.heap.size) : Own tByte 5 (w.alloc (.cells #[.int .u8 (a.toNat : Int)] 5)) B (fun _ => False) (.slice (some ⟨w.heap.size, 0, none⟩) 1 1) [a] :=
  Own.lit (E := tByte) (e := 5) (B := B) (C := fun _ => False) (Each.one (E := tByte) [Value.int .u8 (a.toNat : Int)] a ⟨rfl, trivial⟩) rfl (by simp [maxLen]) hB


theorem len_tx (n : Int) (s : ByteArray) : (enc1 n ++ s.data.toList).length = 1 + s.size := by
  rw [List.length_append, len_e1, Array.length_toList]; rfl


/-- What a buffer's growing leaves: its own block turns, new ones come; its block is as before or new. -/
def BufOn (v v' : Value) (w w' : World) : Prop := Step (fun k => v.ownBlock = some k) w w' ∧ ∀ g, v'.ownBlock = some g → v.ownBlock = some g ∨ w.heap.size ≤ g
theorem BufOn.refl (v : Value) (w : World) : BufOn v v w w := ⟨Step.refl _ _, fun _ h => .inl h⟩
theorem BufOn.trans {v v' v'' : Value} {w w' w'' : World} (h : BufOn v v' w w') (g : BufOn v' v'' w' w'') : BufOn v v'' w w'' := by
  refine ⟨h.1.trans g.1 fun k hk hx => ?_, fun k hk => ?_⟩
  · rcases h.2 k hx with h' | h'
    · exact h'
    · omega
  · rcases g.2 k hk with h' | h'
    · exact h.2 k h'
    · exact .inr (Nat.le_trans h.1.size h')
theorem BufOn.below {v : Value} {w w' : World} (h : Below w.heap.size w w') : BufOn v v w w' := ⟨Step.of_below h, fun _ h => .inl h⟩
theorem BufOn.low {B : Nat} {v v' : Value} {w w' : World} (h : BufOn v v' w w') (hv : ∀ g, v.ownBlock = some g → B ≤ g) (hB : B ≤ w.heap.size) : Below B w w' := h.1.below hv hB
theorem BufOn.cell {v v' : Value} {w w' : World} (h : BufOn v v' w w') {p : Addr} (hp : p.block < w.heap.size) (hx : v.ownBlock ≠ some p.block) : w'.cell? p = w.cell? p := h.1.cell hp hx
/-- append of bytes that lie in other blocks; append of one byte just laid: for a region that draws. -/
theorem Own.runB {w : World} {B : Nat} {v : Value} {l m : Bytes} {D : Blk} {ao : Option Addr} {c : Nat} (h : Own tByte 5 w B (fun _ => False) v l) (hs : Sl tByte w D (.slice ao m.length c) m) (hn : l.length + m.length ≤ 1000000000) (hB : B ≤ w.heap.size) :
    ∃ v' w', (Builtin.append_ #[75, 75] 75 #[v, .slice ao m.length c]).run Tryz.prog w = .ok v' w' ∧ Own tByte 5 w' B (fun _ => False) v' (l ++ m) ∧ BufOn v v' w w' := by
  have hsrc : Src tByte w (fun _ => False) ao m := by
    obtain ⟨xs, h1, h2, h3⟩ := hs.src
    exact ⟨xs, ⟨h1.1, fun i cs a hc ha => h1.2 i cs a hc ha⟩, h2, h3⟩
  obtain ⟨v', w', hrun, ho, hg, hn'⟩ := h.run aByte hsrc hs.noAddr 75 (fun _ h => h.elim) (by omega) hB
  refine ⟨v', w', hrun, ho, Step.grown hg fun k hk => hk, fun g hg' => ?_⟩
  rcases hn' with e | e
  · exact .inl (e ▸ hg')
  · rw [hg'] at e; exact .inr (Nat.le_of_eq (Option.some.inj e).symm)

theorem litByteSl (w : World) (a : UInt8) (k : Nat) (hk : k = w.heap.size) : Sl tByte (w.alloc (.cells #[.int .u8 (a.toNat : Int)] 5)) (fun k => w.heap.size ≤ k) (.slice (some ⟨k, 0, none⟩) 1 1) [a] := by
  subst hk
  exact (litByte w w.heap.size a (Nat.le_refl _)).sl (fun _ h => h.elim) (fun _ h => h)
theorem Own.byteRun {w : World} {B : Nat} {v : Value} {l : Bytes} (h : Own tByte 5 w B (fun _ => False) v l) (c : UInt8) (k : Nat) (hk : k = w.heap.size) (hn : l.length ≤ 10000000) (hB : B ≤ w.heap.size) :
    ∃ v' w', (Builtin.append_ #[75, 75] 75 #[v, .slice (some ⟨k, 0, none⟩) 1 1]).run Tryz.prog (w.alloc (.cells #[.int .u8 (c.toNat : Int)] 5)) = .ok v' w' ∧ Own tByte 5 w' B (fun _ => False) v' (l ++ [c]) ∧ BufOn v v' w w' := by
  obtain ⟨v', w', h1, h2, h3⟩ := (h.alloc (.cells #[.int .u8 (c.toNat : Int)] 5)).runB (m := [c]) (litByteSl w c k hk) (by simp; omega) (by simp; omega)
  exact ⟨v', w', h1, h2, (BufOn.below ((Below.refl _ _).alloc (Nat.le_refl _) _)).trans h3⟩
/-- append of bytes, in a region that draws. -/
theorem step_buf {w : World} {B : Nat} {D : Blk} {v : Value} {l m : Bytes} {ops : Array Oper} {o : Oper} {a : Go.Act} {K : Go.Act → World → Prop} {Q : Exit → Go.Act → World → Prop} {Ex : Prop} (hgd : o.guard = none) (s x : Operand)
    (ho : o.op = .call { callee := .builtin .append, args := #[s, x], argTypes := #[75, 75] }) (hty : o.type = 75) (hs : a.eval s = v) (h : Own tByte 5 w B (fun _ => False) v l) {ao : Option Addr} {c n : Nat} (hx : a.eval x = .slice ao n c) (hnm : n = m.length) (hsl : Sl tByte w D (.slice ao n c) m)
    (hn : l.length + m.length ≤ 1000000000) (hB : B ≤ w.heap.size)
    (hK : ∀ v' w', Own tByte 5 w' B (fun _ => False) v' (l ++ m) → BufOn v v' w w' → K (a.put o.dst v') w') : if Region.wanted o (yielded ops a.tmps) = true then Oper.wp Tryz.prog o a w K Q else Ex := by
  have hw : Region.wanted o (yielded ops a.tmps) = true := by simp [Region.wanted, hgd]
  rw [if_pos hw]
  subst hnm
  obtain ⟨v', w', hrun, h1, h2⟩ := h.runB hsl hn hB
  unfold Oper.wp
  simp [execOp, ho, hty, resolve, invoke, builtin, hs, hx, hrun, Result.andThen]
  exact hK v' w' h1 h2

theorem repo_vals {r : Repo} (h : repoErr r = 0) : ∀ x ∈ r.1, ∀ y ∈ x.1, 0 ≤ y.2 ∧ y.2 ≤ 996 := by
  intro x hx
  obtain ⟨n, hn⟩ := List.mem_iff_getElem?.1 hx
  have h1 := ((dag_ok (repo_ok h).1).2 n x hn).1
  have h2 := (ok_rise h1).2
  generalize (-1 : Int) = last at h2
  generalize x.1 = l at h2
  induction l generalizing last with
  | nil => simp
  | cons a l ih =>
    rw [riseB_cons] at h2
    intro y hy
    rcases List.mem_cons.1 hy with rfl | hy
    · exact ⟨h2.1.2.2.1, h2.1.2.2.2⟩
    · exact ih _ h2.2 y hy


end Go.Pch
end
