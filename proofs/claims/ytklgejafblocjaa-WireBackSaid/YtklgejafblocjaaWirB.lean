/- The walks of the document's bytes: twoBytes, texted, RepoBytes. -/
import Derived.Test.YtklgejafblocjaaWirA
import Derived.Test.YtklgejafblocjaaStep
import Derived.Deep.RegionHeld3
namespace Go.Pch
open Go.RowKit Go.Proofs
set_option maxRecDepth 100000

/-- Bytes just laid. -/
theorem litBytes (w : World) (a b : UInt8) : Sl tByte (w.alloc (.cells #[.int .u8 (a.toNat : Int), .int .u8 (b.toNat : Int)] 5)) (fun k => w.heap.size ≤ k) (.slice (some ⟨w.heap.size, 0, none⟩) 2 2) [a, b] :=
  (Own.lit (E := tByte) (e := 5) (B := w.heap.size) (C := fun _ => False) ((Each.one (E := tByte) [Value.int .u8 (a.toNat : Int)] a ⟨rfl, trivial⟩).app (Each.one (E := tByte) [Value.int .u8 (b.toNat : Int)] b ⟨rfl, trivial⟩)) rfl (by simp [maxLen]) (Nat.le_refl _)).sl (fun _ h => h.elim) (fun _ h => h)
theorem litByte (w : World) (B : Nat) (a : UInt8) (hB : B ≤ w.heap.size) : Own tByte 5 (w.alloc (.cells #[.int .u8 (a.toNat : Int)] 5)) B (fun _ => False) (.slice (some ⟨w.heap.size, 0, none⟩) 1 1) [a] :=
  Own.lit (E := tByte) (e := 5) (B := B) (C := fun _ => False) (Each.one (E := tByte) [Value.int .u8 (a.toNat : Int)] a ⟨rfl, trivial⟩) rfl (by simp [maxLen]) hB

set_option maxHeartbeats 400000 in
theorem refTwoBytes (n : Int) (w : World) (h0 : 0 ≤ n) (h1 : n ≤ 100000) :
    Calls Try.prog 44 #[.int .i64 n] w (Ret w fun r w' => Sl tByte w' (fun k => w.heap.size ≤ k) r (enc2 n)) := by
  have e1 : IntKind.u8.wrap (n / 256) = ((byteOf (n / 256)).toNat : Int) := by rw [byteOf_nat, IntKind.wrap_u8]
  have e2 : IntKind.u8.wrap (n % 256) = ((byteOf n).toNat : Int) := by rw [byteOf_nat, IntKind.wrap_u8]; omega
  have hl := litBytes w (byteOf (n / 256)) (byteOf n)
  have hb := (Below.refl w.heap.size w).alloc (Nat.le_refl _) (.cells #[.int .u8 ((byteOf (n / 256)).toNat : Int), .int .u8 ((byteOf n).toNat : Int)] 5)
  go_enter Try.func44, Try.ntmps44
  go_wp2
  go_ret
  exact ⟨_, rfl, hl, hb⟩

theorem len_tx (n : Int) (s : ByteArray) : (enc1 n ++ s.data.toList).length = 1 + s.size := by
  rw [List.length_append, len_e1, Array.length_toList]; rfl

set_option maxHeartbeats 400000 in
theorem refTexted (s : ByteArray) (w : World) (hs : s.size ≤ 100000) :
    Calls Try.prog 45 #[.string s] w (Ret w fun r w' => Sl tByte w' (fun k => w.heap.size ≤ k) r (enc1 s.size ++ s.data.toList)) := by
  have e1 : IntKind.u8.wrap (s.size : Int) = ((byteOf s.size).toNat : Int) := by rw [byteOf_nat, IntKind.wrap_u8]
  have ho := litByte w w.heap.size (byteOf s.size) (Nat.le_refl _)
  obtain ⟨v2, w2, hrun, ho2, hg2, _⟩ := ho.runS s 69 (by simp; omega) (by simp)
  go_enter Try.func45, Try.ntmps45
  go_wp2_with (at_builtin; refine Lib.wpList_append_run _ rfl _ _ _ _ rfl _ _ rfl rfl _ _ hrun ?_)
  go_ret
  exact ⟨_, rfl, ho2.sl (fun _ h => h.elim) (fun _ h => h), ((Below.refl _ _).alloc (Nat.le_refl _) _).grown hg2 (by simp) fun k hk => by simp [Value.ownBlock] at hk; omega⟩

/-- What a buffer's growing leaves: its own block turns, new ones come; its block is as before or new. -/
def BufOn (v v' : Value) (w w' : World) : Prop := Step (fun k => v.ownBlock = some k) w w' ∧ ∀ g, v'.ownBlock = some g → v.ownBlock = some g ∨ w.heap.size ≤ g
theorem BufOn.refl (v : Value) (w : World) : BufOn v v w w := ⟨Step.refl _ _, fun _ h => .inl h⟩
theorem BufOn.trans {v v' v'' : Value} {w w' w'' : World} (h : BufOn v v' w w') (g : BufOn v' v'' w' w'') : BufOn v v'' w w'' := by
  refine ⟨h.1.trans g.1 fun k hk hx => ?_, fun k hk => ?_⟩
  · rcases h.2 k hx with h' | h'
    · exact h'
    · omega
  · rcases g.2 k hk with h' | h'
    · exact h.2 k h'
    · exact .inr (Nat.le_trans h.1.size h')
theorem BufOn.below {v : Value} {w w' : World} (h : Below w.heap.size w w') : BufOn v v w w' := ⟨Step.of_below h, fun _ h => .inl h⟩
theorem BufOn.low {B : Nat} {v v' : Value} {w w' : World} (h : BufOn v v' w w') (hv : ∀ g, v.ownBlock = some g → B ≤ g) (hB : B ≤ w.heap.size) : Below B w w' := h.1.below hv hB
theorem BufOn.cell {v v' : Value} {w w' : World} (h : BufOn v v' w w') {p : Addr} (hp : p.block < w.heap.size) (hx : v.ownBlock ≠ some p.block) : w'.cell? p = w.cell? p := h.1.cell hp hx
/-- append of bytes that lie in other blocks; append of one byte just laid: for a region that draws. -/
theorem Own.runB {w : World} {B : Nat} {v : Value} {l m : Bytes} {D : Blk} {ao : Option Addr} {c : Nat} (h : Own tByte 5 w B (fun _ => False) v l) (hs : Sl tByte w D (.slice ao m.length c) m) (hn : l.length + m.length ≤ 1000000000) (hB : B ≤ w.heap.size) :
    ∃ v' w', (Builtin.append_ #[69, 69] 69 #[v, .slice ao m.length c]).run Try.prog w = .ok v' w' ∧ Own tByte 5 w' B (fun _ => False) v' (l ++ m) ∧ BufOn v v' w w' := by
  have hsrc : Src tByte w (fun _ => False) ao m := by
    obtain ⟨xs, h1, h2, h3⟩ := hs.src
    exact ⟨xs, ⟨h1.1, fun i cs a hc ha => h1.2 i cs a hc ha⟩, h2, h3⟩
  obtain ⟨v', w', hrun, ho, hg, hn'⟩ := h.run aByte hsrc hs.noAddr 69 (fun _ h => h.elim) (by omega) hB
  refine ⟨v', w', hrun, ho, Step.grown hg fun k hk => hk, fun g hg' => ?_⟩
  rcases hn' with e | e
  · exact .inl (e ▸ hg')
  · rw [hg'] at e; exact .inr (Nat.le_of_eq (Option.some.inj e).symm)

theorem litByteSl (w : World) (a : UInt8) (k : Nat) (hk : k = w.heap.size) : Sl tByte (w.alloc (.cells #[.int .u8 (a.toNat : Int)] 5)) (fun k => w.heap.size ≤ k) (.slice (some ⟨k, 0, none⟩) 1 1) [a] := by
  subst hk
  exact (litByte w w.heap.size a (Nat.le_refl _)).sl (fun _ h => h.elim) (fun _ h => h)
theorem Own.byteRun {w : World} {B : Nat} {v : Value} {l : Bytes} (h : Own tByte 5 w B (fun _ => False) v l) (c : UInt8) (k : Nat) (hk : k = w.heap.size) (hn : l.length ≤ 10000000) (hB : B ≤ w.heap.size) :
    ∃ v' w', (Builtin.append_ #[69, 69] 69 #[v, .slice (some ⟨k, 0, none⟩) 1 1]).run Try.prog (w.alloc (.cells #[.int .u8 (c.toNat : Int)] 5)) = .ok v' w' ∧ Own tByte 5 w' B (fun _ => False) v' (l ++ [c]) ∧ BufOn v v' w w' := by
  obtain ⟨v', w', h1, h2, h3⟩ := (h.alloc (.cells #[.int .u8 (c.toNat : Int)] 5)).runB (m := [c]) (litByteSl w c k hk) (by simp; omega) (by simp; omega)
  exact ⟨v', w', h1, h2, (BufOn.below ((Below.refl _ _).alloc (Nat.le_refl _) _)).trans h3⟩
/-- append of bytes, in a region that draws. -/
theorem step_buf {w : World} {B : Nat} {D : Blk} {v : Value} {l m : Bytes} {ops : Array Oper} {o : Oper} {a : Act} {K : Act → World → Prop} {Q : Exit → Act → World → Prop} {Ex : Prop} (hgd : o.guard = none) (s x : Operand)
    (ho : o.op = .call { callee := .builtin .append, args := #[s, x], argTypes := #[69, 69] }) (hty : o.type = 69) (hs : a.eval s = v) (h : Own tByte 5 w B (fun _ => False) v l) {ao : Option Addr} {c n : Nat} (hx : a.eval x = .slice ao n c) (hnm : n = m.length) (hsl : Sl tByte w D (.slice ao n c) m)
    (hn : l.length + m.length ≤ 1000000000) (hB : B ≤ w.heap.size)
    (hK : ∀ v' w', Own tByte 5 w' B (fun _ => False) v' (l ++ m) → BufOn v v' w w' → K (a.put o.dst v') w') : if Region.wanted o (yielded ops a.tmps) = true then Oper.wp Try.prog o a w K Q else Ex := by
  have hw : Region.wanted o (yielded ops a.tmps) = true := by simp [Region.wanted, hgd]
  rw [if_pos hw]
  subst hnm
  obtain ⟨v', w', hrun, h1, h2⟩ := h.runB hsl hn hB
  unfold Oper.wp
  simp [execOp, ho, hty, resolve, invoke, builtin, hs, hx, hrun, Result.andThen]
  exact hK v' w' h1 h2

theorem repo_vals {r : Repo} (h : repoErr r = 0) : ∀ x ∈ r.1, ∀ y ∈ x.1, 0 ≤ y.2 ∧ y.2 ≤ 996 := by
  intro x hx
  obtain ⟨n, hn⟩ := List.mem_iff_getElem?.1 hx
  have h1 := ((dag_ok (repo_ok h).1).2 n x hn).1
  have h2 := (ok_rise h1).2
  generalize (-1 : Int) = last at h2
  generalize x.1 = l at h2
  induction l generalizing last with
  | nil => simp
  | cons a l ih =>
    rw [riseB_cons] at h2
    intro y hy
    rcases List.mem_cons.1 hy with rfl | hy
    · exact ⟨h2.1.2.2.1, h2.1.2.2.2⟩
    · exact ih _ h2.2 y hy

set_option maxHeartbeats 1000000 in
theorem refRepoBytes (v : Value) (r : Repo) (S : Blk) (w : World) (h : Rp w S v r) (he : repoErr r = 0) :
    Calls Try.prog 22 #[v] w (Ret w fun x _ => x = .string (bl (repoBy r))) := by
  have hR := h
  obtain ⟨vc, vh, rfl, hc, hh⟩ := h
  obtain ⟨ac, cc, rfl, _, _, _⟩ := hc.shape
  obtain ⟨ah, ch, rfl, _, _, _⟩ := hh.shape
  generalize hn1 : r.1.length = n1 at *
  generalize hn2 : r.2.length = n2 at *
  have HN1 := keepBack hn1
  have HN2 := keepBack hn2
  clear hn1 hn2
  obtain ⟨wA, hwA⟩ : ∃ wA, wA = w.alloc (.cells #[.slice ac n1 cc, .slice ah n2 ch] 43) := ⟨_, rfl⟩
  have bA : Below w.heap.size w wA := by rw [hwA]; exact (Below.refl _ _).alloc (Nat.le_refl _) _
  have sA : wA.heap.size = w.heap.size + 1 := by rw [hwA]; simp
  have KB : Hid (∀ W, Below wA.heap.size wA W → W.cell? ⟨w.heap.size, 0, none⟩ = some (.slice ac n1 cc) ∧ W.cell? ⟨w.heap.size, 1, none⟩ = some (.slice ah n2 ch)) := keepBack fun W hW => by
    have k0 : wA.cell? ⟨w.heap.size, 0, none⟩ = some (.slice ac n1 cc) := by rw [hwA]; simp
    have k1 : wA.cell? ⟨w.heap.size, 1, none⟩ = some (.slice ah n2 ch) := by rw [hwA]; simp
    exact ⟨(hW.cell (p := ⟨w.heap.size, 0, none⟩) (by simp; omega)).trans k0, (hW.cell (p := ⟨w.heap.size, 1, none⟩) (by simp; omega)).trans k1⟩
  obtain ⟨q0, q1⟩ := KB.out wA (Below.refl _ _)
  rw [hwA] at q0 q1
  have HWA := keepBack hwA
  clear hwA
  obtain ⟨hs1, hs2, hs3, hs4⟩ := repo_small he
  have e1 : IntKind.u8.wrap (n1 : Int) = ((byteOf n1).toNat : Int) := by rw [byteOf_nat, IntKind.wrap_u8]
  go_enter Try.func22, Try.ntmps22
  have HS2 := keepBack hs2
  have HLB : Hid (∀ k, ((r.1.take k).flatMap comBy).length ≤ 2000) := keepBack fun k => by
    have h1 := len_coms (l := r.1.take k) fun c hc => hs2 c (List.mem_of_mem_take hc)
    have h2 : (r.1.take k).length ≤ 14 := by rw [List.length_take]; omega
    omega
  have hcO := hc.old
  have hhO := hh.old
  have ho0 := litByte (w.alloc (.cells #[.slice ac n1 cc, .slice ah n2 ch] 43)) (w.heap.size + 1) (byteOf n1) (by simp)
  have hb0 : Below wA.heap.size wA ((w.alloc (.cells #[.slice ac n1 cc, .slice ah n2 ch] 43)).alloc (.cells #[.int .u8 ((byteOf n1).toNat : Int)] 5)) := by rw [HWA.out]; exact (Below.refl _ _).alloc (Nat.le_refl _) _
  rw [show (w.alloc (.cells #[.slice ac n1 cc, .slice ah n2 ch] 43)).heap.size = w.heap.size + 1 by simp] at ho0
  have RV : Hid (∀ x ∈ r.1, ∀ y ∈ x.1, 0 ≤ y.2 ∧ y.2 ≤ 996) := keepBack (repo_vals he)
  clear hs2
  generalize hH : r.1 = cs at *
  go_wp2
  clear q0 q1
  go_loopw [3, 4, 5, 6, 7] (fun ub vk _ _ _ wr => ∃ (k : Nat) (vb : Value), vb = ub ∧ k ≤ n1 ∧ vk = .int .i64 k ∧ Own tByte 5 wr (w.heap.size + 1) (fun _ => False) vb (enc1 n1 ++ (cs.take k).flatMap comBy) ∧ Below wA.heap.size wA wr) (fun _ vk _ _ _ _ => n1 - (intOf vk).toNat)
  case atStart => exact ⟨0, _, rfl, Nat.zero_le _, rfl, by simpa [enc1] using ho0, hb0⟩
  case round =>
    obtain ⟨k, vb, rfl, hk, rfl, ho, hb⟩ := hrel
    obtain ⟨q0, q1⟩ := KB.out _ hb
    have hn1 := HN1.out
    have sr := hb.size
    by_cases hlt : k < n1
    · have hkl : k < cs.length := by omega
      obtain ⟨rs, ps, hck⟩ : ∃ rs ps, cs[k] = (rs, ps) := ⟨_, _, rfl⟩
      have hsm := HS2.out cs[k] (List.getElem_mem hkl)
      have hrv := RV.out cs[k] (List.getElem_mem hkl)
      rw [hck] at hsm hrv
      simp only at hsm hrv
      have hcw := hcO.below (bA.trans (hb.mono (by omega)))
      obtain ⟨b, o, a1, c1, a2, c2, hix, _, hbs, hr1, hr2, z1, z2, z3, z4, hc0, hc1⟩ := hcw.idxCommitAt aCom k k rfl hkl rs ps hck
      obtain ⟨wC, hwC⟩ : ∃ wC, wC = wr.alloc (.cells #[.slice a1 rs.length c1, .slice a2 ps.length c2] 65) := ⟨_, rfl⟩
      have sC : wC.heap.size = wr.heap.size + 1 := by rw [hwC]; simp
      have bC : Below wr.heap.size wr wC := by rw [hwC]; exact (Below.refl _ _).alloc (Nat.le_refl _) _
      have hoC := ho.call bC
      have hnb : vb.ownBlock ≠ some wr.heap.size := fun e => by have := (ho.block _ e).2; omega
      have KC : Hid (∀ v' W, BufOn vb v' wC W → (W.cell? ⟨wr.heap.size, 0, none⟩ = some (.slice a1 rs.length c1) ∧ W.cell? ⟨wr.heap.size, 1, none⟩ = some (.slice a2 ps.length c2)) ∧
          (Sl tRow W (fun k => k < w.heap.size) (.slice a1 rs.length c1) rs ∧ Sl tInt W (fun k => k < w.heap.size) (.slice a2 ps.length c2) ps) ∧ Below wA.heap.size wA W) := keepBack fun v' W hW => by
        have k0 : wC.cell? ⟨wr.heap.size, 0, none⟩ = some (.slice a1 rs.length c1) := by rw [hwC]; simp
        have k1 : wC.cell? ⟨wr.heap.size, 1, none⟩ = some (.slice a2 ps.length c2) := by rw [hwC]; simp
        have hlow : Below (w.heap.size + 1) wC W := hW.low (fun g hg => (ho.block g hg).1) (by omega)
        have hst := (bC.mono (by omega)).trans hlow
        exact ⟨⟨(hW.cell (p := ⟨wr.heap.size, 0, none⟩) (by simp; omega) hnb).trans k0, (hW.cell (p := ⟨wr.heap.size, 1, none⟩) (by simp; omega) hnb).trans k1⟩,
          ⟨hr1.below (hst.mono (by omega)), hr2.below (hst.mono (by omega))⟩, hb.trans (by rw [sA]; exact hst)⟩
      have HWC := keepBack hwC
      have hbl : (enc1 (n1 : Int) ++ (cs.take k).flatMap comBy).length ≤ 2001 := by have := HLB.out k; rw [List.length_append, len_e1]; omega
      have hcb : (cs.take (k + 1)).flatMap comBy = (cs.take k).flatMap comBy ++ comBy (rs, ps) := by rw [flatMap_next comBy hkl, hck]
      have HCB := keepBack hcb
      clear hwC hcb hr1 hr2
      generalize (cs.take k).flatMap comBy = done at *
      have e2 : IntKind.u8.wrap (rs.length : Int) = ((byteOf rs.length).toNat : Int) := by rw [byteOf_nat, IntKind.wrap_u8]
      obtain ⟨v1, w1, hrun, ho1, on1⟩ := hoC.byteRun (byteOf rs.length) (wr.heap.size + 1) sC.symm (by omega) (by omega)
      rw [HWC.out] at hrun
      obtain ⟨⟨t0, t1⟩, ⟨g1, g2⟩, lo1⟩ := KC.out _ _ on1
      go_wp2_with (at_builtin; refine Lib.wpList_append_run _ rfl _ _ _ _ rfl _ _ rfl rfl _ _ hrun ?_)
      clear hrun
      have ho1' : Own tByte 5 w1 (w.heap.size + 1) (fun _ => False) v1 (enc1 n1 ++ done ++ enc1 rs.length) := ho1
      obtain ⟨wo, rfl⟩ : ∃ wo : World, wo = wr := ⟨_, rfl⟩
      go_loopw [3, 6] (fun ux ui wr => ∃ (j : Nat) (vx : Value), vx = ux ∧ j ≤ rs.length ∧ ui = .int .i64 j ∧ Own tByte 5 wr (w.heap.size + 1) (fun _ => False) vx (enc1 n1 ++ done ++ enc1 rs.length ++ (rs.take j).flatMap rowBy) ∧ BufOn vb vx wC wr) (fun _ ui _ => rs.length - (intOf ui).toNat)
      case atStart => exact ⟨0, _, rfl, Nat.zero_le _, rfl, by simpa using ho1', on1⟩
      case round =>
        clear t0 t1 g1 g2 ho1 ho1'
        obtain ⟨j, vx, rfl, hj, rfl, hox, onx⟩ := hrel
        obtain ⟨⟨t0, t1⟩, ⟨g1, g2⟩, lox⟩ := KC.out _ _ onx
        have swr := lox.size
        by_cases hjl : j < rs.length
        · obtain ⟨b', o', hix', _, hbs', ok1, ok2, x0, x1⟩ := g1.idxRow aRow j j rfl hjl
          have hrb := flatMap_next rowBy hjl
          have HRB := keepBack hrb
          have hlj : ((rs.take j).flatMap rowBy).length ≤ 120 := by rw [len_rows, List.length_take]; omega
          have hval := hrv rs[j] (List.getElem_mem hjl)
          clear hrb
          generalize (rs.take j).flatMap rowBy = dj at *
          generalize rs[j] = x at *
          have e3 : IntKind.u8.wrap x.1 = ((byteOf x.1).toNat : Int) := by rw [byteOf_nat, IntKind.wrap_u8]
          have hb'' : b' < w.heap.size := by assumption
          have KS : ∀ W v', BufOn vx v' wr W → W.cell? ⟨wo.heap.size, 0, none⟩ = some (.slice a1 rs.length c1) ∧ W.cell? ⟨b', o', none⟩ = some (.int .i64 x.1) ∧ W.cell? ⟨b', o' + 1, none⟩ = some (.int .i64 x.2) := fun W v' hW => by
            have := KC.out _ _ (onx.trans hW)
            have hlow : Below (w.heap.size + 1) wr W := hW.low (fun g hg => (hox.block g hg).1) (by omega)
            exact ⟨this.1.1, (hlow.cell (p := ⟨b', o', none⟩) (by simp; omega)).trans x0, (hlow.cell (p := ⟨b', o' + 1, none⟩) (by simp; omega)).trans x1⟩
          obtain ⟨WL, hWL⟩ : ∃ WL, WL = (wr.alloc (.cells #[.int .u8 ((byteOf x.1).toNat : Int)] 5)).drew := ⟨_, rfl⟩
          have bL : Below wr.heap.size wr WL := by rw [hWL]; exact ((Below.refl _ _).alloc (Nat.le_refl _) _).drew
          have hoL := hox.call bL
          have slL : Sl tByte WL (fun k => wr.heap.size ≤ k) (.slice (some ⟨wr.heap.size, 0, none⟩) 1 1) [byteOf x.1] := by rw [hWL]; exact (litByteSl wr _ _ rfl).keep fun _ _ _ => rfl
          have onL : BufOn vx vx wr WL := BufOn.below bL
          have hBL : w.heap.size + 1 ≤ WL.heap.size := Nat.le_trans (by omega) bL.size
          rw [hWL] at hoL slL onL hBL
          clear hWL bL
          have hpre : (enc1 (n1 : Int) ++ done ++ enc1 (rs.length : Int) ++ dj).length ≤ 2200 := by rw [List.length_append, List.length_append, len_e1]; omega
          have hN1 : (enc1 (n1 : Int) ++ done ++ enc1 (rs.length : Int) ++ dj).length + [byteOf x.1].length ≤ 1000000000 := by rw [List.length_singleton]; omega
          have hN2 : (enc1 (n1 : Int) ++ done ++ enc1 (rs.length : Int) ++ dj ++ [byteOf x.1]).length + (enc2 x.2).length ≤ 1000000000 := by rw [List.length_append (bs := [_]), List.length_singleton, len_e2]; omega
          have hx2 : x.2 ≤ 100000 := by omega
          go_wp2_with fail
          go_region_held3 (fun W => W.cell? ⟨wo.heap.size, 0, none⟩ = some (.slice a1 rs.length c1) ∧ W.cell? ⟨b', o', none⟩ = some (.int .i64 x.1) ∧ W.cell? ⟨b', o' + 1, none⟩ = some (.int .i64 x.2))
            (first
              | exact KS _ _ (BufOn.refl _ _)
              | exact KS _ _ (BufOn.below (Below.refl _ _).drew)
              | exact KS _ _ (BufOn.below ((Below.refl _ _).alloc (Nat.le_refl _) _).drew)
              | exact KS _ _ (by assumption)
              | fail)
            (first
              | (refine step_buf rfl (.tmp 40) (.tmp 48) rfl rfl rfl hoL rfl rfl slL hN1 hBL ?_; intro v2 w2 ho2 on2; have on2' : BufOn vx v2 wr w2 := onL.trans on2)
              | (go_at_call 44; refine (refTwoBytes x.2 w2 hval.1 hx2).mono ?_; rintro e w3 ⟨_, rfl, h3, b3⟩; obtain ⟨a3, c3, rfl, _, _, _⟩ := h3.shape; have on3' : BufOn vx v2 wr w3 := on2'.trans (BufOn.below b3))
              | (refine step_buf rfl (.tmp 49) (.tmp 56) rfl rfl rfl (ho2.call b3) rfl rfl h3 hN2 (Nat.le_trans (Nat.le_trans hBL on2.1.size) b3.size) ?_; intro v4 w4 ho4 on4; have on4' : BufOn vx v4 wr w4 := on3'.trans on4)
              | fail)
          go_wp2
          go_roundw
          case rel => exact ⟨j + 1, _, rfl, by omega, by go_num, by rw [HRB.out, rowBy]; simpa [enc1] using ho4, onx.trans on4'⟩
          case measure => simp [intOf]; omega
        · have hjj : rs.take j = rs := List.take_of_length_le (by omega)
          rw [hjj] at hox
          clear hjj
          have hlr : (rs.flatMap rowBy).length ≤ 120 := by rw [len_rows]; omega
          have hb6 : (enc1 (n1 : Int) ++ done ++ enc1 (rs.length : Int) ++ rs.flatMap rowBy).length ≤ 2200 := by rw [List.length_append, List.length_append, len_e1]; omega
          have e4 : IntKind.u8.wrap (ps.length : Int) = ((byteOf ps.length).toNat : Int) := by rw [byteOf_nat, IntKind.wrap_u8]
          obtain ⟨v5, w5, hrun, ho5, on5⟩ := hox.byteRun (byteOf ps.length) _ rfl (by omega) (by omega)
          have onx5 := onx.trans on5
          clear t0 t1 g1 g2
          obtain ⟨⟨t0, t1⟩, ⟨g1, g2⟩, lo5⟩ := KC.out _ _ onx
          obtain ⟨⟨r0, r1⟩, ⟨m1, m2⟩, lo6⟩ := KC.out _ _ onx5
          have ho5' : Own tByte 5 w5 (w.heap.size + 1) (fun _ => False) v5 (enc1 n1 ++ done ++ enc1 rs.length ++ rs.flatMap rowBy ++ enc1 ps.length) := ho5
          go_wp2_with (at_builtin; refine Lib.wpList_append_run _ rfl _ _ _ _ rfl _ _ rfl rfl _ _ hrun ?_)
          clear hrun
          obtain ⟨wq, rfl⟩ : ∃ wq : World, wq = wr := ⟨_, rfl⟩
          go_loopw [3, 7] (fun ux ui wr => ∃ (i : Nat) (vy : Value), vy = ux ∧ i ≤ ps.length ∧ ui = .int .i64 i ∧ Own tByte 5 wr (w.heap.size + 1) (fun _ => False) vy (enc1 n1 ++ done ++ enc1 rs.length ++ rs.flatMap rowBy ++ enc1 ps.length ++ (ps.take i).flatMap enc1) ∧ BufOn vb vy wC wr) (fun _ ui _ => ps.length - (intOf ui).toNat)
          case atStart => exact ⟨0, _, rfl, Nat.zero_le _, rfl, by simpa using ho5', onx5⟩
          case round =>
            clear t0 t1 g1 g2 r0 r1 m1 m2 ho5 ho5'
            obtain ⟨i, vy, rfl, hi, rfl, hoy, ony⟩ := hrel
            obtain ⟨⟨t0, t1⟩, ⟨g1, g2⟩, loy⟩ := KC.out _ _ ony
            have swr := loy.size
            by_cases hil : i < ps.length
            · obtain ⟨b', o', hix', hb', hbs', ok1, x0⟩ := g2.idxInt aInt i i rfl hil
              have hrb := flatMap_next enc1 hil
              have HRB := keepBack hrb
              have hlj : ((ps.take i).flatMap enc1).length ≤ 2 := by rw [len_enc1, List.length_take]; omega
              clear hrb
              generalize (ps.take i).flatMap enc1 = dj at *
              generalize ps[i] = n at *
              have e5 : IntKind.u8.wrap n = ((byteOf n).toNat : Int) := by rw [byteOf_nat, IntKind.wrap_u8]
              obtain ⟨v7, w7, hrun, ho7, on7⟩ := hoy.byteRun (byteOf n) _ rfl (by rw [List.length_append, List.length_append, len_e1]; omega) (by omega)
              go_wp2_with (at_builtin; refine Lib.wpList_append_run _ rfl _ _ _ _ rfl _ _ rfl rfl _ _ hrun ?_)
              go_roundw
              case rel => exact ⟨i + 1, _, rfl, by omega, by go_num, by rw [HRB.out]; simpa [enc1] using ho7, ony.trans on7⟩
              case measure => simp [intOf]; omega
            · have hjj : ps.take i = ps := List.take_of_length_le (by omega)
              rw [hjj] at hoy
              clear hjj
              go_wp2
              go_roundw
              case rel => exact ⟨k + 1, _, rfl, by omega, by go_num, by rw [HCB.out, comBy]; simpa using hoy, loy⟩
              case measure => simp [intOf]; omega
    · have hkk : cs.take k = cs := List.take_of_length_le (by omega)
      rw [hkk] at ho
      have hbl : (enc1 (n1 : Int) ++ cs.flatMap comBy).length ≤ 2001 := by have := HLB.out k; rw [hkk] at this; rw [List.length_append, len_e1]; omega
      clear hkk
      have e2 : IntKind.u8.wrap (n2 : Int) = ((byteOf n2).toNat : Int) := by rw [byteOf_nat, IntKind.wrap_u8]
      obtain ⟨v1, w1, hrun, ho1, on1⟩ := ho.byteRun (byteOf n2) _ rfl (by omega) (by omega)
      have hlow1 : Below (w.heap.size + 1) wr w1 := on1.low (fun g hg => (ho.block g hg).1) (by omega)
      have hb1 : Below wA.heap.size wA w1 := hb.trans (by rw [sA]; exact hlow1)
      have ho1' : Own tByte 5 w1 (w.heap.size + 1) (fun _ => False) v1 (enc1 n1 ++ cs.flatMap comBy ++ enc1 n2) := ho1
      have hbase : (enc1 (n1 : Int) ++ cs.flatMap comBy ++ enc1 (n2 : Int)).length ≤ 2002 := by rw [List.length_append, len_e1]; omega
      have HLH : Hid (∀ j, ((r.2.take j).flatMap headBy).length ≤ 100) := keepBack fun j => by
        have h1 := len_heads (l := r.2.take j) fun c hc => hs4 c (List.mem_of_mem_take hc)
        have h2 : (r.2.take j).length ≤ 4 := by rw [List.length_take]; omega
        omega
      have HS4 := keepBack hs4
      have hn2 := HN2.out
      clear hs4
      generalize hB : enc1 (n1 : Int) ++ cs.flatMap comBy ++ enc1 (n2 : Int) = base at *
      have HBASE := keepBack hB
      clear hB
      have HN := keepBack hn1
      clear hn1
      go_wp2_with (at_builtin; refine Lib.wpList_append_run _ rfl _ _ _ _ rfl _ _ rfl rfl _ _ hrun ?_)
      clear hrun q0 q1
      obtain ⟨wo, rfl⟩ : ∃ wo : World, wo = wr := ⟨_, rfl⟩
      go_loopw [3, 8] (fun ux ui wr => ∃ (j : Nat) (vx : Value), vx = ux ∧ j ≤ n2 ∧ ui = .int .i64 j ∧ Own tByte 5 wr (w.heap.size + 1) (fun _ => False) vx (base ++ (r.2.take j).flatMap headBy) ∧ Below wA.heap.size wA wr) (fun _ ui _ => n2 - (intOf ui).toNat)
      case atStart => exact ⟨0, _, rfl, Nat.zero_le _, rfl, by simpa using ho1', hb1⟩
      case round =>
        obtain ⟨j, vx, rfl, hj, rfl, hox, lox⟩ := hrel
        have swr := lox.size
        obtain ⟨q0, q1⟩ := KB.out _ lox
        by_cases hjl : j < n2
        · have hjl' : j < r.2.length := by omega
          have gh := hhO.below (bA.trans (lox.mono (by omega)))
          obtain ⟨b', o', hix', hb', hbs', ok1, ok2, x0, x1⟩ := gh.idxHeadAt aHead j j r.2[j] rfl (List.getElem?_eq_getElem hjl')
          have hrb := flatMap_next headBy hjl'
          have hsz := HS4.out r.2[j] (List.getElem_mem hjl')
          have HRB := keepBack hrb
          have hlj : ((r.2.take j).flatMap headBy).length ≤ 100 := HLH.out j
          clear hrb
          generalize (r.2.take j).flatMap headBy = dj at *
          generalize r.2[j] = x at *
          have e3 : IntKind.u8.wrap x.2 = ((byteOf x.2).toNat : Int) := by rw [byteOf_nat, IntKind.wrap_u8]
          have KS : ∀ W v', BufOn vx v' wr W → W.cell? ⟨w.heap.size, 1, none⟩ = some (.slice ah n2 ch) ∧ W.cell? ⟨b', o', none⟩ = some (.string x.1) ∧ W.cell? ⟨b', o' + 1, none⟩ = some (.int .i64 x.2) := fun W v' hW => by
            have hlow : Below (w.heap.size + 1) wr W := hW.low (fun g hg => (hox.block g hg).1) (by omega)
            exact ⟨(KB.out _ (lox.trans (by rw [sA]; exact hlow))).2, (hlow.cell (p := ⟨b', o', none⟩) (by simp; omega)).trans x0, (hlow.cell (p := ⟨b', o' + 1, none⟩) (by simp; omega)).trans x1⟩
          have hB0 : w.heap.size + 1 ≤ wr.heap.size := by omega
          have hN1 : (base ++ dj).length + (enc1 (x.1.size : Int) ++ x.1.data.toList).length ≤ 1000000000 := by
            rw [len_tx, List.length_append]
            omega
          have hN2 : (base ++ dj ++ (enc1 (x.1.size : Int) ++ x.1.data.toList)).length + [byteOf x.2].length ≤ 1000000000 := by
            rw [List.length_append, len_tx, List.length_singleton, List.length_append]
            omega
          have hsz' : x.1.size ≤ 100000 := by omega
          have FA : ∀ (w2 : World) (v2 : Value), Own tByte 5 w2 (w.heap.size + 1) (fun _ => False) v2 (base ++ dj ++ (enc1 (x.1.size : Int) ++ x.1.data.toList)) → BufOn vx v2 wr w2 →
              Own tByte 5 (w2.alloc (.cells #[.int .u8 ((byteOf x.2).toNat : Int)] 5)) (w.heap.size + 1) (fun _ => False) v2 (base ++ dj ++ (enc1 (x.1.size : Int) ++ x.1.data.toList)) ∧
              Sl tByte (w2.alloc (.cells #[.int .u8 ((byteOf x.2).toNat : Int)] 5)) (fun k => w2.heap.size ≤ k) (.slice (some ⟨w2.heap.size, 0, none⟩) 1 1) [byteOf x.2] ∧
              w.heap.size + 1 ≤ (w2.alloc (.cells #[.int .u8 ((byteOf x.2).toNat : Int)] 5)).heap.size ∧
              ∀ (v4 : Value) (w4 : World), BufOn v2 v4 (w2.alloc (.cells #[.int .u8 ((byteOf x.2).toNat : Int)] 5)) w4 → BufOn vx v4 wr w4 := fun w2 v2 ho2 on2 => by
            have bA2 : Below w2.heap.size w2 (w2.alloc (.cells #[.int .u8 ((byteOf x.2).toNat : Int)] 5)) := (Below.refl _ _).alloc (Nat.le_refl _) _
            exact ⟨ho2.call bA2, litByteSl w2 (byteOf x.2) _ rfl, Nat.le_trans (Nat.le_trans hB0 on2.1.size) bA2.size, fun v4 w4 on4 => on2.trans ((BufOn.below bA2).trans on4)⟩
          have FLit : ∀ W : World, Below wr.heap.size wr W → Below wr.heap.size wr (W.alloc (.cells #[.int .u8 ((byteOf x.2).toNat : Int)] 5)) ∧ Sl tByte (W.alloc (.cells #[.int .u8 ((byteOf x.2).toNat : Int)] 5)) (fun k => wr.heap.size ≤ k) (.slice (some ⟨W.heap.size, 0, none⟩) 1 1) [byteOf x.2] := fun W hW =>
            ⟨hW.alloc hW.size _, (litByteSl W (byteOf x.2) _ rfl).mono fun k hk _ => Nat.le_trans hW.size hk⟩
          have FL : ∀ (W W' : World) (v' s : Value), BufOn vx v' W W' → Sl tByte W (fun k => wr.heap.size ≤ k) s [byteOf x.2] → Sl tByte W' (fun k => wr.heap.size ≤ k) s [byteOf x.2] := fun W W' v' s hon hs =>
            hs.step hon.1 fun k hk e => by have := (hox.block k e).2; omega
          have FLD : Sl tByte (wr.alloc (.cells #[.int .u8 ((byteOf x.2).toNat : Int)] 5)).drew (fun k => wr.heap.size ≤ k) (.slice (some ⟨wr.heap.size, 0, none⟩) 1 1) [byteOf x.2] := (FLit wr (Below.refl _ _)).2.keep fun _ _ _ => rfl
          have FBD : Below wr.heap.size wr (wr.alloc (.cells #[.int .u8 ((byteOf x.2).toNat : Int)] 5)).drew := (FLit wr (Below.refl _ _)).1.drew
          go_wp2_with fail
          go_region_held3 (fun W => W.cell? ⟨w.heap.size, 1, none⟩ = some (.slice ah n2 ch) ∧ W.cell? ⟨b', o', none⟩ = some (.string x.1) ∧ W.cell? ⟨b', o' + 1, none⟩ = some (.int .i64 x.2))
            (first
              | exact KS _ _ (BufOn.refl _ _)
              | exact KS _ _ (BufOn.below (Below.refl _ _).drew)
              | exact KS _ _ (by assumption)
              | exact KS _ _ (BufOn.trans (by assumption) (BufOn.below ((Below.refl _ _).alloc (Nat.le_refl _) _)))
              | exact KS _ _ (BufOn.below FBD)
              | exact KS _ _ (BufOn.below (v := vx) (by assumption))
              | exact KS _ _ (BufOn.below (FLit _ (by assumption)).1)
              | fail)
            (first
              | (go_at_call 45; refine (refTexted x.1 _ hsz').mono ?_; rintro e w1 ⟨_, rfl, h1, b1⟩; obtain ⟨a1, c1, rfl, _, _, _⟩ := h1.shape; generalize hL1 : (enc1 (x.1.size : Int) ++ x.1.data.toList).length = L1 at h1 ⊢; have d1 : Below wr.heap.size wr w1 := (Below.refl wr.heap.size wr).drew.trans b1)
              | (go_at_call 45; refine (refTexted x.1 _ hsz').mono ?_; rintro e w1 ⟨_, rfl, h1, b1⟩; obtain ⟨a1, c1, rfl, _, _, _⟩ := h1.shape; generalize hL1 : (enc1 (x.1.size : Int) ++ x.1.data.toList).length = L1 at h1 ⊢; have d1 : Below wr.heap.size wr w1 := FBD.trans (b1.mono FBD.size); have hl1 := FLD.call b1)
              | (refine step_buf rfl (.tmp 95) (.tmp 102) rfl rfl rfl (hox.call d1) rfl hL1.symm h1 hN1 (Nat.le_trans hB0 d1.size) ?_; intro v2 w2 ho2 on2; have hl2 := FL _ _ _ _ on2 hl1; have on2' : BufOn vx v2 wr w2 := (BufOn.below d1).trans on2)
              | (refine step_buf rfl (.tmp 95) (.tmp 102) rfl rfl rfl (hox.call d1) rfl hL1.symm h1 hN1 (Nat.le_trans hB0 d1.size) ?_; intro v2 w2 ho2 on2; have on2' : BufOn vx v2 wr w2 := (BufOn.below d1).trans on2)
              | (refine step_buf rfl (.tmp 95) (.tmp 102) rfl rfl rfl (hox.call (FLit w1 d1).1) rfl hL1.symm (h1.call ((Below.refl _ _).alloc (Nat.le_refl _) _)) hN1 (Nat.le_trans hB0 (FLit w1 d1).1.size) ?_; intro v2 w2 ho2 on2; have hl2 := FL _ _ _ _ on2 (FLit w1 d1).2; have on2' : BufOn vx v2 wr w2 := (BufOn.below (FLit w1 d1).1).trans on2)
              | (refine step_buf rfl (.tmp 103) (.tmp 111) rfl rfl rfl (FA _ _ ho2 on2').1 rfl rfl (FA _ _ ho2 on2').2.1 hN2 (FA _ _ ho2 on2').2.2.1 ?_; intro v4 w4 ho4 on4; have on4' := (FA _ _ ho2 on2').2.2.2 _ _ on4)
              | (refine step_buf rfl (.tmp 103) (.tmp 111) rfl rfl rfl ho2 rfl rfl hl2 hN2 (Nat.le_trans hB0 on2'.1.size) ?_; intro v4 w4 ho4 on4; have on4' := on2'.trans on4)
              | fail)
          all_goals
            have hlow4 : Below (w.heap.size + 1) wr w4 := on4'.low (fun g hg => (hox.block g hg).1) hB0
            go_wp2
            go_roundw
            case rel => exact ⟨j + 1, _, rfl, by omega, by go_num, by rw [HRB.out, headBy]; simpa [enc1] using ho4, lox.trans (by rw [sA]; exact hlow4)⟩
            case measure => simp [intOf]; omega
        · have hjj : r.2.take j = r.2 := List.take_of_length_le (by omega)
          rw [hjj] at hox
          clear hjj
          have hrp : base ++ r.2.flatMap headBy = repoBy r := by rw [← HBASE.out, repoBy, hH, HN.out, HN2.out]
          rw [hrp] at hox
          have h0 : 0 < (repoBy r).length := by rw [repoBy]; simp [enc1]
          have htx := hox.text h0
          have hlow := bA.trans (lox.mono (by omega))
          clear hrp
          go_wp2
          go_ret
          exact ⟨_, rfl, rfl, hlow⟩

end Go.Pch
