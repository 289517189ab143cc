/- The walk of wire.Write. -/
import Derived.Test.YtklgejafblocjaaPenB
import Derived.Test.YtklgejafblocjaaRepC
namespace Go.Pch
open Go.RowKit Go.Proofs
set_option maxRecDepth 100000

/-- L1: the bytes of a row, of a commit, of a head, of a repo. -/
def rowBy (x : Row) : Bytes := enc1 x.1 ++ enc2 x.2
def comBy (c : Commit) : Bytes := enc1 c.1.length ++ c.1.flatMap rowBy ++ enc1 c.2.length ++ c.2.flatMap enc1
def headBy (h : Head) : Bytes := enc1 h.1.size ++ h.1.data.toList ++ enc1 h.2
def repoBy (r : Repo) : Bytes := enc1 r.1.length ++ r.1.flatMap comBy ++ enc1 r.2.length ++ r.2.flatMap headBy
theorem len_e1 (n : Int) : (enc1 n).length = 1 := rfl
theorem len_e2 (n : Int) : (enc2 n).length = 2 := rfl
theorem len_rows (l : List Row) : (l.flatMap rowBy).length = 3 * l.length := by
  induction l with
  | nil => rfl
  | cons a l ih => rw [List.flatMap_cons, List.length_append, ih]; simp [rowBy, enc1, enc2]; omega
theorem len_com (c : Commit) : (comBy c).length = 2 + 3 * c.1.length + c.2.length := by
  simp only [comBy, List.length_append, len_rows, len_enc1]; simp [enc1]; omega
theorem len_coms {l : List Commit} (h : ∀ c ∈ l, c.1.length ≤ 40 ∧ c.2.length ≤ 2) : (l.flatMap comBy).length ≤ 124 * l.length := by
  induction l with
  | nil => simp
  | cons a l ih =>
    have h0 := h a (by simp)
    have := ih fun c hc => h c (by simp [hc])
    rw [List.flatMap_cons, List.length_append, len_com, List.length_cons]
    omega
theorem len_heads {l : List Head} (h : ∀ c ∈ l, c.1.size ≤ 8) : (l.flatMap headBy).length ≤ 10 * l.length := by
  induction l with
  | nil => simp
  | cons a l ih =>
    have h0 := h a (by simp)
    have := ih fun c hc => h c (by simp [hc])
    have e : a.1.data.toList.length = a.1.size := Array.length_toList
    rw [List.flatMap_cons, List.length_append, List.length_cons]
    simp only [headBy, enc1, List.length_append, List.length_cons, List.length_nil, e]
    omega
/-- What a right repo is like. -/
theorem repo_small {r : Repo} (h : repoErr r = 0) : r.1.length ≤ 14 ∧ (∀ c ∈ r.1, c.1.length ≤ 40 ∧ c.2.length ≤ 2) ∧ r.2.length ≤ 4 ∧ ∀ x ∈ r.2, x.1.size ≤ 8 := by
  obtain ⟨h1, h2, h3, _⟩ := repo_ok h
  obtain ⟨g1, g2⟩ := dag_ok h1
  refine ⟨g1, fun c hc => ?_, h2, fun x hx => ?_⟩
  · obtain ⟨n, hn⟩ := List.mem_iff_getElem?.1 hc
    have := g2 n c hn
    exact ⟨(ok_rise this.1).1, this.2.1⟩
  · rw [List.any_eq_false] at h3
    have := h3 x hx
    simp only [Bool.not_eq_true, Bool.not_eq_false', nameB, Bool.and_eq_true, decide_eq_true_eq] at this
    exact this.1.2
/-- L1: Write's answer. -/
def writeP (r : Repo) : Bytes × Int := if repoErr r = 0 then (repoBy r, 0) else ([], repoErr r)

set_option maxHeartbeats 2000000 in
theorem wireWrite (v : Value) (r : Repo) (S : Blk) (w : World) (h : Rp w S v r) :
    Calls Try.prog 20 #[v] w (Ret w fun x _ => x = .tuple #[.string (bl (writeP r).1), .int .i64 (writeP r).2]) := by
  have hR := h
  obtain ⟨vc, vh, rfl, hc, hh⟩ := h
  obtain ⟨ac, cc, rfl, _, _, _⟩ := hc.shape
  obtain ⟨ah, ch, rfl, _, _, _⟩ := hh.shape
  generalize hn1 : r.1.length = n1 at *
  generalize hn2 : r.2.length = n2 at *
  have HN1 := keepBack hn1
  have HN2 := keepBack hn2
  clear hn1 hn2
  obtain ⟨wA, hwA⟩ : ∃ wA, wA = w.alloc (.cells #[.slice ac n1 cc, .slice ah n2 ch] 43) := ⟨_, rfl⟩
  have bA : Below w.heap.size w wA := by rw [hwA]; exact (Below.refl _ _).alloc (Nat.le_refl _) _
  have sA : wA.heap.size = w.heap.size + 1 := by rw [hwA]; simp
  have KB : Hid (∀ W, Below wA.heap.size wA W → W.cell? ⟨w.heap.size, 0, none⟩ = some (.slice ac n1 cc) ∧ W.cell? ⟨w.heap.size, 1, none⟩ = some (.slice ah n2 ch)) := keepBack fun W hW => by
    have k0 : wA.cell? ⟨w.heap.size, 0, none⟩ = some (.slice ac n1 cc) := by rw [hwA]; simp
    have k1 : wA.cell? ⟨w.heap.size, 1, none⟩ = some (.slice ah n2 ch) := by rw [hwA]; simp
    exact ⟨(hW.cell (p := ⟨w.heap.size, 0, none⟩) (by simp; omega)).trans k0, (hW.cell (p := ⟨w.heap.size, 1, none⟩) (by simp; omega)).trans k1⟩
  have HWA := keepBack hwA
  clear hwA
  have hA := hR.call bA
  by_cases he : repoErr r = 0
  · obtain ⟨hs1, hs2, hs3, hs4⟩ := repo_small he
    have hP : writeP r = (repoBy r, 0) := by rw [writeP, if_pos he]
    rw [hP]
    clear hP
    obtain ⟨q0, q1⟩ := KB.out wA (Below.refl _ _)
    go_enter Try.func20, Try.ntmps20
    go_wp2_with fail
    rw [← HWA.out]
    refine (repoCheck_of _ _ _ wA hA he).mono ?_; rintro e w1 ⟨_, rfl, rfl, b1⟩
    have s1 := b1.size
    have h1 := hA.call b1
    clear q0 q1
    have b1P := b1.alloc (by omega) (.cells #[.slice none 0 0, .bool false] 71)
    obtain ⟨q0, q1⟩ := KB.out _ b1P
    have hi1 : i64ok (n1 : Int) := by have := HN1.out; unfold i64ok; omega
    have hpen : PenAt (w1.alloc (.cells #[.slice none 0 0, .bool false] 71)) w1.heap.size w1.heap.size (.slice none 0 0) [] false := ⟨Nat.le_refl _, by simp, heap_alloc_new _ _, Own.nil⟩
    go_wp2_with fail
    refine (penOneL w1.heap.size w1.heap.size _ _ _ (by simp) _ _ _ hpen hi1 (by simp)).mono ?_; rintro e w2 ⟨rfl, v2, hp2, on2⟩
    have PB : Hid (∀ v' W, PenOn w1.heap.size (.slice none 0 0) v' (w1.alloc (.cells #[.slice none 0 0, .bool false] 71)) W → Below w1.heap.size w1 W) := keepBack fun v' W hW =>
      ((Below.refl w1.heap.size w1).alloc (Nat.le_refl _) _).trans (hW.1.below (fun k hk => by
        rcases hk with hk | hk
        · omega
        · simp [Value.ownBlock] at hk) (by simp))
    clear q0 q1
    simp only [List.nil_append] at hp2
    have b2 := PB.out _ _ on2
    obtain ⟨q0, q1⟩ := KB.out w2 (b1.trans (b2.mono s1))
    have h2 := h1.call b2
    generalize (false || outN 1 (n1 : Int)) = bad2 at *
    have hcO := hc.old
    have hhO := hh.old
    have LOW : Hid (∀ v' W, PenOn w1.heap.size (.slice none 0 0) v' (w1.alloc (.cells #[.slice none 0 0, .bool false] 71)) W → Below w.heap.size w W) := keepBack fun v' W hW => bA.trans ((b1.trans ((PB.out v' W hW).mono s1)).mono (by omega))
    generalize hwP : w1.alloc (.cells #[.slice none 0 0, .bool false] 71) = wP at *
    have HWP := keepBack hwP
    have sB : w.heap.size ≤ w1.heap.size := by omega
    clear hwP b1P hpen
    generalize w1.heap.size = pb at *
    have HN := HN1.out
    have HS2 := keepBack hs2
    have HLB : Hid (∀ k, ((r.1.take k).flatMap comBy).length ≤ 2000) := keepBack fun k => by
      have h1 := len_coms (l := r.1.take k) fun c hc => hs2 c (List.mem_of_mem_take hc)
      have h2 : (r.1.take k).length ≤ 14 := by rw [List.length_take]; omega
      omega
    clear hs2
    generalize hH : r.1 = cs at *
    go_wp2_with fail
    go_loopw [7, 9, 28] (fun _ _ i wr => ∃ (k : Nat) (vr : Value) (bd : Bool), k ≤ n1 ∧ i = .int .i64 k ∧ PenAt wr pb pb vr (enc1 n1 ++ (cs.take k).flatMap comBy) bd ∧ PenOn pb (.slice none 0 0) vr wP wr) (fun _ _ i _ => n1 - (intOf i).toNat)
    case atStart => exact ⟨0, v2, _, Nat.zero_le _, rfl, by simpa using hp2, on2⟩
    case round =>
      obtain ⟨k, vr, bd, hk, rfl, hpr, onr⟩ := hrel
      have hlt0 := hpr.lt
      by_cases hlt : k < n1
      · have hkl : k < cs.length := by omega
        obtain ⟨rs, ps, hck⟩ : ∃ rs ps, cs[k] = (rs, ps) := ⟨_, _, rfl⟩
        have hsm := HS2.out cs[k] (List.getElem_mem hkl)
        rw [hck] at hsm
        have hcw := hcO.below (LOW.out _ _ onr)
        obtain ⟨b, o, a1, c1, a2, c2, hix, _, hbs, hr1, hr2, z1, z2, z3, z4, hc0, hc1⟩ := hcw.idxCommitAt aCom k k rfl hkl rs ps hck
        have hrl : i64ok (rs.length : Int) := by unfold i64ok; omega
        have hpl : i64ok (ps.length : Int) := by unfold i64ok; omega
        obtain ⟨wC, hwC⟩ : ∃ wC, wC = wr.alloc (.cells #[.slice a1 rs.length c1, .slice a2 ps.length c2] 65) := ⟨_, rfl⟩
        have sC : wC.heap.size = wr.heap.size + 1 := by rw [hwC]; simp
        have bC : PenOn pb vr vr wr wC := by rw [hwC]; exact (PenOn.refl _ _ _).alloc _
        have hpC : PenAt wC pb pb vr _ bd := hpr.call (by rw [hwC]; exact (Below.refl _ _).alloc (Nat.le_refl _) _)
        have KC : Hid (∀ v' W, PenOn pb vr v' wC W → W.cell? ⟨wr.heap.size, 0, none⟩ = some (.slice a1 rs.length c1) ∧ W.cell? ⟨wr.heap.size, 1, none⟩ = some (.slice a2 ps.length c2) ∧
            Sl tRow W (fun k => k < w.heap.size) (.slice a1 rs.length c1) rs ∧ Sl tInt W (fun k => k < w.heap.size) (.slice a2 ps.length c2) ps) := keepBack fun v' W hW => by
          have k0 : wC.cell? ⟨wr.heap.size, 0, none⟩ = some (.slice a1 rs.length c1) := by rw [hwC]; simp
          have k1 : wC.cell? ⟨wr.heap.size, 1, none⟩ = some (.slice a2 ps.length c2) := by rw [hwC]; simp
          have hn := hpr.notNew (Nat.le_refl wr.heap.size)
          have hst := (bC.trans hW).1
          exact ⟨(hW.cell (p := ⟨wr.heap.size, 0, none⟩) (by simp; omega) hn).trans k0, (hW.cell (p := ⟨wr.heap.size, 1, none⟩) (by simp; omega) hn).trans k1,
            hr1.step hst fun k hk => hpr.notOld (by omega), hr2.step hst fun k hk => hpr.notOld (by omega)⟩
        have HWC := keepBack hwC
        have hbl : (enc1 (n1 : Int) ++ (cs.take k).flatMap comBy).length ≤ 2001 := by have := HLB.out k; rw [List.length_append, len_e1]; omega
        have hcb : (cs.take (k + 1)).flatMap comBy = (cs.take k).flatMap comBy ++ comBy (rs, ps) := by rw [flatMap_next comBy hkl, hck]
        have HCB := keepBack hcb
        clear hwC hcb hr1 hr2
        generalize (cs.take k).flatMap comBy = done at *
        go_wp2_with fail
        rw [← HWC.out]
        refine (penOneL pb pb _ wC _ sC.symm vr _ bd hpC hrl (by omega)).mono ?_; rintro e w3 ⟨rfl, v3, hp3, on3⟩
        obtain ⟨q0, q1, hr1, hr2⟩ := KC.out _ _ on3
        have hb3 : (enc1 (n1 : Int) ++ done ++ enc1 (rs.length : Int)).length ≤ 2002 := by rw [List.length_append, len_e1]; omega
        generalize (bd || outN 1 (rs.length : Int)) = bd3 at *
        go_wp2_with fail
        obtain ⟨wo, rfl⟩ : ∃ wo : World, wo = wr := ⟨_, rfl⟩
        go_loopw [9, 41] (fun _ i wr => ∃ (j : Nat) (vj : Value) (bj : Bool), j ≤ rs.length ∧ i = .int .i64 j ∧ PenAt wr pb pb vj (enc1 n1 ++ done ++ enc1 rs.length ++ (rs.take j).flatMap rowBy) bj ∧ PenOn pb vr vj wC wr) (fun _ i _ => rs.length - (intOf i).toNat)
        case atStart => exact ⟨0, v3, _, Nat.zero_le _, rfl, by simpa using hp3, on3⟩
        case round =>
          obtain ⟨j, vj, bj, hj, rfl, hpj, onj⟩ := hrel
          have hltj := hpj.lt
          obtain ⟨t0, t1, g1, g2⟩ := KC.out _ _ onj
          by_cases hjl : j < rs.length
          · obtain ⟨b', o', hix', _, hbs', ok1, ok2, x0, x1⟩ := g1.idxRow aRow j j rfl hjl
            have hrb := flatMap_next rowBy hjl
            have HRB := keepBack hrb
            have hlj : ((rs.take j).flatMap rowBy).length ≤ 120 := by rw [len_rows, List.length_take]; omega
            clear hrb
            generalize (rs.take j).flatMap rowBy = dj at *
            generalize rs[j] = x at *
            obtain ⟨wX, hwX⟩ : ∃ wX, wX = wr.alloc (.cells #[.int .i64 x.1, .int .i64 x.2] 74) := ⟨_, rfl⟩
            have sX : wX.heap.size = wr.heap.size + 1 := by rw [hwX]; simp
            have bX : PenOn pb vj vj wr wX := by rw [hwX]; exact (PenOn.refl _ _ _).alloc _
            have hpX : PenAt wX pb pb vj _ bj := hpj.call (by rw [hwX]; exact (Below.refl _ _).alloc (Nat.le_refl _) _)
            have KX : Hid (∀ v' W, PenOn pb vj v' wX W → W.cell? ⟨wr.heap.size, 0, none⟩ = some (.int .i64 x.1) ∧ W.cell? ⟨wr.heap.size, 1, none⟩ = some (.int .i64 x.2)) := keepBack fun v' W hW => by
              have k0 : wX.cell? ⟨wr.heap.size, 0, none⟩ = some (.int .i64 x.1) := by rw [hwX]; simp
              have k1 : wX.cell? ⟨wr.heap.size, 1, none⟩ = some (.int .i64 x.2) := by rw [hwX]; simp
              have hn := hpj.notNew (Nat.le_refl wr.heap.size)
              exact ⟨(hW.cell (p := ⟨wr.heap.size, 0, none⟩) (by simp; omega) hn).trans k0, (hW.cell (p := ⟨wr.heap.size, 1, none⟩) (by simp; omega) hn).trans k1⟩
            have HWX := keepBack hwX
            clear hwX
            go_wp2_with fail
            rw [← HWX.out]
            refine (penOneL pb pb _ wX _ sX.symm vj _ bj hpX ok1 (by rw [List.length_append]; omega)).mono ?_; rintro e w4 ⟨rfl, v4, hp4, on4⟩
            clear x0 x1
            obtain ⟨x0, x1⟩ := KX.out _ _ on4
            go_wp2_with fail
            refine (penTwoL pb pb _ w4 _ rfl v4 _ _ hp4 ok2 (by rw [List.length_append, List.length_append, len_e1]; omega)).mono ?_; rintro e w5 ⟨rfl, v5, hp5, on5⟩
            go_wp2
            go_roundw
            case rel => exact ⟨j + 1, v5, _, by omega, by go_num, by rw [HRB.out, rowBy]; simpa using hp5, onj.trans (bX.trans (on4.trans on5))⟩
            case measure => simp [intOf]; omega
          · have hjj : rs.take j = rs := List.take_of_length_le (by omega)
            rw [hjj] at hpj
            clear hjj
            have hlr : (rs.flatMap rowBy).length ≤ 120 := by rw [len_rows]; omega
            have hb6 : (enc1 (n1 : Int) ++ done ++ enc1 (rs.length : Int) ++ rs.flatMap rowBy).length ≤ 2122 := by rw [List.length_append]; omega
            go_wp2_with fail
            refine (penOneL pb pb _ wr _ rfl vj _ bj hpj hpl (by omega)).mono ?_; rintro e w6 ⟨rfl, v6, hp6, on6⟩
            clear t0 t1 g1 g2
            obtain ⟨t0, t1, g1, g2⟩ := KC.out _ _ (onj.trans on6)
            go_wp2_with fail
            refine (penPut1 pb pb _ ps _ w6 v6 _ _ hp6 g2 (fun k hk => hp6.notOld (by omega)) (by omega) (by rw [List.length_append, len_e1]; omega)).mono ?_; rintro e w7 ⟨rfl, v7, hp7, on7⟩
            go_wp2
            go_roundw
            case rel => exact ⟨k + 1, v7, _, by omega, by go_num, by rw [HCB.out, comBy]; simpa using hp7, onr.trans (bC.trans (onj.trans (on6.trans on7)))⟩
            case measure => simp [intOf]; omega
      · have hkk : cs.take k = cs := List.take_of_length_le (by omega)
        rw [hkk] at hpr
        have hbl : (enc1 (n1 : Int) ++ cs.flatMap comBy).length ≤ 2001 := by have := HLB.out k; rw [hkk] at this; rw [List.length_append, len_e1]; omega
        clear hkk
        have low := LOW.out _ _ onr
        have KH : Hid (∀ v' W, PenOn pb (.slice none 0 0) v' wP W → W.cell? ⟨w.heap.size, 0, none⟩ = some (.slice ac n1 cc) ∧ W.cell? ⟨w.heap.size, 1, none⟩ = some (.slice ah n2 ch) ∧ Sl tHead W (fun k => k < w.heap.size) (.slice ah n2 ch) r.2) := keepBack fun v' W hW =>
          ⟨(KB.out W (b1.trans ((PB.out v' W hW).mono s1))).1, (KB.out W (b1.trans ((PB.out v' W hW).mono s1))).2, hhO.below (LOW.out v' W hW)⟩
        have hi2 : i64ok (n2 : Int) := by have := HN2.out; unfold i64ok; omega
        clear q0 q1
        obtain ⟨q0, q1, gh⟩ := KH.out _ _ onr
        go_wp2_with fail
        refine (penOneL pb pb _ wr _ rfl vr _ bd hpr hi2 (by omega)).mono ?_; rintro e w3 ⟨rfl, v3, hp3, on3⟩
        have hb3 : (enc1 (n1 : Int) ++ cs.flatMap comBy ++ enc1 (n2 : Int)).length ≤ 2002 := by rw [List.length_append, len_e1]; omega
        clear q0 q1 gh
        obtain ⟨q0, q1, gh⟩ := KH.out _ _ (onr.trans on3)
        obtain ⟨wo, rfl⟩ : ∃ wo : World, wo = wr := ⟨_, rfl⟩
        have HLH : Hid (∀ j, ((r.2.take j).flatMap headBy).length ≤ 100) := keepBack fun j => by
          have h1 := len_heads (l := r.2.take j) fun c hc => hs4 c (List.mem_of_mem_take hc)
          have h2 : (r.2.take j).length ≤ 4 := by rw [List.length_take]; omega
          omega
        have HS4 := keepBack hs4
        have hn2 := HN2.out
        clear hs4
        generalize hB : enc1 (n1 : Int) ++ cs.flatMap comBy ++ enc1 (n2 : Int) = base at *
        have HBASE := keepBack hB
        clear hB
        go_wp2_with fail
        go_loopw [11, 76] (fun _ i wr => ∃ (j : Nat) (vj : Value) (bj : Bool), j ≤ n2 ∧ i = .int .i64 j ∧ PenAt wr pb pb vj (base ++ (r.2.take j).flatMap headBy) bj ∧ PenOn pb (.slice none 0 0) vj wP wr) (fun _ i _ => n2 - (intOf i).toNat)
        case atStart => exact ⟨0, v3, _, Nat.zero_le _, rfl, by simpa using hp3, onr.trans on3⟩
        case round =>
          obtain ⟨j, vj, bj, hj, rfl, hpj, onj⟩ := hrel
          have hltj := hpj.lt
          clear q0 q1 gh
          obtain ⟨q0, q1, gh⟩ := KH.out _ _ onj
          by_cases hjl : j < n2
          · have hjl' : j < r.2.length := by omega
            obtain ⟨b', o', hix', _, hbs', ok1, ok2, x0, x1⟩ := gh.idxHeadAt aHead j j r.2[j] rfl (List.getElem?_eq_getElem hjl')
            have hrb := flatMap_next headBy hjl'
            have hsz := HS4.out r.2[j] (List.getElem_mem hjl')
            have HRB := keepBack hrb
            have hlj : ((r.2.take j).flatMap headBy).length ≤ 100 := HLH.out j
            clear hrb
            generalize (r.2.take j).flatMap headBy = dj at *
            generalize r.2[j] = x at *
            obtain ⟨wX, hwX⟩ : ∃ wX, wX = wr.alloc (.cells #[.string x.1, .int .i64 x.2] 76) := ⟨_, rfl⟩
            have sX : wX.heap.size = wr.heap.size + 1 := by rw [hwX]; simp
            have bX : PenOn pb vj vj wr wX := by rw [hwX]; exact (PenOn.refl _ _ _).alloc _
            have hpX : PenAt wX pb pb vj _ bj := hpj.call (by rw [hwX]; exact (Below.refl _ _).alloc (Nat.le_refl _) _)
            have KX : Hid (∀ v' W, PenOn pb vj v' wX W → W.cell? ⟨wr.heap.size, 0, none⟩ = some (.string x.1) ∧ W.cell? ⟨wr.heap.size, 1, none⟩ = some (.int .i64 x.2)) := keepBack fun v' W hW => by
              have k0 : wX.cell? ⟨wr.heap.size, 0, none⟩ = some (.string x.1) := by rw [hwX]; simp
              have k1 : wX.cell? ⟨wr.heap.size, 1, none⟩ = some (.int .i64 x.2) := by rw [hwX]; simp
              have hn := hpj.notNew (Nat.le_refl wr.heap.size)
              exact ⟨(hW.cell (p := ⟨wr.heap.size, 0, none⟩) (by simp; omega) hn).trans k0, (hW.cell (p := ⟨wr.heap.size, 1, none⟩) (by simp; omega) hn).trans k1⟩
            have HWX := keepBack hwX
            clear hwX
            go_wp2_with fail
            rw [← HWX.out]
            refine (penText pb pb x.1 wX vj _ bj hpX (by rw [List.length_append]; omega) (by omega)).mono ?_; rintro e w4 ⟨rfl, v4, hp4, on4⟩
            clear x0 x1
            obtain ⟨x0, x1⟩ := KX.out _ _ on4
            have e8 : x.1.data.toList.length = x.1.size := Array.length_toList
            go_wp2_with fail
            refine (penOneL pb pb _ w4 _ rfl v4 _ _ hp4 ok1 (by rw [List.length_append, List.length_append, List.length_append, len_e1]; omega)).mono ?_; rintro e w5 ⟨rfl, v5, hp5, on5⟩
            go_wp2
            go_roundw
            case rel => exact ⟨j + 1, v5, _, by omega, by go_num, by rw [HRB.out, headBy]; simpa using hp5, onj.trans (bX.trans (on4.trans on5))⟩
            case measure => simp [intOf]; omega
          · have hjj : r.2.take j = r.2 := List.take_of_length_le (by omega)
            rw [hjj] at hpj
            clear hjj
            have hrp : base ++ r.2.flatMap headBy = repoBy r := by rw [← HBASE.out, repoBy, hH, HN1.out, HN2.out]
            rw [hrp] at hpj
            have h0 : 0 < (repoBy r).length := by rw [repoBy]; simp [enc1]
            have htx := hpj.text h0
            have p0 := hpj.cell0
            have hlow := LOW.out _ _ onj
            clear hrp
            go_wp2
            go_ret2
            exact ⟨_, rfl, rfl, hlow⟩
  · have hP : writeP r = ([], repoErr r) := by rw [writeP, if_neg he]
    rw [hP]
    have HE := keepBack he
    generalize hE : repoErr r = E at *
    obtain ⟨q0, q1⟩ := KB.out wA (Below.refl _ _)
    go_enter Try.func20, Try.ntmps20
    go_wp2_with fail
    rw [← HWA.out]
    refine (repoCheck_of _ _ _ wA hA hE).mono ?_; rintro e w1 ⟨_, rfl, rfl, b1⟩
    clear hE
    go_wp2
    go_ret2
    exact ⟨_, rfl, rfl, bA.trans (b1.mono (by omega))⟩

end Go.Pch
