/- The walks of SameRepos and of the law RepoTells' examples. The walks of shop, Begin, repoBegun and the law RepoTells. -/
import Derived.Test.YtjjkdpjjaijmbaaGreatDoorDg24
import Derived.Test.YtjjkdpjjaijmbaaGreatDoorDg19
import Derived.Test.YtjjkdpjjaijmbaaGreatDoorDg30
section
namespace Go.Pch
open Go.RowKit Go.Proofs
set_option maxRecDepth 100000
end Go.Pch
end

section
namespace Go.Pch
open Go.RowKit Go.Proofs
set_option maxRecDepth 100000
theorem beginRp (w : World) (A : Obj) : Sl tCommit (((w.alloc A).alloc (.cells #[.slice none 0 0, .slice none 0 0] 59)).alloc (.cells #[.string (ByteArray.mk #[109, 97, 105, 110]), .int .i64 0] 61)) (fun k => w.heap.size ≤ k) (.slice (some ⟨w.heap.size + 1, 0, none⟩) 1 1) [([], [])] ∧
    Sl tHead (((w.alloc A).alloc (.cells #[.slice none 0 0, .slice none 0 0] 59)).alloc (.cells #[.string (ByteArray.mk #[109, 97, 105, 110]), .int .i64 0] 61)) (fun k => w.heap.size ≤ k) (.slice (some ⟨w.heap.size + 1 + 1, 0, none⟩) 1 1) [((ByteArray.mk #[109, 97, 105, 110]), 0)] := by
  have s1 : (w.alloc A).heap.size = w.heap.size + 1 := by simp
  obtain ⟨w1, hw1⟩ : ∃ w1, w1 = w.alloc A := ⟨_, rfl⟩
  rw [← hw1] at s1 ⊢
  have hc := (Own.lit (E := tCommit) (e := 59) (B := w1.heap.size) (C := fun _ => False) (Each.one [.slice none 0 0, .slice none 0 0] (([], []) : Commit) (tCommit_mk (Sl.nil tRow w1 _) (Sl.nil tInt w1 _))) rfl (by unfold maxLen; simp) (Nat.le_refl _)).sl (D := fun k => w.heap.size ≤ k) (fun _ h => h.elim) (fun k hk => by omega)
  have hc2 := hc.call ((Below.refl _ _).alloc (Nat.le_refl _) (.cells #[.string (ByteArray.mk #[109, 97, 105, 110]), .int .i64 0] 61))
  have s2 : (w1.alloc (.cells #[.slice none 0 0, .slice none 0 0] 59)).heap.size = w.heap.size + 1 + 1 := by simp [s1]
  have hh := (Own.lit (E := tHead) (e := 61) (w := w1.alloc (.cells #[.slice none 0 0, .slice none 0 0] 59)) (B := (w1.alloc (.cells #[.slice none 0 0, .slice none 0 0] 59)).heap.size) (C := fun _ => False) (Each.one [.string (ByteArray.mk #[109, 97, 105, 110]), .int .i64 0] (((ByteArray.mk #[109, 97, 105, 110]), 0) : Head) ⟨rfl, ok_small (a := 0) (by decide), by unfold maxLen; show 4 ≤ _; omega⟩) rfl (by unfold maxLen; simp) (Nat.le_refl _)).sl (D := fun k => w.heap.size ≤ k) (fun _ h => h.elim) (fun k hk => by omega)
  rw [s2] at hh
  rw [s1] at hc2
  exact ⟨hc2, hh⟩
theorem repoBegin (w : World) : Calls Tryz.prog 9 #[] w (Ret w fun r w' => Rp w' (fun k => w.heap.size ≤ k) r ([([], [])], [((ByteArray.mk #[109, 97, 105, 110]), 0)])) := by
  go_enter Tryz.func9, Tryz.ntmps9
  go_wp2_with fail
  obtain ⟨hc, hh⟩ := beginRp w (.cells #[.slice (some ⟨w.heap.size + 1, 0, none⟩) 1 1, .slice (some ⟨w.heap.size + 1 + 1, 0, none⟩) 1 1] 33)
  have hb : Below w.heap.size w (((w.alloc (.cells #[.slice (some ⟨w.heap.size + 1, 0, none⟩) 1 1, .slice (some ⟨w.heap.size + 1 + 1, 0, none⟩) 1 1] 33)).alloc (.cells #[.slice none 0 0, .slice none 0 0] 59)).alloc (.cells #[.string (ByteArray.mk #[109, 97, 105, 110]), .int .i64 0] 61)) := (((Below.refl _ _).alloc (Nat.le_refl _) _).alloc (by simp) _).alloc (by simp; omega) _
  have hg : (((w.alloc (.cells #[.slice (some ⟨w.heap.size + 1, 0, none⟩) 1 1, .slice (some ⟨w.heap.size + 1 + 1, 0, none⟩) 1 1] 33)).alloc (.cells #[.slice none 0 0, .slice none 0 0] 59)).alloc (.cells #[.string (ByteArray.mk #[109, 97, 105, 110]), .int .i64 0] 61)).heap[w.heap.size]? = some (.cells #[.slice (some ⟨w.heap.size + 1, 0, none⟩) 1 1, .slice (some ⟨w.heap.size + 1 + 1, 0, none⟩) 1 1] 33) :=
    (Below.heap_alloc _ _ _ (by simp; omega)).trans ((Below.heap_alloc _ _ _ (by simp)).trans (heap_alloc_new w _))
  exact bodyPost_ret (results_cell_row rfl _ _ _ _ _ _ _ rfl hg Tryz.underlying33 rfl rfl) rfl ⟨_, rfl, ⟨_, _, rfl, hc, hh⟩, hb⟩
theorem refBegin (w : World) : Calls Tryz.prog 15 #[] w (Ret w fun r w' => Rp w' (fun k => w.heap.size ≤ k) r ([([], [])], [((ByteArray.mk #[109, 97, 105, 110]), 0)])) := by
  go_enter Tryz.func15, Tryz.ntmps15
  go_wp2_with fail
  obtain ⟨hc, hh⟩ := beginRp w (.cells #[.slice (some ⟨w.heap.size + 1, 0, none⟩) 1 1, .slice (some ⟨w.heap.size + 1 + 1, 0, none⟩) 1 1] 33)
  have hb : Below w.heap.size w (((w.alloc (.cells #[.slice (some ⟨w.heap.size + 1, 0, none⟩) 1 1, .slice (some ⟨w.heap.size + 1 + 1, 0, none⟩) 1 1] 33)).alloc (.cells #[.slice none 0 0, .slice none 0 0] 59)).alloc (.cells #[.string (ByteArray.mk #[109, 97, 105, 110]), .int .i64 0] 61)) := (((Below.refl _ _).alloc (Nat.le_refl _) _).alloc (by simp) _).alloc (by simp; omega) _
  have hg : (((w.alloc (.cells #[.slice (some ⟨w.heap.size + 1, 0, none⟩) 1 1, .slice (some ⟨w.heap.size + 1 + 1, 0, none⟩) 1 1] 33)).alloc (.cells #[.slice none 0 0, .slice none 0 0] 59)).alloc (.cells #[.string (ByteArray.mk #[109, 97, 105, 110]), .int .i64 0] 61)).heap[w.heap.size]? = some (.cells #[.slice (some ⟨w.heap.size + 1, 0, none⟩) 1 1, .slice (some ⟨w.heap.size + 1 + 1, 0, none⟩) 1 1] 33) :=
    (Below.heap_alloc _ _ _ (by simp; omega)).trans ((Below.heap_alloc _ _ _ (by simp)).trans (heap_alloc_new w _))
  exact bodyPost_ret (results_cell_row rfl _ _ _ _ _ _ _ rfl hg Tryz.underlying33 rfl rfl) rfl ⟨_, rfl, ⟨_, _, rfl, hc, hh⟩, hb⟩
def H3 (s t : ByteArray) : List Head := [(s, 3), (t, 1)]
end Go.Pch
end
