/- disk: New, onto. -/
import Derived.Test.YtpcmidhhbgjcjaaDoorK1
import Derived.Deep.QuietTactic
import Derived.BigQuiet
import Derived.StillTailTactics
namespace Go.Proofs.YtpcmidhhbgjcjaaDoor
open Go Go.RowKit

theorem info_u8'' : (Tryd.prog.info? 5).map (fun i => (i.zero, i.size, i.bytes)) = some (some (.int .u8 0), 1, 1) := by kernel_rfl
theorem made_u8 (n : Nat) : madeCells #[.int .u8 0] n = (u8s (List.replicate n 0)).toArray := by
  apply Array.ext
  · simp [madeCells, u8s]
  · intro i h1 h2
    simp [madeCells, u8s, Nat.mod_one]
/-- The disk that New has laid. -/
theorem new_disk (n : Nat) (h1 : 1 ≤ n) (h2 : n ≤ 4194304) (w : World) (Z : Array Value) (hZ : madeCells #[.int .u8 0] n = Z) (bd bv : Nat) (hbd : bd = w.heap.size ∧ bv = w.heap.size + 1 ∨ bv = w.heap.size ∧ bd = w.heap.size + 1) (W : World)
    (hW : W = (((w.alloc (.cells Z 5)).alloc (.cells Z 5)).alloc (.cells #[.bool false, .int .i64 0, .slice (some ⟨bd, 0, none⟩) n n, .slice (some ⟨bv, 0, none⟩) n n, .slice none 0 0] 51)).drew) :
    ∃ b D, w.heap.size + 2 = b ∧ HasDisk W b D ∧ D.off = false ∧ D.left = 0 ∧ D.np = 0 ∧ D.n = n ∧ D.vis = List.replicate n 0 ∧ Below w.heap.size w W ∧ (∀ r, D.foot b r → w.heap.size ≤ r) := by
  rw [made_u8] at hZ
  have e0 : W.heap[w.heap.size]? = some (.cells Z 5 (0, 0)) := by
    rw [hW]
    exact (Below.heap_alloc _ _ _ (by simp; omega)).trans ((Below.heap_alloc _ _ _ (by simp)).trans (World.alloc_heap_new _ _))
  have e1 : W.heap[w.heap.size + 1]? = some (.cells Z 5 (0, 0)) := by
    rw [hW]
    have := World.alloc_heap_new (w.alloc (.cells Z 5)) (.cells Z 5)
    rw [World.size_alloc] at this
    exact (Below.heap_alloc _ _ _ (by simp)).trans this
  have e2 : W.heap[w.heap.size + 2]? = some (.cells #[.bool false, .int .i64 0, .slice (some ⟨bd, 0, none⟩) n n, .slice (some ⟨bv, 0, none⟩) n n, .slice none 0 0] 51 (0, 0)) := by
    rw [hW]
    have := World.alloc_heap_new ((w.alloc (.cells Z 5)).alloc (.cells Z 5)) (.cells #[.bool false, .int .i64 0, .slice (some ⟨bd, 0, none⟩) n n, .slice (some ⟨bv, 0, none⟩) n n, .slice none 0 0] 51)
    rw [World.size_alloc, World.size_alloc] at this
    exact this
  refine ⟨w.heap.size + 2, ⟨false, 0, bd, bv, n, List.replicate n 0, .slice none 0 0, 0⟩, rfl, ?_, rfl, rfl, rfl, rfl, rfl, ?_, ?_⟩
  · refine ⟨e2, ⟨List.replicate n 0, by simp, ?_⟩, ?_, by simp, ⟨[], by simp, .inl ⟨rfl, rfl⟩⟩, ?_, ?_, ?_, h1, h2, by simp⟩
    · rw [hZ]
      rcases hbd with ⟨rfl, rfl⟩ | ⟨rfl, rfl⟩
      · exact e0
      · exact e1
    · rw [hZ]
      rcases hbd with ⟨rfl, rfl⟩ | ⟨rfl, rfl⟩
      · exact e1
      · exact e0
    · show bd < _; omega
    · show bv < _; omega
    · show bd ≠ bv; omega
  · rw [hW]
    exact ((((Below.refl _ w).alloc (Nat.le_refl _) _).alloc (by simp) _).alloc (by simp; omega) _).drew
  · rintro r (h | h | h | h)
    · omega
    · have : r = bd := h
      omega
    · have : r = bv := h
      omega
    · cases h

set_option maxHeartbeats 1000000 in
theorem New_c (n : Nat) (h1 : 1 ≤ n) (h2 : n ≤ 4194304) (w : World) :
    Calls Tryd.prog 6 #[.int .i64 n] w fun e w' => ∃ b D, e = .returned (.tuple #[.pointer (some ⟨b, 0, none⟩), .int .i64 0]) ∧ HasDisk w' b D ∧ D.off = false ∧ D.left = 0 ∧ D.np = 0 ∧ D.n = n ∧ D.vis = List.replicate n 0 ∧ Below w.heap.size w w' ∧ (∀ r, D.foot b r → w.heap.size ≤ r) := by
  have hmk := run_make_row' (P := Tryd.prog) 38 5 (.int .u8 0) 1 Tryd.underlying38 info_u8'' rfl .i64 .i64 n (by omega) (by omega)
  obtain ⟨Z, hZ⟩ : ∃ Z, madeCells #[.int .u8 0] n = Z := ⟨_, rfl⟩
  rw [hZ] at hmk
  have HZ := Lib.hid hZ
  clear hZ
  go_enter Tryd.func6, Tryd.ntmps6
  go_wp2
  go_region
  all_goals
    go_wp2
    go_ret2
  · obtain ⟨b, D, hb, h⟩ := new_disk n h1 h2 w Z HZ.out w.heap.size (w.heap.size + 1) (.inl ⟨rfl, rfl⟩) _ rfl
    exact ⟨b, D, by rw [← hb]; rfl, h⟩
  · obtain ⟨b, D, hb, h⟩ := new_disk n h1 h2 w Z HZ.out (w.heap.size + 1) w.heap.size (.inr ⟨rfl, rfl⟩) _ rfl
    exact ⟨b, D, by rw [← hb]; rfl, h⟩
end Go.Proofs.YtpcmidhhbgjcjaaDoor
