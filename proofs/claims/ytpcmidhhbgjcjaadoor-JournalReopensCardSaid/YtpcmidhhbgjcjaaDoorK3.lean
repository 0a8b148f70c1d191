/- disk: onto, settle. -/
import Derived.Test.YtpcmidhhbgjcjaaDoorK2
import Derived.Lib.BufferWrite
import Derived.Lib.SliceRun
namespace Go.Proofs.YtpcmidhhbgjcjaaDoor
open Go Go.RowKit

theorem drew_fr {X : Nat → Prop} (w : World) : Fr X w w.drew := (Fr.refl X w).drew
theorem Fr.setRow {X : Nat → Prop} {w w1 : World} (h : Fr X w w1) {g : Nat} (hg : X g) (cs : Array Value) : Fr X w (w1.setRow g cs) :=
  h.trans (Y := fun k => k = g) ⟨rfl, rfl, rfl, by simp [World.setRow], fun k _ hn => by simp only [World.setRow, Array.getElem?_modify]; rw [if_neg (fun e => hn e.symm)]⟩ (fun r hr => by rw [hr]; exact .inl hg)
theorem u8_size1 : (Tryd.prog.info? 5).map (·.size) = some 1 := by kernel_rfl
/-- A content after a write. -/
def putAt (l : List UInt8) (o : Nat) (s : List UInt8) : List UInt8 := l.take o ++ s ++ l.drop (o + s.length)
theorem putAt_len (l : List UInt8) (o : Nat) (s : List UInt8) (h : o + s.length ≤ l.length) : (putAt l o s).length = l.length := by simp [putAt]; omega
theorem u8s_putAt (l : List UInt8) (o : Nat) (s : ByteArray) : ((u8s l).toArray.toList.take o ++ Lib.byteCells s.data.toList ++ (u8s l).toArray.toList.drop (o + s.size)).toArray = (u8s (putAt l o s.data.toList)).toArray := by
  have : s.data.toList.length = s.size := rfl
  simp [putAt, u8s, Lib.byteCells, this]
set_option maxRecDepth 100000 in
set_option maxHeartbeats 1000000 in
theorem onto_c (bv n o : Nat) (l : List UInt8) (s : ByteArray) (w : World) (h : w.heap[bv]? = some (.cells (u8s l).toArray 5 (0, 0))) (hl : l.length = n) (ho : o + s.size ≤ n) (hon : o < n) (_hn : n ≤ 4194304) :
    Calls Tryd.prog 36 #[.agg #[.int .i64 o, .string s], .slice (some ⟨bv, 0, none⟩) n n] w fun e w' => e = .returned (.tuple #[]) ∧ Fr (fun r => r = bv) w w' ∧ w'.heap[bv]? = some (.cells (u8s (putAt l o s.data.toList)).toArray 5 (0, 0)) := by
  have hcp : ∀ W : World, W.heap[bv]? = some (.cells (u8s l).toArray 5 (0, 0)) → (Builtin.copy_ #[38, 9] 3 #[.slice (some ⟨bv, o, none⟩) (n - o) (n - o), .string s]).run Tryd.prog W = .ok (goInt s.size) (W.setRow bv (u8s (putAt l o s.data.toList)).toArray) := by
    intro W hW
    rw [Lib.run_copy_row_string W 38 9 3 5 bv o (n - o) (n - o) s _ 5 Tryd.underlying38 u8_size1 hW (by omega) (by simp [u8s]; omega), u8s_putAt]
  have HC := Lib.hid hcp
  have HW := Lib.hid h
  clear hcp h
  have ho1 : (o : Int) ≤ (n : Int) := by omega
  have ho2 : (o : Int) < (n : Int) := by omega
  have ho3 : (o : Int) ≠ (n : Int) := by omega
  have ho0 : (0 : Int) ≤ (o : Int) := by omega
  go_enter Tryd.func36, Tryd.ntmps36
  go_wp2
  obtain ⟨w1, h1⟩ : ∃ w1, w.alloc (.cells #[.int .i64 o, .string s] 76) = w1 := ⟨_, rfl⟩
  have hb1 : w1.heap[w.heap.size]? = some (.cells #[.int .i64 o, .string s] 76 (0, 0)) := by rw [← h1]; exact World.alloc_heap_new _ _
  have c0 : w1.cell? ⟨w.heap.size, 0, none⟩ = some (.int .i64 o) := blk_cell hb1 0
  have c1 : w1.cell? ⟨w.heap.size, 1, none⟩ = some (.string s) := blk_cell hb1 1
  have hf : Fr (fun r => r = bv) w w1 := by rw [← h1]; exact (Fr.refl _ w).alloc _
  have hw1 : w1.heap[bv]? = some (.cells (u8s l).toArray 5 (0, 0)) := by rw [← h1]; exact (Below.heap_alloc _ _ _ (blk_lt HW.out)).trans HW.out
  rw [h1]
  have HF := Lib.hid hf
  have HW1 := Lib.hid hw1
  clear h1 hb1 hf hw1
  go_still_tail 6, (by kernel_rfl)
  change wpList _ _ _ _ _ w1.drew
  have hcp := HC.out w1.drew HW1.out
  go_wp2
  go_end0
  refine ⟨rfl, ?_, ?_⟩
  · exact (HF.out.trans (drew_fr w1) (fun _ h => .inl h)).setRow rfl _
  · exact setRow_heap _ _ _ _ _ _ HW1.out
end Go.Proofs.YtpcmidhhbgjcjaaDoor
