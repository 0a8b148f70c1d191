/- disk: Sync, Read, Size, Pending, Cut. -/
import Derived.Test.YtpcmidhhbgjcjaaDoorK4
import Derived.WalkSpells
namespace Go.Proofs.YtpcmidhhbgjcjaaDoor
open Go Go.RowKit

theorem Size_c (b : Nat) (D : DK) (w : World) (h : HasDisk w b D) :
    Calls Tryd.prog 21 #[.pointer (some ⟨b, 0, none⟩)] w fun e w' => e = .returned (.int .i64 D.n) ∧ w = w' := by
  have c2 : w.cell? ⟨b, 2, none⟩ = some (.slice (some ⟨D.bd, 0, none⟩) D.n D.n) := blk_cell h.blk 2
  clear h
  go_enter Tryd.func21, Tryd.ntmps21
  go_wp2
  go_ret
  exact ⟨rfl, rfl⟩
theorem Pending_c (b : Nat) (D : DK) (w : World) (h : HasDisk w b D) :
    Calls Tryd.prog 17 #[.pointer (some ⟨b, 0, none⟩)] w fun e w' => e = .returned (.int .i64 D.np) ∧ w = w' := by
  have c4 : w.cell? ⟨b, 4, none⟩ = some D.pend := blk_cell h.blk 4
  obtain ⟨xs, _, hp⟩ := h.pend
  clear h
  rcases hp with ⟨hq, hn⟩ | ⟨g, cap, cur, hq, _⟩
  · rw [hq] at c4
    rw [hn]
    clear hq hn
    go_enter Tryd.func17, Tryd.ntmps17
    go_wp2
    go_ret
    exact ⟨rfl, rfl⟩
  · rw [hq] at c4
    clear hq
    go_enter Tryd.func17, Tryd.ntmps17
    go_wp2
    go_ret
    exact ⟨rfl, rfl⟩
theorem Sync_off (b : Nat) (D : DK) (w : World) (h : HasDisk w b D) (ho : D.off = true) :
    Calls Tryd.prog 26 #[.pointer (some ⟨b, 0, none⟩)] w fun e w' => e = .returned (.int .i64 331) ∧ w = w' := by
  have hc := check_c b D w h
  rw [ho] at hc
  have HC := Lib.hid hc
  clear hc h ho
  go_enter Tryd.func26, Tryd.ntmps26
  go_wp2_with (go_at_call 34; refine HC.out.mono ?_; rintro e w' ⟨rfl, rfl⟩; simp only [checkF, if_true])
  go_ret
  exact ⟨rfl, rfl⟩
set_option maxRecDepth 100000 in
set_option maxHeartbeats 1000000 in
theorem Sync_c (b : Nat) (D : DK) (w : World) (h : HasDisk w b D) (ho : D.off = false) :
    Calls Tryd.prog 26 #[.pointer (some ⟨b, 0, none⟩)] w fun e w' => e = .returned (.int .i64 0) ∧ ∃ pend, HasDisk w' b { D with pend := pend, np := 0 } ∧ pend.ownBlock = D.pend.ownBlock ∧ Fr (D.foot b) w w' := by
  have hc := check_c b D w h
  rw [ho] at hc
  have HC := Lib.hid hc
  have c2 : w.cell? ⟨b, 2, none⟩ = some (.slice (some ⟨D.bd, 0, none⟩) D.n D.n) := blk_cell h.blk 2
  have c3 : w.cell? ⟨b, 3, none⟩ = some (.slice (some ⟨D.bv, 0, none⟩) D.n D.n) := blk_cell h.blk 3
  have HS := Lib.hid (settle_c b D w.drew (h.fr (X := fun _ => False) (drew_fr w) (fun _ _ _ => id)))
  clear hc h ho
  go_enter Tryd.func26, Tryd.ntmps26
  go_wp2_with (go_at_call 34; refine HC.out.mono ?_; rintro e w' ⟨rfl, rfl⟩; simp only [checkF])
  go_still_tail 9, (by kernel_rfl)
  change wpList _ _ _ _ _ w.drew
  go_wp2_with (go_at_call 49; refine HS.out.mono ?_; rintro e w' ⟨rfl, pend, hD, hpo, hf⟩; have HD := Lib.hid hD; have HF := Lib.hid hf; clear hD hf)
  go_ret
  exact ⟨rfl, pend, HD.out, hpo, (drew_fr w).trans HF.out (fun _ h => .inl h)⟩
/-- The bytes m from place o on. -/
def seg (l : List UInt8) (o m : Nat) : List UInt8 := (l.drop o).take m
theorem Read_off (b : Nat) (x y : Value) (D : DK) (w : World) (h : HasDisk w b D) (ho : D.off = true) :
    Calls Tryd.prog 20 #[.pointer (some ⟨b, 0, none⟩), x, y] w fun e w' => e = .returned (.tuple #[.string ⟨#[]⟩, .int .i64 331]) ∧ w = w' := by
  have hc := check_c b D w h
  rw [ho] at hc
  have HC := Lib.hid hc
  clear hc h ho
  go_enter Tryd.func20, Tryd.ntmps20
  go_wp2_with (go_at_call 34; refine HC.out.mono ?_; rintro e w' ⟨rfl, rfl⟩; simp only [checkF, if_true])
  go_ret2
  exact ⟨rfl, rfl⟩
set_option maxRecDepth 100000 in
set_option maxHeartbeats 1000000 in
theorem Read_c (b : Nat) (D : DK) (w : World) (h : HasDisk w b D) (ho : D.off = false) :
    Calls Tryd.prog 20 #[.pointer (some ⟨b, 0, none⟩), .int .i64 0, .int .i64 D.n] w fun e w' => e = .returned (.tuple #[.string ⟨D.vis.toArray⟩, .int .i64 0]) ∧ w = w' := by
  have hc := check_c b D w h
  rw [ho] at hc
  have hi := inside_c b 0 D.n D w h (by omega) (by have := h.nb; omega)
  rw [show decide (0 ≤ D.n ∧ D.n ≤ D.n - 0) = true by simp] at hi
  have HC := Lib.hid hc
  have HI := Lib.hid hi
  have c3 : w.cell? ⟨b, 3, none⟩ = some (.slice (some ⟨D.bv, 0, none⟩) D.n D.n) := blk_cell h.blk 3
  have hcv := conv_cells (P := Tryd.prog) (w := w) 38 9 5 Tryd.underlying38 Tryd.underlying5 Tryd.underlying9 D.bv 0 D.n D.vis (by
    intro i hi
    rw [blk_cell h.vis]
    simp [u8s, List.getD, List.getElem?_eq_getElem hi])
  rw [h.lv] at hcv
  have hn0 : (0 : Int) ≤ (D.n : Int) := by omega
  have hn1 : (0 : Int) < (D.n : Int) := by have := h.n1; omega
  have hn2 : (0 : Int) ≠ (D.n : Int) := by omega
  clear hc hi h ho
  go_enter Tryd.func20, Tryd.ntmps20
  go_wp2_with (first
    | (go_at_call 34; refine HC.out.mono ?_; rintro e w' ⟨rfl, rfl⟩; simp only [checkF])
    | (go_at_call 35; refine HI.out.mono ?_; rintro e w' ⟨rfl, rfl⟩))
  go_ret2
  exact ⟨rfl, rfl⟩
set_option maxRecDepth 100000 in
theorem Cut_c (b n : Nat) (D : DK) (w : World) (h : HasDisk w b D) (ho : D.off = false) (hn : n ≤ 1000) :
    Calls Tryd.prog 15 #[.pointer (some ⟨b, 0, none⟩), .int .i64 n] w fun e w' => e = .returned (.int .i64 0) ∧ HasDisk w' b { D with off := decide (n = 0), left := n } ∧ Fr (fun r => r = b) w w' := by
  have hc := check_c b D w h
  rw [ho] at hc
  have HC := Lib.hid hc
  have c0 : w.cell? ⟨b, 0, none⟩ = some (.bool false) := by rw [← ho]; exact blk_cell h.blk 0
  have c1 : w.cell? ⟨b, 1, none⟩ = some (.int .i64 D.left) := blk_cell h.blk 1
  have f0 := blk_free h.blk 0
  have f1 := blk_free h.blk 1
  have HD := Lib.hid h
  have hn0 : (0 : Int) ≤ (n : Int) := by omega
  have e0 : ((n : Int) == 0) = decide (n = 0) := by rw [Bool.eq_iff_iff]; simp
  obtain ⟨z, hz⟩ : ∃ z, decide (n = 0) = z := ⟨_, rfl⟩
  rw [hz] at e0 ⊢
  clear hc h ho hz
  go_enter Tryd.func15, Tryd.ntmps15
  go_wp2_with (go_at_call 34; refine HC.out.mono ?_; rintro e w' ⟨rfl, rfl⟩; simp only [checkF])
  go_ret
  have hf : Fr (fun r => r = b) w ((w.setCell ⟨b, 0, none⟩ (.bool z)).setCell ⟨b, 1, none⟩ (.int .i64 n)) := ((Fr.refl _ w).setCell (X := fun r => r = b) (p := ⟨b, 0, none⟩) (.inl rfl) _).setCell (p := ⟨b, 1, none⟩) (.inl rfl) _
  exact ⟨rfl, HD.out.power hf z n (by omega) (blk_set (blk_set HD.out.blk 0 _) 1 _), hf⟩
end Go.Proofs.YtpcmidhhbgjcjaaDoor
