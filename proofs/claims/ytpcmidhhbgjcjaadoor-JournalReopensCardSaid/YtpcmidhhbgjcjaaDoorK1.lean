/- disk: check, inside, used. -/
import Derived.Test.YtpcmidhhbgjcjaaDoorR2
import Derived.Laws.IdiomCopy
import Derived.Test.YtpcmidhhbgjcjaaDoorA1
import Derived.Deep.OwnRows
namespace Go.Proofs.YtpcmidhhbgjcjaaDoor
open Go Go.RowKit

/-- A disk, as the proof speaks of it: whether its power is off, how many writes are left, where its two contents lie, their length, what is visible, the list of pending writes and its length. -/
structure DK where
  off : Bool
  left : Nat
  bd : Nat
  bv : Nat
  n : Nat
  vis : List UInt8
  pend : Value
  np : Nat
/-- The blocks that a disk owns. -/
def DK.foot (D : DK) (b r : Nat) : Prop := r = b ∨ r = D.bd ∨ r = D.bv ∨ D.pend.ownBlock = some r
def diskCells (D : DK) : Array Value := #[.bool D.off, .int .i64 D.left, .slice (some ⟨D.bd, 0, none⟩) D.n D.n, .slice (some ⟨D.bv, 0, none⟩) D.n D.n, D.pend]
/-- The disk lies at block b. -/
structure HasDisk (W : World) (b : Nat) (D : DK) : Prop where
  blk : W.heap[b]? = some (.cells (diskCells D) 51 (0, 0))
  dur : ∃ l : List UInt8, l.length = D.n ∧ W.heap[D.bd]? = some (.cells (u8s l).toArray 5 (0, 0))
  vis : W.heap[D.bv]? = some (.cells (u8s D.vis).toArray 5 (0, 0))
  lv : D.vis.length = D.n
  pend : ∃ xs, W.ownsRow (b + 1) 76 2 D.pend D.np xs
  hd : D.bd < b
  hv : D.bv < b
  ne : D.bd ≠ D.bv
  n1 : 1 ≤ D.n
  nb : D.n ≤ 4194304
  left : D.left ≤ 1000000
theorem HasDisk.fr {W W' : World} {b : Nat} {D : DK} {X : Nat → Prop} (h : HasDisk W b D) (hf : Fr X W W') (hx : ∀ r, r < W.heap.size → D.foot b r → ¬ X r) : HasDisk W' b D := by
  obtain ⟨l, hl1, hl2⟩ := h.dur
  obtain ⟨xs, hp1, hp2⟩ := h.pend
  refine ⟨hf.blk h.blk (hx _ (blk_lt h.blk) (.inl rfl)), ⟨l, hl1, hf.blk hl2 (hx _ (blk_lt hl2) (.inr (.inl rfl)))⟩, hf.blk h.vis (hx _ (blk_lt h.vis) (.inr (.inr (.inl rfl)))), h.lv, ⟨xs, hp1, ?_⟩, h.hd, h.hv, h.ne, h.n1, h.nb, h.left⟩
  rcases hp2 with h2 | ⟨g, cap, cur, h2, h3, h4, h5⟩
  · exact .inl h2
  · exact .inr ⟨g, cap, cur, h2, h3, hf.blk h4 (hx _ (blk_lt h4) (.inr (.inr (.inr (by rw [h2]; rfl))))), h5⟩
theorem HasDisk.below {W W' : World} {b : Nat} {D : DK} (h : HasDisk W b D) (hf : Below W.heap.size W W') : HasDisk W' b D :=
  h.fr (X := fun _ => False) (Fr.of_below hf) (fun _ _ _ => id)
theorem HasDisk.lt {W : World} {b : Nat} {D : DK} (h : HasDisk W b D) : b < W.heap.size := blk_lt h.blk

/-- disk.check. -/
def checkF (off : Bool) : Int := if off then 331 else 0
theorem check_c (b : Nat) (D : DK) (w : World) (h : HasDisk w b D) :
    Calls Tryd.prog 34 #[.pointer (some ⟨b, 0, none⟩)] w fun e w' => e = .returned (.int .i64 (checkF D.off)) ∧ w = w' := by
  have c0 : w.cell? ⟨b, 0, none⟩ = some (.bool D.off) := blk_cell h.blk 0
  clear h
  cases hD : D.off
  · rw [hD] at c0
    go_enter Tryd.func34, Tryd.ntmps34
    go_wp2
    go_ret
    exact ⟨rfl, rfl⟩
  · rw [hD] at c0
    go_enter Tryd.func34, Tryd.ntmps34
    go_wp2
    go_ret
    exact ⟨rfl, rfl⟩
theorem check_nil (w : World) :
    Calls Tryd.prog 34 #[.pointer none] w fun e w' => e = .returned (.int .i64 1) ∧ w = w' := by
  go_enter Tryd.func34, Tryd.ntmps34
  go_wp2
  go_ret
  exact ⟨rfl, rfl⟩
theorem inside_c (b o m : Nat) (D : DK) (w : World) (h : HasDisk w b D) (ho : o ≤ 1000000000) (_hm : m ≤ 1000000000) :
    Calls Tryd.prog 35 #[.pointer (some ⟨b, 0, none⟩), .int .i64 o, .int .i64 m] w fun e w' => e = .returned (.bool (decide (o ≤ D.n ∧ m ≤ D.n - o))) ∧ w = w' := by
  have c2 : w.cell? ⟨b, 2, none⟩ = some (.slice (some ⟨D.bd, 0, none⟩) D.n D.n) := blk_cell h.blk 2
  have hn := h.nb
  obtain ⟨n, hN⟩ : ∃ n, D.n = n := ⟨_, rfl⟩
  rw [hN] at c2 hn ⊢
  clear h hN
  go_enter Tryd.func35, Tryd.ntmps35
  go_wp2
  all_goals
    go_ret
    refine ⟨?_, rfl⟩
    show Ending.returned (.bool _) = _
    congr 2
    first | (rw [Bool.eq_iff_iff]; simp; omega) | (simp; omega)
/-- The block of the disk is as it should be after a change of its power. -/
theorem HasDisk.power {W W' : World} {b : Nat} {D : DK} (h : HasDisk W b D) (hf : Fr (fun r => r = b) W W') (o : Bool) (l : Nat) (hl : l ≤ 1000000)
    (hb : W'.heap[b]? = some (.cells (diskCells { D with off := o, left := l }) 51 (0, 0))) : HasDisk W' b { D with off := o, left := l } := by
  obtain ⟨l1, hl1, hl2⟩ := h.dur
  obtain ⟨xs, hp1, hp2⟩ := h.pend
  have hd := h.hd
  have hv := h.hv
  refine ⟨hb, ⟨l1, hl1, hf.blk hl2 (show ¬ D.bd = b by omega)⟩, hf.blk h.vis (show ¬ D.bv = b by omega), h.lv, ⟨xs, hp1, ?_⟩, hd, hv, h.ne, h.n1, h.nb, hl⟩
  rcases hp2 with h2 | ⟨g, cap, cur, h2, h3, h4, h5⟩
  · exact .inl h2
  · exact .inr ⟨g, cap, cur, h2, h3, hf.blk h4 (show ¬ g = b by omega), h5⟩
/-- disk.power.used. -/
def DK.used (D : DK) : DK := { D with left := D.left - 1, off := if D.left = 0 then D.off else D.left == 1 }
theorem used_c (b : Nat) (D : DK) (w : World) (h : HasDisk w b D) :
    Calls Tryd.prog 37 #[.pointer (some ⟨b, 0, none⟩)] w fun e w' => e = .returned (.tuple #[]) ∧ HasDisk w' b D.used ∧ Fr (fun r => r = b) w w' := by
  have c0 : w.cell? ⟨b, 0, none⟩ = some (.bool D.off) := blk_cell h.blk 0
  have c1 : w.cell? ⟨b, 1, none⟩ = some (.int .i64 D.left) := blk_cell h.blk 1
  have f0 := blk_free h.blk 0
  have f1 := blk_free h.blk 1
  have hl := h.left
  have HD := Lib.hid h
  clear h
  by_cases hz : D.left = 0
  · have e : D.used = D := by unfold DK.used; rw [hz]; cases D; simp_all
    rw [e]
    rw [hz] at c1
    clear hz e
    go_enter Tryd.func37, Tryd.ntmps37
    go_wp2
    exact bodyPost_ret (v := .tuple #[]) (results_none rfl _ _ _) rfl ⟨rfl, HD.out, Fr.refl _ _⟩
  · obtain ⟨l, hl1⟩ : ∃ l, D.left = l + 1 := ⟨D.left - 1, by omega⟩
    rw [hl1] at c1 hl
    have e : D.used = { D with left := l, off := decide (l = 0) } := by unfold DK.used; rw [hl1]; simp [Bool.beq_eq_decide_eq]
    rw [e]
    clear e hz
    go_enter Tryd.func37, Tryd.ntmps37
    go_wp2
    go_end0
    have e : ((l : Int) == 0) = decide (l = 0) := by rw [Bool.eq_iff_iff]; simp
    rw [e]
    have hf : Fr (fun r => r = b) w ((w.setCell ⟨b, 1, none⟩ (.int .i64 l)).setCell ⟨b, 0, none⟩ (.bool (decide (l = 0)))) := ((Fr.refl _ w).setCell (X := fun r => r = b) (p := ⟨b, 1, none⟩) (.inl rfl) _).setCell (p := ⟨b, 0, none⟩) (.inl rfl) _
    exact ⟨rfl, HD.out.power hf _ l (by omega) (blk_set (blk_set HD.out.blk 1 _) 0 _), hf⟩
end Go.Proofs.YtpcmidhhbgjcjaaDoor
