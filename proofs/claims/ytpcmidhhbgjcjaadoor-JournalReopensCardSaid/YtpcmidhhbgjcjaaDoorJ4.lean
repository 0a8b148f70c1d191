/- journal: Room. -/
import Derived.Test.YtpcmidhhbgjcjaaDoorJ3
namespace Go.Proofs.YtpcmidhhbgjcjaaDoor
open Go Go.RowKit

theorem HasDisk.heap {w w' : World} {b : Nat} {D : DK} (h : HasDisk w b D) (e : w'.heap = w.heap) : HasDisk w' b D := by
  obtain ⟨xs, hp⟩ := h.pend
  obtain ⟨h1, h2, h3, h4, h5, h6, h7, h8, h9, h10, h11⟩ := h
  refine ⟨by rw [e]; exact h1, by rw [e]; exact h2, by rw [e]; exact h3, h4, ⟨xs, ?_⟩, h6, h7, h8, h9, h10, h11⟩
  unfold World.ownsRow at hp ⊢
  rw [e]
  exact hp
theorem Size_q (b n : Nat) (D : DK) (w : World) (h : HasDisk w b D) (hn : D.n = n) :
    Calls Tryd.prog 21 #[.pointer (some ⟨b, 0, none⟩)] w fun e w' => e = .returned (.int .i64 n) ∧ ∃ m, w' = w.drewN m := by
  refine (Size_c b D w h).mono ?_
  rintro e w' ⟨rfl, rfl⟩
  exact ⟨by rw [hn], 0, rfl⟩
set_option maxRecDepth 100000 in
theorem Room_c (j b size : Nat) (D : DK) (w : World) (h : HasDisk w b D) (h2 : w.cell? ⟨j, 2, none⟩ = some (.int .i64 size)) (h3 : w.cell? ⟨j, 3, none⟩ = some (.pointer (some ⟨b, 0, none⟩))) (hs : size ≤ 1000000000) :
    Calls Tryd.prog 12 #[.pointer (some ⟨j, 0, none⟩)] w fun e w' => e = .returned (.int .i64 ((D.n : Int) - size)) ∧ ∃ m, w' = w.drewN m := by
  have hnb := h.nb
  obtain ⟨n, hn⟩ : ∃ n, D.n = n := ⟨_, rfl⟩
  rw [hn] at hnb ⊢
  have HD := Lib.hid h
  have HN := Lib.hid hn
  clear h hn
  go_enter Tryd.func12, Tryd.ntmps12
  go_wp2
  go_quiet ((go_at_call 21; refine Calls.quiet_of (Size_q b n D _ ?_ HN.out); exact HD.out.heap rfl))
  go_wp2
  go_ret
  exact ⟨rfl, nq, rfl⟩
end Go.Proofs.YtpcmidhhbgjcjaaDoor
