/- Small functions of numbers: what each returns. -/
import Derived.WalkKit
import Derived.Test.YtpcmidhhbgjcjaaDoorProg
namespace Go.Proofs.YtpcmidhhbgjcjaaDoor
open Go Go.RowKit

/-- pick of the laws: the absolute value's like, modulo n. -/
def pickF (c n : Int) : Int := (if c < 0 then -(c+1) else c) % n
theorem pickF_lt (c n : Int) (hn : 1 ≤ n) : 0 ≤ pickF c n ∧ pickF c n < n := by
  unfold pickF
  exact ⟨Int.emod_nonneg _ (by omega), Int.emod_lt_of_pos _ (by omega)⟩
theorem ret_i {k : IntKind} {a b : Int} (h : a = b) : Ending.returned (.int k a) = .returned (.int k b) := by rw [h]
theorem ret_b {a b : Bool} (h : a = b) : Ending.returned (.bool a) = .returned (.bool b) := by rw [h]

theorem pick_c (c n : Int) (w : World) (h1 : -9223372036854775808 ≤ c) (h2 : c ≤ 9223372036854775807) (hn : 1 ≤ n) (hn' : n ≤ 1000000) :
    Calls Tryd.prog 14 #[.int .i64 c, .int .i64 n] w fun e w' => e = .returned (.int .i64 (pickF c n)) ∧ w = w' := by
  unfold pickF
  by_cases hc : c < 0
  · have e : (-(c+1)).tmod n = -(c + 1).tmod n := Int.neg_tmod _ _
    have e2 : (-(c+1)).tmod n = (-(c+1)) % n := Int.tmod_eq_emod_of_nonneg (by omega)
    rw [if_pos hc, ← e2, e]
    clear e e2
    go_enter Tryd.func14, Tryd.ntmps14
    go_wp2
    go_ret
    exact ⟨rfl, rfl⟩
  · rw [if_neg hc]
    go_enter Tryd.func14, Tryd.ntmps14
    go_wp2
    go_ret
    exact ⟨rfl, rfl⟩

theorem size_c (n : Int) (w : World) (h1 : -9223372036854775808 ≤ n) (h2 : n ≤ 9223372036854775807) :
    Calls Tryd.prog 7 #[.int .i64 n] w fun e w' => e = .returned (.int .i64 (1 + pickF n 1500)) ∧ w = w' := by
  have hb := pickF_lt n 1500 (by omega)
  obtain ⟨hb1, hb2⟩ := hb
  go_enter Tryd.func7, Tryd.ntmps7
  go_wp2_with (go_at_call 14; refine (pick_c _ _ _ h1 h2 (by omega) (by omega)).mono ?_; rintro e w' ⟨rfl, rfl⟩)
  go_ret
  exact ⟨rfl, rfl⟩

theorem zigzag_c (n : Int) (w : World) (h1 : 0 ≤ n) (h2 : n ≤ 4611686018427387903) :
    Calls Tryd.prog 50 #[.int .i64 n] w fun e w' => e = .returned (.int .u64 (n * 2)) ∧ w = w' := by
  go_enter Tryd.func50, Tryd.ntmps50
  go_wp2
  go_ret
  exact ⟨rfl, rfl⟩
end Go.Proofs.YtpcmidhhbgjcjaaDoor
