/- journal: Records, and slices.Clone of an owned row of strings. -/
import Derived.Test.YtpcmidhhbgjcjaaDoorJ4
namespace Go.Proofs.YtpcmidhhbgjcjaaDoor
open Go Go.RowKit

theorem own_string_cell {w : World} {base n : Nat} {v : Value} {recs : List ByteArray} (h : w.ownsRow base 9 1 v n (recs.map Value.string)) {g cap : Nat} (hv : v = .slice (some ⟨g, 0, none⟩) n cap) : ∀ j x, recs[j]? = some x → w.cell? ⟨g, j, none⟩ = some (.string x) := by
  intro j x hx
  obtain ⟨hl, ⟨rfl, _⟩ | ⟨g', cap', cur, rfl, _, hg, _, _, _, htk⟩⟩ := h
  · cases hv
  · cases hv
    rw [blk_cell hg]
    have hj : j < n * 1 := by
      have := (List.getElem?_eq_some_iff.1 hx).1
      simp at hl
      omega
    have : (cur.toList.take (n * 1))[j]? = some (.string x) := by rw [htk]; simp [hx]
    rw [List.getElem?_take_of_lt hj] at this
    simpa using this
theorem Clone_c (base : Nat) (rv : Value) (recs : List ByteArray) (w : World) (h : w.ownsRow base 9 1 rv recs.length (recs.map Value.string)) (hn : recs.length ≤ 10000000) :
    Calls Tryd.prog 30 #[rv] w fun e w' => ∃ v', e = .returned v' ∧ w'.ownsRow w.heap.size 9 1 v' recs.length (recs.map Value.string) ∧ Below w.heap.size w w' := by
  have hc := @own_string_cell w base recs.length rv recs h
  obtain ⟨hl, ⟨rfl, hn0⟩ | ⟨g, cap, cur, rfl, _⟩⟩ := h
  · refine (Tryd.slices_Clone_string_nil 0 0 w).mono ?_
    rintro e w' ⟨rfl, rfl⟩
    have hr : recs = [] := List.eq_nil_of_length_eq_zero hn0
    rw [hr]
    exact ⟨_, rfl, World.ownsRow_nil _ _ _ _, Below.refl _ _⟩
  · refine (Tryd.slices_Clone_string g 0 recs.length cap recs w (Nat.le_refl _) (by omega) (fun j hj => by
      have := hc rfl j recs[j] (List.getElem?_eq_getElem hj)
      rw [Nat.zero_add, this]
      simp [List.getD, List.getElem?_eq_getElem hj])).mono ?_
    rintro e w' ⟨v', rfl, ho, _, hb⟩
    rw [List.take_length] at ho
    exact ⟨v', rfl, ho, hb⟩
theorem Records_c (j base : Nat) (rv : Value) (recs : List ByteArray) (w : World) (h0 : w.cell? ⟨j, 0, none⟩ = some rv) (h : w.ownsRow base 9 1 rv recs.length (recs.map Value.string)) (hn : recs.length ≤ 10000000) :
    Calls Tryd.prog 13 #[.pointer (some ⟨j, 0, none⟩)] w fun e w' => ∃ v', e = .returned v' ∧ w'.ownsRow w.heap.size 9 1 v' recs.length (recs.map Value.string) ∧ Below w.heap.size w w' := by
  have HC := Lib.hid (Clone_c base rv recs w h hn)
  clear h
  go_enter Tryd.func13, Tryd.ntmps13
  go_wp2_with (go_at_call 30; refine HC.out.mono ?_; rintro e w' ⟨v', rfl, ho, hb⟩; have HO := Lib.hid ho; have HB := Lib.hid hb; clear ho hb)
  go_ret
  exact ⟨v', rfl, HO.out, HB.out⟩
theorem Records_nil (w : World) : Calls Tryd.prog 13 #[.pointer none] w fun e w' => e = .returned (.slice none 0 0) ∧ w = w' := by
  go_enter Tryd.func13, Tryd.ntmps13
  go_wp2
  go_ret
  exact ⟨rfl, rfl⟩
theorem Room_nil (w : World) : Calls Tryd.prog 12 #[.pointer none] w fun e w' => e = .returned (.int .i64 0) ∧ w = w' := by
  go_enter Tryd.func12, Tryd.ntmps12
  go_wp2
  go_ret
  exact ⟨rfl, rfl⟩
end Go.Proofs.YtpcmidhhbgjcjaaDoor
