/- journal: check, writing, first. -/
import Derived.Test.YtpcmidhhbgjcjaaDoorJ1
import Derived.WalkSmall
namespace Go.Proofs.YtpcmidhhbgjcjaaDoor
open Go Go.RowKit

theorem check_ok (w : World) : Calls Tryd.prog 57 #[.bool true] w fun e w' => e = .returned (.tuple #[]) ∧ w = w' := by
  go_enter Tryd.func57, Tryd.ntmps57
  go_wp2
  go_end0
  exact ⟨rfl, rfl⟩
theorem check_bad (t : TypeId) (p : Value) (w : World) (h : w.cell? ⟨0, 0, none⟩ = some (.iface t p)) : Calls Tryd.prog 57 #[.bool false] w fun e w' => e = .panicked [{ v := .iface t p, recovered := false }] ∧ w = w' := by
  go_enter Tryd.func57, Tryd.ntmps57
  go_wp2
  exact ⟨rfl, rfl, rfl⟩
theorem writing_c (j at_ : Nat) (s : ByteArray) (w : World) :
    Calls Tryd.prog 25 #[.pointer (some ⟨j, 0, none⟩), .int .i64 at_, .string s] w fun e w' => e = .returned (.func (.func 48) #[] #[.pointer (some ⟨w.heap.size, 0, none⟩), .pointer (some ⟨w.heap.size + 1, 0, none⟩), .pointer (some ⟨w.heap.size + 2, 0, none⟩)]) ∧ ((w.alloc (.cells #[.pointer (some ⟨j, 0, none⟩)] 29)).alloc (.cells #[.int .i64 at_] 3)).alloc (.cells #[.string s] 9) = w' := by
  have hmf : ∀ (fn : Fn) (first cap : Array Value) (w : World), (Instr.makeFunc fn first cap).run Tryd.prog w = .ok (.func fn first cap) w := fun _ _ _ _ => rfl
  go_enter Tryd.func25, Tryd.ntmps25
  go_wp2
  go_ret
  exact ⟨rfl, rfl⟩
set_option maxRecDepth 100000 in
theorem writing1_c (g0 g1 g2 j b at_ : Nat) (s : ByteArray) (w : World) (c : Int) (R : World → Prop) (h0 : w.cell? ⟨g0, 0, none⟩ = some (.pointer (some ⟨j, 0, none⟩))) (h1 : w.cell? ⟨g1, 0, none⟩ = some (.int .i64 at_)) (h2 : w.cell? ⟨g2, 0, none⟩ = some (.string s))
    (h3 : w.cell? ⟨j, 3, none⟩ = some (.pointer (some ⟨b, 0, none⟩))) (hW : Calls Tryd.prog 19 #[.pointer (some ⟨b, 0, none⟩), .int .i64 at_, .string s] w.drew fun e w' => e = .returned (.int .i64 c) ∧ R w') :
    Calls Tryd.prog 48 #[.pointer (some ⟨g0, 0, none⟩), .pointer (some ⟨g1, 0, none⟩), .pointer (some ⟨g2, 0, none⟩)] w fun e w' => e = .returned (.int .i64 c) ∧ R w' := by
  have HW := Lib.hid hW
  clear hW
  go_enter Tryd.func48, Tryd.ntmps48
  go_wp2
  go_still_tail 6, (by kernel_rfl)
  change wpList _ _ _ _ _ w.drew
  go_wp2_with (go_at_call 19; refine HW.out.mono ?_; rintro e w' ⟨rfl, hr⟩; have HR := Lib.hid hr; clear hr)
  go_ret
  exact ⟨rfl, HR.out⟩
end Go.Proofs.YtpcmidhhbgjcjaaDoor
