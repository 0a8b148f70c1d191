/- errors.Is of a sentinel with itself; journal.open's deferred function. -/
import Derived.Test.YtpcmidhhbgjcjaaDoorJ6
import Derived.LaidEql
import Derived.Stop.Asserts
import Derived.Recover
namespace Go.Proofs.YtpcmidhhbgjcjaaDoor
open Go Go.RowKit Go.Extern.Stop Go.Stop Go.Extern

theorem isTypeOf (v : Value) (w : World) : (Extern.ReflectliteType.typeOf #[.iface 155 v]).run Tryd.prog w = .ok (.iface 112 (.agg #[.pointer (some ⟨5, 155, none⟩)])) w := by kernel_rfl
def cmpE : Array Value → Sem Value := Extern.ReflectliteType.method fun t => do Extern.Rtype.noPackHeld "Comparable" t; pure (.bool (← typeInfo t).comparable)
theorem isMethodComparable (v : Value) (w : World) : (Go.method 288 112 v "Comparable").run Tryd.prog w = .ok (110, v) w := by kernel_rfl
theorem isComparable (w : World) : (cmpE #[.agg #[.pointer (some ⟨5, 155, none⟩)]]).run Tryd.prog w = .ok (.bool true) w := by kernel_rfl
theorem isComp : (Tryd.prog.info? 155).map (·.comparable) = some true := by kernel_rfl
theorem isSize : (Tryd.prog.info? 177).map (·.size) = some 1 := by kernel_rfl
set_option maxRecDepth 100000 in
/-- errors.Is(x, x), x a pointer to an errors.errorString. -/
theorem is_same (a : Addr) (w : World) :
    Calls Tryd.prog 39 #[.iface 155 (.pointer (some a)), .iface 155 (.pointer (some a))] w fun e w' => e = .returned (.bool true) ∧ w = w' := by
  obtain ⟨i, hi, hcmp⟩ := Option.map_eq_some_iff.1 isComp
  obtain ⟨j, hj, hjs⟩ := Option.map_eq_some_iff.1 isSize
  have h8 := @run_callFunc_extern Tryd.prog 55 _ Extern.ReflectliteType.typeOf Tryd.func55 (by kernel_rfl) (by kernel_rfl) (by kernel_rfl) (by kernel_rfl)
  have h32 := @run_callFunc_extern Tryd.prog 110 _ cmpE Tryd.func110 (by kernel_rfl) (by kernel_rfl) (by kernel_rfl) (by kernel_rfl)
  have tT := isTypeOf
  have cT := isComparable
  have mR := isMethodComparable
  have heq := run_eql_iface_ptr_same (P := Tryd.prog) w a Tryd.underlying69 Tryd.underlying155 hi hcmp hj
  go_enter Tryd.func39, Tryd.ntmps39
  go_wp2
  refine wp_loop_rounds 1 ?_
  rw [rounds_succ]
  go_wp2
  go_ret
  exact ⟨rfl, rfl⟩
theorem asErr (v : Value) (xT : TypeId) (w : World) : (Instr.typeAssert (.iface 155 v) xT 69 true).run Tryd.prog w = .ok (.tuple #[.iface 155 v, .bool true]) w := run_typeAssert_hasB Tryd.underlying69 (by kernel_rfl) v xT w
set_option maxRecDepth 100000 in
theorem catch_panicking (g : Nat) (a : Addr) (vj ve : Value) (older : List PanicEntry) (w : World) (hj : w.cell? ⟨g, 0, none⟩ = some vj) (zj : w.frozen? ⟨g, 0, none⟩ = false) (he : w.cell? ⟨g + 1, 0, none⟩ = some ve) (ze : w.frozen? ⟨g + 1, 0, none⟩ = false) (hg : w.cell? ⟨0, 0, none⟩ = some (.iface 155 (.pointer (some a)))) :
    CallsD Tryd.prog 38 #[.pointer (some ⟨g, 0, none⟩), .pointer (some ⟨g + 1, 0, none⟩)] (.panicking ({ v := .iface 155 (.pointer (some a)), recovered := false } :: older)) w fun e u' w' =>
      e = .returned (.tuple #[]) ∧ u' = .panicking ({ v := .iface 155 (.pointer (some a)), recovered := true } :: older) ∧ w' = (w.setCell ⟨g, 0, none⟩ (.pointer none)).setCell ⟨g + 1, 0, none⟩ (.int .i64 342) := by
  have hae := asErr
  refine callsD_of_wpS Tryd.func38 rfl fun c₀ cs hu => ?_
  apply wpS_seq
  apply wpS_region
  simp [wpOpsS, go_sem, recoverD, hu, Tryd.ntmps38, Exit.thenS, hae]
  refine wpS_of_wp ?_
  simp [Array.replicate_succ, Array.replicate_zero]
  clear hae
  go_wp2_with (go_at_call 39; refine (is_same a w).mono ?_; rintro e w' ⟨rfl, rfl⟩)
  simp [bodyPostS, results, Tryd.results38]
theorem asErr0 (xT : TypeId) (w : World) : (Instr.typeAssert .nilIface xT 69 true).run Tryd.prog w = .ok (.tuple #[.nilIface, .bool false]) w := by
  simp [Instr.typeAssert, Tryd.underlying69, run_underlying]
set_option maxRecDepth 100000 in
theorem catch_idle (pj pe : Addr) (w : World) :
    CallsD Tryd.prog 38 #[.pointer (some pj), .pointer (some pe)] .returning w fun e u' w' =>
      e = .returned (.tuple #[]) ∧ u' = .returning ∧ w' = w := by
  have hae := asErr0
  refine callsD_of_wpS Tryd.func38 rfl fun c₀ cs hu => ?_
  apply wpS_seq
  apply wpS_region
  simp [wpOpsS, go_sem, recoverD, hu, Tryd.ntmps38, Exit.thenS, hae]
  refine wpS_of_wp ?_
  simp [Array.replicate_succ, Array.replicate_zero]
  clear hae
  go_wp2
  cases c₀
  simp_all [bodyPostS, results, Tryd.results38]
end Go.Proofs.YtpcmidhhbgjcjaaDoor
