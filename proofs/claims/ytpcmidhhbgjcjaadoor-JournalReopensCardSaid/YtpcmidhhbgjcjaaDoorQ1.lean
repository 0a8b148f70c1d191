/- From a row's condition to what the walks ask of memory; readings of arguments. -/
import Derived.Test.YtpcmidhhbgjcjaaDoorL7
import Derived.Test.YtpcmidhhbgjcjaaDoorRows
import Derived.ProofKit
import Derived.OpenShut
import Derived.Lib.LaidTab
import Derived.Stop.LaidErr
import Derived.Lay
import Derived.LaidMore
namespace Go.Proofs.YtpcmidhhbgjcjaaDoor
open Go.ChangeShapes Go.WideShapes Go.ChangeAt Go.RowKit Go.Lib

/-- What the rows list. -/
def listed : List (String × DataW Unit) := [("unicode/utf8.acceptRanges", Rows.laid_unicode_utf8_acceptRanges), ("newswire/digest.round", Rows.laid_newswire_digest_round), ("newswire/journal.errDamaged", Rows.laid_newswire_journal_errDamaged), ("unicode/utf8.first", Rows.laid_unicode_utf8_first)]
theorem round_data : (Rows.laid_newswire_digest_round : DataW Unit) = Lib.tabData .u32 (K64.map fun x => (x.toNat : Int)) := by kernel_rfl
theorem var_block {P : Program} {w : World} {n : String} {g : Nat} {cs : Array Value} (hg : P.globalNamed n = some g) (h : w.var? P n = some cs) : ∃ t fr, w.heap[g]? = some (.cells cs t fr) := by
  simp only [World.var?, hg, Option.bind_some] at h
  cases hh : w.heap[g]? with
  | none => rw [hh] at h; cases h
  | some o =>
    rw [hh] at h
    cases o <;> first | (cases h; exact ⟨_, _, rfl⟩) | (cases h)
theorem star : "*" ++ "errors.errorString" = "*errors.errorString" := by decide +kernel
theorem row_err (u : TypeId) (h : Tryd.prog.typeName? 3 u = some "*errors.errorString") : u = 155 :=
  typeName_ptr_named (nm := "errors.errorString") (by rw [star]; kernel_rfl) (by kernel_rfl) (by decide) u (by rw [star]; exact h)
theorem of_listed {W : World} (h : laidMetH Tryd.prog listed W) : HasRound W ∧ ∃ a, HasErr W a := by
  rw [MakeChecks.laidMetH_plain _ _ _ (by kernel_rfl)] at h
  have h1 := laidMet.tail h
  have h2 := laidMet.tail h1
  constructor
  · rw [round_data] at h1
    have ht := Lib.tabIs_of_head (g := 4) (t := 147) (e := 137) (n := 64) (by kernel_rfl) (by kernel_rfl) Tryd.underlying147 Tryd.underlying137 (by kernel_rfl) (by kernel_rfl) h1
    obtain ⟨t, fr, hb⟩ := var_block (g := 4) (by kernel_rfl) ht
    refine ⟨t, fr, ?_⟩
    rw [hb]
    unfold roundC
    rw [List.map_map]
    rfl
  · obtain ⟨a, s, hv, _⟩ := laid_sentinel (g := 0) (ti := 69) (tp := 155) (te := 177) (ts := 9) h2 (by kernel_rfl) (by kernel_rfl) Tryd.underlying69 row_err Tryd.underlying155 Tryd.underlying177 rfl rfl Tryd.underlying9 (by kernel_rfl) (by kernel_rfl)
    refine ⟨a, ?_⟩
    have := World.var?_cell (g := 0) (by kernel_rfl) hv 0
    simpa [HasErr] using this
/-- An argument of strings as a row. -/
theorem row_of_strings {W : World} {a0 : Option Addr} {len cap : Nat} {fuel : Nat} {H : Type} {enc : TypeId × Value → H} {x : DataW H × List MemPlace}
    (hf : DataW.trod enc Tryd.prog W 0 (fun _ => true) true fuel 22 [.slice a0 len cap] = some x) : ∃ ls, RowO W (.slice a0 len cap) ls := by
  rcases open_strings Tryd.underlying22 Tryd.underlying9 (by kernel_rfl) hf with ⟨hcs, _⟩ | ⟨a, len', cap', ss, hcs, _, hl, _, hss, _, hcell, _⟩
  · simp at hcs
    obtain ⟨rfl, rfl, rfl⟩ := hcs
    exact ⟨[], none, 0, rfl, fun i x hx => by simp at hx⟩
  · simp at hcs
    obtain ⟨rfl, rfl, rfl⟩ := hcs
    rw [if_pos rfl] at hss
    refine ⟨ss.take len, some a, cap, by rw [List.length_take, Nat.min_eq_left (by omega)], fun i x hx => ?_⟩
    rw [List.getElem?_take] at hx
    split at hx
    · rename_i hi
      obtain ⟨b, off, spot⟩ := a
      have h0 := hcell 0 (by omega)
      have hspot : spot = none := by simpa [Addr.add] using World.cell?_spot h0
      subst hspot
      have hc := hcell i (by omega)
      rw [Go.WideShapes.add_plain] at hc
      refine ⟨b, off, rfl, ?_, ?_⟩
      · rcases Nat.lt_or_ge b W.heap.size with h' | h'
        · exact h'
        · exfalso
          have : W.heap[b]? = none := Array.getElem?_eq_none h'
          simp [World.cell?, this] at hc
      · rw [hc]
        simp [List.getD, hx]
    · cases hx
end Go.Proofs.YtpcmidhhbgjcjaaDoor
