/- JournalReopens: the row, and the tied card. -/
import Derived.Test.YtpcmidhhbgjcjaaDoorQ1
import Derived.Test.YtpcmidhhbgjcjaaDoorL8
import Derived.Test.YtpcmidhhbgjcjaaDoorCards
import Derived.Test.YtpcmidhhbgjcjaaDoorTie
import Derived.Deep.Slices
import Derived.LaidOnce
import Derived.SevenTiedAt
import Derived.Carry
namespace Go.Proofs.YtpcmidhhbgjcjaaDoor
open Go.ChangeShapes Go.WideShapes Go.ChangeAt Go.RowKit Go.Lib Go.Deep

theorem own_knob : ownKnob Tryd.prog.godebug = none := by kernel_rfl
theorem laid_out : laidOutB Tryd.prog = true := by kernel_rfl
theorem row_of_strings1 {W : World} {v : Value} {fuel : Nat} {H : Type} {enc : TypeId × Value → H} {x : DataW H × List MemPlace}
    (hf : DataW.trod enc Tryd.prog W 0 (fun _ => true) true fuel 22 [v] = some x) : ∃ ls, RowO W v ls := by
  have hv : ∃ a0 len cap, v = .slice a0 len cap := by
    rcases open_strings Tryd.underlying22 Tryd.underlying9 (by kernel_rfl) hf with ⟨hcs, _⟩ | ⟨a, len, cap, _, hcs, _⟩
    · exact ⟨none, 0, 0, by simpa using hcs⟩
    · exact ⟨some a, len, cap, by simpa using hcs⟩
  obtain ⟨a0, len, cap, rfl⟩ := hv
  exact row_of_strings hf
/-- An argument of groups of strings. -/
theorem rows_of_groups {W : World} {a0 : Option Addr} {len cap : Nat} {fuel : Nat} {H : Type} {enc : TypeId × Value → H} {x : DataW H × List MemPlace}
    (hf : DataW.trod enc Tryd.prog W 0 (fun _ => true) true fuel 43 [.slice a0 len cap] = some x) : ∃ gs, RowsO W (.slice a0 len cap) gs := by
  rcases open_slice1 Tryd.underlying43 (by kernel_rfl) hf with ⟨hcs, _⟩ | ⟨a, len', cap', m, n, V, D, Pl, hcs, _, hl, _, hm, _, hel⟩
  · simp at hcs
    obtain ⟨rfl, rfl, rfl⟩ := hcs
    exact ⟨[], none, 0, rfl, fun i x hx => by simp at hx⟩
  · simp at hcs
    obtain ⟨rfl, rfl, rfl⟩ := hcs
    rw [if_pos rfl] at hm
    obtain ⟨L, hL⟩ := choose_lt (α := List ByteArray) (p := fun i ls => RowO W (V i) ls) (n := m) (fun i hi => row_of_strings1 (hel i hi).2)
    refine ⟨(List.range len).map L, some a, cap, by simp, fun i ls hx => ?_⟩
    rw [List.getElem?_map] at hx
    obtain ⟨j, hj, rfl⟩ := Option.map_eq_some_iff.1 hx
    obtain ⟨hi0, hj0⟩ := List.getElem?_eq_some_iff.1 hj
    have hi : i < len := by simpa using hi0
    have hji : i = j := by simpa using hj0
    subst hji
    obtain ⟨b, off, spot⟩ := a
    have h0 := (hel 0 (by omega)).1
    have hspot : spot = none := by simpa [Addr.add] using World.cell?_spot h0
    subst hspot
    have hc := (hel i (by omega)).1
    rw [Go.WideShapes.add_plain] at hc
    refine ⟨b, off, V i, rfl, ?_, hc, hL i (by omega)⟩
    rcases Nat.lt_or_ge b W.heap.size with h' | h'
    · exact h'
    · exfalso
      have : W.heap[b]? = none := Array.getElem?_eq_none h'
      simp [World.cell?, this] at hc
set_option maxRecDepth 100000 in
theorem journalReopens_lifted (os : Os) (started : os.Started) (H : Type) (enc : TypeId × Value → H) :
    ReturnsInHanded {} Tryd.checked os 4 .any (fun w args => (Rows.journalReopensSpec.pre enc Tryd.prog Tryd.f4 [] false w args ∧ laidMetH Tryd.prog listed w) ∧ sizedMet enc Tryd.prog Tryd.f4 (OpenSpec.ofChange Rows.journalReopensSpec) false w args)
      (Rows.journalReopensSpec.post enc Tryd.prog Tryd.f4 false true false false) := by
  refine returnsInHanded_of_change_and (C := Tryd.checked) (X := fun w _ => laidMetH Tryd.prog listed w) (fun _ _ _ hh h => h.of_heap hh) own_knob started (by kernel_rfl) Tryd.func4
    (ChangeSpec.witness_shaped (enc := enc) (C := Tryd.checked) (os := os) (X := fun w _ => laidMetH Tryd.prog listed w) false (World.laidAll Tryd.prog os listed) #[.int .i64 0, .slice none 0 0] 8 (World.laidAll_os _ _ _)
      (World.shaped_of_ZipB (by kernel_rfl) (by kernel_rfl)) (by kernel_rfl) (by kernel_rfl) (by kernel_rfl)
      (by rw [MakeChecks.laidMetH_plain _ _ _ (by kernel_rfl)]; exact laidMet_laidAll _ (by kernel_rfl) (by kernel_rfl))) ?_
  intro W base args ds gs before hval0 hW _ _ hL _
  have hval : ∀ (j : Nat) t v, Tryd.f4.params[j]? = some t → args[j]? = some v → Value.okWide Tryd.prog W .any base t v := hval0
  have hW' := hW
  obtain ⟨p, q, hA0, hV, rfl, _, _⟩ := hW
  have hA : DataW.TrodAll enc Tryd.prog W 0 (fun _ => true) true Tryd.f4.params.toList args.toList ds p := hA0
  rw [Tryd.params4] at hA hval
  obtain ⟨v0, v1, d0, d1, p0, p1, rfl, rfl, rfl, h0, h1⟩ := trodAll_two hA
  obtain ⟨rfl, rfl⟩ := trodVars_none hV
  obtain ⟨n, rfl, rfl, rfl, wn⟩ := open_int Tryd.underlying3 (hval 0 3 v0 rfl rfl) h0
  obtain ⟨a0, len, cap, rfl⟩ := okWide_slice Tryd.underlying43 (hval 1 43 v1 rfl rfl)
  have h1k := h1
  obtain ⟨fuel, hf⟩ := h1
  obtain ⟨ls, hrow⟩ := rows_of_groups (by simpa [Value.cells] using hf)
  simp only [List.append_nil, List.nil_append] at hW'
  have hlt : ∀ x ∈ p1, x.block < W.heap.size := fun x hx => by simpa using hW'.lt x (by simpa using hx)
  have hn : -9223372036854775808 ≤ n ∧ n ≤ 9223372036854775807 := by simpa [Lit.wf, IntKind.min, IntKind.max, IntKind.signed, IntKind.bits] using wn
  obtain ⟨hR, a, hE⟩ := of_listed hL
  refine (JournalReopens_c n _ ls a W hR hE hrow hn.1 hn.2).mono fun e W' ⟨he, hb⟩ => ?_
  subst he
  exact ⟨_, rfl, _, _, _, [], [] ++ p1, [], hW', trodAll_mk1 (shut_bool Tryd.underlying4 _), trodAll_mk2 (shut_int Tryd.underlying3 wn) (Below.trod laid_out (by kernel_rfl) (of_decide_eq_true (by kernel_rfl)) h1k hb hlt), rfl, hb.frame _, fun h => by cases h⟩
theorem journalReopens_holds : Rows.JournalReopensSaid :=
  OpenClaim.holds_of_wide 4 Tryd.f4 rfl rfl rfl rfl rfl rfl rfl ⟨rfl, rfl, rfl, rfl, rfl⟩ rfl rfl rfl rfl rfl (by kernel_rfl) Tryd.func4 (by kernel_rfl)
    (of_decide_eq_true (by kernel_rfl)) (by unfold Func.isWrapper; first | (rw [if_pos (by decide +kernel)]; kernel_rfl) | (rw [if_neg (by decide +kernel)]; exact ⟨rfl, rfl⟩))
    (fun os started H enc _ => journalReopens_lifted os started H enc)
theorem journalReopens_card : Rows.JournalReopensCardSaid :=
  Claim7.holds_tied_plain_at .later [] [.data, .data, .sentinel, .pinned] true (true, "ccaabf0f9eb154955690a68d46d5bd6d203564a63727e25f5458abf94d70aa24") true
    journalReopens_holds (fun _ h => by cases h) (by kernel_rfl) (fun _ h => by cases h) journalReopens_row_tie rfl ⟨rfl, rfl⟩ (by kernel_rfl) rfl
    (fun f fn hf hfn => by
      obtain rfl : f = 4 := Option.some.inj ((show Tryd.prog.funcNamed "newswire/newswirelaw34.JournalReopens" = some 4 by kernel_rfl).symm.trans hf) |>.symm
      obtain rfl : fn = Tryd.f4 := (Option.some.inj (Tryd.func4.symm.trans hfn)).symm
      exact ⟨by kernel_rfl, fun j t ht => by
        rw [Tryd.params4] at ht
        have hm : t ∈ [3, 43] := by simpa using Array.mem_of_getElem? ht
        have hall : ([3, 43].all fun u => !Tryd.prog.wantsStandIn u) = true := by kernel_rfl
        exact (show Tryd.prog.wantsStandIn t = false by simpa using List.all_eq_true.1 hall t hm)⟩)
    (by kernel_rfl)
#print axioms journalReopens_card
end Go.Proofs.YtpcmidhhbgjcjaaDoor
