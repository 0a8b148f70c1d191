/- journal: first. -/
import Derived.Test.YtpcmidhhbgjcjaaDoorJ2
namespace Go.Proofs.YtpcmidhhbgjcjaaDoor
open Go Go.RowKit

/-- A function value: its number, what is bound ahead, what it captured. -/
structure FV where
  k : Nat
  a : Array Value
  c : Array Value
def FV.val (f : FV) : Value := .func (.func f.k) f.a f.c
set_option maxRecDepth 100000 in
set_option maxHeartbeats 1000000 in
theorem first_c (g cap : Nat) (fs : List FV) (S : Nat → World → Prop) (E : Int → World → Prop) (w : World) (hl : fs.length ≤ 1000) (hk : ∀ f ∈ fs, f.k = 48 ∨ f.k = 26) (hw : S 0 w)
    (hcell : ∀ i W, S i W → ∀ j f, fs[j]? = some f → W.cell? ⟨g, j, none⟩ = some f.val)
    (hstep : ∀ i f W, fs[i]? = some f → S i W → Calls Tryd.prog f.k (f.a ++ f.c) W fun e w' => (e = .returned (.int .i64 0) ∧ S (i + 1) w') ∨ ∃ c : Int, c ≠ 0 ∧ e = .returned (.int .i64 c) ∧ E c w') :
    Calls Tryd.prog 24 #[.slice (some ⟨g, 0, none⟩) fs.length cap] w fun e w' => (e = .returned (.int .i64 0) ∧ S fs.length w') ∨ ∃ c : Int, c ≠ 0 ∧ e = .returned (.int .i64 c) ∧ E c w' := by
  have HC := Lib.hid hcell
  have HK := Lib.hid hk
  have HS := Lib.hid hstep
  have HW := Lib.hid hw
  obtain ⟨n, hn⟩ : ∃ n, fs.length = n := ⟨_, rfl⟩
  rw [hn] at hl ⊢
  have HN := Lib.hid hn
  clear hcell hstep hw hn hk
  go_enter Tryd.func24, Tryd.ntmps24
  go_wp2
  go_loopw [8] (fun i wr => ∃ j : Nat, j ≤ n ∧ i = .int .i64 j ∧ S j wr) (fun i _ => n - (intOf i).toNat)
  case atStart => exact ⟨0, by omega, rfl, HW.out⟩
  case round =>
    obtain ⟨j, hj, rfl, hSj⟩ := hrel
    by_cases hlt : j < n
    · have hlt' : (j : Int) < (n : Int) := by omega
      have hn' : j < fs.length := by rw [HN.out]; exact hlt
      obtain ⟨f, hf⟩ : ∃ f, fs[j]? = some f := ⟨_, List.getElem?_eq_getElem hn'⟩
      have hc := HC.out j wr hSj j f hf
      have hcall := HS.out j f wr hf hSj
      have hk' := HK.out f (List.mem_of_getElem? hf)
      obtain ⟨k, a, c⟩ := f
      have hc' : wr.cell? ⟨g, j, none⟩ = some (.func (.func k) a c) := hc
      have HCC := Lib.hid hcall
      clear hcall hc hSj hf hn'
      rcases hk' with h | h
      · have h' : k = 48 := h
        subst h'
        clear h
        go_wp2_with (fail)
        refine HCC.out.mono ?_
        rintro e w' (⟨rfl, hS⟩ | ⟨z, hz, rfl, hE⟩)
        · have HSS := Lib.hid hS
          clear hS
          go_wp2
          refine ⟨⟨j + 1, by omega, by simp, HSS.out⟩, by simp [intOf]; omega⟩
        · have hz' : (z != 0) = true := by simpa using hz
          have HE := Lib.hid hE
          have HZ := Lib.hid hz
          clear hE hz
          go_wp2
          go_ret
          exact .inr ⟨z, HZ.out, rfl, HE.out⟩
      · have h' : k = 26 := h
        subst h'
        clear h
        go_wp2_with (fail)
        refine HCC.out.mono ?_
        rintro e w' (⟨rfl, hS⟩ | ⟨z, hz, rfl, hE⟩)
        · have HSS := Lib.hid hS
          clear hS
          go_wp2
          refine ⟨⟨j + 1, by omega, by simp, HSS.out⟩, by simp [intOf]; omega⟩
        · have hz' : (z != 0) = true := by simpa using hz
          have HE := Lib.hid hE
          have HZ := Lib.hid hz
          clear hE hz
          go_wp2
          go_ret
          exact .inr ⟨z, HZ.out, rfl, HE.out⟩
    · have hjn : j = n := by omega
      subst hjn
      have hlt' : ¬ ((j : Int) < (j : Int)) := by omega
      have HSJ := Lib.hid hSj
      clear hSj
      go_wp2
      go_ret
      exact .inl ⟨rfl, HSJ.out⟩
end Go.Proofs.YtpcmidhhbgjcjaaDoor
