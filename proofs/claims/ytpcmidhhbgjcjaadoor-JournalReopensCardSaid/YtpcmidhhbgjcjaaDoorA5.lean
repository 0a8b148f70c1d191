/- wire.String and wire.PutString. -/
import Derived.WalkSpells
import Derived.Test.YtpcmidhhbgjcjaaDoorA3
import Derived.Test.YtpcmidhhbgjcjaaDoorA4
namespace Go.Proofs.YtpcmidhhbgjcjaaDoor
open Go Go.RowKit Go.Shelf

def strV : Option (ByteArray × Nat) → Value
  | some (r, k) => .tuple #[.string r, .int .i64 k, .int .i64 0]
  | none => .tuple #[.string ⟨#[]⟩, .int .i64 0, .int .i64 10]

set_option maxRecDepth 100000 in
theorem String_c (s : ByteArray) (at_ : Nat) (w : World) (hs : s.size ≤ 1000000000) (ha : at_ ≤ s.size) :
    Calls Tryd.prog 58 #[.string s, .int .i64 at_] w fun e w' => e = .returned (strV (strF s at_)) ∧ w = w' := by
  cases h : intF s at_ with
  | none =>
    have HF : Hid (strF s at_ = none) := by rw [Hid, strF, h]
    have HI := Lib.hid h
    clear h
    go_enter Tryd.func58, Tryd.ntmps58
    go_wp2_with (go_at_call 66; refine (Int_c s at_ _ hs ha).mono ?_; rintro e w' ⟨rfl, rfl⟩; rw [HI.out, intV])
    go_ret3
    exact ⟨by rw [HF.out]; rfl, rfl⟩
  | some r =>
    obtain ⟨n, k⟩ := r
    obtain ⟨h1, h2, h3⟩ := intF_bd h
    have h4 := intF_up h
    have hf : strF s at_ = if n < 0 ∨ 65536 < n ∨ (s.size : Int) - k < n then none else some (s.extract k (k + n.toNat), k + n.toNat) := by rw [strF, h]
    have HF := Lib.hid hf
    have HI := Lib.hid h
    clear h hf
    by_cases c1 : n < 0
    · go_enter Tryd.func58, Tryd.ntmps58
      go_wp2_with (go_at_call 66; refine (Int_c s at_ _ hs ha).mono ?_; rintro e w' ⟨rfl, rfl⟩; rw [HI.out, intV])
      go_ret3
      exact ⟨by rw [HF.out, if_pos (.inl c1)]; rfl, rfl⟩
    · by_cases c2 : 65536 < n
      · go_enter Tryd.func58, Tryd.ntmps58
        go_wp2_with (go_at_call 66; refine (Int_c s at_ _ hs ha).mono ?_; rintro e w' ⟨rfl, rfl⟩; rw [HI.out, intV])
        go_ret3
        exact ⟨by rw [HF.out, if_pos (.inr (.inl c2))]; rfl, rfl⟩
      · by_cases c3 : (s.size : Int) - k < n
        · go_enter Tryd.func58, Tryd.ntmps58
          go_wp2_with (go_at_call 66; refine (Int_c s at_ _ hs ha).mono ?_; rintro e w' ⟨rfl, rfl⟩; rw [HI.out, intV])
          go_ret3
          exact ⟨by rw [HF.out, if_pos (.inr (.inr c3))]; rfl, rfl⟩
        · obtain ⟨q, rfl⟩ := Int.eq_ofNat_of_zero_le (by omega : 0 ≤ n)
          have hq : (k : Int) + (q : Int) ≤ (s.size : Int) := by omega
          have hq0 : (0 : Int) ≤ (k : Int) := by omega
          have hq1 : (k : Int) ≤ (k : Int) + (q : Int) := by omega
          clear h3 h4
          go_enter Tryd.func58, Tryd.ntmps58
          go_wp2_with (go_at_call 66; refine (Int_c s at_ _ hs ha).mono ?_; rintro e w' ⟨rfl, rfl⟩; rw [HI.out, intV])
          go_ret3
          exact ⟨by rw [HF.out, if_neg (by omega)]; rfl, rfl⟩

theorem PutString_c (s : ByteArray) (w : World) (hs : s.size ≤ 65536) :
    Calls Tryd.prog 54 #[.string s] w fun e w' => e = .returned (.tuple #[.string (putS s), .int .i64 0]) ∧ Below w.heap.size w w' := by
  have hv := vb_len (2 * s.size) (by omega)
  go_enter Tryd.func54, Tryd.ntmps54
  go_wp2_with (go_at_call 65; refine (PutInt_c s.size _ (by omega)).mono ?_; rintro e w' ⟨rfl, hB⟩; have HB := Lib.hid hB; clear hB)
  go_ret2
  exact ⟨rfl, HB.out⟩
end Go.Proofs.YtpcmidhhbgjcjaaDoor
