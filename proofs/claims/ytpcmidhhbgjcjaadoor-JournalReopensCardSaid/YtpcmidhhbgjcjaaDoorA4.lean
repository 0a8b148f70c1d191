/- wire.Int at an offset in the string. -/
import Derived.Test.YtpcmidhhbgjcjaaDoorR2
import Derived.Test.YtpcmidhhbgjcjaaDoorP0
import Derived.Test.YtpcmidhhbgjcjaaDoorProg
namespace Go.Proofs.YtpcmidhhbgjcjaaDoor
open Go Go.RowKit Go.Shelf

/-- What wire.Int hands back. -/
def intV : Option (Int × Nat) → Value
  | some (n, k) => .tuple #[.int .i64 n, .int .i64 k, .int .i64 0]
  | none => .tuple #[.int .i64 0, .int .i64 0, .int .i64 10]

theorem wraps_u64 (n : Int) (h₀ : 0 ≤ n) (h₁ : n < 2 ^ 64) : IntKind.u64.wrap n = n := by rw [IntKind.wrap_u64]; omega
theorem pow128 (i : Nat) : (2 : Nat) ^ (7 * i) = 128 ^ i := by rw [Nat.pow_mul]
theorem or_step (z c i : Nat) (hz : z < 128 ^ i) : z ||| c * 128 ^ i = z + c * 128 ^ i := by
  have h := Nat.two_pow_add_eq_or_of_lt (i := 7 * i) (b := z) (by rw [pow128]; exact hz) c
  rw [pow128] at h
  rw [Nat.or_comm, Nat.mul_comm c, ← h]; omega
theorem step_lt (z c i : Nat) (hz : z < 128 ^ i) (hc : c < 128) : z + c * 128 ^ i < 128 ^ (i + 1) := by
  have : c * 128 ^ i ≤ 127 * 128 ^ i := Nat.mul_le_mul_right _ (by omega)
  rw [Nat.pow_succ]; omega
theorem pow_le (i : Nat) (hi : i ≤ 9) : 128 ^ i ≤ 9223372036854775808 := by
  have := Nat.pow_le_pow_right (n := 128) (by decide) hi
  omega
theorem xor_i64 (h p : Nat) (hh : h < 4611686018427387904) (hp : p = 0 ∨ p = 1) : bits .xor .i64 (h : Int) (-(p : Int)) = if p = 0 then (h : Int) else -(h : Int) - 1 := by
  rcases hp with rfl | rfl
  · show IntKind.i64.wrap ((BitVec.ofInt 64 (h : Int) ^^^ BitVec.ofInt 64 0).toNat : Int) = _
    have h1 : (BitVec.ofInt 64 (h : Int)).toNat = h := by
      rw [BitVec.ofInt_natCast, BitVec.toNat_ofNat]; exact Nat.mod_eq_of_lt (by omega)
    have h2 : (BitVec.ofInt 64 0).toNat = 0 := rfl
    rw [BitVec.toNat_xor, h1, h2, Nat.xor_zero, IntKind.wrap_i64, if_pos rfl]; omega
  · show IntKind.i64.wrap ((BitVec.ofInt 64 (h : Int) ^^^ BitVec.ofInt 64 (-1)).toNat : Int) = _
    have h2 : BitVec.ofInt 64 (-1) = BitVec.allOnes 64 := by decide
    have h1 : (BitVec.ofInt 64 (h : Int)).toNat = h := by
      rw [BitVec.ofInt_natCast, BitVec.toNat_ofNat]; exact Nat.mod_eq_of_lt (by omega)
    rw [h2, BitVec.xor_allOnes, BitVec.toNat_not, h1, IntKind.wrap_i64, if_neg (by decide)]
    omega
theorem unzig_ge (z : Nat) (h : z < 9223372036854775808) : -4611686018427387904 ≤ unzig z ∧ unzig z < 4611686018427387904 := by unfold unzig; split <;> omega

/-- The numbers of one round, each by name. -/
theorem Int_step (b i z : Nat) (hi : i < 9) (hz : z < 128 ^ i) (hb : b < 256) : ∃ c d zz h p : Nat, ∃ m : Int,
    bits .and .u8 (b : Int) 127 = (c : Int) ∧ IntKind.u64.wrap (c : Int) = (c : Int) ∧ IntKind.u64.wrap ((c : Int) * 2 ^ (7 * i)) = (d : Int) ∧ bits .or .u64 (z : Int) (d : Int) = (zz : Int) ∧
    wrap64 ((zz : Int) / 2) = (h : Int) ∧ bits .and .u64 (zz : Int) 1 = (p : Int) ∧ wrap64 (p : Int) = (p : Int) ∧ wrap64 (-(p : Int)) = -(p : Int) ∧ bits .xor .i64 (h : Int) (-(p : Int)) = m ∧
    zz = z + (b % 128) * 128 ^ i ∧ zz < 128 ^ (i + 1) ∧ m = unzig zz ∧ -4611686018427387904 ≤ m ∧ m < 4611686018427387904 := by
  have hc : b % 128 < 128 := Nat.mod_lt _ (by decide)
  have hzs := step_lt z (b % 128) i hz hc
  have hzl : z + (b % 128) * 128 ^ i < 9223372036854775808 := Nat.lt_of_lt_of_le hzs (pow_le (i + 1) (by omega))
  have hm := unzig_ge _ hzl
  refine ⟨b % 128, (b % 128) * 128 ^ i, z + (b % 128) * 128 ^ i, (z + (b % 128) * 128 ^ i) / 2, (z + (b % 128) * 128 ^ i) % 2, unzig (z + (b % 128) * 128 ^ i), ?_, ?_, ?_, ?_, ?_, ?_, ?_, ?_, ?_, rfl, hzs, rfl, hm.1, hm.2⟩
  · exact bits_mask .u8 8 (by decide) wraps_u8 7 (by decide) (b : Int) (by omega) (by omega)
  · exact wraps_u64 _ (by omega) (by omega)
  · have : ((b % 128 : Nat) : Int) * 2 ^ (7 * i) = ((b % 128 * 128 ^ i : Nat) : Int) := by rw [← pow128]; push_cast; rfl
    rw [this]
    exact wraps_u64 _ (by omega) (by omega)
  · rw [bits_or_u64_nat _ _ (by omega) (by omega), or_step z _ i hz]
  · generalize z + b % 128 * 128 ^ i = zz at hzl
    unfold wrap64; omega
  · have := bits_and_u64_nat (z + b % 128 * 128 ^ i) 1 (by omega) (by omega)
    rw [Nat.and_one_is_mod] at this
    exact this
  · unfold wrap64; omega
  · unfold wrap64; omega
  · generalize z + b % 128 * 128 ^ i = zz at hzl
    rw [xor_i64 _ _ (by omega) (by omega), unzig]

set_option maxRecDepth 100000 in
theorem Int_c (s : ByteArray) (at_ : Nat) (w : World) (hs : s.size ≤ 1000000000) (ha : at_ ≤ s.size) :
    Calls Tryd.prog 66 #[.string s, .int .i64 at_] w fun e w' => e = .returned (intV (intF s at_)) ∧ w = w' := by
  have g1 : decide ((at_ : Int) < 0) = false := decide_eq_false (by omega)
  have g2 : decide (s.size < at_) = false := decide_eq_false (by omega)
  go_enter Tryd.func66, Tryd.ntmps66
  go_wp2
  go_loop [7, 19] (fun z c => ∃ i zz : Nat, i ≤ 9 ∧ zz < 128 ^ i ∧ z = .int .u64 zz ∧ c = .int .i64 i ∧ intF s at_ = intL s at_ (9 - i) i zz) (fun _ c => 9 - (intOf c).toNat)
  case atStart => exact ⟨0, 0, by omega, by decide, rfl, rfl, rfl⟩
  case round =>
    obtain ⟨i, z, hi, hz, rfl, rfl, hr⟩ := hrel
    have HR := Lib.hid hr
    have HZ := Lib.hid hz
    clear hr hz
    by_cases h9 : i < 9
    · by_cases hlt : at_ + i < s.size
      · have hlt' : (at_ : Int) + (i : Int) < (s.size : Int) := by omega
        obtain ⟨b, HB⟩ : ∃ b : Nat, Hid (b = (s[at_ + i]'hlt).toNat) := ⟨_, rfl⟩
        have hix : (s[at_ + i]'hlt).toNat = b := HB.out.symm
        have hb256 : b < 256 := by rw [← hix]; exact UInt8.toNat_lt _
        obtain ⟨c, d, zz, h, p, m, e1, e2, e3, e4, e5, e6, e7, e8, e9, hzz, hzs, hm, hm1, hm2⟩ := Int_step b i z h9 HZ.out hb256
        have HZZ := Lib.hid hzz
        have HZS := Lib.hid hzs
        have HM := Lib.hid hm
        clear hzz hzs hm
        by_cases hb : 128 ≤ b
        · go_wp2
          refine ⟨⟨i + 1, zz, by omega, HZS.out, rfl, by go_num, ?_⟩, by simp [intOf]; omega⟩
          rw [HR.out]
          obtain ⟨k, hk⟩ : ∃ k, 9 - i = k + 1 := ⟨8 - i, by omega⟩
          have hk2 : 9 - (i + 1) = k := by omega
          rw [hk, hk2, intL, dif_pos hlt, if_pos (by rw [hix]; exact hb), HZZ.out, hix]
        · have hfin : intF s at_ = if (b = 0 ∧ 0 < i) ∨ m < -4611686018427387903 then none else some (m, at_ + i + 1) := by
            rw [HR.out]
            obtain ⟨k, hk⟩ : ∃ k, 9 - i = k + 1 := ⟨8 - i, by omega⟩
            rw [hk, intL, dif_pos hlt, if_neg (by rw [hix]; exact hb), hix, ← HZZ.out, ← HM.out]
          have HF := Lib.hid hfin
          clear hfin
          by_cases h0 : b = 0
          · have q : ((b : Int) == 0) = true := by simp [h0]
            have H0 := Lib.hid h0
            clear h0
            by_cases hi0 : 0 < i
            · go_wp2
              go_ret3
              exact ⟨by rw [HF.out, if_pos (.inl ⟨H0.out, hi0⟩)]; rfl, rfl⟩
            · by_cases hm3 : m < -4611686018427387903
              · go_wp2
                go_ret3
                exact ⟨by rw [HF.out, if_pos (.inr hm3)]; rfl, rfl⟩
              · go_wp2
                go_ret3
                exact ⟨by rw [HF.out, if_neg (by rintro (⟨_, h⟩ | h); exact hi0 h; omega)]; rfl, rfl⟩
          · have q : ((b : Int) == 0) = false := by simpa using h0
            by_cases hm3 : m < -4611686018427387903
            · go_wp2
              go_ret3
              exact ⟨by rw [HF.out, if_pos (.inr hm3)]; rfl, rfl⟩
            · go_wp2
              go_ret3
              exact ⟨by rw [HF.out, if_neg (by rintro (⟨h, _⟩ | h); exact h0 h; omega)]; rfl, rfl⟩
      · have hlt' : ¬ (at_ : Int) + (i : Int) < (s.size : Int) := by omega
        have hfin : intF s at_ = none := by
          rw [HR.out]
          obtain ⟨k, hk⟩ : ∃ k, 9 - i = k + 1 := ⟨8 - i, by omega⟩
          rw [hk, intL, dif_neg hlt]
        have HF := Lib.hid hfin
        clear hfin
        go_wp2
        go_ret3
        exact ⟨by rw [HF.out]; rfl, rfl⟩
    · have hfin : intF s at_ = none := by
        rw [HR.out]
        obtain rfl : i = 9 := by omega
        rfl
      have HF := Lib.hid hfin
      clear hfin
      go_wp2
      go_ret3
      exact ⟨by rw [HF.out]; rfl, rfl⟩
end Go.Proofs.YtpcmidhhbgjcjaaDoor
