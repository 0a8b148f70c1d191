/- math/bits.RotateLeft32 and digest.mixed. -/
import Derived.Test.YtpcmidhhbgjcjaaDoorP1
import Derived.Test.YtpcmidhhbgjcjaaDoorR2
import Derived.Test.YtpcmidhhbgjcjaaDoorProg
namespace Go.Proofs.YtpcmidhhbgjcjaaDoor
open Go Go.RowKit

theorem and31 (k : Nat) (h1 : 1 ≤ k) (h2 : k ≤ 31) : bits .and .u64 (IntKind.u64.wrap (-(k : Int))) 31 = ((32 - k : Nat) : Int) := by
  have e : IntKind.u64.wrap (-(k : Int)) = ((18446744073709551616 - k : Nat) : Int) := by rw [IntKind.wrap_u64]; omega
  have e2 : (31 : Int) = ((31 : Nat) : Int) := rfl
  rw [e, e2, bits_and_u64_nat _ _ (by omega) (by omega)]
  congr 1
  rw [show (31 : Nat) = 2 ^ 5 - 1 from rfl, Nat.and_two_pow_sub_one_eq_mod]
  omega
theorem Rot_c (x : UInt32) (k : Nat) (h1 : 1 ≤ k) (h2 : k ≤ 31) (w : World) :
    Calls Tryd.prog 89 #[wd x, .int .i64 (-(k : Int))] w fun e w' => e = .returned (wd (rot x k)) ∧ w = w' := by
  have E := and31 k h1 h2
  obtain ⟨s, hs⟩ : ∃ s : Nat, 32 - k = s := ⟨_, rfl⟩
  rw [hs] at E
  have hk : k = 32 - s := by omega
  have hs1 : s < 32 := by omega
  obtain ⟨l, hl⟩ : ∃ l, x <<< UInt32.ofNat s = l := ⟨_, rfl⟩
  obtain ⟨r, hr⟩ : ∃ r, x >>> UInt32.ofNat k = r := ⟨_, rfl⟩
  obtain ⟨o, ho⟩ : ∃ o, l ||| r = o := ⟨_, rfl⟩
  have e1 : IntKind.u32.wrap ((x.toNat : Int) * 2 ^ s) = (l.toNat : Int) := by
    rw [← hl, shl_u32 x s (by omega), IntKind.wrap_u32, Int.natCast_emod, Int.natCast_mul, Int.natCast_pow]; rfl
  have e2 : IntKind.u64.wrap (32 - (s : Int)) = (k : Int) := by rw [IntKind.wrap_u64]; omega
  have e3 : (x.toNat : Int) / 2 ^ k = (r.toNat : Int) := by
    rw [← hr, shr_u32 x k (by omega), Int.natCast_ediv, Int.natCast_pow]; rfl
  have e4 := or_u32 l r
  rw [ho] at e4
  have HR : Hid (rot x k = o) := by rw [Hid, rot, hs, hl, hr, ho]
  clear hs hk hl hr ho
  go_enter Tryd.func89, Tryd.ntmps89
  go_wp2
  go_ret
  exact ⟨by rw [HR.out]; rfl, rfl⟩

/-- The numbers of a variadic call's row. -/
def Row64 (w : World) (b off : Nat) (ks : List Nat) : Prop := ∀ j, j < ks.length → w.cell? ⟨b, off + j, none⟩ = some (.int .i64 (ks.getD j 0))

theorem mixF_snoc (x : UInt32) (ks : List Nat) (k : Nat) : mixF x (ks ++ [k]) = mixF x ks ^^^ rot x k := by simp [mixF, List.foldl_append]
theorem take_snoc (ks : List Nat) (j : Nat) (h : j < ks.length) : ks.take (j + 1) = ks.take j ++ [ks.getD j 0] := by
  rw [List.take_succ_eq_append_getElem h]; simp [List.getD, List.getElem?_eq_getElem h]

theorem mixed_c (x : UInt32) (b off c : Nat) (ks : List Nat) (w : World) (hc : Row64 w b off ks) (hk : ∀ k ∈ ks, 1 ≤ k ∧ k ≤ 31) (hl : ks.length ≤ 10) :
    Calls Tryd.prog 86 #[wd x, .slice (some ⟨b, off, none⟩) ks.length c] w fun e w' => e = .returned (wd (mixF x ks)) ∧ w = w' := by
  have HC := Lib.hid hc
  have HK := Lib.hid hk
  clear hc hk
  go_enter Tryd.func86, Tryd.ntmps86
  go_wp2
  go_loop [5, 10] (fun o i => ∃ j : Nat, j ≤ ks.length ∧ i = .int .i64 j ∧ o = wd (mixF x (ks.take j))) (fun _ i => ks.length - (intOf i).toNat)
  case atStart => exact ⟨0, Nat.zero_le _, rfl, rfl⟩
  case round =>
    obtain ⟨j, hj, rfl, rfl⟩ := hrel
    by_cases hlt : j < ks.length
    · obtain ⟨k, hk⟩ : ∃ k, ks.getD j 0 = k := ⟨_, rfl⟩
      have hcell : w.cell? ⟨b, off + j, none⟩ = some (.int .i64 k) := by rw [HC.out j hlt, hk]
      have hmem : k ∈ ks := by rw [← hk]; simp [List.getD, List.getElem?_eq_getElem hlt]
      obtain ⟨k1, k2⟩ := HK.out k hmem
      obtain ⟨o, ho⟩ : ∃ o, mixF x (ks.take j) = o := ⟨_, rfl⟩
      obtain ⟨r, hr⟩ : ∃ r, rot x k = r := ⟨_, rfl⟩
      obtain ⟨p, hp⟩ : ∃ p, o ^^^ r = p := ⟨_, rfl⟩
      have e1 := xor_u32 o r
      rw [hp] at e1
      have HN : Hid (mixF x (ks.take (j + 1)) = p) := by rw [Hid, take_snoc ks j hlt, mixF_snoc, ho, hk, hr, hp]
      have HR := Lib.hid hr
      rw [ho]
      clear hk hmem ho hr hp
      go_wp2_with (go_at_call 89; refine (Rot_c x k k1 k2 _).mono ?_; rintro e w' ⟨rfl, rfl⟩; rw [HR.out])
      go_round
      case rel => exact ⟨j + 1, by omega, by go_num, by rw [HN.out]⟩
      case measure => simp [intOf]; omega
    · have hj' : j = ks.length := by omega
      subst hj'
      go_wp2
      go_ret
      exact ⟨by simp, rfl⟩
end Go.Proofs.YtpcmidhhbgjcjaaDoor
