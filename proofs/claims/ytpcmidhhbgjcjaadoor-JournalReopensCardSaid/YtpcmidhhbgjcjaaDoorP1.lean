/- Words of 32 bits, as the walk spells them. -/
import Derived.Laws.BitsLemmas
import Derived.WalkKit
namespace Go.Proofs.YtpcmidhhbgjcjaaDoor
open Go

/-- A word as a value. -/
abbrev wd (x : UInt32) : Value := .int .u32 (x.toNat : Int)
theorem ofInt32 (x : UInt32) : BitVec.ofInt 32 (x.toNat : Int) = x.toBitVec := by
  apply BitVec.eq_of_toNat_eq
  rw [BitVec.ofInt_natCast, BitVec.toNat_ofNat]
  exact Nat.mod_eq_of_lt x.toNat_lt
theorem wrap32_id (n : Nat) (h : n < 4294967296) : IntKind.u32.wrap (n : Int) = (n : Int) := by rw [IntKind.wrap_u32]; omega
theorem xor_u32 (x y : UInt32) : bits .xor .u32 (x.toNat : Int) (y.toNat : Int) = ((x ^^^ y).toNat : Int) := by
  show IntKind.u32.wrap ((BitVec.ofInt 32 (x.toNat : Int) ^^^ BitVec.ofInt 32 (y.toNat : Int)).toNat : Int) = _
  rw [ofInt32, ofInt32]
  exact wrap32_id _ (x ^^^ y).toNat_lt
theorem and_u32 (x y : UInt32) : bits .and .u32 (x.toNat : Int) (y.toNat : Int) = ((x &&& y).toNat : Int) := by
  show IntKind.u32.wrap ((BitVec.ofInt 32 (x.toNat : Int) &&& BitVec.ofInt 32 (y.toNat : Int)).toNat : Int) = _
  rw [ofInt32, ofInt32]
  exact wrap32_id _ (x &&& y).toNat_lt
theorem or_u32 (x y : UInt32) : bits .or .u32 (x.toNat : Int) (y.toNat : Int) = ((x ||| y).toNat : Int) := by
  show IntKind.u32.wrap ((BitVec.ofInt 32 (x.toNat : Int) ||| BitVec.ofInt 32 (y.toNat : Int)).toNat : Int) = _
  rw [ofInt32, ofInt32]
  exact wrap32_id _ (x ||| y).toNat_lt
theorem not_u32 (x : UInt32) : bits .xor .u32 IntKind.u32.max (x.toNat : Int) = ((~~~x).toNat : Int) := by
  show IntKind.u32.wrap ((BitVec.ofInt 32 IntKind.u32.max ^^^ BitVec.ofInt 32 (x.toNat : Int)).toNat : Int) = _
  have h : BitVec.ofInt 32 IntKind.u32.max = BitVec.allOnes 32 := by decide
  rw [ofInt32, h, BitVec.allOnes_xor]
  exact wrap32_id _ (~~~x).toNat_lt
theorem add_u32 (x y : UInt32) : IntKind.u32.wrap ((x.toNat : Int) + (y.toNat : Int)) = ((x + y).toNat : Int) := by
  rw [IntKind.wrap_u32, UInt32.toNat_add]; omega
theorem sh_mod (k : Nat) (hk : k < 32) : (UInt32.ofNat k).toNat % 32 = k := by
  rw [UInt32.toNat_ofNat']
  have : k % 2 ^ 32 = k := Nat.mod_eq_of_lt (by omega)
  omega
theorem shr_u32 (x : UInt32) (k : Nat) (hk : k < 32) : (x >>> UInt32.ofNat k).toNat = x.toNat / 2 ^ k := by
  rw [UInt32.toNat_shiftRight, sh_mod k hk, Nat.shiftRight_eq_div_pow]
theorem shl_u32 (x : UInt32) (k : Nat) (hk : k < 32) : (x <<< UInt32.ofNat k).toNat = x.toNat * 2 ^ k % 4294967296 := by
  rw [UInt32.toNat_shiftLeft, sh_mod k hk, Nat.shiftLeft_eq]
/-- x rotated right by k places, 1 to 31. -/
def rot (x : UInt32) (k : Nat) : UInt32 := x <<< UInt32.ofNat (32 - k) ||| x >>> UInt32.ofNat k
/-- x combined with rotations. -/
def mixF (x : UInt32) (ks : List Nat) : UInt32 := ks.foldl (fun o k => o ^^^ rot x k) 0
end Go.Proofs.YtpcmidhhbgjcjaaDoor
