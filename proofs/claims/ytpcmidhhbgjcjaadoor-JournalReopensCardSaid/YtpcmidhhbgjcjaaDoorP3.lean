/- SHA-256 on lists, the whole. -/
import Derived.Test.YtpcmidhhbgjcjaaDoorP2
namespace Go.Proofs.YtpcmidhhbgjcjaaDoor

def H0 : V8 := ⟨0x6a09e667, 0xbb67ae85, 0x3c6ef372, 0xa54ff53a, 0x510e527f, 0x9b05688c, 0x1f83d9ab, 0x5be0cd19⟩
/-- The first m of the eight bytes of a length. -/
def lenB (n m : Nat) : List UInt8 := (List.range m).map (fun j => UInt8.ofNat (n / 2 ^ (8 * (7 - j)) % 256))
theorem lenB_succ (n m : Nat) : lenB n (m + 1) = lenB n m ++ [UInt8.ofNat (n / 2 ^ (8 * (7 - m)) % 256)] := by simp [lenB, List.range_succ]
theorem lenB_len (n m : Nat) : (lenB n m).length = m := by simp [lenB]
/-- How many zero bytes are added. -/
def zerosF (n : Nat) : Nat := (120 - n % 64) % 64
theorem zerosF_lt (n : Nat) : zerosF n < 64 := Nat.mod_lt _ (by decide)
theorem zerosF_mod (n : Nat) : (n + zerosF n) % 64 = 56 := by unfold zerosF; omega
theorem zerosF_min (n k : Nat) (h : k < zerosF n) : (n + k) % 64 ≠ 56 := by unfold zerosF at h; omega
/-- The bytes that are digested. -/
def padF (l : List UInt8) : List UInt8 := l ++ 128 :: List.replicate (zerosF (l.length + 1)) 0 ++ lenB (8 * l.length) 8
theorem padF_len (l : List UInt8) : (padF l).length % 64 = 0 ∧ l.length ≤ (padF l).length ∧ (padF l).length ≤ l.length + 73 := by
  have h1 := zerosF_mod (l.length + 1)
  have h2 := zerosF_lt (l.length + 1)
  have : (padF l).length = l.length + 1 + zerosF (l.length + 1) + 8 := by simp [padF, lenB_len]; omega
  omega
/-- The words after q blocks. -/
def sumV (l : List UInt8) : Nat → V8
  | 0 => H0
  | q + 1 => blockF (sumV l q) ((l.drop (64 * q)).take 64)
end Go.Proofs.YtpcmidhhbgjcjaaDoor
