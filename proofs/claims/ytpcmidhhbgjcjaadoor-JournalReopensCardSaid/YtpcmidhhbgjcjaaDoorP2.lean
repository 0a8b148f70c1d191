/- SHA-256 on lists: what digest computes. -/
import Derived.Test.YtpcmidhhbgjcjaaDoorP1
namespace Go.Proofs.YtpcmidhhbgjcjaaDoor

/-- Word i of a block. -/
def wordF (bs : List UInt8) (i : Nat) : UInt32 :=
  (bs.getD (4 * i) 0).toUInt32 <<< 24 ||| (bs.getD (4 * i + 1) 0).toUInt32 <<< 16 ||| (bs.getD (4 * i + 2) 0).toUInt32 <<< 8 ||| (bs.getD (4 * i + 3) 0).toUInt32
/-- The word that follows others. -/
def nextF (l : List UInt32) (i : Nat) : UInt32 :=
  l.getD (i - 16) 0 + (mixF (l.getD (i - 15) 0) [7, 18] ^^^ (l.getD (i - 15) 0) >>> 3) + l.getD (i - 7) 0 + (mixF (l.getD (i - 2) 0) [17, 19] ^^^ (l.getD (i - 2) 0) >>> 10)
/-- The first n words of a block's schedule. -/
def schedN (bs : List UInt8) : Nat → List UInt32
  | 0 => []
  | n + 1 => schedN bs n ++ [if n < 16 then wordF bs n else nextF (schedN bs n) n]
theorem schedN_len (bs : List UInt8) (n : Nat) : (schedN bs n).length = n := by induction n with
  | zero => rfl
  | succ n ih => simp [schedN, ih]
/-- The words k(0) to k(63). -/
def K64 : List UInt32 := [
  0x428a2f98, 0x71374491, 0xb5c0fbcf, 0xe9b5dba5, 0x3956c25b, 0x59f111f1, 0x923f82a4, 0xab1c5ed5,
  0xd807aa98, 0x12835b01, 0x243185be, 0x550c7dc3, 0x72be5d74, 0x80deb1fe, 0x9bdc06a7, 0xc19bf174,
  0xe49b69c1, 0xefbe4786, 0x0fc19dc6, 0x240ca1cc, 0x2de92c6f, 0x4a7484aa, 0x5cb0a9dc, 0x76f988da,
  0x983e5152, 0xa831c66d, 0xb00327c8, 0xbf597fc7, 0xc6e00bf3, 0xd5a79147, 0x06ca6351, 0x14292967,
  0x27b70a85, 0x2e1b2138, 0x4d2c6dfc, 0x53380d13, 0x650a7354, 0x766a0abb, 0x81c2c92e, 0x92722c85,
  0xa2bfe8a1, 0xa81a664b, 0xc24b8b70, 0xc76c51a3, 0xd192e819, 0xd6990624, 0xf40e3585, 0x106aa070,
  0x19a4c116, 0x1e376c08, 0x2748774c, 0x34b0bcb5, 0x391c0cb3, 0x4ed8aa4a, 0x5b9cca4f, 0x682e6ff3,
  0x748f82ee, 0x78a5636f, 0x84c87814, 0x8cc70208, 0x90befffa, 0xa4506ceb, 0xbef9a3f7, 0xc67178f2]
/-- Eight words. -/
structure V8 where
  a : UInt32
  b : UInt32
  c : UInt32
  d : UInt32
  e : UInt32
  f : UInt32
  g : UInt32
  h : UInt32
/-- What a round makes of t. -/
def tF (v : V8) (k w : UInt32) : UInt32 := v.h + mixF v.e [6, 11, 25] + (v.e &&& v.f ^^^ ~~~v.e &&& v.g) + k + w
def uF (v : V8) : UInt32 := mixF v.a [2, 13, 22] + (v.a &&& v.b ^^^ v.a &&& v.c ^^^ v.b &&& v.c)
def roundF (v : V8) (k w : UInt32) : V8 := ⟨tF v k w + uF v, v.a, v.b, v.c, v.d + tF v k w, v.e, v.f, v.g⟩
/-- The first n rounds. -/
def roundsF (v : V8) (l : List UInt32) : Nat → V8
  | 0 => v
  | n + 1 => roundF (roundsF v l n) (K64.getD n 0) (l.getD n 0)
def addF (x y : V8) : V8 := ⟨x.a + y.a, x.b + y.b, x.c + y.c, x.d + y.d, x.e + y.e, x.f + y.f, x.g + y.g, x.h + y.h⟩
/-- A block. -/
def blockF (v : V8) (bs : List UInt8) : V8 := addF v (roundsF v (schedN bs 64) 64)
end Go.Proofs.YtpcmidhhbgjcjaaDoor
