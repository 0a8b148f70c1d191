/- Plain functions on numbers and lists of bytes: the encoding of integers. -/
namespace Go.Proofs.YtpcmidhhbgjcjaaDoor

/-- The encoding of a number that was made positive. -/
def vb (z : Nat) : List UInt8 := if z < 128 then [UInt8.ofNat z] else UInt8.ofNat (z % 128 + 128) :: vb (z / 128)
termination_by z
/-- The groups of seven bits, and whether a group is the last one. -/
def grp (z : Nat) : List (UInt8 × Bool) := if z < 128 then [(UInt8.ofNat z, true)] else (UInt8.ofNat (z % 128), false) :: grp (z / 128)
termination_by z
theorem grp_last {z : Nat} (h : z < 128) : grp z = [(UInt8.ofNat z, true)] := by rw [grp, if_pos h]
theorem grp_more {z : Nat} (h : 128 ≤ z) : grp z = (UInt8.ofNat (z % 128), false) :: grp (z / 128) := by rw [grp, if_neg (by omega)]
theorem grp_len (n : Nat) : ∀ z, z < 128 ^ (n + 1) → (grp z).length ≤ n + 1 := by
  induction n with
  | zero => intro z hz; rw [grp_last (by simpa using hz)]; simp
  | succ n ih =>
    intro z hz
    by_cases h : z < 128
    · rw [grp_last h]; simp
    · rw [grp_more (by omega)]
      have := ih (z / 128) (by rw [Nat.pow_succ] at hz; exact Nat.div_lt_of_lt_mul (by rw [Nat.mul_comm]; exact hz))
      simp; omega
/-- What PutInt makes of a group. -/
def mark (x : UInt8 × Bool) : UInt8 := if x.2 then x.1 else x.1 ||| 128
theorem or128 (z : Nat) (h : z < 128) : UInt8.ofNat z ||| 128 = UInt8.ofNat (z + 128) := by
  apply UInt8.toNat_inj.1
  have e : (128 : UInt8) = UInt8.ofNat 128 := rfl
  rw [e, UInt8.toNat_or, UInt8.toNat_ofNat', UInt8.toNat_ofNat', UInt8.toNat_ofNat']
  have h1 : z % 2 ^ 8 = z := Nat.mod_eq_of_lt (by omega)
  have h2 : (z + 128) % 2 ^ 8 = z + 128 := Nat.mod_eq_of_lt (by omega)
  have h3 : 128 % 2 ^ 8 = 2 ^ 7 * 1 := rfl
  rw [h1, h2, h3, Nat.or_comm, ← Nat.two_pow_add_eq_or_of_lt (by omega : z < 2 ^ 7)]
  omega
theorem grp_vb (n : Nat) : ∀ z, z ≤ n → (grp z).map mark = vb z := by
  induction n with
  | zero => intro z hz; rw [grp_last (by omega), vb, if_pos (by omega)]; rfl
  | succ n ih =>
    intro z hz
    by_cases h : z < 128
    · rw [grp_last h, vb, if_pos h]; rfl
    · rw [grp_more (by omega), vb, if_neg h, List.map_cons, ih _ (by omega)]
      congr 1
      simp only [mark]
      exact or128 _ (Nat.mod_lt _ (by omega))
theorem grp_vb' (z : Nat) : (grp z).map mark = vb z := grp_vb z z (Nat.le_refl _)
theorem vb_len (z : Nat) (h : z < 18446744073709551616) : (vb z).length ≤ 10 := by
  rw [← grp_vb', List.length_map]; exact grp_len 9 z (by omega)

/-- A number out of its positive form. -/
def unzig (z : Nat) : Int := if z % 2 = 0 then ((z / 2 : Nat) : Int) else -((z / 2 : Nat) : Int) - 1
/-- The decoding of an integer at an offset: from group i on, z being what has come. -/
def intL (s : ByteArray) (at_ : Nat) : Nat → Nat → Nat → Option (Int × Nat)
  | 0, _, _ => none
  | k + 1, i, z =>
    if h : at_ + i < s.size then
      if 128 ≤ (s[at_ + i]'h).toNat then intL s at_ k (i + 1) (z + ((s[at_ + i]'h).toNat % 128) * 128 ^ i)
      else if ((s[at_ + i]'h).toNat = 0 ∧ 0 < i) ∨ unzig (z + ((s[at_ + i]'h).toNat % 128) * 128 ^ i) < -4611686018427387903 then none
      else some (unzig (z + ((s[at_ + i]'h).toNat % 128) * 128 ^ i), at_ + i + 1)
    else none
/-- wire.Int. -/
def intF (s : ByteArray) (at_ : Nat) : Option (Int × Nat) := intL s at_ 9 0 0
theorem intL_bd (s : ByteArray) (at_ : Nat) : ∀ k i z n m, intL s at_ k i z = some (n, m) → at_ < m ∧ m ≤ s.size ∧ -4611686018427387903 ≤ n := by
  intro k
  induction k with
  | zero => intro i z n m h; simp [intL] at h
  | succ k ih =>
    intro i z n m h
    unfold intL at h
    split at h
    · split at h
      · exact ih _ _ _ _ h
      · split at h
        · cases h
        · rename_i hn
          injection h with h
          injection h with h1 h2
          rw [not_or] at hn
          exact ⟨by omega, by omega, by omega⟩
    · cases h
theorem intF_bd {s : ByteArray} {at_ m : Nat} {n : Int} (h : intF s at_ = some (n, m)) : at_ < m ∧ m ≤ s.size ∧ -4611686018427387903 ≤ n := intL_bd s at_ 9 0 0 n m h
theorem unzig_up (z B : Nat) (h : z < 2 * B) : unzig z < B := by unfold unzig; split <;> omega
theorem intL_up (s : ByteArray) (at_ : Nat) : ∀ k i z n m, i + k ≤ 9 → z < 128 ^ i → intL s at_ k i z = some (n, m) → n < 4611686018427387904 := by
  intro k
  induction k with
  | zero => intro i z n m _ _ h; simp [intL] at h
  | succ k ih =>
    intro i z n m hik hz h
    unfold intL at h
    split at h
    · rename_i hlt
      have hc : (s[at_ + i]'hlt).toNat % 128 < 128 := Nat.mod_lt _ (by decide)
      have h1 : (s[at_ + i]'hlt).toNat % 128 * 128 ^ i ≤ 127 * 128 ^ i := Nat.mul_le_mul_right _ (by omega)
      have h2 : z + (s[at_ + i]'hlt).toNat % 128 * 128 ^ i < 128 ^ (i + 1) := by rw [Nat.pow_succ]; omega
      split at h
      · exact ih _ _ _ _ (by omega) h2 h
      · split at h
        · cases h
        · injection h with h
          injection h with h3 h4
          have := Nat.pow_le_pow_right (n := 128) (by decide) (by omega : i + 1 ≤ 9)
          rw [← h3]
          exact unzig_up _ 4611686018427387904 (by omega)
    · cases h
theorem intF_up {s : ByteArray} {at_ m : Nat} {n : Int} (h : intF s at_ = some (n, m)) : n < 4611686018427387904 := intL_up s at_ 9 0 0 n m (by omega) (by decide) h
/-- wire.String. -/
def strF (s : ByteArray) (at_ : Nat) : Option (ByteArray × Nat) :=
  match intF s at_ with
  | none => none
  | some (n, k) => if n < 0 ∨ 65536 < n ∨ (s.size : Int) - k < n then none else some (s.extract k (k + n.toNat), k + n.toNat)
/-- wire.PutString, of a string that is not too long. -/
def putS (s : ByteArray) : ByteArray := ⟨(vb (2 * s.size)).toArray⟩ ++ s
end Go.Proofs.YtpcmidhhbgjcjaaDoor
