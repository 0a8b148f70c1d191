/- Plain law: what was stored is read back. -/
import Derived.Test.YtpcmidhhbgjcjaaDoorP4
namespace Go.Proofs.YtpcmidhhbgjcjaaDoor
open Go

theorem ba_get (s : ByteArray) (i : Nat) (h : i < s.size) : s[i]'h = s.data.toList[i]'h := rfl
theorem drop_head {s : ByteArray} {i : Nat} {x : UInt8} {l : List UInt8} (h : s.data.toList.drop i = x :: l) : ∃ hi : i < s.size, s[i]'hi = x ∧ s.data.toList.drop (i + 1) = l := by
  have hlt : i < s.data.toList.length := by
    rcases Nat.lt_or_ge i s.data.toList.length with h' | h'
    · exact h'
    · rw [List.drop_of_length_le h'] at h; cases h
  rw [List.drop_eq_getElem_cons hlt] at h
  injection h with h1 h2
  exact ⟨hlt, h1, h2⟩
theorem intL_vb (s : ByteArray) (at_ : Nat) (n : Nat) : ∀ (y : Nat), y ≤ n → ∀ (k i z : Nat) (rest : List UInt8), s.data.toList.drop (at_ + i) = vb y ++ rest → (vb y).length ≤ k → (y ≠ 0 ∨ i = 0) → -4611686018427387903 ≤ unzig (z + y * 128 ^ i) →
    intL s at_ k i z = some (unzig (z + y * 128 ^ i), at_ + i + (vb y).length) := by
  induction n with
  | zero =>
    intro y hy k i z rest hs hk hyi hb
    have hy0 : y = 0 := by omega
    subst hy0
    have hv : vb 0 = [0] := by rw [vb, if_pos (by omega)]; rfl
    rw [hv] at hs hk ⊢
    obtain ⟨hlt, hx, _⟩ := drop_head hs
    obtain ⟨k, rfl⟩ : ∃ k', k = k' + 1 := ⟨k - 1, by simp at hk; omega⟩
    have h0 : ((0 : UInt8)).toNat = 0 := rfl
    unfold intL
    rw [dif_pos hlt, hx, h0, if_neg (by omega), if_neg]
    · simp
    · rintro (⟨_, h⟩ | h)
      · omega
      · simp at h hb; omega
  | succ n ih =>
    intro y hy k i z rest hs hk hyi hb
    by_cases hlt : y < 128
    · have hv : vb y = [UInt8.ofNat y] := by rw [vb, if_pos hlt]
      rw [hv] at hs hk ⊢
      obtain ⟨hi, hx, _⟩ := drop_head hs
      obtain ⟨k, rfl⟩ : ∃ k', k = k' + 1 := ⟨k - 1, by simp at hk; omega⟩
      have h0 : (UInt8.ofNat y).toNat = y := by rw [UInt8.toNat_ofNat']; omega
      have h1 : y % 128 = y := Nat.mod_eq_of_lt hlt
      unfold intL
      rw [dif_pos hi, hx, h0, if_neg (by omega), h1, if_neg]
      · simp
      · rintro (⟨h, h'⟩ | h) <;> omega
    · have hv : vb y = UInt8.ofNat (y % 128 + 128) :: vb (y / 128) := by rw [vb, if_neg hlt]
      rw [hv] at hs hk ⊢
      obtain ⟨hi, hx, hd⟩ := drop_head hs
      obtain ⟨k, rfl⟩ : ∃ k', k = k' + 1 := ⟨k - 1, by simp at hk; omega⟩
      have h0 : (UInt8.ofNat (y % 128 + 128)).toNat = y % 128 + 128 := by rw [UInt8.toNat_ofNat']; omega
      have h1 : (y % 128 + 128) % 128 = y % 128 := by omega
      have e : z + y % 128 * 128 ^ i + y / 128 * 128 ^ (i + 1) = z + y * 128 ^ i := by
        have h2 : y * 128 ^ i = (y % 128 + 128 * (y / 128)) * 128 ^ i := by rw [Nat.mod_add_div]
        rw [h2, Nat.pow_succ, Nat.add_mul, Nat.mul_assoc 128, Nat.mul_comm (128 ^ i) 128, ← Nat.mul_assoc (y / 128), Nat.mul_comm (y / 128) 128, Nat.mul_assoc 128]
        omega
      unfold intL
      rw [dif_pos hi, hx, h0, if_pos (by omega), h1, ih (y / 128) (by omega) k (i + 1) _ rest (by rw [← Nat.add_assoc]; exact hd) (by simpa using hk) (.inl (by omega)) (by rw [e]; exact hb), e]
      simp only [List.length_cons]
      congr 2
      omega
theorem unzig_even (n : Nat) : unzig (2 * n) = n := by unfold unzig; rw [if_pos (by omega)]; omega
theorem vb_len9 (z : Nat) (h : z < 9223372036854775808) : (vb z).length ≤ 9 := by
  rw [← grp_vb', List.length_map]; exact grp_len 8 z (by omega)
theorem intF_vb (s : ByteArray) (at_ n : Nat) (rest : List UInt8) (hs : s.data.toList.drop at_ = vb (2 * n) ++ rest) (hn : n ≤ 4000000000) : intF s at_ = some ((n : Int), at_ + (vb (2 * n)).length) := by
  have h := intL_vb s at_ (2 * n) (2 * n) (Nat.le_refl _) 9 0 0 rest hs (vb_len9 _ (by omega)) (.inr rfl) (by simp only [Nat.pow_zero, Nat.mul_one, Nat.zero_add, unzig_even]; omega)
  unfold intF
  simpa [unzig_even] using h
theorem putS_data (r : ByteArray) : (putS r).data.toList = vb (2 * r.size) ++ r.data.toList := by simp [putS]
theorem putS_size (r : ByteArray) : (putS r).size = (vb (2 * r.size)).length + r.size := by
  rw [putS, ByteArray.size_append]; rfl
theorem ba_ext {a b : ByteArray} (h : a.data.toList = b.data.toList) : a = b := ByteArray.ext (Array.toList_inj.1 h)
theorem extract_list (s : ByteArray) (a b : Nat) : (s.extract a b).data.toList = (s.data.toList.drop a).take (b - a) := by
  rw [ByteArray.data_extract, Array.toList_extract]
theorem strF_putS (s r : ByteArray) (at_ : Nat) (rest : List UInt8) (hs : s.data.toList.drop at_ = (putS r).data.toList ++ rest) (hr : r.size ≤ 65536) : strF s at_ = some (r, at_ + (putS r).size) := by
  rw [putS_data, List.append_assoc] at hs
  have hi := intF_vb s at_ r.size _ hs (by omega)
  obtain ⟨m, hm⟩ : ∃ m, (vb (2 * r.size)).length = m := ⟨_, rfl⟩
  have hd : s.data.toList.drop (at_ + m) = r.data.toList ++ rest := by
    rw [← List.drop_drop, hs, List.drop_append, ← hm]; simp
  have hl : s.size - (at_ + m) = r.size + rest.length := by
    have := congrArg List.length hd
    simpa using this
  have hz : m ≤ s.size - at_ := by
    have := congrArg List.length hs
    simp [hm] at this
    have e : s.data.size = s.size := rfl
    omega
  rw [hm] at hi
  unfold strF
  rw [hi]
  simp only
  by_cases h0 : at_ + m ≤ s.size
  · rw [if_neg (by omega)]
    congr 2
    · apply ba_ext
      rw [extract_list, hd, show at_ + m + ((r.size : Nat) : Int).toNat - (at_ + m) = r.data.toList.length by
        have e : r.data.toList.length = r.size := rfl
        omega]
      exact List.take_left
    · rw [putS_size, hm]; omega
  · exfalso
    have h1 : 1 ≤ m := by rw [← hm, vb]; split <;> simp
    omega
theorem encR_data (h r : ByteArray) : (encR h r).data.toList = 1 :: ((putS r).data.toList ++ (chainF h r).data.toList) := by simp [encR]
theorem encR_size (h r : ByteArray) : (encR h r).size = 33 + (putS r).size := by
  rw [encR, ByteArray.size_append, ByteArray.size_append, chainF_size]
  have : (⟨#[1]⟩ : ByteArray).size = 1 := rfl
  omega
theorem stepF_enc (s : ByteArray) (T : TP) (r : ByteArray) (rest : List UInt8) (hs : s.data.toList.drop T.size = (encR T.head r).data.toList ++ rest) (hr : r.size ≤ 65536) : stepF s T = .next r := by
  have hs2 := hs
  rw [encR_data, List.cons_append] at hs
  obtain ⟨hlt, hx, hd⟩ := drop_head hs
  have hst := strF_putS s r (T.size + 1) _ (by rw [hd, List.append_assoc]) hr
  have hl : s.size - T.size = (encR T.head r).size + rest.length := by
    have := congrArg List.length hs2
    simpa using this
  have he := encR_size T.head r
  have hk : T.size + 1 + (putS r).size + 32 = T.size + (encR T.head r).size := by omega
  unfold stepF
  rw [dif_pos hlt, hx, if_neg (by decide), if_neg (by decide), hst]
  simp only
  rw [if_pos (by omega), if_pos]
  apply ba_ext
  rw [extract_list, hs2, hk, show T.size + (encR T.head r).size - T.size = (encR T.head r).data.toList.length by
    have e : (encR T.head r).data.toList.length = (encR T.head r).size := rfl
    omega]
  exact List.take_left.symm
theorem stepF_end (s : ByteArray) (T : TP) (h : s.data.toList.drop T.size = [] ∨ ∃ l, s.data.toList.drop T.size = 0 :: l) : stepF s T = .done := by
  unfold stepF
  rcases h with h | ⟨l, h⟩
  · have : s.size ≤ T.size := by simpa using h
    rw [dif_neg (by omega)]
  · obtain ⟨hlt, hx, _⟩ := drop_head h
    rw [dif_pos hlt, hx, if_pos rfl]
/-- What was stored is read back. -/
theorem loadF_enc (s : ByteArray) (l : List ByteArray) : ∀ (f : Nat) (T : TP) (post : List UInt8), s.data.toList.drop T.size = (encAll T l).data.toList ++ post → (post = [] ∨ ∃ q, post = 0 :: q) → (∀ r ∈ l, r.size ≤ 65536) → l.length ≤ f → loadF s f T = some (T.addAll l) := by
  induction l with
  | nil =>
    intro f T post hs hp _ _
    have hs' : s.data.toList.drop T.size = post := by rw [hs]; rfl
    cases f with
    | zero => rfl
    | succ f =>
      unfold loadF
      rw [stepF_end s T (by rw [hs']; exact hp)]
      rfl
  | cons r l ih =>
    intro f T post hs hp hr hf
    obtain ⟨f, rfl⟩ : ∃ f', f = f' + 1 := ⟨f - 1, by simp at hf; omega⟩
    have e : (encAll T (r :: l)).data.toList = (encR T.head r).data.toList ++ (encAll (T.add r) l).data.toList := by simp [encAll]
    rw [e, List.append_assoc] at hs
    unfold loadF
    rw [stepF_enc s T r _ hs (hr r (by simp))]
    refine ih f (T.add r) post ?_ hp (fun x hx => hr x (by simp [hx])) (by simpa using hf)
    show s.data.toList.drop (T.size + (encR T.head r).size) = _
    rw [← List.drop_drop, hs]
    have e : (encR T.head r).data.toList.length = (encR T.head r).size := rfl
    rw [List.drop_append, ← e]
    simp
theorem encAll_len (l : List ByteArray) : ∀ T, 33 * l.length ≤ (encAll T l).size := by
  induction l with
  | nil => intro T; simp
  | cons r l ih =>
    intro T
    have := ih (T.add r)
    have h2 := encR_pos T.head r
    simp only [encAll, ByteArray.size_append, List.length_cons]
    omega
end Go.Proofs.YtpcmidhhbgjcjaaDoor
