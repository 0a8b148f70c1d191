/- Plain law: what lies on the disk of a journal. -/
import Derived.Test.YtpcmidhhbgjcjaaDoorP5
import Derived.Test.YtpcmidhhbgjcjaaDoorJ8
import Derived.Test.YtpcmidhhbgjcjaaDoorJ9
import Derived.Test.YtpcmidhhbgjcjaaDoorJ11
namespace Go.Proofs.YtpcmidhhbgjcjaaDoor
open Go

/-- The disk holds just these records. -/
structure JInv (D : DK) (recs : List ByteArray) : Prop where
  le : ∀ r ∈ recs, r.size ≤ 65536
  fit : (T0.addAll recs).size ≤ D.n
  vis : D.vis = (encAll T0 recs).data.toList ++ List.replicate (D.n - (T0.addAll recs).size) 0
theorem T0_size (recs : List ByteArray) : (T0.addAll recs).size = (encAll T0 recs).size := by
  rw [addAll_size]
  exact Nat.zero_add _
theorem T0_recs (recs : List ByteArray) : (T0.addAll recs).recs = recs := by rw [addAll_recs]; rfl
theorem T0_len (recs : List ByteArray) : recs.length ≤ (T0.addAll recs).size := by
  have := encAll_len recs T0
  rw [T0_size]
  omega
theorem JInv.load {D : DK} {recs : List ByteArray} (h : JInv D recs) : loadF D.str (D.n + 1) T0 = some (T0.addAll recs) := by
  have hl := T0_len recs
  have hf := h.fit
  refine loadF_enc D.str recs (D.n + 1) T0 (List.replicate (D.n - (T0.addAll recs).size) 0) ?_ ?_ h.le (by omega)
  · show D.vis = _
    exact h.vis
  · cases hk : D.n - (T0.addAll recs).size with
    | zero => exact .inl rfl
    | succ k => exact .inr ⟨_, rfl⟩
theorem dropWhile_zeros (k : Nat) : (List.replicate k (0 : UInt8)).dropWhile (· == 0) = [] := by
  induction k with
  | zero => rfl
  | succ k ih => rw [List.replicate_succ, List.dropWhile_cons_of_pos (by rfl)]; exact ih
theorem trim_zeros (k : Nat) : Lib.trimB (List.replicate k 0) 0 = [] := by
  unfold Lib.trimB Lib.trimRightB Lib.trimLeftB
  rw [List.reverse_replicate, dropWhile_zeros]
  rfl
theorem JInv.trim {D : DK} {recs : List ByteArray} (h : JInv D recs) : Lib.trimB (D.vis.drop (T0.addAll recs).size) 0 = [] := by
  have e : (encAll T0 recs).data.toList.length = (T0.addAll recs).size := by rw [T0_size]; rfl
  rw [h.vis, List.drop_append, e, Nat.sub_self, List.drop_zero, List.drop_of_length_le (by omega), List.nil_append]
  exact trim_zeros _
theorem putAt2 (E Z out : List UInt8) (h : out.length ≤ Z.length) (h1 : 1 ≤ out.length) : putAt (putAt (E ++ Z) (E.length + 1) (out.drop 1)) E.length (out.take 1) = E ++ out ++ Z.drop out.length := by
  cases out with
  | nil => simp at h1
  | cons x t =>
    cases Z with
    | nil => simp at h
    | cons z Z =>
      have e : putAt (E ++ z :: Z) (E.length + 1) t = E ++ z :: (t ++ Z.drop t.length) := by
        unfold putAt
        rw [List.take_append, List.drop_append]
        simp [List.take_of_length_le, show E.length + 1 + t.length - E.length = t.length + 1 by omega]
        omega
      show putAt (putAt (E ++ z :: Z) (E.length + 1) t) E.length [x] = E ++ x :: t ++ Z.drop t.length
      rw [e]
      unfold putAt
      rw [List.take_append, List.drop_append]
      simp
theorem JInv.append {D D' : DK} {recs ls : List ByteArray} (h : JInv D recs) (hl : ∀ r ∈ ls, r.size ≤ 65536) (hn : D'.n = D.n) (hf : (T0.addAll recs).size + (encAll (T0.addAll recs) ls).size ≤ D.n) (hp : 0 < (encAll (T0.addAll recs) ls).size)
    (hv : D'.vis = putAt (putAt D.vis ((T0.addAll recs).size + 1) ((encAll (T0.addAll recs) ls).extract 1 (encAll (T0.addAll recs) ls).size).data.toList) (T0.addAll recs).size ((encAll (T0.addAll recs) ls).extract 0 1).data.toList) : JInv D' (recs ++ ls) := by
  have hs : (T0.addAll (recs ++ ls)).size = (T0.addAll recs).size + (encAll (T0.addAll recs) ls).size := by rw [addAll_append, addAll_size]
  refine ⟨?_, by rw [hs, hn]; exact hf, ?_⟩
  · intro r hr
    rcases List.mem_append.1 hr with h1 | h1
    · exact h.le r h1
    · exact hl r h1
  · obtain ⟨out, hout⟩ : ∃ out, encAll (T0.addAll recs) ls = out := ⟨_, rfl⟩
    have e : (encAll T0 recs).data.toList.length = (T0.addAll recs).size := by rw [T0_size]; rfl
    have eo : out.data.toList.length = out.size := rfl
    rw [hout] at hv hf hp
    have e1 : (out.extract 1 out.size).data.toList = out.data.toList.drop 1 := by
      rw [extract_list, ← eo, List.take_of_length_le (by simp)]
    have e0 : (out.extract 0 1).data.toList = out.data.toList.take 1 := by
      rw [extract_list, List.drop_zero]
    have hfit := h.fit
    rw [hv, e1, e0, h.vis, ← e, putAt2 _ _ _ (by rw [List.length_replicate, eo]; omega) (by rw [eo]; omega), List.drop_replicate, encAll_append, hout, hs, hout, hn, eo, ← e]
    simp only [ByteArray.data_append, Array.toList_append]
    congr 2
    omega
end Go.Proofs.YtpcmidhhbgjcjaaDoor
