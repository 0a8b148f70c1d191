/- journal.tape.load, as plain Lean. -/
import Derived.Test.YtpcmidhhbgjcjaaDoorJ1
namespace Go.Proofs.YtpcmidhhbgjcjaaDoor
open Go

/-- A tape: records, head, size. -/
structure TP where
  recs : List ByteArray
  head : ByteArray
  size : Nat
/-- tape.add. -/
def TP.add (T : TP) (r : ByteArray) : TP := ⟨T.recs ++ [r], chainF T.head r, T.size + (encR T.head r).size⟩
/-- What one round of tape.load comes to. -/
inductive LR where
  | done : LR
  | bad : LR
  | next (r : ByteArray) : LR
def stepF (s : ByteArray) (T : TP) : LR :=
  if h : T.size < s.size then
    if s[T.size]'h = 0 then .done
    else if s[T.size]'h ≠ 1 then .bad
    else match strF s (T.size + 1) with
      | none => .bad
      | some (r, k) => if k + 32 ≤ s.size then if encR T.head r = s.extract T.size (k + 32) then .next r else .bad else .bad
  else .done
theorem encR_pos (h r : ByteArray) : 33 ≤ (encR h r).size := by
  unfold encR
  rw [ByteArray.size_append, ByteArray.size_append, chainF_size]
  have : (⟨#[1]⟩ : ByteArray).size = 1 := rfl
  omega
/-- tape.load: none where it panics. -/
def loadF (s : ByteArray) : Nat → TP → Option TP
  | 0, T => some T
  | f + 1, T =>
    match stepF s T with
    | .done => some T
    | .bad => none
    | .next r => loadF s f (T.add r)
/-- What a list of records is stored as, behind a tape. -/
def encAll : TP → List ByteArray → ByteArray
  | _, [] => ⟨#[]⟩
  | T, r :: l => encR T.head r ++ encAll (T.add r) l
def TP.addAll : TP → List ByteArray → TP
  | T, [] => T
  | T, r :: l => (T.add r).addAll l
theorem addAll_append (T : TP) (a b : List ByteArray) : T.addAll (a ++ b) = (T.addAll a).addAll b := by
  induction a generalizing T with
  | nil => rfl
  | cons r a ih => exact ih _
theorem encAll_append (T : TP) (a b : List ByteArray) : encAll T (a ++ b) = encAll T a ++ encAll (T.addAll a) b := by
  induction a generalizing T with
  | nil => simp [encAll, TP.addAll]; exact (ByteArray.ext (by simp)).symm
  | cons r a ih => simp only [List.cons_append, encAll, TP.addAll, ih, ByteArray.append_assoc]
theorem addAll_size (T : TP) (l : List ByteArray) : (T.addAll l).size = T.size + (encAll T l).size := by
  induction l generalizing T with
  | nil => rfl
  | cons r l ih => simp only [TP.addAll, encAll, ih, ByteArray.size_append, TP.add]; omega
theorem addAll_recs (T : TP) (l : List ByteArray) : (T.addAll l).recs = T.recs ++ l := by
  induction l generalizing T with
  | nil => simp [TP.addAll]
  | cons r l ih => simp [TP.addAll, ih, TP.add]
end Go.Proofs.YtpcmidhhbgjcjaaDoor
