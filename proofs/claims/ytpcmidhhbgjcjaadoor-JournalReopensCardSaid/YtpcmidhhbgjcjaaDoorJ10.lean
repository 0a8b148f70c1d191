/- journal.Append's first test: is a record too long? -/
import Derived.Test.YtpcmidhhbgjcjaaDoorJ9
namespace Go.Proofs.YtpcmidhhbgjcjaaDoor
open Go Go.RowKit

/-- A slice of strings: nil, or cells from a block's start on. -/
def Row (w : World) (v : Value) (ls : List ByteArray) : Prop :=
  (v = .slice none 0 0 ∧ ls = []) ∨ ∃ g cap, v = .slice (some ⟨g, 0, none⟩) ls.length cap ∧ g < w.heap.size ∧ ∀ i x, ls[i]? = some x → w.cell? ⟨g, i, none⟩ = some (.string x)
theorem Row.below {w w' : World} {v : Value} {ls : List ByteArray} (h : Row w v ls) {B : Nat} (hb : Below B w w') (hB : ∀ g cap n, v = .slice (some ⟨g, 0, none⟩) n cap → g < B) : Row w' v ls := by
  rcases h with h | ⟨g, cap, h1, h2, h3⟩
  · exact .inl h
  · exact .inr ⟨g, cap, h1, Nat.lt_of_lt_of_le h2 hb.size, fun i x hx => (hb.cell (p := ⟨g, i, none⟩) (hB _ _ _ h1)).trans (h3 i x hx)⟩
theorem Row.fr {w w' : World} {v : Value} {ls : List ByteArray} {X : Nat → Prop} (h : Row w v ls) (hf : Fr X w w') (hx : ∀ g cap n, v = .slice (some ⟨g, 0, none⟩) n cap → ¬ X g) : Row w' v ls := by
  rcases h with h | ⟨g, cap, h1, h2, h3⟩
  · exact .inl h
  · exact .inr ⟨g, cap, h1, Nat.lt_of_lt_of_le h2 hf.size, fun i x hx' => (hf.cell (a := ⟨g, i, none⟩) h2 (hx _ _ _ h1)).trans (h3 i x hx')⟩
theorem Row.lt {w : World} {v : Value} {ls : List ByteArray} (h : Row w v ls) : ∀ g cap n, v = .slice (some ⟨g, 0, none⟩) n cap → g < w.heap.size := by
  rintro g cap n rfl
  rcases h with ⟨h, _⟩ | ⟨g', cap', h1, h2, _⟩
  · cases h
  · cases h1; exact h2
theorem Row.same {w w' : World} {v : Value} {ls : List ByteArray} (h : Row w v ls) (hb : Below w.heap.size w w') : Row w' v ls := h.below hb h.lt
/-- Is a record too long? -/
def anyLong (ls : List ByteArray) : Bool := ls.any fun s => decide (65536 < s.size)
theorem anyLong_false {ls : List ByteArray} (h : anyLong ls = false) : ∀ r ∈ ls, r.size ≤ 65536 := by
  intro r hr
  unfold anyLong at h
  rw [List.any_eq_false] at h
  have := h r hr
  simpa using this
theorem isLong_c (s : ByteArray) (w : World) :
    Calls Tryd.prog 28 #[.string s] w fun e w' => e = .returned (.bool (decide (65536 < s.size))) ∧ w = w' := by
  have hd : decide (65536 < (s.size : Int)) = decide (65536 < s.size) := by rw [Bool.eq_iff_iff]; simp; omega
  go_enter Tryd.func28, Tryd.ntmps28
  go_wp2
  go_ret
  exact ⟨rfl, rfl⟩
def LInv (w wr : World) (ls : List ByteArray) (k : Nat) : Prop := wr = w ∧ anyLong (ls.take k) = false
set_option maxRecDepth 100000 in
theorem IndexFunc_c (v : Value) (ls : List ByteArray) (w : World) (h : Row w v ls) (hl : ls.length ≤ 1000000) :
    Calls Tryd.prog 51 #[v, .func (.func 28) #[] #[]] w fun e w' => (∃ i : Nat, e = .returned (.int .i64 i) ∧ anyLong ls = true) ∧ w = w' ∨ (e = .returned (.int .i64 (-1)) ∧ anyLong ls = false) ∧ w = w' := by
  rcases h with ⟨rfl, rfl⟩ | ⟨g, cap, rfl, hg, hc⟩
  · go_enter Tryd.func51, Tryd.ntmps51
    go_wp2
    go_loopw [8] (fun i wr => i = .int .i64 0 ∧ wr = w) (fun _ _ => 0)
    case atStart => exact ⟨rfl, rfl⟩
    case round =>
      obtain ⟨rfl, rfl⟩ := hrel
      go_wp2
      go_ret
      exact .inr ⟨⟨rfl, rfl⟩, rfl⟩
  · obtain ⟨n, hn⟩ : ∃ n, ls.length = n := ⟨_, rfl⟩
    rw [hn] at hl ⊢
    have HN := Lib.hid hn
    have HC := Lib.hid hc
    clear hn hc
    go_enter Tryd.func51, Tryd.ntmps51
    go_wp2
    go_loopw [8] (fun i wr => ∃ k : Nat, k ≤ n ∧ i = .int .i64 k ∧ LInv w wr ls k) (fun i _ => n - (intOf i).toNat)
    case atStart => exact ⟨0, by omega, rfl, rfl, rfl⟩
    case round =>
      obtain ⟨k, hk, rfl, hno⟩ := hrel
      obtain ⟨rfl, hno⟩ := hno
      have HNo := Lib.hid hno
      clear hno
      by_cases hlt : k < n
      · have hlt' : (k : Int) < (n : Int) := by omega
        have hk' : k < ls.length := by have := HN.out; omega
        obtain ⟨x, hx⟩ : ∃ x, ls[k]? = some x := ⟨_, List.getElem?_eq_getElem hk'⟩
        have hcx := HC.out k x hx
        have htk : ls.take (k + 1) = ls.take k ++ [x] := by
          rw [List.take_add_one, hx]; rfl
        have HX := Lib.hid hx
        have HTK := Lib.hid htk
        clear hx htk hk'
        by_cases hb : 65536 < x.size
        · have hd : decide (65536 < x.size) = true := decide_eq_true hb
          have hmem : anyLong ls = true := List.any_eq_true.2 ⟨x, List.mem_of_getElem? HX.out, hd⟩
          have HM := Lib.hid hmem
          clear hmem hb
          go_wp2_with (go_at_call 28; refine (isLong_c x wr).mono ?_; rintro e w' ⟨rfl, rfl⟩; rw [hd])
          go_ret
          exact .inl ⟨⟨k, rfl, HM.out⟩, rfl⟩
        · have hd : decide (65536 < x.size) = false := decide_eq_false hb
          clear hb
          go_wp2_with (go_at_call 28; refine (isLong_c x wr).mono ?_; rintro e w' ⟨rfl, rfl⟩; rw [hd])
          refine ⟨⟨k + 1, by omega, by simp, rfl, ?_⟩, by simp [intOf]; omega⟩
          have h1 := HNo.out
          unfold anyLong at h1 ⊢
          rw [HTK.out, List.any_append, h1]
          simpa using hd
      · have hkn : k = n := by omega
        subst hkn
        have hlt' : ¬ ((k : Int) < (k : Int)) := by omega
        go_wp2
        go_ret
        refine .inr ⟨⟨rfl, ?_⟩, rfl⟩
        have := HNo.out
        rwa [← HN.out, List.take_length] at this
theorem ContainsFunc_c (v : Value) (ls : List ByteArray) (w : World) (h : Row w v ls) (hl : ls.length ≤ 1000000) :
    Calls Tryd.prog 29 #[v, .func (.func 28) #[] #[]] w fun e w' => e = .returned (.bool (anyLong ls)) ∧ w = w' := by
  have HI := Lib.hid (IndexFunc_c v ls w h hl)
  clear h
  go_enter Tryd.func29, Tryd.ntmps29
  go_wp2_with (go_at_call 51; refine HI.out.mono ?_; rintro e w' (⟨⟨i, rfl, hb⟩, rfl⟩ | ⟨⟨rfl, hb⟩, rfl⟩) <;> have HB := Lib.hid hb <;> clear hb)
  · go_ret
    exact ⟨by rw [HB.out]; rfl, rfl⟩
  · go_ret
    exact ⟨by rw [HB.out]; rfl, rfl⟩
end Go.Proofs.YtpcmidhhbgjcjaaDoor
