/- The law's helpers: few, same, content. -/
import Derived.Test.YtpcmidhhbgjcjaaDoorJ12
import Derived.StillTailTactics
import Derived.Deep.QuietTactic
import Derived.BigQuiet
namespace Go.Proofs.YtpcmidhhbgjcjaaDoor
open Go Go.RowKit

/-- A string cut to 100 bytes. -/
def cutF (s : ByteArray) : ByteArray := s.extract 0 (min s.size 100)
/-- few. -/
def fewF (ls : List ByteArray) : List ByteArray := (ls.take 6).map cutF
theorem cutF_le (s : ByteArray) : (cutF s).size ≤ 100 := by rw [cutF, ByteArray.size_extract]; omega
theorem fewF_le (ls : List ByteArray) : (fewF ls).length ≤ 6 ∧ ∀ r ∈ fewF ls, r.size ≤ 100 := by
  refine ⟨by simp [fewF]; omega, ?_⟩
  intro r hr
  obtain ⟨x, _, rfl⟩ := List.mem_map.1 hr
  exact cutF_le x
/-- A slice of strings, wherever it begins. -/
def RowO (w : World) (v : Value) (ls : List ByteArray) : Prop :=
  ∃ p cap, v = .slice p ls.length cap ∧ ∀ i x, ls[i]? = some x → ∃ g o, p = some ⟨g, o, none⟩ ∧ g < w.heap.size ∧ w.cell? ⟨g, o + i, none⟩ = some (.string x)
theorem Row.o {w : World} {v : Value} {ls : List ByteArray} (h : Row w v ls) : RowO w v ls := by
  obtain ⟨p, cap, hv, hc⟩ := h.slice
  refine ⟨p, cap, hv, fun i x hx => ?_⟩
  obtain ⟨g, hg, hl, hx'⟩ := hc i x hx
  exact ⟨g, 0, hg, hl, by rw [Nat.zero_add]; exact hx'⟩
theorem RowO.below {w w' : World} {v : Value} {ls : List ByteArray} (h : RowO w v ls) (hb : Below w.heap.size w w') : RowO w' v ls := by
  obtain ⟨p, cap, hv, hc⟩ := h
  refine ⟨p, cap, hv, fun i x hx => ?_⟩
  obtain ⟨g, o, hg, hl, hx'⟩ := hc i x hx
  exact ⟨g, o, hg, Nat.lt_of_lt_of_le hl hb.size, (hb.cell (p := ⟨g, o + i, none⟩) hl).trans hx'⟩
/-- What the call owns is a row. -/
theorem own_row {w : World} {base : Nat} {v : Value} {ls : List ByteArray} (h : w.ownsRow base 9 1 v ls.length (ls.map Value.string)) : Row w v ls := by
  have hc := @own_string_cell w base ls.length v ls h
  rcases h.2 with ⟨rfl, hn⟩ | ⟨g, cap, cur, rfl, _, hg, _⟩
  · exact .inl ⟨rfl, List.eq_nil_of_length_eq_zero hn⟩
  · exact .inr ⟨g, cap, rfl, blk_lt hg, hc rfl⟩
theorem fewF_take (ls : List ByteArray) (k : Nat) (x : ByteArray) (hk : k < 6) (hx : ls[k]? = some x) : fewF (ls.take (k + 1)) = fewF (ls.take k) ++ [cutF x] := by
  unfold fewF
  rw [List.take_take, List.take_take, Nat.min_eq_right (by omega), Nat.min_eq_right (by omega), List.take_add_one, hx]
  simp
theorem fewF_len (ls : List ByteArray) (k : Nat) (hk : k ≤ 6) (hn : k ≤ ls.length) : (fewF (ls.take k)).length = k := by
  simp [fewF]; omega
theorem fewF_end (ls : List ByteArray) (k : Nat) (h : k = ls.length ∨ k = 6) (hk : k ≤ 6) : fewF (ls.take k) = fewF ls := by
  unfold fewF
  rw [List.take_take, Nat.min_eq_right hk]
  rcases h with h | h
  · rw [h, List.take_length, List.take_of_length_le (by omega)]
  · rw [h]
set_option maxRecDepth 100000 in
set_option maxHeartbeats 1000000 in
theorem few_c (v : Value) (ls : List ByteArray) (w : World) (h : RowO w v ls) :
    Calls Tryd.prog 9 #[v] w fun e w' => ∃ v', e = .returned v' ∧ w'.ownsRow w.heap.size 9 1 v' (fewF ls).length ((fewF ls).map Value.string) ∧ Below w.heap.size w w' := by
  obtain ⟨vp, vc, rfl, hrow⟩ := h
  have HRow := Lib.hid hrow
  obtain ⟨n, hn⟩ : ∃ n, ls.length = n := ⟨_, rfl⟩
  rw [hn]
  have HN := Lib.hid hn
  clear hrow hn
  go_enter Tryd.func9, Tryd.ntmps9
  go_wp2
  go_loopw [3, 4] (fun o i wr => ∃ k : Nat, k ≤ n ∧ k ≤ 6 ∧ i = .int .i64 k ∧ wr.ownsRow w.heap.size 9 1 o k ((fewF (ls.take k)).map Value.string) ∧ Below w.heap.size w wr) (fun _ i _ => n - (intOf i).toNat)
  case atStart => exact ⟨0, by omega, by omega, rfl, World.ownsRow_nil _ _ _ _, Below.refl _ _⟩
  case round =>
    obtain ⟨k, hkn, hk6, rfl, ho, hB⟩ := hrel
    obtain ⟨p, m, c, rfl⟩ := own_slice ho
    have HO := Lib.hid ho
    have HB := Lib.hid hB
    by_cases hlt : k < n
    · by_cases h6 : k < 6
      · have hlt' : (k : Int) < (n : Int) := by omega
        have h6' : (k : Int) < 6 := by omega
        have hk' : k < ls.length := by have := HN.out; omega
        obtain ⟨x, hx⟩ : ∃ x, ls[k]? = some x := ⟨_, List.getElem?_eq_getElem hk'⟩
        obtain ⟨g, o, rfl, hg, hcx⟩ := HRow.out k x hx
        have hcw : wr.cell? ⟨g, o + k, none⟩ = some (.string x) := (hB.cell (p := ⟨g, o + k, none⟩) hg).trans hcx
        have HX := Lib.hid hx
        have hk0 : (0 : Int) ≤ (k : Int) := by omega
        clear hx hcx hk' ho hB
        by_cases hb : 100 < x.size
        · have hb' : (100 : Int) < (x.size : Int) := by omega
          have hmin : min (x.size : Int) 100 = 100 := by omega
          have hsl : ∀ W, (Instr.slice 9 (.string x) none (some (.int .i64 100)) none).run Tryd.prog W = .ok (.string (x.extract 0 100)) W := run_headS (P := Tryd.prog) 9 Tryd.underlying9 x 100 (by omega)
          have hcut : cutF x = x.extract 0 100 := by rw [cutF, Nat.min_eq_right (by omega)]
          have HCUT := Lib.hid hcut
          have hl16 : (k + 1) * 16 ≤ 140737488355328 := by omega
          clear hcut hb
          go_wp2
          go_region_law (refine step_append_mine w.heap.size rfl (.tmp 15) (.tmp 27) 22 9 (.string ⟨#[]⟩) 1 16 rfl Tryd.underlying22 info_str rfl (by decide) (by decide) (.slice p m c) k _ [.string (x.extract 0 100)] rfl wr.heap.size rfl rfl (fun j u hu => (blk_cell (World.alloc_heap_new wr (.cells #[.string (x.extract 0 100)] 9)) j).trans (by simpa using hu)) (by intro u hu; simp at hu; rw [hu]; rfl) (ownsRow_fr (X := fun _ => False) HO.out (((Fr.refl _ wr).alloc _).drew) (fun _ _ => id)) (by have := HB.out.size; simp; omega) hl16 ?_; intro v1 w2 hO2 hG2 hA2; have HO2 := Lib.hid hO2; have HG2 := Lib.hid hG2; clear hO2 hG2 hA2)
          all_goals
            go_wp2
            refine ⟨⟨k + 1, by omega, by omega, by simp, ?_, ?_⟩, by simp [intOf]; omega⟩
            · rw [fewF_take ls k x h6 HX.out, List.map_append, HCUT.out]
              exact HO2.out
            · exact below_fr HB.out ((((Fr.refl (fun r => w.heap.size ≤ r) wr).alloc _).drew).trans (Fr.of_grown (X := fun r => w.heap.size ≤ r) HG2.out (fun r hr => .inl (own_ge HO.out r hr))) (fun _ h => .inl h)) (fun _ h => h)
        · have hb' : ¬ (100 : Int) < (x.size : Int) := by omega
          have hmin : min (x.size : Int) 100 = (x.size : Int) := by omega
          have hsl : ∀ W, (Instr.slice 9 (.string x) none (some (.int .i64 (x.size : Int))) none).run Tryd.prog W = .ok (.string (x.extract 0 x.size)) W := run_headS (P := Tryd.prog) 9 Tryd.underlying9 x x.size (by omega)
          have hcut : cutF x = x := by rw [cutF, Nat.min_eq_left (by omega), ByteArray.extract_zero_size]
          have HCUT := Lib.hid hcut
          have hl16 : (k + 1) * 16 ≤ 140737488355328 := by omega
          clear hcut hb
          go_wp2
          go_region_law (refine step_append_mine w.heap.size rfl (.tmp 15) (.tmp 27) 22 9 (.string ⟨#[]⟩) 1 16 rfl Tryd.underlying22 info_str rfl (by decide) (by decide) (.slice p m c) k _ [.string (x)] rfl wr.heap.size rfl rfl (fun j u hu => (blk_cell (World.alloc_heap_new wr (.cells #[.string (x)] 9)) j).trans (by simpa using hu)) (by intro u hu; simp at hu; rw [hu]; rfl) (ownsRow_fr (X := fun _ => False) HO.out (((Fr.refl _ wr).alloc _).drew) (fun _ _ => id)) (by have := HB.out.size; simp; omega) hl16 ?_; intro v1 w2 hO2 hG2 hA2; have HO2 := Lib.hid hO2; have HG2 := Lib.hid hG2; clear hO2 hG2 hA2)
          all_goals
            go_wp2
            refine ⟨⟨k + 1, by omega, by omega, by simp, ?_, ?_⟩, by simp [intOf]; omega⟩
            · rw [fewF_take ls k x h6 HX.out, List.map_append, HCUT.out]
              exact HO2.out
            · exact below_fr HB.out ((((Fr.refl (fun r => w.heap.size ≤ r) wr).alloc _).drew).trans (Fr.of_grown (X := fun r => w.heap.size ≤ r) HG2.out (fun r hr => .inl (own_ge HO.out r hr))) (fun _ h => .inl h)) (fun _ h => h)
      · have hk : k = 6 := by omega
        have hend := fewF_end ls k (.inr hk) (by omega)
        have hlen := fewF_len ls k (by omega) (by have := HN.out; omega)
        rw [hend] at HO hlen
        subst hk
        have hlt' : (6 : Int) < (n : Int) := by omega
        have HLEN := Lib.hid hlen
        clear ho hB hend hlen hlt h6
        go_wp2
        go_ret
        refine ⟨_, rfl, ?_, HB.out⟩
        rw [HLEN.out]
        exact HO.out
    · have hk : k = n := by omega
      have hend := fewF_end ls k (.inl (hk.trans HN.out.symm)) (by omega)
      have hlen := fewF_len ls k (by omega) (by have := HN.out; omega)
      rw [hend] at HO hlen
      subst hk
      have hlt' : ¬ ((k : Int) < (k : Int)) := by omega
      have HLEN := Lib.hid hlen
      clear ho hB hend hlen hlt
      go_wp2
      go_ret
      refine ⟨_, rfl, ?_, HB.out⟩
      rw [HLEN.out]
      exact HO.out
end Go.Proofs.YtpcmidhhbgjcjaaDoor
