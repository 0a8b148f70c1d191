/- digest.words.digest: the bytes of eight words. -/
import Derived.Test.YtpcmidhhbgjcjaaDoorD3
namespace Go.Proofs.YtpcmidhhbgjcjaaDoor
open Go Go.RowKit

/-- The four bytes of a word, the greatest first. -/
def byteF (x : UInt32) (k : Nat) : UInt8 := UInt8.ofNat (x.toNat / 2 ^ (24 - 8 * k) % 256)
/-- The first n bytes of the digest. -/
def digN (v : V8) (n : Nat) : List UInt8 := (List.range n).map (fun j => byteF ((lst v).getD (j / 4) 0) (j % 4))
def digF (v : V8) : List UInt8 := digN v 32
def arr32 (l : List UInt8) : Array Value := (u8s (l ++ List.replicate (32 - l.length) 0)).toArray
theorem digN_len (v : V8) (n : Nat) : (digN v n).length = n := by simp [digN]
theorem digN_succ (v : V8) (n : Nat) : digN v (n + 1) = digN v n ++ [byteF ((lst v).getD (n / 4) 0) (n % 4)] := by simp [digN, List.range_succ]
theorem arr32_set (l : List UInt8) (x : UInt8) (h : l.length < 32) : (arr32 l).setIfInBounds l.length (.int .u8 x.toNat) = arr32 (l ++ [x]) := by
  unfold arr32 u8s
  obtain ⟨r, hr⟩ : ∃ r, 32 - l.length = r + 1 := ⟨31 - l.length, by omega⟩
  have hr2 : 32 - (l ++ [x]).length = r := by simp; omega
  rw [hr, hr2]
  apply Array.ext'
  simp [List.replicate_succ, Nat.sub_self]
theorem arr32_cell (l : List UInt8) (j : Nat) (h : j < 32) : ∃ x : UInt8, (arr32 l)[j]? = some (.int .u8 x.toNat) := by
  unfold arr32 u8s
  have hl : j < (l ++ List.replicate (32 - l.length) 0).length := by simp; omega
  exact ⟨(l ++ List.replicate (32 - l.length) 0)[j], by rw [List.getElem?_toArray, List.getElem?_map, List.getElem?_eq_getElem hl]; rfl⟩
theorem idx_v8 (C : Array Value) (i : Nat) (x : UInt32) (hi : i < 8) (hx : C[i]? = some (wd x)) (w : World) : (Instr.index 139 (.agg C) (.int .i64 (i : Int))).run Tryd.prog w = .ok (wd x) w := by
  have h0 : (0 : Int) ≤ (i : Int) ∧ (i : Int) < 8 := by omega
  have hq : Tryd.prog.info? 137 ≠ none := by intro h; have := (show (Tryd.prog.info? 137).isSome = true by kernel_rfl); rw [h] at this; cases this
  obtain ⟨i0, hi0⟩ := Option.ne_none_iff_exists'.1 hq
  have hs0 : i0.size = 1 := by have := (show (Tryd.prog.info? 137).map (·.size) = some 1 by kernel_rfl); rw [hi0] at this; simpa using this
  simp [Instr.index, asIntOf, run_underlying und_v8, h0, part, isAgg, run_underlying Tryd.underlying137, sizeOf, typeInfo, hi0, hs0, hx]
  intro h
  omega

set_option maxRecDepth 100000 in
set_option maxHeartbeats 1000000 in
theorem digest_c (v : V8) (w : World) :
    Calls Tryd.prog 80 #[.agg (v8 v)] w fun e w' => e = .returned (.string ⟨(digF v).toArray⟩) ∧ Below w.heap.size w w' := by
  obtain ⟨X, hX⟩ : ∃ X, v8 v = X := ⟨_, rfl⟩
  have HX := Lib.hid hX
  have hX1 : X.all (·.oneCell') = true := by rw [← hX]; simp [v8, Value.oneCell']
  have hx8 : X.size = 8 := by rw [← hX]; rfl
  rw [hX]
  clear hX
  have hXg : ∀ o, ((w.alloc (.cells X 139)).alloc o).heap[w.heap.size]? = some (.cells X 139 (0, 0)) := fun o => (Below.heap_alloc _ _ _ (by simp)).trans (World.alloc_heap_new _ _)
  go_enter Tryd.func80, Tryd.ntmps80
  go_wp2_with (refine wpList_load_row rfl 139 (.tmp 1) rfl w.heap.size rfl 139 X (0, 0) _ (hXg _) und_v8 rfl (by rw [hx8]; exact size_v8) ?_)
  generalize hW : (w.alloc _).alloc _ = w1
  have hA : w1.heap[w.heap.size + 1]? = some (.cells (arr32 (digN v 0)) 151 (0, 0)) := by
    rw [← hW]
    have := World.alloc_heap_new (w.alloc (.cells X 139)) (.cells (arr32 (digN v 0)) 151)
    rw [World.size_alloc] at this
    exact this
  have hB : Below w.heap.size w w1 := by rw [← hW]; exact ((Below.refl _ w).alloc (Nat.le_refl _) _).alloc (by simp) _
  clear hW hXg
  go_loopw [8] (fun i wr => ∃ j : Nat, j ≤ 8 ∧ i = .int .i64 j ∧ wr.heap[w.heap.size + 1]? = some (.cells (arr32 (digN v (4 * j))) 151 (0, 0)) ∧ Below w.heap.size w wr) (fun i _ => 8 - (intOf i).toNat)
  case atStart => exact ⟨0, by omega, rfl, hA, hB⟩
  case round =>
    clear hA hB
    obtain ⟨j, hj, rfl, hA, hB⟩ := hrel
    by_cases hlt : j < 8
    · have hlt' : (j : Int) < 8 := by omega
      obtain ⟨x, hx⟩ : ∃ x, (lst v).getD j 0 = x := ⟨_, rfl⟩
      have hidx := idx_v8 X j x hlt (by rw [← HX.out, v8_get _ _ hlt, hx])
      go_wp2
      go_loopw [12] (fun i wq => ∃ k : Nat, k ≤ 4 ∧ i = .int .i64 k ∧ wq.heap[w.heap.size + 1]? = some (.cells (arr32 (digN v (4 * j + k))) 151 (0, 0)) ∧ Below w.heap.size w wq) (fun i _ => 4 - (intOf i).toNat)
      case atStart => exact ⟨0, by omega, rfl, hA, hB⟩
      case round =>
        clear hA hB
        obtain ⟨k, hk, rfl, hA, hB⟩ := hrel
        by_cases hk4 : k < 4
        · have hk4' : (k : Int) < 4 := by omega
          obtain ⟨z, hz⟩ := arr32_cell (digN v (4 * j + k)) (4 * j + k) (by omega)
          have hc : wr.cell? ⟨w.heap.size + 1, 4 * j + k, none⟩ = some (.int .u8 z.toNat) := (blk_cell hA _).trans hz
          have hf := blk_free hA (4 * j + k)
          obtain ⟨y, hy⟩ : ∃ y, byteF x k = y := ⟨_, rfl⟩
          have e1 : (x.toNat : Int) / 2 ^ (24 - 8 * k) % 256 = (y.toNat : Int) := by
            rw [← hy, byteF, UInt8.toNat_ofNat']
            have : x.toNat / 2 ^ (24 - 8 * k) % 256 % 2 ^ 8 = x.toNat / 2 ^ (24 - 8 * k) % 256 := Nat.mod_eq_of_lt (Nat.mod_lt _ (by decide))
            rw [this, Int.natCast_emod, Int.natCast_ediv, Int.natCast_pow]; rfl
          have hs := blk_set hA (4 * j + k) (.int .u8 y.toNat)
          have en : digN v (4 * j + k + 1) = digN v (4 * j + k) ++ [y] := by
            rw [digN_succ, show (4 * j + k) / 4 = j by omega, show (4 * j + k) % 4 = k by omega, hx, hy]
          have e2 := arr32_set (digN v (4 * j + k)) y (by rw [digN_len]; omega)
          rw [digN_len] at e2
          rw [e2, ← en] at hs
          have HS := Lib.hid hs
          have HB := Lib.hid hB
          clear hs e2 en hy hz hA hB
          go_wp2
          exact ⟨⟨k + 1, by omega, by go_num, HS.out, HB.out.setCell (p := ⟨w.heap.size + 1, 4 * j + k, none⟩) (by simp) _⟩, by simp [intOf]; omega⟩
        · have hk4' : 4 ≤ (k : Int) := by omega
          have HA : Hid (wr.heap[w.heap.size + 1]? = some (.cells (arr32 (digN v (4 * (j + 1)))) 151 (0, 0))) := by
            rw [Hid, show 4 * (j + 1) = 4 * j + k by omega]; exact hA
          have HB := Lib.hid hB
          clear hA hB
          go_wp2
          go_roundw
          case rel => exact ⟨j + 1, by omega, by go_num, HA.out, HB.out⟩
          case measure => simp [intOf]; omega
    · obtain rfl : j = 8 := by omega
      have hcv := conv_cells (P := Tryd.prog) (w := wr) 38 9 5 Tryd.underlying38 Tryd.underlying5 Tryd.underlying9 (w.heap.size + 1) 0 32 (digF v) (by
        intro i hi
        rw [blk_cell hA]
        unfold arr32 u8s
        rw [List.getElem?_toArray, List.getElem?_map, List.getElem?_append_left (by simpa [digF] using hi)]
        unfold digF at hi
        simp [digF, List.getD, List.getElem?_eq_getElem hi])
      rw [show (digF v).length = 32 from digN_len v 32] at hcv
      have HB := Lib.hid hB
      clear hA hB
      go_wp2
      go_ret
      exact ⟨rfl, HB.out⟩
end Go.Proofs.YtpcmidhhbgjcjaaDoor
