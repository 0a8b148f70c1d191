/- digest.schedule. -/
import Derived.Test.YtpcmidhhbgjcjaaDoorP2
import Derived.Test.YtpcmidhhbgjcjaaDoorD1
import Derived.StillTailTactics
import Derived.Deep.QuietTactic
import Derived.BigQuiet
import Derived.Deep.RegionHeld3
import Derived.Laws.Rows
import Derived.Laws.Tables
namespace Go.Proofs.YtpcmidhhbgjcjaaDoor
open Go Go.RowKit

/-- The cells of an array of 64 words of which the first ones are known. -/
def arr64 (l : List UInt32) : Array Value := ((l ++ List.replicate (64 - l.length) 0).map wd).toArray
theorem arr64_cell (l : List UInt32) (j : Nat) (h : j < 64) : (arr64 l)[j]? = some (wd (l.getD j 0)) := by
  unfold arr64
  rw [List.getElem?_toArray, List.getElem?_map, List.getElem?_append]
  split
  · rename_i hj; simp [List.getElem?_eq_getElem hj, List.getD]
  · rename_i hj
    rw [List.getElem?_replicate, if_pos (by omega)]
    simp [List.getD, List.getElem?_eq_none (by omega : l.length ≤ j)]
theorem arr64_set (l : List UInt32) (x : UInt32) (h : l.length < 64) : (arr64 l).setIfInBounds l.length (wd x) = arr64 (l ++ [x]) := by
  unfold arr64
  obtain ⟨r, hr⟩ : ∃ r, 64 - l.length = r + 1 := ⟨63 - l.length, by omega⟩
  have hr2 : 64 - (l ++ [x]).length = r := by simp; omega
  rw [hr, hr2]
  apply Array.ext'
  simp [List.replicate_succ, Nat.sub_self]
/-- The bytes of a slice. -/
def RowU8 (w : World) (b off : Nat) (l : List UInt8) : Prop := ∀ j, j < l.length → w.cell? ⟨b, off + j, none⟩ = some (.int .u8 (l.getD j 0).toNat)

theorem row64_new (w : World) (ks : List Nat) (t : TypeId) : Row64 (w.alloc (.cells (ks.map (fun (k : Nat) => Value.int .i64 (k : Int))).toArray t)) w.heap.size 0 ks := by
  intro j hj
  rw [Nat.zero_add, blk_cell (World.alloc_heap_new w _)]
  simp [List.getElem?_eq_getElem hj, List.getD]
theorem row64_at (w : World) (b : Nat) (hb : w.heap.size = b) (ks : List Nat) (t : TypeId) : Row64 (w.alloc (.cells (ks.map (fun (k : Nat) => Value.int .i64 (k : Int))).toArray t)) b 0 ks := hb ▸ row64_new w ks t
theorem Row64.alloc {w : World} {b off : Nat} {ks : List Nat} (h : Row64 w b off ks) (hb : b < w.heap.size) (o : Obj) : Row64 (w.alloc o) b off ks := by
  intro j hj
  rw [World.cell?_of_block (w := w) (a := ⟨b, off + j, none⟩) (Below.heap_alloc w o b hb)]
  exact h j hj
theorem Row64.drew {w : World} {b off : Nat} {ks : List Nat} (h : Row64 w b off ks) : Row64 w.drew b off ks := h
theorem fz_alloc (w : World) (o : Obj) (b i : Nat) (hb : b < w.heap.size) : (w.alloc o).frozen? ⟨b, i, none⟩ = w.frozen? ⟨b, i, none⟩ := World.frozen?_of_block (w := w) (a := ⟨b, i, none⟩) (Below.heap_alloc w o b hb)
theorem fz_drew (w : World) (a : Addr) : w.drew.frozen? a = w.frozen? a := rfl
theorem cell_alloc_old (w : World) (o : Obj) (a : Addr) (hb : a.block < w.heap.size) : (w.alloc o).cell? a = w.cell? a := World.cell?_of_block (w := w) (Below.heap_alloc w o a.block hb)
theorem cell_set_off (w : World) (b i j : Nat) (v : Value) (h : i ≠ j) : (w.setCell ⟨b, j, none⟩ v).cell? ⟨b, i, none⟩ = w.cell? ⟨b, i, none⟩ := by
  simp only [World.cell?, World.setCell, Array.getElem?_modify]
  cases hb : w.heap[b]? with
  | none => simp
  | some o => cases o <;> simp [Ne.symm h]
theorem size_set (w : World) (a : Addr) (v : Value) : (w.setCell a v).heap.size = w.heap.size := by simp [World.setCell]
theorem keep2 (w : World) (o o' : Obj) (b i j : Nat) (v x : Value) (hb : b < w.heap.size) (h : i ≠ j) (hc : w.cell? ⟨b, i, none⟩ = some x) : (((w.setCell ⟨b, j, none⟩ v).alloc o).alloc o').drew.cell? ⟨b, i, none⟩ = some x := by
  show (((w.setCell ⟨b, j, none⟩ v).alloc o).alloc o').cell? ⟨b, i, none⟩ = some x
  rw [cell_alloc_old _ _ _ (by simp; omega), cell_alloc_old _ _ _ (by simpa using hb), cell_set_off _ _ _ _ _ h, hc]
theorem keep3 (w : World) (o o' : Obj) (b i j : Nat) (v x : Value) (hb : b < w.heap.size) (h : i ≠ j) (hc : w.cell? ⟨b, i, none⟩ = some x) : (((w.alloc o).alloc o').setCell ⟨b, j, none⟩ v).drew.cell? ⟨b, i, none⟩ = some x := by
  show (((w.alloc o).alloc o').setCell ⟨b, j, none⟩ v).cell? ⟨b, i, none⟩ = some x
  rw [cell_set_off _ _ _ _ _ h, cell_alloc_old _ _ _ (by simp; omega), cell_alloc_old _ _ _ (by simpa using hb), hc]
theorem keepB (w : World) (o o' : Obj) (b j : Nat) (v : Value) {cs : Array Value} {t : TypeId} (hb : w.heap[b]? = some (.cells cs t (0, 0))) : (((w.setCell ⟨b, j, none⟩ v).alloc o).alloc o').drew.heap[b]? = some (.cells (cs.setIfInBounds j v) t (0, 0)) := by
  have h := blk_set hb j v
  have hl := blk_lt h
  show (((w.setCell ⟨b, j, none⟩ v).alloc o).alloc o').heap[b]? = _
  rw [Below.heap_alloc _ _ _ (by simp at hl ⊢; omega), Below.heap_alloc _ _ _ hl, h]
theorem keepW {w w2 : World} (h : Below w.heap.size w w2) (o o' : Obj) (j : Nat) (v : Value) : Below w.heap.size w (((w2.setCell ⟨w.heap.size, j, none⟩ v).alloc o).alloc o').drew := by
  have h1 := h.setCell (p := ⟨w.heap.size, j, none⟩) (Nat.le_refl _) v
  have h2 := h1.alloc h1.size o
  exact (h2.alloc h2.size o').drew
theorem i64_id (n : Int) (h0 : 0 ≤ n) (h1 : n < 9000000000000000000) : IntKind.i64.wrap n = n := by rw [IntKind.wrap_i64]; omega
theorem u8_u32 (x : UInt8) : IntKind.u32.wrap (x.toNat : Int) = (x.toUInt32.toNat : Int) := by
  rw [UInt8.toNat_toUInt32]; exact wrap32_id _ (by have := x.toNat_lt; omega)
theorem shlc (x : UInt32) (k : Nat) (hk : k < 32) (c : Int) (hc : c = ((2 ^ k : Nat) : Int)) : IntKind.u32.wrap ((x.toNat : Int) * c) = ((x <<< UInt32.ofNat k).toNat : Int) := by
  rw [shl_u32 x k hk, IntKind.wrap_u32, hc, Int.natCast_emod, Int.natCast_mul]; rfl
/-- The numbers of a round of the first loop, each by name. -/
theorem word_step (bs : List UInt8) (k : Nat) (hk : k < 16) : ∃ q0 q1 q2 q3 : Nat, ∃ x0 x1 x2 x3 : UInt8, ∃ y0 y1 y2 y3 z0 z1 z2 o1 o2 o3 : UInt32,
    IntKind.i64.wrap (4 * (k : Int)) = (q0 : Int) ∧ IntKind.i64.wrap ((q0 : Int) + 1) = (q1 : Int) ∧ IntKind.i64.wrap ((q0 : Int) + 2) = (q2 : Int) ∧ IntKind.i64.wrap ((q0 : Int) + 3) = (q3 : Int) ∧
    q0 < 64 ∧ q1 < 64 ∧ q2 < 64 ∧ q3 < 64 ∧ bs.getD q0 0 = x0 ∧ bs.getD q1 0 = x1 ∧ bs.getD q2 0 = x2 ∧ bs.getD q3 0 = x3 ∧
    IntKind.u32.wrap (x0.toNat : Int) = (y0.toNat : Int) ∧ IntKind.u32.wrap (x1.toNat : Int) = (y1.toNat : Int) ∧ IntKind.u32.wrap (x2.toNat : Int) = (y2.toNat : Int) ∧ IntKind.u32.wrap (x3.toNat : Int) = (y3.toNat : Int) ∧
    IntKind.u32.wrap ((y0.toNat : Int) * 16777216) = (z0.toNat : Int) ∧ IntKind.u32.wrap ((y1.toNat : Int) * 65536) = (z1.toNat : Int) ∧ IntKind.u32.wrap ((y2.toNat : Int) * 256) = (z2.toNat : Int) ∧
    bits .or .u32 (z0.toNat : Int) (z1.toNat : Int) = (o1.toNat : Int) ∧ bits .or .u32 (o1.toNat : Int) (z2.toNat : Int) = (o2.toNat : Int) ∧ bits .or .u32 (o2.toNat : Int) (y3.toNat : Int) = (o3.toNat : Int) ∧
    wordF bs k = o3 :=
  ⟨4 * k, 4 * k + 1, 4 * k + 2, 4 * k + 3, _, _, _, _, _, _, _, _, _, _, _, _, _, _, by rw [i64_id _ (by omega) (by omega)]; rfl, by rw [i64_id _ (by omega) (by omega)]; rfl, by rw [i64_id _ (by omega) (by omega)]; rfl, by rw [i64_id _ (by omega) (by omega)]; rfl,
    by omega, by omega, by omega, by omega, rfl, rfl, rfl, rfl, u8_u32 _, u8_u32 _, u8_u32 _, u8_u32 _, shlc _ 24 (by decide) _ rfl, shlc _ 16 (by decide) _ rfl, shlc _ 8 (by decide) _ rfl, or_u32 _ _, or_u32 _ _, or_u32 _ _, rfl⟩

theorem size_arr : (Tryd.prog.info? 147).map (·.size) = some 64 := by kernel_rfl
theorem und_arr : Tryd.prog.underlying 147 = some (.array 64 137) := by kernel_rfl
theorem arr64_size (l : List UInt32) (h : l.length ≤ 64) : (arr64 l).size = 64 := by simp [arr64]; omega
theorem arr64_one (l : List UInt32) : (arr64 l).all (·.oneCell') = true := by
  rw [Array.all_eq_true_iff_forall_mem]
  intro v hv
  simp only [arr64, List.mem_toArray, List.mem_map] at hv
  obtain ⟨x, _, rfl⟩ := hv
  rfl
theorem below_setRow {B : Nat} {w w2 : World} (h : Below B w w2) {g : Nat} (hg : B ≤ g) (cs : Array Value) : Below B w (w2.setRow g cs) :=
  h.trans ⟨rfl, rfl, rfl, by simp [World.setRow], fun k hk => by simp only [World.setRow, Array.getElem?_modify]; rw [if_neg (by omega)]⟩

set_option maxRecDepth 100000 in
set_option maxHeartbeats 1000000 in
theorem schedule_c (b off c : Nat) (bs : List UInt8) (w : World) (hc : RowU8 w b off bs) (hl : bs.length = 64) (hb : b < w.heap.size) :
    Calls Tryd.prog 85 #[.slice (some ⟨b, off, none⟩) 64 c] w fun e w' => e = .returned (.agg (arr64 (schedN bs 64))) ∧ Below w.heap.size w w' := by
  have HC := Lib.hid hc
  clear hc
  go_enter Tryd.func85, Tryd.ntmps85
  go_wp2
  generalize hW : w.alloc _ = w1
  have hA : w1.heap[w.heap.size]? = some (.cells (arr64 (schedN bs 0)) 147 (0, 0)) := by rw [← hW]; exact World.alloc_heap_new w _
  have hB : Below w.heap.size w w1 := by rw [← hW]; exact (Below.refl _ w).alloc (Nat.le_refl _) _
  clear hW
  go_loopw [7] (fun i wr => ∃ k : Nat, k ≤ 16 ∧ i = .int .i64 k ∧ wr.heap[w.heap.size]? = some (.cells (arr64 (schedN bs k)) 147 (0, 0)) ∧ Below w.heap.size w wr) (fun i _ => 16 - (intOf i).toNat)
  case atStart => exact ⟨0, by omega, rfl, hA, hB⟩
  case round =>
    clear hA hB
    obtain ⟨k, hk, rfl, hA, hB⟩ := hrel
    by_cases hlt : k < 16
    · have hlt' : (k : Int) < 16 := by omega
      have hk0 : (0 : Int) ≤ (k : Int) := by omega
      have hk64 : (k : Int) < 64 := by omega
      obtain ⟨q0, q1, q2, q3, x0, x1, x2, x3, y0, y1, y2, y3, z0, z1, z2, o1, o2, o3, e0, e1, e2, e3, hq0, hq1, hq2, hq3, hx0, hx1, hx2, hx3, f0, f1, f2, f3, g0, g1, g2, r1, r2, r3, hw⟩ := word_step bs k hlt
      have c0 : wr.cell? ⟨b, off + q0, none⟩ = some (.int .u8 x0.toNat) := (hB.cell (p := ⟨b, off + q0, none⟩) hb).trans (hx0 ▸ HC.out q0 (by omega))
      have c1 : wr.cell? ⟨b, off + q1, none⟩ = some (.int .u8 x1.toNat) := (hB.cell (p := ⟨b, off + q1, none⟩) hb).trans (hx1 ▸ HC.out q1 (by omega))
      have c2 : wr.cell? ⟨b, off + q2, none⟩ = some (.int .u8 x2.toNat) := (hB.cell (p := ⟨b, off + q2, none⟩) hb).trans (hx2 ▸ HC.out q2 (by omega))
      have c3 : wr.cell? ⟨b, off + q3, none⟩ = some (.int .u8 x3.toNat) := (hB.cell (p := ⟨b, off + q3, none⟩) hb).trans (hx3 ▸ HC.out q3 (by omega))
      have i0 : (q0 : Int) < 64 := by omega
      have i1 : (q1 : Int) < 64 := by omega
      have i2 : (q2 : Int) < 64 := by omega
      have i3 : (q3 : Int) < 64 := by omega
      have n0 : (0 : Int) ≤ (q0 : Int) := by omega
      have n1 : (0 : Int) ≤ (q1 : Int) := by omega
      have n2 : (0 : Int) ≤ (q2 : Int) := by omega
      have n3 : (0 : Int) ≤ (q3 : Int) := by omega
      have HW := Lib.hid hw
      clear hx0 hx1 hx2 hx3 hw hq0 hq1 hq2 hq3
      go_wp2
      go_still_tail 35, (by kernel_rfl)
      have ck : wr.cell? ⟨w.heap.size, k, none⟩ = some (wd ((schedN bs k).getD k 0)) := (blk_cell hA k).trans (arr64_cell _ _ (by omega))
      have fk := blk_free hA k
      change wpList _ _ _ _ _ wr.drew
      clear c0 c1 c2 c3 e0 e1 e2 e3 f0 f1 f2 f3 g0 g1 g2 r1 r2 r3
      go_wp2
      have hs := blk_set hA k (wd o3)
      have en : schedN bs (k + 1) = schedN bs k ++ [o3] := by rw [schedN, if_pos hlt, HW.out]
      refine ⟨⟨k + 1, by omega, by go_num, ?_, (hB.setCell (p := ⟨w.heap.size, k, none⟩) (Nat.le_refl _) _).drew⟩, by simp [intOf]; omega⟩
      have e2 := arr64_set (schedN bs k) o3 (by rw [schedN_len]; omega)
      rw [schedN_len] at e2
      rw [en, ← e2]
      exact hs
    · have hk16 : 16 ≤ (k : Int) := by omega
      have HK : Hid (k = 16) := by rw [Hid]; omega
      clear hlt hk
      go_wp2
      go_loopw [4] (fun i wr => ∃ k : Nat, 16 ≤ k ∧ k ≤ 64 ∧ i = .int .i64 k ∧ wr.heap[w.heap.size]? = some (.cells (arr64 (schedN bs k)) 147 (0, 0)) ∧ Below w.heap.size w wr) (fun i _ => 64 - (intOf i).toNat)
      case atStart => exact ⟨16, by omega, by omega, rfl, HK.out ▸ hA, hB⟩
      case round =>
        clear hA hB
        obtain ⟨j, hj, hj6, rfl, hA, hB⟩ := hrel
        by_cases hlt : j < 64
        · have hlt' : (j : Int) < 64 := by omega
          have hsz := blk_lt hA
          obtain ⟨p2, hp2⟩ : ∃ p : Nat, j - 2 = p := ⟨_, rfl⟩
          obtain ⟨p7, hp7⟩ : ∃ p : Nat, j - 7 = p := ⟨_, rfl⟩
          obtain ⟨p15, hp15⟩ : ∃ p : Nat, j - 15 = p := ⟨_, rfl⟩
          obtain ⟨p16, hp16⟩ : ∃ p : Nat, j - 16 = p := ⟨_, rfl⟩
          have e2 : IntKind.i64.wrap ((j : Int) - 2) = (p2 : Int) := by rw [i64_id _ (by omega) (by omega)]; omega
          have e7 : IntKind.i64.wrap ((j : Int) - 7) = (p7 : Int) := by rw [i64_id _ (by omega) (by omega)]; omega
          have e15 : IntKind.i64.wrap ((j : Int) - 15) = (p15 : Int) := by rw [i64_id _ (by omega) (by omega)]; omega
          have e16 : IntKind.i64.wrap ((j : Int) - 16) = (p16 : Int) := by rw [i64_id _ (by omega) (by omega)]; omega
          have l2 : (p2 : Int) < 64 := by omega
          have l7 : (p7 : Int) < 64 := by omega
          have l15 : (p15 : Int) < 64 := by omega
          have l16 : (p16 : Int) < 64 := by omega
          have m2 : (0 : Int) ≤ (p2 : Int) := by omega
          have m7 : (0 : Int) ≤ (p7 : Int) := by omega
          have m15 : (0 : Int) ≤ (p15 : Int) := by omega
          have m16 : (0 : Int) ≤ (p16 : Int) := by omega
          obtain ⟨x2, hx2⟩ : ∃ x, (schedN bs j).getD p2 0 = x := ⟨_, rfl⟩
          obtain ⟨x7, hx7⟩ : ∃ x, (schedN bs j).getD p7 0 = x := ⟨_, rfl⟩
          obtain ⟨x15, hx15⟩ : ∃ x, (schedN bs j).getD p15 0 = x := ⟨_, rfl⟩
          obtain ⟨x16, hx16⟩ : ∃ x, (schedN bs j).getD p16 0 = x := ⟨_, rfl⟩
          have c2 : wr.cell? ⟨w.heap.size, p2, none⟩ = some (wd x2) := hx2 ▸ (blk_cell hA p2).trans (arr64_cell _ _ (by omega))
          have c7 : wr.cell? ⟨w.heap.size, p7, none⟩ = some (wd x7) := hx7 ▸ (blk_cell hA p7).trans (arr64_cell _ _ (by omega))
          have c15 : wr.cell? ⟨w.heap.size, p15, none⟩ = some (wd x15) := hx15 ▸ (blk_cell hA p15).trans (arr64_cell _ _ (by omega))
          have c16 : wr.cell? ⟨w.heap.size, p16, none⟩ = some (wd x16) := hx16 ▸ (blk_cell hA p16).trans (arr64_cell _ _ (by omega))
          have HX : Hid (nextF (schedN bs j) j = x16 + (mixF x15 [7, 18] ^^^ x15 >>> 3) + x7 + (mixF x2 [17, 19] ^^^ x2 >>> 10)) := by
            rw [Hid, nextF, hp2, hp7, hp15, hp16, hx2, hx7, hx15, hx16]
          have ne7 : p7 ≠ j := by omega
          have ne16 : p16 ≠ j := by omega
          clear hp2 hp7 hp15 hp16 hx2 hx7 hx15 hx16
          go_wp2
          go_quiet (fail)
          go_wp2
          obtain ⟨w2, hw2⟩ : ∃ w2, wr.drewN nq = w2 := ⟨_, rfl⟩
          have hA2 : w2.heap[w.heap.size]? = some (.cells (arr64 (schedN bs j)) 147 (0, 0)) := by rw [← hw2]; exact hA
          have hB2 : Below w.heap.size w w2 := by rw [← hw2]; exact ⟨hB.os, hB.tape, hB.output, hB.size, hB.block⟩
          have d7 : w2.cell? ⟨w.heap.size, p7, none⟩ = some (wd x7) := by rw [← hw2]; exact c7
          have d16 : w2.cell? ⟨w.heap.size, p16, none⟩ = some (wd x16) := by rw [← hw2]; exact c16
          have hfz : ∀ (a b : Obj) , ((w2.alloc a).alloc b).frozen? ⟨w.heap.size, j, none⟩ = false := fun a b => by rw [fz_alloc _ _ _ _ (by simp; exact Nat.lt_succ_of_lt (blk_lt hA2)), fz_alloc _ _ _ _ (blk_lt hA2)]; exact blk_free hA2 j
          have dj : w2.cell? ⟨w.heap.size, j, none⟩ = some (wd ((schedN bs j).getD j 0)) := (blk_cell hA2 j).trans (arr64_cell _ _ hlt)
          have fj := blk_free hA2 j
          have hsz2 : w.heap.size < w2.heap.size := blk_lt hA2
          obtain ⟨s3, hs3⟩ : ∃ x, x15 >>> 3 = x := ⟨_, rfl⟩
          obtain ⟨s10, hs10⟩ : ∃ x, x2 >>> 10 = x := ⟨_, rfl⟩
          obtain ⟨m15, hm15⟩ : ∃ x, mixF x15 [7, 18] = x := ⟨_, rfl⟩
          obtain ⟨m2', hm2'⟩ : ∃ x, mixF x2 [17, 19] = x := ⟨_, rfl⟩
          obtain ⟨t1, ht1⟩ : ∃ x, m15 ^^^ s3 = x := ⟨_, rfl⟩
          obtain ⟨t2, ht2⟩ : ∃ x, x16 + t1 = x := ⟨_, rfl⟩
          obtain ⟨t3, ht3⟩ : ∃ x, t2 + x7 = x := ⟨_, rfl⟩
          obtain ⟨t4, ht4⟩ : ∃ x, m2' ^^^ s10 = x := ⟨_, rfl⟩
          obtain ⟨t5, ht5⟩ : ∃ x, t3 + t4 = x := ⟨_, rfl⟩
          have a1 : (x15.toNat : Int) / 8 = (s3.toNat : Int) := by rw [← hs3]; exact (by have : (x15 >>> 3).toNat = x15.toNat / 8 := shr_u32 x15 3 (by decide); omega)
          have a2 : (x2.toNat : Int) / 1024 = (s10.toNat : Int) := by rw [← hs10]; exact (by have : (x2 >>> 10).toNat = x2.toNat / 1024 := shr_u32 x2 10 (by decide); omega)
          have a3 := xor_u32 m15 s3
          have a4 := add_u32 x16 t1
          have a5 := add_u32 t2 x7
          have a6 := xor_u32 m2' s10
          have a7 := add_u32 t3 t4
          rw [ht1] at a3
          rw [ht2] at a4
          rw [ht3] at a5
          rw [ht4] at a6
          rw [ht5] at a7
          have HX : Hid (nextF (schedN bs j) j = t5) := by rw [Hid, HX.out, hm15, hs3, ht1, ht2, ht3, hm2', hs10, ht4, ht5]
          have HM15 := Lib.hid hm15
          have HM2 := Lib.hid hm2'
          rw [hw2]
          clear hw2 c2 c7 c15 c16 hA hB e2 e15 hs3 hs10 hm15 hm2' ht1 ht2 ht3 ht4 ht5
          go_region_held3 (fun w' => w'.cell? ⟨w.heap.size, p7, none⟩ = some (wd x7) ∧ w'.cell? ⟨w.heap.size, p16, none⟩ = some (wd x16))
            (first | (go_keep; done) | exact ⟨keep2 _ _ _ _ _ _ _ _ hsz2 ne7 d7, keep2 _ _ _ _ _ _ _ _ hsz2 ne16 d16⟩ | exact ⟨keep3 _ _ _ _ _ _ _ _ hsz2 ne7 d7, keep3 _ _ _ _ _ _ _ _ hsz2 ne16 d16⟩ | (refine ⟨?_, ?_⟩; (exact keep3 _ _ _ _ _ _ _ _ hsz2 ne7 d7); (exact keep3 _ _ _ _ _ _ _ _ hsz2 ne16 d16)))
            (first | (go_at_call_of 86 (wd x15); refine (mixed_c x15 _ 0 2 [7, 18] _ (by first | exact (row64_at _ _ (by simp) [7, 18] _).drew | exact ((row64_at _ _ (by simp) [7, 18] _).alloc (by simp) _).drew) (by simp) (by simp)).mono ?_; rintro e w' ⟨rfl, rfl⟩; rw [HM15.out])
                   | (go_at_call_of 86 (wd x2); refine (mixed_c x2 _ 0 2 [17, 19] _ (by first | exact (row64_at _ _ (by simp) [17, 19] _).drew | exact ((row64_at _ _ (by simp) [17, 19] _).alloc (by simp) _).drew) (by simp) (by simp)).mono ?_; rintro e w' ⟨rfl, rfl⟩; rw [HM2.out]))
          all_goals
            go_wp2
            go_roundw
            case rel =>
              refine ⟨j + 1, by omega, by omega, by go_num, ?_, keepW hB2 _ _ _ _⟩
              have en : schedN bs (j + 1) = schedN bs j ++ [t5] := by rw [schedN, if_neg (by omega), HX.out]
              have e2 := arr64_set (schedN bs j) t5 (by rw [schedN_len]; omega)
              rw [schedN_len] at e2
              rw [en, ← e2]
              exact keepB _ _ _ _ _ _ hA2
            case measure => simp [intOf]; omega
        · obtain rfl : j = 64 := by omega
          have hsz := arr64_size (schedN bs 64) (by rw [schedN_len]; omega)
          go_wp2_with (first | (refine wpList_load_row rfl 147 (.tmp 2) rfl w.heap.size rfl 147 (arr64 (schedN bs 64)) (0, 0) _ hA und_arr rfl (by rw [hsz]; exact size_arr) ?_) | (refine wpList_store_row rfl 147 (.tmp 2) (.tmp 83) rfl w.heap.size (arr64 (schedN bs 64)) rfl rfl 147 _ hA (by rw [hsz]; exact size_arr) rfl (arr64_one _) ?_))
          exact bodyPost_ret (v := .agg (arr64 (schedN bs 64))) (results_cell_row rfl _ _ w.heap.size 147 (arr64 (schedN bs 64)) (0, 0) _ rfl (setRow_heap _ _ _ _ _ _ hA) und_arr rfl (by rw [hsz]; exact size_arr)) rfl ⟨rfl, below_setRow hB (Nat.le_refl _) _⟩
end Go.Proofs.YtpcmidhhbgjcjaaDoor
