/- slices.Chunk over bytes, 64 a chunk. -/
import Derived.Test.YtpcmidhhbgjcjaaDoorR2
import Derived.Test.YtpcmidhhbgjcjaaDoorProg
import Derived.TacticsInMore
namespace Go.Proofs.YtpcmidhhbgjcjaaDoor
open Go Go.RowKit Go.Shelf
attribute [local go_sem] Oper.semAt_some

def encC {m : Nat} (g : Nat) (q : { q : Nat // q < m }) : Array Value := #[.slice (some ⟨g, 64 * q.1, none⟩) 64 64]

set_option maxRecDepth 100000 in
theorem chunk_seq (n Bs Bn g cap m : Nat) (hm : m ≤ 1000000000) (hcap : 64 * m ≤ cap) (hcm : cap ≤ 9223372036854775807) (Y : Nat → Prop) (hYs : ¬ Y Bs) (hYn : ¬ Y Bn) (w0 : World)
    (hs0 : w0.heap[Bs]? = some (.cells #[.slice (some ⟨g, 0, none⟩) (64 * m) cap] 38 (0, 0))) (hn0 : w0.heap[Bn]? = some (.cells #[.int .i64 64] 3 (0, 0))) :
    SeqS Fence.wide n Tryd.prog 84 #[.pointer (some ⟨Bs, 0, none⟩), .pointer (some ⟨Bn, 0, none⟩)] (encC (m := m) g) (fun _ => False) Y (fun xs => xs.map (·.1) = List.range m) m w0 := by
  intro l J W hW hJ hYi h0
  have hbs := blk_lt hs0
  have hbn := blk_lt hn0
  have hs1 : W.heap[Bs]? = some (.cells #[.slice (some ⟨g, 0, none⟩) (64 * m) cap] 38 (0, 0)) := (hW.block _ hbs).trans hs0
  have hn1 : W.heap[Bn]? = some (.cells #[.int .i64 64] 3 (0, 0)) := (hW.block _ hbn).trans hn0
  refine callsIn_of_wp Tryd.func84 rfl trivial ?_ rfl
  simp only [Tryd.ntmps84, List.size_toArray, List.length_cons, List.length_nil, Nat.reduceAdd, Nat.reduceSub, Array.replicate_succ, Array.replicate_zero, List.push_toArray, List.append_toArray, List.nil_append, List.cons_append]
  gi_wp2
  gi_loopw [4] (fun i wr => ∃ q : Nat, ∃ pre : List { q : Nat // q < m }, pre.map (·.1) = List.range q ∧ q ≤ m ∧ i = .int .i64 ((64 * q : Nat) : Int) ∧ wr.heap[Bs]? = some (.cells #[.slice (some ⟨g, 0, none⟩) (64 * m) cap] 38 (0, 0)) ∧ wr.heap[Bn]? = some (.cells #[.int .i64 64] 3 (0, 0)) ∧ J pre wr) (fun i _ => 64 * m - (intOf i).toNat)
  case atStart => exact ⟨0, [], rfl, by omega, rfl, hs1, hn1, h0⟩
  case round =>
    clear hs1 hn1 h0
    obtain ⟨q, pre, hpre, hq, rfl, hs, hn, hj⟩ := hrel
    have hpl : pre.length = q := by have := congrArg List.length hpre; simpa using this
    have HPRE := Lib.hid hpre
    have HPL := Lib.hid hpl
    clear hpre hpl
    have hcs : wr.cell? ⟨Bs, 0, none⟩ = some (.slice (some ⟨g, 0, none⟩) (64 * m) cap) := blk_cell hs 0
    have hcn : wr.cell? ⟨Bn, 0, none⟩ = some (.int .i64 64) := blk_cell hn 0
    by_cases hlt : q < m
    · obtain ⟨fn, tmps, assign, body, hy1, hR⟩ := hYi pre ⟨q, hlt⟩ wr.drew (hJ _ _ _ hj (Fr.refl _ wr).drew) (by rw [HPL.out]; exact hlt)
      unfold encC at hy1
      obtain ⟨i, hi⟩ : ∃ i, 64 * q = i := ⟨_, rfl⟩
      obtain ⟨M, hM⟩ : ∃ M, 64 * m = M := ⟨_, rfl⟩
      rw [hi] at hy1
      rw [hM] at hcs hcap
      have h1 : (i : Int) + 64 ≤ (M : Int) := by omega
      have h2 : (M : Int) ≤ (cap : Int) := by omega
      have h3 : (0 : Int) ≤ (i : Int) := by omega
      have h4 : (i : Int) < (M : Int) := by omega
      have HI := Lib.hid hi
      have HM := Lib.hid hM
      have HS := Lib.hid hs
      have HN := Lib.hid hn
      clear hi hM hs hn hW hYi hJ hcap
      rw [HI.out]
      gi_wp2
      gi_region
      gi_wp2
      refine ⟨fun h => (by cases h), hR.mono ?_⟩
      rintro e W' ⟨rfl, hj', hk'⟩
      have hs' := hk'.blk (g := Bs) HS.out (fun h => h.elim hYs (fun h => by omega))
      have hn' := hk'.blk (g := Bn) HN.out (fun h => h.elim hYn (fun h => by omega))
      have hcs' : W'.cell? ⟨Bs, 0, none⟩ = some (.slice (some ⟨g, 0, none⟩) (64 * m) cap) := blk_cell hs' 0
      have hcn' : W'.cell? ⟨Bn, 0, none⟩ = some (.int .i64 64) := blk_cell hn' 0
      clear hk' hR hy1
      gi_wp2
      refine ⟨⟨q + 1, pre ++ [⟨q, hlt⟩], by rw [List.map_append, HPRE.out, List.range_succ]; rfl, by omega, ?_, hs', hn', hj'⟩, ?_⟩
      · have := HI.out
        rw [show ((64 * (q + 1) : Nat) : Int) = (i : Int) + 64 by omega]
      · have := HM.out
        simp [intOf]
        omega
    · obtain rfl : q = m := by omega
      have h4 : ¬ ((64 * q : Nat) : Int) < ((64 * q : Nat) : Int) := by omega
      have HS := Lib.hid hs
      have HN := Lib.hid hn
      clear hs hn hW hYi hJ
      gi_wp2
      go_end0
      exact ⟨⟨_, rfl⟩, pre, HPRE.out, hj⟩

theorem chunk_c (g len cap : Nat) (w : World) :
    Calls Tryd.prog 78 #[.slice (some ⟨g, 0, none⟩) len cap, .int .i64 64] w fun e w' => e = .returned (.func (.func 84) #[] #[.pointer (some ⟨w.heap.size, 0, none⟩), .pointer (some ⟨w.heap.size + 1, 0, none⟩)]) ∧ (w.alloc (.cells #[.slice (some ⟨g, 0, none⟩) len cap] 38)).alloc (.cells #[.int .i64 64] 3) = w' := by
  go_enter Tryd.func78, Tryd.ntmps78
  go_wp2
  go_ret
  exact ⟨rfl, rfl⟩
end Go.Proofs.YtpcmidhhbgjcjaaDoor
