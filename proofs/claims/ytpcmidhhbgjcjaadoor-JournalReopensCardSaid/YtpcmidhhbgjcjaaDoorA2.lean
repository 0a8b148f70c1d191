/- wire.groups and wire.PutInt: what they return. -/
import Derived.Test.YtpcmidhhbgjcjaaDoorR2
import Derived.Test.YtpcmidhhbgjcjaaDoorP0
import Derived.Test.YtpcmidhhbgjcjaaDoorA1
namespace Go.Proofs.YtpcmidhhbgjcjaaDoor
open Go Go.RowKit Go.Shelf
attribute [local go_sem] Oper.semAt_some

theorem and127 (y : Nat) (h : y < 18446744073709551616) : bits .and .u64 (y : Int) 127 = ((y % 128 : Nat) : Int) := by
  have e : (127 : Int) = ((127 : Nat) : Int) := rfl
  rw [e, bits_and_u64_nat y 127 h (by omega)]
  congr 1
  exact Nat.and_two_pow_sub_one_eq_mod y 7
theorem u8mod (y : Nat) : ((y : Nat) : Int) % 256 = ((UInt8.ofNat y).toNat : Int) := by
  rw [UInt8.toNat_ofNat']; omega
theorem bits_xor_u64_nat (a b : Nat) (ha : a < 18446744073709551616) (hb : b < 18446744073709551616) :
    bits .xor .u64 (a : Int) (b : Int) = ((a ^^^ b : Nat) : Int) := by
  have hx : a ^^^ b < 2 ^ 64 := Nat.xor_lt_two_pow (by omega) (by omega)
  have h1 : (BitVec.ofInt 64 (a : Int)).toNat = a := by
    rw [BitVec.ofInt_natCast, BitVec.toNat_ofNat]; exact Nat.mod_eq_of_lt (by omega)
  have h2 : (BitVec.ofInt 64 (b : Int)).toNat = b := by
    rw [BitVec.ofInt_natCast, BitVec.toNat_ofNat]; exact Nat.mod_eq_of_lt (by omega)
  show IntKind.u64.wrap ((BitVec.ofInt 64 (a : Int) ^^^ BitVec.ofInt 64 (b : Int)).toNat : Int) = _
  rw [BitVec.toNat_xor, h1, h2, IntKind.wrap_u64]
  omega
theorem zig (n : Nat) (hn : n ≤ 4611686018427387903) : bits .xor .u64 ((n : Int) * 2) ((n : Int) / 9223372036854775808) = ((2 * n : Nat) : Int) := by
  have e1 : (n : Int) * 2 = ((2 * n : Nat) : Int) := by omega
  have e2 : (n : Int) / 9223372036854775808 = ((0 : Nat) : Int) := by omega
  rw [e1, e2, bits_xor_u64_nat _ _ (by omega) (by omega)]
  simp
def encG (x : UInt8 × Bool) : Array Value := #[.int .u8 x.1.toNat, .bool x.2]
def boxOf (w : World) (b : Nat) : Nat := match w.cell? ⟨b, 0, none⟩ with | some (Value.int _ n) => n.toNat | _ => 0
theorem boxOf_eq {w : World} {b : Nat} {k : IntKind} {z : Nat} (h : w.cell? ⟨b, 0, none⟩ = some (.int k z)) : boxOf w b = z := by simp [boxOf, h]

set_option maxRecDepth 20000 in
theorem groups_seq (n : Nat) (Bz z : Nat) (hz : z < 18446744073709551616) (Y : Nat → Prop) (hY : ¬ Y Bz) (w0 : World) (hb0 : w0.heap[Bz]? = some (.cells #[.int .u64 z] 90 (0, 0))) :
    SeqS Fence.wide n Tryd.prog 82 #[.pointer (some ⟨Bz, 0, none⟩)] encG (fun r => r = Bz) Y (fun xs => xs = grp z) (grp z).length w0 := by
  intro l J W hW hJ hYi h0
  have hbz := blk_lt hb0
  have hb1 : W.heap[Bz]? = some (.cells #[.int .u64 z] 90 (0, 0)) := (hW.block _ hbz).trans hb0
  refine callsIn_of_wp Tryd.func82 rfl trivial ?_ rfl
  simp only [Tryd.ntmps82, List.size_toArray, List.length_cons, List.length_nil, Nat.reduceAdd, Nat.reduceSub, Array.replicate_succ, Array.replicate_zero, List.push_toArray, List.append_toArray, List.nil_append, List.cons_append]
  gi_wp2
  gi_loopw [3] (fun _ wr => ∃ (pre : List (UInt8 × Bool)) (y : Nat), y < 18446744073709551616 ∧ grp z = pre ++ grp y ∧ wr.heap[Bz]? = some (.cells #[.int .u64 y] 90 (0, 0)) ∧ J pre wr) (fun _ wr => boxOf wr Bz)
  case atStart => exact ⟨[], z, hz, rfl, hb1, h0⟩
  case round =>
    obtain ⟨pre, y, hy, hg, hb, hj⟩ := hrel
    have hc : wr.cell? ⟨Bz, 0, none⟩ = some (.int .u64 y) := blk_cell hb 0
    have hf := blk_free hb 0
    by_cases hlt : y < 128
    · rw [grp_last hlt] at hg
      obtain ⟨fn, tmps, assign, body, hy1, hR⟩ := hYi pre (UInt8.ofNat y, true) wr hj (by rw [hg]; simp)
      have e1 : bits .and .u64 (y : Int) 127 % 256 = ((UInt8.ofNat y).toNat : Int) := by rw [and127 y hy, Nat.mod_eq_of_lt hlt, u8mod y]
      have e2 : decide ((y : Int) < 128) = true := decide_eq_true (by omega)
      unfold encG at hy1
      dsimp only at hy1
      rw [← e1, ← e2] at hy1
      clear e1 e2 hy hz
      gi_wp2
      refine ⟨fun h => (by cases h), hR.mono ?_⟩
      rintro e W' ⟨rfl, hj', hk'⟩
      have HG : Hid (grp z = pre ++ [(UInt8.ofNat y, true)]) := hg
      clear hg hR hy1 hj hk' hc hf
      gi_wp2
      exact bodyPost_ret (v := .tuple #[]) (results_none rfl _ _ _) rfl ⟨⟨_, rfl⟩, _, HG.out.symm, hj'⟩
    · rw [grp_more (z := y) (by omega)] at hg
      obtain ⟨fn, tmps, assign, body, hy1, hR⟩ := hYi pre (UInt8.ofNat (y % 128), false) wr hj (by rw [hg]; simp)
      have e1 : bits .and .u64 (y : Int) 127 % 256 = ((UInt8.ofNat (y % 128)).toNat : Int) := by rw [and127 y hy, u8mod]
      have e2 : decide ((y : Int) < 128) = false := decide_eq_false (by omega)
      unfold encG at hy1
      dsimp only at hy1
      rw [← e1, ← e2] at hy1
      have HY : Hid (y < 18446744073709551616) := hy
      have HM : Hid (boxOf wr Bz = y) := boxOf_eq hc
      clear e1 e2 hy hz
      gi_wp2
      refine ⟨fun h => (by cases h), hR.mono ?_⟩
      rintro e W' ⟨rfl, hj', hk'⟩
      have HG : Hid (grp z = pre ++ (UInt8.ofNat (y % 128), false) :: grp (y / 128)) := hg
      have hb' := hk'.blk hb (fun h => h.elim hY (fun h => by omega))
      have hc' : W'.cell? ⟨Bz, 0, none⟩ = some (.int .u64 y) := blk_cell hb' 0
      have hf' := blk_free hb' 0
      clear hg hR hy1 hc hf hk' hb
      gi_wp2
      have hy := HY.out
      have hs := blk_set hb' 0 (Value.int .u64 ((y : Int) / 128))
      have ed : ((y : Int) / 128) = ((y / 128 : Nat) : Int) := by omega
      rw [ed] at hs ⊢
      refine ⟨⟨pre ++ [(UInt8.ofNat (y % 128), false)], y / 128, by omega, by rw [HG.out]; simp, hs, hJ _ _ _ hj' ((Fr.refl (fun r => r = Bz) W').setCell (p := ⟨Bz, 0, none⟩) (.inl rfl) _)⟩, ?_⟩
      rw [HM.out, boxOf_eq (blk_cell hs 0)]
      omega

theorem groups_c (z : Nat) (w : World) :
    Calls Tryd.prog 73 #[.int .u64 z] w fun e w' => e = .returned (.func (.func 82) #[] #[.pointer (some ⟨w.heap.size, 0, none⟩)]) ∧ w.alloc (.cells #[.int .u64 z] 90) = w' := by
  go_enter Tryd.func73, Tryd.ntmps73
  go_wp2
  go_ret
  exact ⟨rfl, rfl⟩

end Go.Proofs.YtpcmidhhbgjcjaaDoor
