/- newswireref01: PutInt at a length, PutString. -/
import Derived.Test.YtpcmidhhbgjcjaaDoorL2
namespace Go.Proofs.YtpcmidhhbgjcjaaDoor
open Go Go.RowKit

theorem vb_more {z : Nat} (h : 128 ≤ z) : vb z = UInt8.ofNat (z % 128 + 128) :: vb (z / 128) := by rw [vb, if_neg (by omega)]
theorem vb_last {z : Nat} (h : z < 128) : vb z = [UInt8.ofNat z] := by rw [vb, if_pos h]
set_option maxRecDepth 100000 in
set_option maxHeartbeats 1000000 in
theorem refPutInt_c (n : Nat) (w : World) (hn : n ≤ 1000000) :
    Calls Tryd.prog 27 #[.int .i64 n] w fun e w' => e = .returned (.tuple #[.string ⟨(vb (2 * n)).toArray⟩, .int .i64 0]) ∧ Below w.heap.size w w' := by
  have hz := zigzag_c n w (by omega) (by omega)
  have HZ := Lib.hid hz
  clear hz
  go_enter Tryd.func27, Tryd.ntmps27
  go_wp2_with (go_at_call 50; refine HZ.out.mono ?_; rintro e w' ⟨rfl, rfl⟩)
  go_loopw [4, 5] (fun z o wr => ∃ (y : Nat) (pre : List UInt8), y ≤ 2000000 ∧ z = .int .u64 y ∧ wr.ownsRow w.heap.size 5 1 o pre.length (u8s pre) ∧ vb (2 * n) = pre ++ vb y ∧ pre.length + y ≤ 2000000 ∧ Below w.heap.size w wr) (fun z _ _ => (intOf z).toNat)
  case atStart =>
    refine ⟨2 * n, [], by omega, ?_, World.ownsRow_nil _ _ _ _, rfl, by simp; omega, Below.refl _ _⟩
    congr 1
    omega
  case round =>
    obtain ⟨y, pre, hy, rfl, ho, hv, hlen, hB⟩ := hrel
    obtain ⟨p, m, c, rfl⟩ := own_slice ho
    have HO := Lib.hid ho
    have HV := Lib.hid hv
    have HB := Lib.hid hB
    have HL := Lib.hid hlen
    clear ho hv hB hlen
    by_cases hlt : 128 ≤ y
    · have hlt' : (128 : Int) ≤ (y : Int) := by omega
      have hu : (y : Int) % 128 + 128 = ((UInt8.ofNat (y % 128 + 128)).toNat : Int) := by rw [UInt8.toNat_ofNat']; omega
      have HU := Lib.hid hu
      have hb1 : (pre.length + 1) * 1 ≤ 140737488355328 := by have := HL.out; omega
      have hb2 : w.heap.size ≤ (wr.alloc (.cells #[.int .u8 ((y : Int) % 128 + 128)] 5)).heap.size := by have := HB.out.size; simp; omega
      have hnew := blk_cell (World.alloc_heap_new wr (.cells #[.int .u8 ((y : Int) % 128 + 128)] 5)) 0
      have hown := HO.out.alloc (.cells #[.int .u8 ((y : Int) % 128 + 128)] 5)
      have HNEW := Lib.hid hnew
      have HOWN := Lib.hid hown
      have HB1 := Lib.hid hb1
      have HB2 := Lib.hid hb2
      clear hu hb1 hb2 hnew hown
      go_wp2_with (at_builtin; refine wpList_append_one rfl (.tmp 16) (.tmp 21) 38 rfl w.heap.size 5 (.int .u8 0) 1 Tryd.underlying38 info_u8 rfl (by decide) (.slice p m c) pre.length (u8s pre) rfl HOWN.out ⟨wr.heap.size, 0, none⟩ 1 (.int .u8 ((y : Int) % 128 + 128)) rfl HNEW.out rfl HB1.out HB2.out ?_; intro v2 w2 hO2 hG2 hA2; have HO2 := Lib.hid hO2; have HG2 := Lib.hid hG2; clear hO2 hG2 hA2)
      refine ⟨⟨y / 128, pre ++ [UInt8.ofNat (y % 128 + 128)], by omega, by congr 1, ?_, ?_, ?_, ?_⟩, ?_⟩
      · have h := HO2.out
        rw [HU.out] at h
        rw [u8s_snoc, List.length_append]
        exact h
      · rw [HV.out, vb_more (by omega)]; simp
      · have := HL.out
        rw [List.length_append]
        simp only [List.length_cons, List.length_nil]
        omega
      · exact below_fr HB.out ((((Fr.refl (fun r => w.heap.size ≤ r) wr).alloc _)).trans (Fr.of_grown (X := fun r => w.heap.size ≤ r) HG2.out (fun r hr => .inl (own_ge HO.out r hr))) (fun _ h => .inl h)) (fun _ h => h)
      · simp only [intOf]
        omega
    · have hlt' : ¬ (128 : Int) ≤ (y : Int) := by omega
      have hu : (y : Int) = ((UInt8.ofNat y).toNat : Int) := by rw [UInt8.toNat_ofNat']; omega
      have HU := Lib.hid hu
      have hb1 : (pre.length + 1) * 1 ≤ 140737488355328 := by have := HL.out; omega
      have hb2 : w.heap.size ≤ (wr.alloc (.cells #[.int .u8 (y : Int)] 5)).heap.size := by have := HB.out.size; simp; omega
      have hnew := blk_cell (World.alloc_heap_new wr (.cells #[.int .u8 (y : Int)] 5)) 0
      have hown := HO.out.alloc (.cells #[.int .u8 (y : Int)] 5)
      have HNEW := Lib.hid hnew
      have HOWN := Lib.hid hown
      have HB1 := Lib.hid hb1
      have HB2 := Lib.hid hb2
      clear hu hb1 hb2 hnew hown
      go_wp2_with (at_builtin; refine wpList_append_one rfl (.tmp 25) (.tmp 28) 38 rfl w.heap.size 5 (.int .u8 0) 1 Tryd.underlying38 info_u8 rfl (by decide) (.slice p m c) pre.length (u8s pre) rfl HOWN.out ⟨wr.heap.size, 0, none⟩ 1 (.int .u8 (y : Int)) rfl HNEW.out rfl HB1.out HB2.out ?_; intro v2 w2 hO2 hG2 hA2; rw [HU.out, ← u8s_snoc] at hO2; have hcv := conv_own (P := Tryd.prog) 38 9 Tryd.underlying38 Tryd.underlying5 Tryd.underlying9 hO2; have HG2 := Lib.hid hG2; clear hO2 hG2 hA2)
      go_ret2
      refine ⟨?_, below_fr HB.out ((((Fr.refl (fun r => w.heap.size ≤ r) wr).alloc _)).trans (Fr.of_grown (X := fun r => w.heap.size ≤ r) HG2.out (fun r hr => .inl (own_ge HO.out r hr))) (fun _ h => .inl h)) (fun _ h => h)⟩
      rw [HV.out, vb_last (by omega)]
      rfl
set_option maxRecDepth 100000 in
theorem refPutString_c (s : ByteArray) (w : World) (hs : s.size ≤ 65536) :
    Calls Tryd.prog 10 #[.string s] w fun e w' => e = .returned (.tuple #[.string (putS s), .int .i64 0]) ∧ Below w.heap.size w w' := by
  have hv := vb_len (2 * s.size) (by omega)
  go_enter Tryd.func10, Tryd.ntmps10
  go_wp2_with (go_at_call 27; refine (refPutInt_c s.size _ (by omega)).mono ?_; rintro e w' ⟨rfl, hB⟩; have HB := Lib.hid hB; clear hB)
  go_ret2
  exact ⟨rfl, HB.out⟩
end Go.Proofs.YtpcmidhhbgjcjaaDoor
