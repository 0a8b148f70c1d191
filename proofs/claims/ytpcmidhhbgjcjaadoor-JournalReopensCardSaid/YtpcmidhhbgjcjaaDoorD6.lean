/- digest.Sum. -/
import Derived.Test.YtpcmidhhbgjcjaaDoorP3
import Derived.Test.YtpcmidhhbgjcjaaDoorD4
import Derived.Test.YtpcmidhhbgjcjaaDoorD5
import Derived.Test.YtpcmidhhbgjcjaaDoorR3
namespace Go.Proofs.YtpcmidhhbgjcjaaDoor
open Go Go.RowKit Go.Shelf
attribute [local go_sem] Oper.semAt_some

/-- digest.Sum. -/
def sumF (s : ByteArray) : ByteArray := ⟨(digF (sumV (padF s.data.toList) ((padF s.data.toList).length / 64))).toArray⟩
theorem sumF_size (s : ByteArray) : (sumF s).size = 32 := by
  show (digF _).toArray.size = 32
  simp [digF, digN_len]
theorem info_u8' : (Tryd.prog.info? 5).map (fun i => (i.zero, i.size, i.bytes)) = some (some (.int .u8 0), 1, 1) := by kernel_rfl

/-- How things stand while the bytes are gathered. -/
structure Pad (w : World) (l : List UInt8) (v : Value) (W : World) : Prop where
  own : OwnZ W (w.heap.size + 1) 5 v l.length (u8s l)
  head : W.heap[w.heap.size]? = some (.cells (v8 H0) 139 (0, 0))
  below : Below w.heap.size w W
  size : w.heap.size + 1 ≤ W.heap.size
/-- How things stand between two blocks. -/
structure Blk (w : World) (l : List UInt8) (g : Nat) (pre : List Nat) (W : World) : Prop where
  head : W.heap[w.heap.size]? = some (.cells (v8 (pre.foldl (fun v q => blockF v ((l.drop (64 * q)).take 64)) H0)) 139 (0, 0))
  row : RowU8 W g 0 l
  glt : g < W.heap.size
  round : HasRound W
  below : Below w.heap.size w W
theorem rowU8_fr {w W : World} {b off : Nat} {l : List UInt8} (h : RowU8 w b off l) {X : Nat → Prop} (hf : Fr X w W) (hb : b < w.heap.size) (hx : ¬ X b) : RowU8 W b off l :=
  fun j hj => (hf.cell (a := ⟨b, off + j, none⟩) hb hx).trans (h j hj)
theorem rowU8_part {w : World} {b : Nat} {l : List UInt8} (h : RowU8 w b 0 l) (o m : Nat) (hl : o + m ≤ l.length) : RowU8 w b o ((l.drop o).take m) := by
  intro j hj
  have hjm : j < m := by simp at hj; omega
  have := h (o + j) (by omega)
  rw [Nat.zero_add] at this
  rw [this]
  simp [List.getD, List.getElem?_drop, hjm]
theorem Pad.next {w W W' : World} {l : List UInt8} {v v' : Value} (h : Pad w l v W) (x : UInt8) {o : Obj} (hg : (W.alloc o).grownBy W' v.ownBlock) (ho : OwnZ W' (w.heap.size + 1) 5 v' (l.length + 1) (u8s l ++ [.int .u8 x.toNat])) : Pad w (l ++ [x]) v' W' := by
  have hf : Fr (fun r => w.heap.size + 1 ≤ r) W W' := ((Fr.refl _ W).alloc o).trans (Fr.of_grown hg (fun r hr => .inl (h.own.ge r hr))) (fun _ h => .inl h)
  refine ⟨?_, hf.blk h.head (by omega), below_fr h.below hf (fun r hr => by omega), Nat.le_trans h.size hf.size⟩
  have e : u8s (l ++ [x]) = u8s l ++ [.int .u8 x.toNat] := by simp [u8s]
  rw [e, List.length_append]
  exact ho
theorem Pad.fr {w W W' : World} {l : List UInt8} {v : Value} (h : Pad w l v W) (hf : Fr (fun _ => False) W W') : Pad w l v W' :=
  ⟨h.own.fr hf (fun _ _ h => h), hf.blk h.head id, below_fr h.below hf (fun _ h => h.elim), Nat.le_trans h.size hf.size⟩
theorem fold_sumV (l : List UInt8) (M : Nat) : (List.range M).foldl (fun v q => blockF v ((l.drop (64 * q)).take 64)) H0 = sumV l M := by
  induction M with
  | zero => rfl
  | succ M ih => rw [List.range_succ, List.foldl_append, ih]; rfl
def lenV : Value → Nat | .slice _ n _ => n | _ => 0

set_option maxRecDepth 100000 in
set_option maxHeartbeats 2000000 in
theorem Sum_c (s : ByteArray) (w : World) (hs : s.size ≤ 1000000000) (hR : HasRound w) :
    Calls Tryd.prog 71 #[.string s] w fun e w' => e = .returned (.string (sumF s)) ∧ Below w.heap.size w w' := by
  refine (callsIn_wide (n := 5)).1 ?_
  refine callsIn_of_wp_marks Tryd.func71 rfl trivial ?_ rfl
  simp only [Tryd.ntmps71, List.size_toArray, List.length_cons, List.length_nil, Nat.reduceAdd, Nat.reduceSub, Array.replicate_succ, Array.replicate_zero, List.push_toArray, List.append_toArray, List.nil_append, List.cons_append]
  obtain ⟨i0, hi, hz0, hz1, hz2⟩ := info_parts info_u8'
  have HR := Lib.hid hR
  clear hR
  obtain ⟨W1, hW1⟩ : ∃ W1, w.alloc (.cells #[.int .u32 1779033703, .int .u32 3144134277, .int .u32 1013904242, .int .u32 2773480762, .int .u32 1359893119, .int .u32 2600822924, .int .u32 528734635, .int .u32 1541459225] 139) = W1 := ⟨_, rfl⟩
  have hH1 : W1.heap[w.heap.size]? = some (.cells (v8 H0) 139 (0, 0)) := by rw [← hW1]; exact World.alloc_heap_new _ _
  have hS1 : W1.heap.size = w.heap.size + 1 := by rw [← hW1]; simp
  have hB1 : Below w.heap.size w W1 := by rw [← hW1]; exact (Below.refl _ w).alloc (Nat.le_refl _) _
  obtain ⟨c, W2, hcv, hZ2, hF2⟩ : ∃ c W2, (convert 9 38 (.string s)).run Tryd.prog W1 = .ok (.slice (some ⟨w.heap.size + 1, 0, none⟩) s.size c) W2 ∧ OwnZ W2 (w.heap.size + 1) 5 (.slice (some ⟨w.heap.size + 1, 0, none⟩) s.size c) s.size (u8s s.data.toList) ∧ Fr (fun _ => False) W1 W2 := by
    refine ⟨grownCap W1 s.size 0 5, Go.Lib.bytesWorld W1 5 s, ?_, ?_, bytes_fr W1 5 s _⟩
    · rw [Go.Lib.run_convert_string_bytes W1 9 38 5 s Tryd.underlying9 Tryd.underlying38 Tryd.underlying5, hS1]
    · have := bytes_own W1 5 s (by unfold maxLen; omega) (w.heap.size + 1) (by omega)
      rwa [hS1] at this
  have hH2 := hF2.blk hH1 id
  have hB2 : Below w.heap.size w W2 := below_fr hB1 hF2 (fun r h => h.elim)
  have hS2 : w.heap.size + 1 ≤ W2.heap.size := by have := hF2.size; omega
  rw [← hW1] at hcv
  have HZ2 := Lib.hid hZ2
  have HB2 := Lib.hid hB2
  have HH2 := Lib.hid hH2
  clear hF2 hB1 hS1 hH1 hW1 hZ2 hB2 hH2
  gi_wp2_with (gi_at_builtin; refine wpListIn_append1Z _ rfl (.tmp 9) (.tmp 10) 38 rfl (w.heap.size + 1) 5 i0 (.int .u8 0) Tryd.underlying38 hi hz0 hz1 hz2 rfl _ s.size (u8s s.data.toList) rfl (HZ2.out.alloc _) ⟨W2.heap.size, 0, none⟩ 1 (.int .u8 128) rfl (cell_one_new W2 (.int .u8 128) _ 0 _ rfl) rfl (by omega) (by simp; omega) ?_; intro v3 W3 hZ3 hg3)
  have hP : Pad w (s.data.toList ++ [128]) v3 W3 := Pad.next ⟨HZ2.out, HH2.out, HB2.out, hS2⟩ 128 hg3 hZ3
  have HP := Lib.hid hP
  clear hZ3 hg3 hP hcv
  have hl0 : s.data.toList.length = s.size := rfl
  gi_loopw [4] (fun v W => ∃ k : Nat, k ≤ zerosF (s.size + 1) ∧ Pad w (s.data.toList ++ 128 :: List.replicate k 0) v W) (fun v _ => s.size + 100 - lenV v)
  case atStart => exact ⟨0, by omega, HP.out⟩
  case round =>
    obtain ⟨k, hk, hP⟩ := hrel
    have hzl := zerosF_lt (s.size + 1)
    obtain ⟨l, hl⟩ : ∃ l, s.data.toList ++ 128 :: List.replicate k 0 = l := ⟨_, rfl⟩
    have hll : l.length = s.size + 1 + k := by rw [← hl]; simp; omega
    rw [hl] at hP
    obtain ⟨n, hn⟩ : ∃ n, l.length = n := ⟨_, rfl⟩
    have hZ := hP.own
    rw [hn] at hZ hll
    obtain ⟨g, cap, rfl, hg1, hg2, hg3, hg4⟩ := hZ.succ
    have HZ := Lib.hid hZ
    have HPP := Lib.hid hP
    have HL := Lib.hid hl
    have HN := Lib.hid hn
    have HLL := Lib.hid hll
    have hn9 : n ≤ 1000000100 := by omega
    have hsz := hP.size
    by_cases hlt : k < zerosF (s.size + 1)
    · have hne := zerosF_min _ _ hlt
      rw [← hll] at hne
      have hne' : ((n : Int) % 64 != 56) = true := by simp; omega
      clear hZ hP hl hn hll hne hl0
      gi_wp2_with (gi_at_builtin; refine wpListIn_append1Z _ rfl (.tmp 16) (.tmp 17) 38 rfl (w.heap.size + 1) 5 i0 (.int .u8 0) Tryd.underlying38 hi hz0 hz1 hz2 rfl _ n (u8s l) rfl (HZ.out.alloc _) ⟨wr.heap.size, 0, none⟩ 1 (.int .u8 0) rfl (cell_one_new wr (.int .u8 0) _ 0 _ rfl) rfl (by omega) (by simp; omega) ?_; intro v4 W4 hZ4 hg4)
      obtain ⟨g4, cap4, rfl, -⟩ := hZ4.succ
      refine ⟨⟨k + 1, by omega, ?_⟩, by have := HLL.out; have := zerosF_lt (s.size + 1); simp only [lenV]; omega⟩
      have := Pad.next HPP.out 0 hg4 (by rw [HN.out]; exact hZ4)
      rw [← HL.out, List.append_assoc, List.cons_append, ← List.replicate_succ'] at this
      exact this
    · have hk' : k = zerosF (s.size + 1) := by omega
      have hne := zerosF_mod (s.size + 1)
      rw [← hk', ← hll] at hne
      have hne' : ((n : Int) % 64 != 56) = false := by simp; omega
      have HNE := Lib.hid hne
      have HK := Lib.hid hk'
      clear hZ hP hl hn hll hne hl0 hk' hlt hk hzl
      gi_wp2
      gi_loopw [4, 5] (fun v i W => ∃ m : Nat, m ≤ 8 ∧ i = .int .i64 (7 - (m : Int)) ∧ Pad w (l ++ lenB (8 * s.size) m) v W) (fun _ i _ => (intOf i + 1).toNat)
      case atStart => exact ⟨0, by omega, rfl, by simpa [lenB] using HPP.out⟩
      case round =>
        clear HZ HPP
        obtain ⟨m, hm, rfl, hP⟩ := hrel
        obtain ⟨l2, hl2⟩ : ∃ l2, l ++ lenB (8 * s.size) m = l2 := ⟨_, rfl⟩
        have hll : l2.length = n + m := by rw [← hl2, List.length_append, lenB_len, HN.out]
        rw [hl2] at hP
        obtain ⟨n2, hn2⟩ : ∃ n2, l2.length = n2 := ⟨_, rfl⟩
        have hZ := hP.own
        rw [hn2] at hZ hll
        obtain ⟨g', cap', rfl, hg1', hg2', hg3', hg4'⟩ := hZ.succ
        have HZ := Lib.hid hZ
        have HPP := Lib.hid hP
        have HL2 := Lib.hid hl2
        have HN2 := Lib.hid hn2
        have HLL2 := Lib.hid hll
        have hn29 : n2 ≤ 1000000200 := by omega
        have hsz2 := hP.size
        by_cases hlt : m < 8
        · obtain ⟨p, hp⟩ : ∃ p : Nat, 7 - m = p := ⟨_, rfl⟩
          have hpm : 7 - (m : Int) = (p : Int) := by omega
          have HPM := Lib.hid hpm
          have hp7 : (p : Int) ≤ 7 := by omega
          have hp0 : (0 : Int) ≤ (p : Int) := by omega
          have hs0 : (s.size : Int) ≤ 1000000000 := by omega
          clear hP hZ hl2 hn2 hll hlt hm hpm hp
          obtain ⟨x, hx⟩ : ∃ x, UInt8.ofNat (8 * s.size / 2 ^ (8 * p) % 256) = x := ⟨_, rfl⟩
          have e1 : 8 * (s.size : Int) / 2 ^ (8 * p) % 256 = (x.toNat : Int) := by
            rw [← hx, UInt8.toNat_ofNat']
            have : 8 * s.size / 2 ^ (8 * p) % 256 % 2 ^ 8 = 8 * s.size / 2 ^ (8 * p) % 256 := Nat.mod_eq_of_lt (Nat.mod_lt _ (by decide))
            rw [this, Int.natCast_emod, Int.natCast_ediv, Int.natCast_pow, Int.natCast_mul]; rfl
          have HX := Lib.hid hx
          clear hx
          rw [HPM.out]
          gi_wp2_with (gi_at_builtin; refine wpListIn_append1Z _ rfl (.tmp 23) (.tmp 31) 38 rfl (w.heap.size + 1) 5 i0 (.int .u8 0) Tryd.underlying38 hi hz0 hz1 hz2 rfl _ n2 (u8s l2) rfl (HZ.out.alloc _) ⟨wr.heap.size, 0, none⟩ 1 (.int .u8 x.toNat) rfl (cell_one_new wr (.int .u8 x.toNat) _ 0 _ rfl) rfl (by omega) (by simp; omega) ?_; intro v4 W4 hZ4 hg4)
          refine ⟨⟨m + 1, ?_, ?_, ?_⟩, by simp [intOf]⟩
          · have := HPM.out; omega
          · have := HPM.out
            rw [show (p : Int) - 1 = 7 - ((m + 1 : Nat) : Int) by omega]
          · have h2 := Pad.next HPP.out x hg4 (by rw [HN2.out]; exact hZ4)
            have hpm := HPM.out
            rw [lenB_succ, show 7 - m = p by omega, HX.out, ← List.append_assoc, HL2.out]
            exact h2
        · have hm8 : m = 8 := by omega
          obtain ⟨z, hz⟩ : ∃ z : Int, 7 - (m : Int) = z := ⟨_, rfl⟩
          have hz0' : z < 0 := by omega
          rw [hm8] at hl2 hll
          rw [hz]
          have hpad : padF s.data.toList = l2 := by
            have h1 : s.data.toList.length = s.size := rfl
            rw [← hl2, ← HL.out, padF, h1, HK.out]
          obtain ⟨hp1, hp2, hp3⟩ := padF_len s.data.toList
          rw [hpad, hn2] at hp1 hp3
          have hd : n2 = 64 * (n2 / 64) := by omega
          obtain ⟨M, hM⟩ : ∃ M, n2 / 64 = M := ⟨_, rfl⟩
          rw [hM] at hd
          have HPAD := Lib.hid hpad
          have HD := Lib.hid hd
          have HMM := Lib.hid hM
          have h1 : (s.data.toList).length = s.size := rfl
          have hM9 : M ≤ 1000000000 := by omega
          clear hz hm8 hP hZ hl2 hn2 hll hlt hm hp1 hp2 hp3 hpad hd h1 hM
          gi_wp2_with (fail)
          refine ⟨trivial, callsIn_wide.2 (chunk_c g' n2 cap' wr) |>.mono ?_⟩
          rintro e w' ⟨rfl, rfl⟩
          gi_wp2
          have hD := HD.out
          have hb2 : (((wr.alloc (.cells #[.slice (some ⟨g', 0, none⟩) n2 cap'] 38)).alloc (.cells #[.int .i64 64] 3))).heap[wr.heap.size]? = some (.cells #[.slice (some ⟨g', 0, none⟩) (64 * M) cap'] 38 (0, 0)) := by
            rw [← hD]; exact (Below.heap_alloc _ _ _ (by simp)).trans (World.alloc_heap_new _ _)
          have hb3 : (((wr.alloc (.cells #[.slice (some ⟨g', 0, none⟩) n2 cap'] 38)).alloc (.cells #[.int .i64 64] 3))).heap[wr.heap.size + 1]? = some (.cells #[.int .i64 64] 3 (0, 0)) := by
            have := World.alloc_heap_new (wr.alloc (.cells #[.slice (some ⟨g', 0, none⟩) n2 cap'] 38)) (.cells #[.int .i64 64] 3)
            rwa [World.size_alloc] at this
          refine wpIn_rangeFunc_S (α := { q : Nat // q < M }) rfl (by decide) (gf := 84) (lb := #[.pointer (some ⟨wr.heap.size, 0, none⟩), .pointer (some ⟨wr.heap.size + 1, 0, none⟩)]) rfl trivial (enters_of Tryd.func84 (by kernel_rfl) rfl)
            (chunk_seq _ wr.heap.size (wr.heap.size + 1) g' cap' M hM9 (by omega) (by unfold maxLen at hg4'; exact hg4') (fun r => r = w.heap.size) (by omega) (by omega) _ hb2 hb3) (fun _ h => h.elim) (by simp; omega) (fun _ => rfl)
            (fun pre W => Blk w l2 g' (pre.map (·.1)) W) ?hI ?h0
            (fun x => { tmps := #[.string s, undef, .string { data := #[] }, .pointer (some ⟨w.heap.size, 0, none⟩), .slice (some ⟨g', 0, none⟩) n2 cap', .int .i64 z, .slice (some ⟨g', 64 * x.1, none⟩) 64 64, .agg #[.int .u32 1779033703, .int .u32 3144134277, .int .u32 1013904242, .int .u32 2773480762, .int .u32 1359893119, .int .u32 2600822924, .int .u32 528734635, .int .u32 1541459225], .string s, .slice (some ⟨w.heap.size + 1, 0, none⟩) s.size c, .slice (some ⟨W2.heap.size, 0, none⟩) 1 1, v3, .slice (some ⟨g, 0, none⟩) n cap, .int .i64 n, .int .i64 ((n : Int) % 64), .bool false, u16, u17, u18, .int .i64 z, .bool (decide (0 ≤ z)), u21, u22, u23, u24, u25, u26, u27, u28, u29, u30, u31, u32, .slice (some ⟨g', 0, none⟩) n2 cap', .func (.func 84) #[] #[.pointer (some ⟨wr.heap.size, 0, none⟩), .pointer (some ⟨wr.heap.size + 1, 0, none⟩)], .slice (some ⟨g', 64 * x.1, none⟩) 64 64, undef, undef, undef, undef], defers := [] }) ?assign ?body ?done
          case assign =>
            intro l x W K hK
            unfold encC
            clear hD hb2 hb3
            gi_wp2
            exact hK
          case hI =>
            rintro pre A B ⟨h1, h2, h3, ⟨tR, fR, h4⟩, h5⟩ hf
            have hrn : wr.heap.size + 2 ≤ ((wr.alloc (.cells #[.slice (some ⟨g', 0, none⟩) n2 cap'] 38)).alloc (.cells #[.int .i64 64] 3)).heap.size := by simp
            have hrl : 4 < w.heap.size := by obtain ⟨_, _, h⟩ := HR.out; exact blk_lt h
            refine ⟨hf.blk h1 ?_, rowU8_fr h2 hf h3 ?_, Nat.lt_of_lt_of_le h3 hf.size, ⟨tR, fR, hf.blk h4 ?_⟩, below_fr h5 hf ?_⟩
            · rintro (h | h)
              · exact h
              · omega
            · rintro (h | h)
              · exact h
              · omega
            · rintro (h | h)
              · exact h
              · omega
            · rintro r (h | h)
              · exact h.elim
              · omega
          case h0 =>
            have hf : Fr (fun _ => False) wr ((wr.alloc (.cells #[.slice (some ⟨g', 0, none⟩) n2 cap'] 38)).alloc (.cells #[.int .i64 64] 3)) := ((Fr.refl _ wr).alloc _).alloc _
            have hq := HPP.out.fr hf
            refine ⟨hq.head, ?_, Nat.lt_of_lt_of_le hg2' hf.size, ?_, hq.below⟩
            · intro j hj
              have := hq.own.cell (g := g') (cap := cap') (by rw [HN2.out]) j (.int .u8 (l2.getD j 0).toNat) (by simp [u8s, List.getElem?_eq_getElem hj, List.getD])
              rw [Nat.zero_add]
              exact this
            · obtain ⟨tR, fR, h4⟩ := HR.out
              exact ⟨tR, fR, (hq.below.block _ (blk_lt h4)).trans h4⟩
          case body =>
            rintro l pre x W ⟨h1, h2, h3, h4, h5⟩ hlen hsz
            have hx := x.2
            have hl2 : l2.length = 64 * M := by rw [HN2.out]; exact hD
            have hpart := rowU8_part h2 (64 * x.1) 64 (by omega)
            have hlen64 : ((l2.drop (64 * x.1)).take 64).length = 64 := by simp; omega
            have hadd := add_c w.heap.size g' (64 * x.1) 64 _ _ W h1 h4 hpart hlen64 h3
            have HA := Lib.hid hadd
            clear hadd hpart hlen64 hl2 hx hD hb2 hb3 hlen hsz
            gi_wp2_with (fail)
            refine ⟨trivial, (CallsIn.inRound l (callsIn_wide.2 HA.out)).mono ?_⟩
            rintro e W' ⟨rfl, hH', hF'⟩
            gi_wp2
            have hrl : 4 < w.heap.size := by obtain ⟨_, _, h⟩ := HR.out; exact blk_lt h
            refine ⟨hF'.mono ?_, ⟨?_, rowU8_fr h2 hF' h3 (by omega), Nat.lt_of_lt_of_le h3 hF'.size, ?_, below_fr h5 hF' (fun r h => by omega)⟩⟩
            · exact fun r h => .inl (.inl h)
            · rw [List.map_append, List.foldl_append]
              exact hH'
            · obtain ⟨tR, fR, h4'⟩ := h4
              exact ⟨tR, fR, hF'.blk h4' (by omega)⟩
          case done =>
            rintro D xs W hD0 hxs ⟨h1, h2, h3, h4, h5⟩ hK
            rw [hxs, fold_sumV] at h1
            have hdig := digest_c (sumV l2 M) W
            have hsum : sumF s = ⟨(digF (sumV l2 M)).toArray⟩ := by rw [sumF, HPAD.out, HN2.out, HMM.out]
            have hDl : w.heap.size < D := by simp at hD0; omega
            have HDG := Lib.hid hdig
            have HH1 := Lib.hid h1
            have HB5 := Lib.hid h5
            have HSUM := Lib.hid hsum
            clear hdig h2 h3 h4 h5 hD hb2 hb3 hxs hD0 hsum h1
            obtain ⟨V, hV⟩ : ∃ V, sumV l2 M = V := ⟨_, rfl⟩
            rw [hV] at HDG HH1 HSUM
            have hdig : Calls Tryd.prog 80 #[.agg #[.int .u32 V.a.toNat, .int .u32 V.b.toNat, .int .u32 V.c.toNat, .int .u32 V.d.toNat, .int .u32 V.e.toNat, .int .u32 V.f.toNat, .int .u32 V.g.toNat, .int .u32 V.h.toNat]] W fun e w' => e = .returned (.string ⟨(digF V).toArray⟩) ∧ Below W.heap.size W w' := HDG.out
            have c0 : W.cell? ⟨w.heap.size, 0, none⟩ = some (.int .u32 V.a.toNat) := blk_cell HH1.out 0
            have c1 : W.cell? ⟨w.heap.size, 1, none⟩ = some (.int .u32 V.b.toNat) := blk_cell HH1.out 1
            have c2 : W.cell? ⟨w.heap.size, 2, none⟩ = some (.int .u32 V.c.toNat) := blk_cell HH1.out 2
            have c3 : W.cell? ⟨w.heap.size, 3, none⟩ = some (.int .u32 V.d.toNat) := blk_cell HH1.out 3
            have c4 : W.cell? ⟨w.heap.size, 4, none⟩ = some (.int .u32 V.e.toNat) := blk_cell HH1.out 4
            have c5 : W.cell? ⟨w.heap.size, 5, none⟩ = some (.int .u32 V.f.toNat) := blk_cell HH1.out 5
            have c6 : W.cell? ⟨w.heap.size, 6, none⟩ = some (.int .u32 V.g.toNat) := blk_cell HH1.out 6
            have c7 : W.cell? ⟨w.heap.size, 7, none⟩ = some (.int .u32 V.h.toNat) := blk_cell HH1.out 7
            have HDD := Lib.hid hdig
            clear hdig
            gi_wp2_with (fail)
            refine ⟨trivial, (callsIn_wide.2 HDD.out).mono ?_⟩
            rintro e W' ⟨rfl, hB'⟩
            have hK' := (hB'.block D (blk_lt hK)).trans hK
            have HHB := Lib.hid hB'
            clear hB' hK c0 c1 c2 c3 c4 c5 c6 c7
            gi_wp2
            refine ⟨by simp, .inl ⟨_, _, rfl, run_takeDeferred hK', ?_⟩⟩
            refine ⟨_, results_tmp rfl _ _ _, ?_, ?_⟩
            · exact congrArg (fun x => Ending.returned (.string x)) HSUM.out.symm
            · have hWs := HHB.out
              have hBB : Below w.heap.size w W' := below_fr HB5.out (Fr.of_below (X := fun _ => False) hWs) (fun _ h => h.elim)
              exact below_fr hBB ((Fr.refl (fun r => r = D) W').putObj (.inl rfl) _) (fun r h => by omega)
end Go.Proofs.YtpcmidhhbgjcjaaDoor
