/- wire.PutInt at a number that is not negative. -/
import Derived.Test.YtpcmidhhbgjcjaaDoorA2
namespace Go.Proofs.YtpcmidhhbgjcjaaDoor
open Go Go.RowKit Go.Shelf
attribute [local go_sem] Oper.semAt_some

theorem info_u8 : (Tryd.prog.info? 5).map (fun i => (i.zero, i.size, i.bytes)) = some (some (.int .u8 0), 1, 1) := by kernel_rfl

def IPut (w : World) (pre : List (UInt8 × Bool)) (W : World) : Prop :=
  ∃ v, W.heap[w.heap.size]? = some (.cells #[v] 38 (0, 0)) ∧ W.ownsRow (w.heap.size + 4) 5 1 v pre.length (u8s (pre.map mark)) ∧ Below w.heap.size w W

set_option maxRecDepth 100000 in
theorem PutInt_c (n : Nat) (w : World) (hn : n ≤ 4611686018427387903) :
    Calls Tryd.prog 65 #[.int .i64 n] w fun e w' => e = .returned (.tuple #[.string ⟨(vb (2 * n)).toArray⟩, .int .i64 0]) ∧ Below w.heap.size w w' := by
  refine (callsIn_wide (n := 3)).1 ?_
  refine callsIn_of_wp_marks Tryd.func65 rfl trivial ?_ rfl
  simp only [Tryd.ntmps65, List.size_toArray, List.length_cons, List.length_nil, Nat.reduceAdd, Nat.reduceSub, Array.replicate_succ, Array.replicate_zero, List.push_toArray, List.append_toArray, List.nil_append, List.cons_append]
  have HN := Lib.hid hn
  have HZ := Lib.hid (zig n hn)
  gi_wp2_with (fail)
  rw [HZ.out]
  refine ⟨trivial, callsIn_wide.2 (groups_c _ _) |>.mono ?_⟩
  rintro e w' ⟨rfl, rfl⟩
  clear hn
  gi_wp2
  have hb0 : ((w.alloc (.cells #[.slice none 0 0] 38)).alloc (.cells #[.int .u64 ((2 * n : Nat) : Int)] 90)).heap[w.heap.size + 1]? = some (.cells #[.int .u64 ((2 * n : Nat) : Int)] 90 (0, 0)) := by
    have := World.alloc_heap_new (w.alloc (.cells #[.slice none 0 0] 38)) (.cells #[.int .u64 ((2 * n : Nat) : Int)] 90)
    rwa [World.size_alloc] at this
  refine wpIn_rangeFunc_S (α := UInt8 × Bool) rfl (by decide) (gf := 82) (lb := #[.pointer (some ⟨w.heap.size + 1, 0, none⟩)]) rfl trivial (enters_of Tryd.func82 (by kernel_rfl) rfl)
    (groups_seq _ (w.heap.size + 1) (2 * n) (by have := HN.out; omega) (fun r => r = w.heap.size) (by omega) _ hb0) (by simp) (by simp; omega) (fun _ => rfl)
    (IPut w) ?hI ?h0 (fun x => { tmps := #[.int .i64 n, undef, .string { data := #[] }, .int .i64 0, .pointer (some ⟨w.heap.size, 0, none⟩), .int .u8 x.1.toNat, .bool x.2, .int .i64 n, .bool (decide ((n : Int) < -4611686018427387903)), .bool (decide ((n : Int) < -4611686018427387903)), .int .i64 n, .bool (decide (4611686018427387903 < (n : Int))), .bool (decide ((n : Int) < -4611686018427387903) || decide (4611686018427387903 < (n : Int))), .int .i64 n, .int .u64 n, .int .u64 ((n : Int) * 2), .int .i64 n, .int .i64 ((n : Int) / 9223372036854775808), .int .u64 ((n : Int) / 9223372036854775808), .int .u64 (2 * (n : Int)), .func (.func 82) #[] #[.pointer (some ⟨w.heap.size + 1, 0, none⟩)], .int .u8 x.1.toNat, .bool x.2, undef, undef, undef, undef, undef, undef, undef, undef, undef, undef], defers := [] }) ?assign ?body ?done
  case assign =>
    intro l x W K hK
    unfold encG
    gi_wp2
    exact hK
  case hI =>
    rintro pre A B ⟨v, hb, ho, hB⟩ hf
    have hne : ∀ r, (r = w.heap.size + 1 ∨ r = ((w.alloc (.cells #[.slice none 0 0] 38)).alloc (.cells #[.int .u64 ((2 * n : Nat) : Int)] 90)).heap.size + 1) → r = w.heap.size + 1 ∨ r = w.heap.size + 3 := by
      intro r hr; simpa using hr
    exact ⟨v, hf.blk hb (fun h => by have := hne _ h; omega), ownsRow_fr ho hf (fun r hr h => by have := hne _ h; omega), below_fr hB hf (fun r h => by have := hne _ h; omega)⟩
  case h0 =>
    refine ⟨.slice none 0 0, ?_, World.ownsRow_nil _ _ _ _, ((Below.refl _ w).alloc (Nat.le_refl _) _).alloc (by simp) _⟩
    exact (Below.heap_alloc _ _ _ (by simp)).trans (World.alloc_heap_new w _)
  case body =>
    rintro l pre ⟨g, last⟩ W ⟨v, hb, ho, hB⟩ hlen hsz
    have hl10 := grp_len 9 (2 * n) (by have := HN.out; omega)
    have hsz' : w.heap.size + 4 ≤ W.heap.size := by simpa using hsz
    have hc : W.cell? ⟨w.heap.size, 0, none⟩ = some v := blk_cell hb 0
    obtain ⟨i0, hi, hz0, hz1, hz2⟩ := info_parts info_u8
    have HO := Lib.hid ho
    have HB := Lib.hid hB
    clear ho hB hsz
    have hcl : ∀ (W1 : World) (c : Nat) (g' cap' : Nat) (x : UInt8 × Bool), mark x = UInt8.ofNat c → Fr (fun r => w.heap.size + 4 ≤ r) (W.alloc (.cells #[.int .u8 (UInt8.ofNat c).toNat] 5)) W1 →
        W1.ownsRow (w.heap.size + 4) 5 1 (.slice (some ⟨g', 0, none⟩) (pre.length + 1) cap') (pre.length + 1) (u8s (pre.map mark) ++ [.int .u8 (UInt8.ofNat c).toNat]) →
        W1.heap[w.heap.size]? = some (.cells #[v] 38 (0, 0)) ∧
        (Fr (fun r => r = w.heap.size ∨ w.heap.size + 2 + 2 ≤ r) W (W1.setCell ⟨w.heap.size, 0, none⟩ (.slice (some ⟨g', 0, none⟩) (pre.length + 1) cap')) ∧ IPut w (pre ++ [x]) (W1.setCell ⟨w.heap.size, 0, none⟩ (.slice (some ⟨g', 0, none⟩) (pre.length + 1) cap'))) := by
      intro W1 c g' cap' x hx hf hown'
      have hf1 : Fr (fun r => w.heap.size + 4 ≤ r) W W1 := ((Fr.refl _ W).alloc _).trans hf (fun _ h => .inl h)
      have hb1 := hf1.blk hb (by omega)
      have hf2 : Fr (fun r => r = w.heap.size) W1 (W1.setCell ⟨w.heap.size, 0, none⟩ (.slice (some ⟨g', 0, none⟩) (pre.length + 1) cap')) := (Fr.refl (fun r => r = w.heap.size) W1).setCell (p := ⟨w.heap.size, 0, none⟩) (.inl rfl) _
      refine ⟨hb1, (hf1.mono (Y := fun r => r = w.heap.size ∨ w.heap.size + 2 + 2 ≤ r) (fun r h => .inl (.inr (by omega)))).trans hf2 (fun r h => .inl (.inl h)), _, blk_set hb1 0 _, ?_, below_fr (below_fr HB.out hf1 (fun r h => by omega)) hf2 (fun r h => by omega)⟩
      rw [List.map_append, u8s, List.map_append]
      have := ownsRow_fr hown' hf2 (fun r h => by omega)
      simpa [u8s, hx] using this
    cases last with
    | true =>
      gi_wp2_with (gi_at_builtin; refine wpListIn_append_own _ rfl _ _ 38 rfl (w.heap.size + 4) 5 i0 (.int .u8 0) 1 1 Tryd.underlying38 hi hz0 hz1 hz2 rfl (by decide) v pre.length (u8s (pre.map mark)) rfl (HO.out.alloc _) ⟨W.heap.size, 0, none⟩ 1 1 [.int .u8 g.toNat] rfl rfl (cell_one_new _ _ _) (by simp [Value.oneCell']) (by unfold maxLen; omega) (by omega) (by simp; omega) ?_; intro v' w1 hown' hgrow _; obtain ⟨g', cap', rfl⟩ := ownsRow_succ hown'; obtain ⟨hb1, R⟩ := hcl w1 g.toNat g' cap' (g, true) (by simp [mark]) (by simpa using grown_fr (HO.out.alloc _) hgrow) (by simpa using hown'); have hc1 : w1.cell? ⟨w.heap.size, 0, none⟩ = some v := blk_cell hb1 0; have hf1 := blk_free hb1 0; have HR := Lib.hid R; clear R hown' hgrow hc hb hlen)
      refine ⟨?_, HR.out.2⟩
      simpa using HR.out.1
    | false =>
      have HBI : Hid (bits .or .u8 (g.toNat : Int) 128 = ((g ||| 128).toNat : Int)) := or_u8 g 128
      gi_wp2_with (gi_at_builtin; refine wpListIn_append_own _ rfl _ _ 38 rfl (w.heap.size + 4) 5 i0 (.int .u8 0) 1 1 Tryd.underlying38 hi hz0 hz1 hz2 rfl (by decide) v pre.length (u8s (pre.map mark)) rfl (HO.out.alloc _) ⟨W.heap.size, 0, none⟩ 1 1 [.int .u8 (bits .or .u8 (g.toNat : Int) 128)] rfl rfl (cell_one_new _ _ _) (by simp [Value.oneCell']) (by unfold maxLen; omega) (by omega) (by simp; omega) ?_; intro v' w1 hown' hgrow _; obtain ⟨g', cap', rfl⟩ := ownsRow_succ hown'; obtain ⟨hb1, R⟩ := hcl w1 (g ||| 128).toNat g' cap' (g, false) (by simp [mark]) (by rw [HBI.out] at hgrow; simpa using grown_fr (HO.out.alloc _) hgrow) (by rw [HBI.out] at hown'; simpa using hown'); have hc1 : w1.cell? ⟨w.heap.size, 0, none⟩ = some v := blk_cell hb1 0; have hf1 := blk_free hb1 0; have HR := Lib.hid R; clear R hown' hgrow hc hb hlen)
      refine ⟨?_, HR.out.2⟩
      simpa using HR.out.1
  case done =>
    rintro D xs W hD rfl ⟨v, hb, ho, hB⟩ hK
    rw [grp_vb'] at ho
    have hc : W.cell? ⟨w.heap.size, 0, none⟩ = some v := blk_cell hb 0
    have hconv := conv_own (P := Tryd.prog) 38 9 Tryd.underlying38 Tryd.underlying5 Tryd.underlying9 ho
    have HB := Lib.hid hB
    clear ho hB hb
    gi_wp2
    refine ⟨by simp, .inl ⟨_, _, rfl, run_takeDeferred hK, ?_⟩⟩
    refine ⟨_, results_tmp2 rfl _ _ _, rfl, ?_⟩
    exact below_fr HB.out ((Fr.refl (fun r => r = D) W).putObj (.inl rfl) _) (fun r h => by subst h; simp at hD; omega)
end Go.Proofs.YtpcmidhhbgjcjaaDoor
