/- digest.words.add. -/
import Derived.Test.YtpcmidhhbgjcjaaDoorD2
namespace Go.Proofs.YtpcmidhhbgjcjaaDoor
open Go Go.RowKit

def v8 (v : V8) : Array Value := #[wd v.a, wd v.b, wd v.c, wd v.d, wd v.e, wd v.f, wd v.g, wd v.h]
def roundC : Array Value := (K64.map wd).toArray
/-- The table of constants, as it lies in memory. -/
def HasRound (w : World) : Prop := ∃ t fr, w.heap[4]? = some (.cells roundC t fr)
theorem size_v8 : (Tryd.prog.info? 139).map (·.size) = some 8 := by kernel_rfl
theorem und_v8 : Tryd.prog.underlying 139 = some (.array 8 137) := by kernel_rfl

theorem row_new {B : Nat} {w w1 : World} (hB : Below B w w1) (hs : B ≤ w1.heap.size) (cs : Array Value) (t : TypeId) (W : Array Value) :
    ∃ w2 : World, (w1.alloc (.cells cs t)).setRow w1.heap.size W = w2 ∧ w2.heap[w1.heap.size]? = some (.cells W t (0, 0)) ∧ (∀ (k : Nat) (o : Obj), w1.heap[k]? = some o → w2.heap[k]? = some o) ∧ Below B w w2 ∧ w2.heap.size = w1.heap.size + 1 := by
  refine ⟨_, rfl, setRow_heap _ _ _ _ _ _ (World.alloc_heap_new _ _), fun k o hk => ?_, below_setRow (hB.alloc hs _) hs _, by simp⟩
  have := blk_lt hk
  rw [setRow_other _ _ _ _ (by omega), Below.heap_alloc _ _ _ (by omega)]
  exact hk

theorem idx_arr (C : Array Value) (i : Nat) (x : UInt32) (hi : i < 64) (hx : C[i]? = some (wd x)) (w : World) : (Instr.index 147 (.agg C) (.int .i64 (i : Int))).run Tryd.prog w = .ok (wd x) w := by
  have h0 : (0 : Int) ≤ (i : Int) ∧ (i : Int) < 64 := by omega
  have hq : Tryd.prog.info? 137 ≠ none := by intro h; have := (show (Tryd.prog.info? 137).isSome = true by kernel_rfl); rw [h] at this; cases this
  obtain ⟨i0, hi0⟩ := Option.ne_none_iff_exists'.1 hq
  have hs0 : i0.size = 1 := by have := (show (Tryd.prog.info? 137).map (·.size) = some 1 by kernel_rfl); rw [hi0] at this; simpa using this
  simp [Instr.index, asIntOf, run_underlying und_arr, h0, part, isAgg, run_underlying Tryd.underlying137, sizeOf, typeInfo, hi0, hs0, hx]
  intro h
  omega

def lst (v : V8) : List UInt32 := [v.a, v.b, v.c, v.d, v.e, v.f, v.g, v.h]
/-- The first j words have been added. -/
def par (x y : V8) (j : Nat) : Array Value := ((List.range 8).map (fun i => wd (if i < j then (lst x).getD i 0 + (lst y).getD i 0 else (lst x).getD i 0))).toArray
theorem par_zero (x y : V8) : par x y 0 = v8 x := rfl
theorem par_eight (x y : V8) : par x y 8 = v8 (addF x y) := rfl
theorem par_get (x y : V8) (j : Nat) (hj : j < 8) : (par x y j)[j]? = some (wd ((lst x).getD j 0)) := by
  simp [par, hj]
theorem v8_get (x : V8) (j : Nat) (hj : j < 8) : (v8 x)[j]? = some (wd ((lst x).getD j 0)) := by
  match j, hj with
  | 0, _ | 1, _ | 2, _ | 3, _ | 4, _ | 5, _ | 6, _ | 7, _ => rfl
theorem par_set (x y : V8) (j : Nat) (hj : j < 8) : (par x y j).setIfInBounds j (wd ((lst x).getD j 0 + (lst y).getD j 0)) = par x y (j + 1) := by
  match j, hj with
  | 0, _ | 1, _ | 2, _ | 3, _ | 4, _ | 5, _ | 6, _ | 7, _ => rfl
/-- copy(v[1:], v[:7]) on eight words. -/
theorem copy7 (w : World) (g : Nat) (v : V8) (t : TypeId) (hg : w.heap[g]? = some (.cells (v8 v) t (0, 0))) (ty : TypeId) : ∃ w2 : World,
    (Builtin.copy_ #[150, 150] ty #[.slice (some ⟨g, 1, none⟩) 7 7, .slice (some ⟨g, 0, none⟩) 7 8]).run Tryd.prog w = .ok (goInt 7) w2 ∧
    w2.heap[g]? = some (.cells (v8 ⟨v.a, v.a, v.b, v.c, v.d, v.e, v.f, v.g⟩) t (0, 0)) ∧ Fr (fun r => r = g) w w2 := by
  have h := run_copy_cells (P := Tryd.prog) w 150 150 ty 137 g 1 7 7 ⟨g, 0, none⟩ 7 8 [wd v.a, wd v.b, wd v.c, wd v.d, wd v.e, wd v.f, wd v.g] Tryd.underlying150 (by kernel_rfl) rfl
    (by
      intro j x hj
      have hp : (⟨g, 0, none⟩ : Addr).add j = ⟨g, j, none⟩ := by unfold Addr.add; split <;> simp_all
      rw [hp, blk_cell hg]
      match j, hj with
      | 0, hj | 1, hj | 2, hj | 3, hj | 4, hj | 5, hj | 6, hj => exact hj)
    (by intro j hj; rw [blk_cell hg]; match j, hj with | 0, _ | 1, _ | 2, _ | 3, _ | 4, _ | 5, _ | 6, _ => rfl)
    (by intro j _; exact blk_free hg _)
    (by intro x hx; simp at hx; rcases hx with rfl | rfl | rfl | rfl | rfl | rfl | rfl <;> rfl)
  refine ⟨_, h, ?_, ?_⟩
  · have h1 := blk_set hg 1 (wd v.a)
    have h2 := blk_set h1 2 (wd v.b)
    have h3 := blk_set h2 3 (wd v.c)
    have h4 := blk_set h3 4 (wd v.d)
    have h5 := blk_set h4 5 (wd v.e)
    have h6 := blk_set h5 6 (wd v.f)
    have h7 := blk_set h6 7 (wd v.g)
    have e : ((((((((v8 v).setIfInBounds 1 (wd v.a)).setIfInBounds 2 (wd v.b)).setIfInBounds 3 (wd v.c)).setIfInBounds 4 (wd v.d)).setIfInBounds 5 (wd v.e)).setIfInBounds 6 (wd v.f)).setIfInBounds 7 (wd v.g)) = v8 ⟨v.a, v.a, v.b, v.c, v.d, v.e, v.f, v.g⟩ := by simp [v8]
    rw [e] at h7
    simp only [World.setCells, Nat.reduceAdd]
    exact h7
  · simp only [World.setCells, Nat.reduceAdd]
    exact (((((((Fr.refl (fun r => r = g) w).setCell (p := ⟨g, 1, none⟩) (.inl rfl) _).setCell (p := ⟨g, 2, none⟩) (.inl rfl) _).setCell (p := ⟨g, 3, none⟩) (.inl rfl) _).setCell (p := ⟨g, 4, none⟩) (.inl rfl) _).setCell (p := ⟨g, 5, none⟩) (.inl rfl) _).setCell (p := ⟨g, 6, none⟩) (.inl rfl) _).setCell (p := ⟨g, 7, none⟩) (.inl rfl) _

set_option maxRecDepth 100000 in
set_option maxHeartbeats 8000000 in
theorem add_c (gh b off c : Nat) (v : V8) (bs : List UInt8) (w : World) (hg : w.heap[gh]? = some (.cells (v8 v) 139 (0, 0))) (hR : HasRound w) (hc : RowU8 w b off bs) (hl : bs.length = 64) (hb : b < w.heap.size) :
    Calls Tryd.prog 79 #[.pointer (some ⟨gh, 0, none⟩), .slice (some ⟨b, off, none⟩) 64 c] w fun e w' => e = .returned (.tuple #[]) ∧ w'.heap[gh]? = some (.cells (v8 (blockF v bs)) 139 (0, 0)) ∧ Fr (fun r => r = gh) w w' := by
  have hsch := schedule_c b off c bs w hc hl hb
  obtain ⟨L, hL⟩ : ∃ L, schedN bs 64 = L := ⟨_, rfl⟩
  have hLl : L.length = 64 := by rw [← hL, schedN_len]
  rw [hL] at hsch
  have hbl : blockF v bs = addF v (roundsF v L 64) := by rw [blockF, hL]
  rw [hbl]
  have HSC := Lib.hid hsch
  clear hsch hL hbl
  have hw := arr64_size L (by omega)
  obtain ⟨W, hW⟩ : ∃ W, arr64 L = W := ⟨_, rfl⟩
  have hW1 : W.all (·.oneCell') = true := hW ▸ arr64_one _
  have HW := Lib.hid hW
  have HC := Lib.hid hc
  have HR := Lib.hid hR
  rw [hW] at hw
  clear hW hc hR
  obtain ⟨X, hX⟩ : ∃ X, v8 v = X := ⟨_, rfl⟩
  have HX := Lib.hid hX
  have hX1 : X.all (·.oneCell') = true := by rw [← hX]; simp [v8, Value.oneCell']
  have hx8 : X.size = 8 := by rw [← hX]; rfl
  rw [hX] at hg
  clear hX
  go_enter Tryd.func79, Tryd.ntmps79
  go_wp2_with (fail)
  refine HSC.out.mono ?_
  rintro e w1 ⟨rfl, hB⟩
  rw [HW.out]
  have hg1 : w1.heap[gh]? = some (.cells X 139 (0, 0)) := (hB.block gh (blk_lt hg)).trans hg
  have hb1 := hB.size
  have hgl := blk_lt hg
  have HS1 := Lib.hid (fun cs t => row_new hB hb1 cs t W)
  obtain ⟨tR, fR, hRg⟩ := HR.out
  have hgR := blk_lt hRg
  have hR1 : w1.heap[4]? = some (.cells roundC tR fR) := (hB.block _ hgR).trans hRg
  obtain ⟨C, hC⟩ : ∃ C, roundC = C := ⟨_, rfl⟩
  have hc64 : C.size = 64 := by rw [← hC]; rfl
  rw [hC] at hR1
  have HCC := Lib.hid hC
  clear hC hRg hgR
  go_wp2_with (first
    | (refine wpList_store_row rfl 147 (.tmp 4) (.tmp 14) rfl w1.heap.size W rfl rfl 147 _ (World.alloc_heap_new _ _) (by rw [hw]; exact size_arr) (by rw [hw]; rfl) hW1 ?_; obtain ⟨w2, e2, hWb, hk2, hB2, hs2⟩ := HS1.out _ _; rw [e2]; have hg2 := hk2 _ _ hg1; have hR2 := hk2 _ _ hR1; have HS2 := Lib.hid hs2; clear e2 HS1 hB hg1 hR1 hk2 hs2)
    | (refine wpList_load_row rfl 139 (.tmp 16) rfl gh rfl 139 X (0, 0) _ hg2 und_v8 rfl (by rw [hx8]; exact size_v8) ?_)
    | (refine wpList_store_row rfl 139 (.tmp 5) (.tmp 17) rfl w2.heap.size X rfl rfl 139 _ (World.alloc_heap_new _ _) (by rw [hx8]; exact size_v8) (by rw [hx8]; rfl) hX1 ?_; obtain ⟨w3, e3, hVb, hk3, hB3, hs3⟩ := row_new hB2 hB2.size _ _ X; rw [e3]; have hg3 := hk3 _ _ hg2; have hR3 := hk3 _ _ hR2; have hW3 := hk3 _ _ hWb; have HS3 := Lib.hid hs3; clear e3 hk3 hB2 hg2 hR2 hWb hs3)
    | (refine wpList_load_row rfl 147 (.global 4) rfl 4 rfl tR C fR _ hR3 und_arr rfl (by rw [hc64]; exact size_arr) ?_))
  have hVW : w1.heap.size < w2.heap.size := by have := HS2.out; omega
  have HBV : Hid (w.heap.size ≤ w2.heap.size) := by rw [Hid]; have := HS2.out; omega
  generalize w1.heap.size = BW at *
  generalize w2.heap.size = BV at *
  go_loopw [19] (fun i wr => ∃ k : Nat, k ≤ 64 ∧ i = .int .i64 k ∧ wr.heap[BV]? = some (.cells (v8 (roundsF v L k)) 139 (0, 0)) ∧ Fr (fun r => r = BV) w3 wr) (fun i _ => 64 - (intOf i).toNat)
  case atStart => exact ⟨0, by omega, rfl, by rw [roundsF, HX.out]; exact hVb, Fr.refl _ _⟩
  case round =>
    obtain ⟨k, hk, rfl, hV, hF⟩ := hrel
    by_cases hlt : k < 64
    · have hlt' : (k : Int) < 64 := by omega
      obtain ⟨vv, hvv⟩ : ∃ vv, roundsF v L k = vv := ⟨_, rfl⟩
      rw [hvv] at hV
      obtain ⟨kk, hkk⟩ : ∃ x, K64.getD k 0 = x := ⟨_, rfl⟩
      obtain ⟨ww, hww⟩ : ∃ x, L.getD k 0 = x := ⟨_, rfl⟩
      have hCk : C[k]? = some (wd kk) := by
        rw [← HCC.out, roundC, List.getElem?_toArray, List.getElem?_map, ← hkk]
        have : k < K64.length := hlt
        simp [List.getD, List.getElem?_eq_getElem this]
      have hidx := idx_arr C k kk hlt hCk
      have hWr := hF.blk hW3 (by omega)
      have HWk : Hid (W[k]? = some (wd ww)) := by rw [Hid, ← HW.out, arr64_cell _ _ hlt, hww]
      obtain ⟨a, b, c', d, e, f, g, hh⟩ := vv
      have c0 : wr.cell? ⟨BV, 0, none⟩ = some (wd a) := blk_cell hV 0
      have c1 : wr.cell? ⟨BV, 1, none⟩ = some (wd b) := blk_cell hV 1
      have c2 : wr.cell? ⟨BV, 2, none⟩ = some (wd c') := blk_cell hV 2
      have c3 : wr.cell? ⟨BV, 3, none⟩ = some (wd d) := blk_cell hV 3
      have c4 : wr.cell? ⟨BV, 4, none⟩ = some (wd e) := blk_cell hV 4
      have c5 : wr.cell? ⟨BV, 5, none⟩ = some (wd f) := blk_cell hV 5
      have c6 : wr.cell? ⟨BV, 6, none⟩ = some (wd g) := blk_cell hV 6
      have c7 : wr.cell? ⟨BV, 7, none⟩ = some (wd hh) := blk_cell hV 7
      obtain ⟨m, hm⟩ : ∃ x, mixF e [6, 11, 25] = x := ⟨_, rfl⟩
      obtain ⟨s1, hs1⟩ : ∃ x, hh + m = x := ⟨_, rfl⟩
      obtain ⟨n1, hn1⟩ : ∃ x, e &&& f = x := ⟨_, rfl⟩
      obtain ⟨n2, hn2⟩ : ∃ x, ~~~e = x := ⟨_, rfl⟩
      obtain ⟨n3, hn3⟩ : ∃ x, n2 &&& g = x := ⟨_, rfl⟩
      obtain ⟨n4, hn4⟩ : ∃ x, n1 ^^^ n3 = x := ⟨_, rfl⟩
      obtain ⟨s2, hs2⟩ : ∃ x, s1 + n4 = x := ⟨_, rfl⟩
      obtain ⟨s3, hs3⟩ : ∃ x, s2 + kk = x := ⟨_, rfl⟩
      obtain ⟨tt, htt⟩ : ∃ x, s3 + ww = x := ⟨_, rfl⟩
      have HT : Hid (tF ⟨a, b, c', d, e, f, g, hh⟩ kk ww = tt) := by rw [Hid, tF]; dsimp only; rw [hm, hs1, hn1, hn2, hn3, hn4, hs2, hs3, htt]
      have HM := Lib.hid hm
      have p1 := add_u32 hh m
      rw [hs1] at p1
      have p2 := and_u32 e f
      rw [hn1] at p2
      have p3 := not_u32 e
      rw [hn2] at p3
      have p4 := and_u32 n2 g
      rw [hn3] at p4
      have p5 := xor_u32 n1 n3
      rw [hn4] at p5
      have p6 := add_u32 s1 n4
      rw [hs2] at p6
      have p7 := add_u32 s2 kk
      rw [hs3] at p7
      have p8 := add_u32 s3 ww
      rw [htt] at p8
      have HKK := Lib.hid hkk
      have HWW := Lib.hid hww
      have HVV := Lib.hid hvv
      clear hm hs1 hn1 hn2 hn3 hn4 hs2 hs3 htt hkk hww hvv hCk
      go_wp2
      go_quiet (fail)
      go_wp2
      obtain ⟨w4, hw4⟩ : ∃ w4, wr.drewN nq = w4 := ⟨_, rfl⟩
      have hV4 : w4.heap[BV]? = some (.cells (v8 ⟨a, b, c', d, e, f, g, hh⟩) 139 (0, 0)) := by rw [← hw4]; exact hV
      have hW4 : w4.heap[BW]? = some (.cells W 147 (0, 0)) := by rw [← hw4]; exact hWr
      have hF4 : Fr (fun r => r = BV) w3 w4 := by rw [← hw4]; exact hF.drewN nq
      rw [hw4]
      clear hw4 c0 c1 c2 c3 c4 c5 c6 c7 hV hWr hF
      have c5 : w4.cell? ⟨BV, 5, none⟩ = some (wd f) := blk_cell hV4 5
      have c6 : w4.cell? ⟨BV, 6, none⟩ = some (wd g) := blk_cell hV4 6
      have c7 : w4.cell? ⟨BV, 7, none⟩ = some (wd hh) := blk_cell hV4 7
      have cW : w4.cell? ⟨BW, k, none⟩ = some (wd ww) := (blk_cell hW4 k).trans HWk.out
      go_region_held3 (fun w' => w'.cell? ⟨BV, 7, none⟩ = some (wd hh) ∧ w'.cell? ⟨BV, 5, none⟩ = some (wd f) ∧ w'.cell? ⟨BV, 6, none⟩ = some (wd g) ∧ w'.cell? ⟨BW, k, none⟩ = some (wd ww))
        (first | (go_keep; done))
        (first | (go_at_call 86; refine (mixed_c e _ 0 3 [6, 11, 25] _ (by exact (row64_at _ _ (by simp) [6, 11, 25] _).drew) (by simp) (by simp)).mono ?_; rintro e w' ⟨rfl, rfl⟩; rw [HM.out]))
      generalize hw5 : (w4.alloc _).drew = w5
      have hF5 : Fr (fun r => r = BV) w3 w5 := by rw [← hw5]; exact (hF4.alloc _).drew
      have hV5 : w5.heap[BV]? = some (.cells (v8 ⟨a, b, c', d, e, f, g, hh⟩) 139 (0, 0)) := by rw [← hw5]; exact (Below.heap_alloc _ _ _ (blk_lt hV4)).trans hV4
      clear hw5 hF4 hV4 hW4 c5 c6 c7 cW p1 p2 p3 p4 p5 p6 p7 p8 HM
      obtain ⟨m2, hm2⟩ : ∃ x, mixF a [2, 13, 22] = x := ⟨_, rfl⟩
      obtain ⟨q1, hq1⟩ : ∃ x, a &&& b = x := ⟨_, rfl⟩
      obtain ⟨q2, hq2⟩ : ∃ x, a &&& c' = x := ⟨_, rfl⟩
      obtain ⟨q3, hq3⟩ : ∃ x, q1 ^^^ q2 = x := ⟨_, rfl⟩
      obtain ⟨q4, hq4⟩ : ∃ x, b &&& c' = x := ⟨_, rfl⟩
      obtain ⟨q5, hq5⟩ : ∃ x, q3 ^^^ q4 = x := ⟨_, rfl⟩
      obtain ⟨uu, huu⟩ : ∃ x, m2 + q5 = x := ⟨_, rfl⟩
      have HU : Hid (uF ⟨a, b, c', d, e, f, g, hh⟩ = uu) := by rw [Hid, uF]; dsimp only; rw [hm2, hq1, hq2, hq3, hq4, hq5, huu]
      have HM2 := Lib.hid hm2
      have p1 := and_u32 a b
      rw [hq1] at p1
      have p2 := and_u32 a c'
      rw [hq2] at p2
      have p3 := xor_u32 q1 q2
      rw [hq3] at p3
      have p4 := and_u32 b c'
      rw [hq4] at p4
      have p5 := xor_u32 q3 q4
      rw [hq5] at p5
      have p6 := add_u32 m2 q5
      rw [huu] at p6
      clear hm2 hq1 hq2 hq3 hq4 hq5 huu
      have c1 : w5.cell? ⟨BV, 1, none⟩ = some (wd b) := blk_cell hV5 1
      have c2 : w5.cell? ⟨BV, 2, none⟩ = some (wd c') := blk_cell hV5 2
      go_wp2
      go_region_held3 (fun w' => w'.cell? ⟨BV, 1, none⟩ = some (wd b) ∧ w'.cell? ⟨BV, 2, none⟩ = some (wd c'))
        (first | (go_keep; done))
        (first | (go_at_call 86; refine (mixed_c a _ 0 3 [2, 13, 22] _ (by exact (row64_at _ _ (by simp) [2, 13, 22] _).drew) (by simp) (by simp)).mono ?_; rintro e w' ⟨rfl, rfl⟩; rw [HM2.out]))
      generalize hw6 : (w5.alloc _).drew = w6
      have hF6 : Fr (fun r => r = BV) w3 w6 := by rw [← hw6]; exact (hF5.alloc _).drew
      have hV6 : w6.heap[BV]? = some (.cells (v8 ⟨a, b, c', d, e, f, g, hh⟩) 139 (0, 0)) := by rw [← hw6]; exact (Below.heap_alloc _ _ _ (blk_lt hV5)).trans hV5
      clear hw6 hF5 hV5 c1 c2 p1 p2 p3 p4 p5 p6 HM2
      go_wp2
      have c0 : w6.cell? ⟨BV, 0, none⟩ = some (wd a) := blk_cell hV6 0
      go_still_tail 2, (by kernel_rfl)
      change wpList _ _ _ _ _ w6.drew
      obtain ⟨w7, hcp, hV7, hF7⟩ := copy7 w6.drew BV ⟨a, b, c', d, e, f, g, hh⟩ 139 hV6 3
      have hF7' : Fr (fun r => r = BV) w3 w7 := hF6.drew.trans hF7 (fun r h => .inl h)
      generalize w6.drew = w6d at *
      have k0 : w7.cell? ⟨BV, 0, none⟩ = some (wd a) := blk_cell hV7 0
      have k4 : w7.cell? ⟨BV, 4, none⟩ = some (wd d) := blk_cell hV7 4
      have kf0 := blk_free hV7 0
      have kf4 := blk_free hV7 4
      have p1 := add_u32 tt uu
      have p2 := add_u32 d tt
      obtain ⟨r1, hr1⟩ : ∃ x, tt + uu = x := ⟨_, rfl⟩
      obtain ⟨r2, hr2⟩ : ∃ x, d + tt = x := ⟨_, rfl⟩
      rw [hr1] at p1
      rw [hr2] at p2
      have HR1 := Lib.hid hr1
      have HR2 := Lib.hid hr2
      have HV7 := Lib.hid hV7
      have HF7 := Lib.hid hF7'
      clear hr1 hr2 hV7 hF7 hF7' hF6 hV6 c0
      go_wp2
      have hV8 := blk_set (blk_set HV7.out 0 (wd r1)) 4 (wd r2)
      have hx8 : ((v8 ⟨a, a, b, c', d, e, f, g⟩).setIfInBounds 0 (wd r1)).setIfInBounds 4 (wd r2) = v8 (roundF ⟨a, b, c', d, e, f, g, hh⟩ kk ww) := by
        rw [roundF, HT.out, HU.out, HR1.out]
        dsimp only
        rw [HR2.out]
        simp [v8]
      rw [hx8] at hV8
      refine ⟨⟨k + 1, by omega, by go_num, ?_, ?_⟩, by simp [intOf]; omega⟩
      · rw [roundsF, HVV.out, HKK.out, HWW.out]
        exact hV8
      · exact (HF7.out.setCell (p := ⟨BV, 0, none⟩) (.inl rfl) _).setCell (p := ⟨BV, 4, none⟩) (.inl rfl) _
    · have HK64 : Hid (k = 64) := by rw [Hid]; omega
      rw [HK64.out] at hV
      have hgv : gh ≠ BV := by intro e; subst e; have := HBV.out; omega
      have hgr := hF.blk hg3 hgv
      have HX' := HX.out
      go_wp2
      go_loopw [82] (fun i wq => ∃ j : Nat, j ≤ 8 ∧ i = .int .i64 j ∧ wq.heap[gh]? = some (.cells (par v (roundsF v L 64) j) 139 (0, 0)) ∧ Fr (fun r => r = gh) wr wq) (fun i _ => 8 - (intOf i).toNat)
      case atStart => exact ⟨0, by omega, rfl, by rw [par_zero, HX']; exact hgr, Fr.refl _ _⟩
      case round =>
        obtain ⟨j, hj, rfl, hH, hG⟩ := hrel
        by_cases hj8 : j < 8
        · have hj8' : (j : Int) < 8 := by omega
          have hj0 : (0 : Int) ≤ (j : Int) := by omega
          obtain ⟨x, hx⟩ : ∃ x, (lst v).getD j 0 = x := ⟨_, rfl⟩
          obtain ⟨y, hy⟩ : ∃ y, (lst (roundsF v L 64)).getD j 0 = y := ⟨_, rfl⟩
          have d1 : wr.cell? ⟨gh, j, none⟩ = some (wd x) := by rw [blk_cell hH, par_get _ _ _ hj8, hx]
          have hVq := hG.blk hV (Ne.symm hgv)
          have d2 : wr.cell? ⟨BV, j, none⟩ = some (wd y) := by rw [blk_cell hVq, v8_get _ _ hj8, hy]
          have df := blk_free hH j
          have p1 := add_u32 x y
          obtain ⟨z, hz⟩ : ∃ z, x + y = z := ⟨_, rfl⟩
          rw [hz] at p1
          have HZ : Hid ((par v (roundsF v L 64) j).setIfInBounds j (wd z) = par v (roundsF v L 64) (j + 1)) := by rw [Hid, ← hz, ← hx, ← hy]; exact par_set _ _ _ hj8
          have HH := Lib.hid hH
          have HG := Lib.hid hG
          clear hx hy hz hVq hH hG
          go_wp2
          go_still_tail 11, (by kernel_rfl)
          change wpList _ _ _ _ _ wr.drew
          go_wp2
          have hs := blk_set HH.out j (wd z)
          rw [HZ.out] at hs
          refine ⟨⟨j + 1, by omega, by go_num, hs, (HG.out.setCell (p := ⟨gh, j, none⟩) (.inl rfl) _).drew⟩, by simp [intOf]; omega⟩
        · obtain rfl : j = 8 := by omega
          rw [par_eight] at hH
          have hfin : Fr (fun r => r = gh) w wr := ((Fr.of_below (X := fun r => r = gh) hB3).trans hF (fun r h => .inr (by rw [h]; exact HBV.out))).trans hG (fun r h => .inl h)
          have HF := Lib.hid hfin
          have HH := Lib.hid hH
          clear hfin hH hG
          go_wp2
          go_end0
          exact ⟨rfl, HH.out, HF.out⟩
end Go.Proofs.YtpcmidhhbgjcjaaDoor
