/- JournalRoom. -/
import Derived.Test.YtpcmidhhbgjcjaaDoorL6
namespace Go.Proofs.YtpcmidhhbgjcjaaDoor
open Go Go.RowKit

theorem addAll_take1 (P : TP) (ls : List ByteArray) (i : Nat) (x : ByteArray) (hx : ls[i]? = some x) : (P.addAll (ls.take (i + 1))).size = (P.addAll (ls.take i)).size + 33 + (putS x).size := by
  rw [(addAll_take P ls i x hx).1]
  show (P.addAll (ls.take i)).size + (encR _ x).size = _
  rw [encR_size]
  omega
theorem addAll_le (ls : List ByteArray) (h : ∀ r ∈ ls, r.size ≤ 65536) : (T0.addAll ls).size ≤ 65600 * ls.length := by
  rw [T0_size]
  exact encAll_le ls T0 h
theorem size_nat (n : Int) (h1 : -9223372036854775808 ≤ n) (h2 : n ≤ 9223372036854775807) : ∃ N : Nat, 1 ≤ N ∧ N ≤ 1500 ∧ ∀ W, Calls Tryd.prog 7 #[.int .i64 n] W fun e w' => e = .returned (.int .i64 N) ∧ W = w' := by
  have hb := pickF_lt n 1500 (by omega)
  obtain ⟨N, hN⟩ := Int.eq_ofNat_of_zero_le (by omega : 0 ≤ 1 + pickF n 1500)
  refine ⟨N, by omega, by omega, fun W => ?_⟩
  have h := size_c n W h1 h2
  rw [hN] at h
  exact h
theorem Dsk.roomEq {w0 W : World} {b jb base : Nat} {D : DK} {recs : List ByteArray} (h : Dsk w0 W b D recs) {br : Bool} (hJ : HasJ W jb base b (T0.addAll recs) br) {m : Nat} (hm : D.n = (T0.addAll recs).size + m) :
    Calls Tryd.prog 12 #[.pointer (some ⟨jb, 0, none⟩)] W fun e w' => e = .returned (.int .i64 m) ∧ Below W.heap.size W w' := by
  refine (h.room hJ).mono ?_
  rintro e w' ⟨rfl, hB⟩
  refine ⟨?_, hB⟩
  rw [hm, Nat.add_sub_cancel_left]
/-- same of a list with itself. -/
theorem same_true (va vc : Value) (a : List ByteArray) (w : World) (ha : Row w va a) (hc : Row w vc a) (hl : a.length ≤ 1000000) :
    Calls Tryd.prog 16 #[va, vc] w fun e w' => e = .returned (.bool true) ∧ Below w.heap.size w w' := by
  refine (same_c va vc a a w ha hc hl).mono ?_
  rintro e w' ⟨rfl, m, rfl⟩
  exact ⟨by rw [decide_eq_true rfl], below_drewN (Below.refl _ _) m⟩
/-- Records as a row. -/
theorem Dsk.recordsRow {w0 W : World} {b jb base : Nat} {D : DK} {recs : List ByteArray} (h : Dsk w0 W b D recs) {br : Bool} (hJ : HasJ W jb base b (T0.addAll recs) br) :
    Calls Tryd.prog 13 #[.pointer (some ⟨jb, 0, none⟩)] W fun e w' => ∃ p cap, e = .returned (.slice p recs.length cap) ∧ Row w' (.slice p recs.length cap) recs ∧ Below W.heap.size W w' := by
  refine (h.records hJ).mono ?_
  rintro e w' ⟨v', rfl, ho, hB⟩
  have hr := own_row ho
  obtain ⟨p, cap, rfl, _⟩ := hr.slice
  exact ⟨p, cap, rfl, hr, hB⟩
def sX : ByteArray := ⟨#[120]⟩
theorem size_x (recs : List ByteArray) : (T0.addAll (recs ++ [sX])).size = (T0.addAll recs).size + 35 := by
  rw [addAll_append]
  show ((T0.addAll recs).add sX).size = _
  rw [add_size, vb_1 _ (by decide)]
  have : sX.size = 1 := rfl
  omega
theorem own_cap {w : World} {base e n : Nat} {v : Value} {xs : List Value} (h : w.ownsRow base e 1 v n xs) : ∃ p c, v = .slice p n c ∧ n ≤ c := by
  rcases h.2 with ⟨rfl, h0⟩ | ⟨g, cap, cur, rfl, _, _, hc, _⟩
  · exact ⟨none, 0, by rw [h0], by omega⟩
  · exact ⟨_, cap, rfl, hc⟩
/-- What Append answers in JournalRoom. -/
theorem Sys.either {w0 W : World} {b jb base N rb : Nat} {D : DK} {ls : List ByteArray} {lv : Value} {S : Nat} (h : Sys w0 W b jb base N D []) (hR : HasRound w0) (ho : W.ownsRow rb 9 1 lv ls.length (ls.map Value.string)) (hl : ls.length ≤ 100) (hle : ∀ r ∈ ls, r.size ≤ 65536) (hS : (T0.addAll ls).size = S) :
    Calls Tryd.prog 11 #[.pointer (some ⟨jb, 0, none⟩), lv] W fun e w' => ∃ (c : Int) (recs : List ByteArray) (base' : Nat) (D' : DK) (rm : Nat), e = .returned (.int .i64 c) ∧ Sys w0 w' b jb base' N D' recs ∧ w'.ownsRow rb 9 1 lv ls.length (ls.map Value.string) ∧ N = (T0.addAll recs).size + rm ∧
      ((S ≤ N ∧ c = 0 ∧ (N : Int) - (S : Int) = (rm : Int)) ∨ (N < S ∧ c = 341 ∧ (rm : Int) = (N : Int))) := by
  rcases Nat.lt_or_ge N S with hf | hf
  · refine (h.full hR (own_row ho) hl hle (by rw [List.nil_append, hS]; exact hf)).mono ?_
    rintro e w' ⟨rfl, hB⟩
    exact ⟨341, [], base, D, N, rfl, h.next hB, own_next ho hB, by rw [size_0]; omega, .inr ⟨hf, rfl, rfl⟩⟩
  · refine (h.fit hR (own_row ho) hl hle (by rw [List.nil_append, hS]; exact hf)).mono ?_
    rintro e w' ⟨rfl, base', D', hs, hfr⟩
    refine ⟨0, [] ++ ls, base', D', N - S, rfl, hs, own_keep ho hfr (str_not h.dsk.disk h.j), ?_, .inl ⟨hf, rfl, by omega⟩⟩
    rw [List.nil_append, hS]
    omega
set_option maxRecDepth 100000 in
set_option maxHeartbeats 4000000 in
theorem JournalRoom_c (n more : Int) (v : Value) (l0 : List ByteArray) (a : Addr) (w : World) (hR : HasRound w) (hE : HasErr w a) (hrow : RowO w v l0) (h1 : -9223372036854775808 ≤ n) (h2 : n ≤ 9223372036854775807) (h3 : -9223372036854775808 ≤ more) (h4 : more ≤ 9223372036854775807) :
    Calls Tryd.prog 3 #[.int .i64 n, v, .int .i64 more] w fun e w' => e = .returned (.bool true) ∧ Below w.heap.size w w' := by
  obtain ⟨N, hN1, hN2, hsz⟩ := size_nat n h1 h2
  have hpb := pickF_lt more 100 (by omega)
  obtain ⟨pm, hpm⟩ := Int.eq_ofNat_of_zero_le hpb.1
  have hpk := fun W => pick_c more 100 W h3 h4 (by omega) (by omega)
  rw [hpm] at hpk
  have hpm2 : pm < 100 := by omega
  have HR := Lib.hid hR
  have HE := Lib.hid hE
  have HROW := Lib.hid hrow
  have HSZ := Lib.hid hsz
  have HPK := Lib.hid hpk
  clear hR hE hrow hsz hpk hpb hpm h1 h2 h3 h4
  go_enter Tryd.func3, Tryd.ntmps3
  go_wp2_with (fail)
  refine (sane_c a w HR.out HE.out).mono ?_
  rintro e w1 ⟨rfl, hB⟩
  have HB1 := Lib.hid hB
  clear hB
  go_wp2_with (go_at_call 7; refine (HSZ.out _).mono ?_; rintro e w' ⟨rfl, rfl⟩)
  refine (New_d N hN1 (by omega) w w1 HB1.out).mono ?_
  rintro e w2 ⟨b, D0, rfl, hd, ho, hl, hp, hn, _⟩
  have HD := Lib.hid hd
  have HO := Lib.hid ho
  have HL := Lib.hid hl
  have HP := Lib.hid hp
  have HN := Lib.hid hn
  clear hd ho hl hp hn HB1
  go_wp2_with (fail)
  refine (New_open HR.out HE.out HD.out HO.out HL.out HP.out HN.out).mono ?_
  rintro e w3 ⟨jb, base0, rfl, hs, _⟩
  have HS3 := Lib.hid hs
  have HRow3 := Lib.hid (HROW.out.below hs.dsk.bel)
  clear hs HD HO HL HP HN HROW
  go_wp2_with (fail)
  refine (few_c v l0 w3 HRow3.out).mono ?_
  rintro e w4 ⟨lv, rfl, ho, hB⟩
  obtain ⟨ls, hls⟩ : ∃ ls, fewF l0 = ls := ⟨_, rfl⟩
  obtain ⟨hlen, hle⟩ := fewF_le l0
  rw [hls] at ho hlen hle
  have hle' : ∀ r ∈ ls, r.size ≤ 65536 := fun r hr => by have := hle r hr; omega
  obtain ⟨lp, lc, hlv, hcells⟩ := (own_row ho).slice
  subst hlv
  obtain ⟨m, hm⟩ : ∃ m, ls.length = m := ⟨_, rfl⟩
  have HS4 := Lib.hid (HS3.out.next hB)
  have HLE := Lib.hid hle'
  have HM := Lib.hid hm
  rw [hm] at ho hlen ⊢
  have HOW := Lib.hid ho
  have HCELLS := Lib.hid hcells
  have HTOT := Lib.hid (addAll_le ls hle')
  clear ho hle hle' hls hB HS3 HRow3 hm hcells
  go_wp2_with (fail)
  go_loopw [12, 13] (fun nd i wr => ∃ k : Nat, k ≤ m ∧ i = .int .i64 k ∧ nd = .int .i64 ((T0.addAll (ls.take k)).size : Nat) ∧ Below w4.heap.size w4 wr) (fun _ i _ => m - (intOf i).toNat)
  case atStart => exact ⟨0, by omega, rfl, rfl, Below.refl _ _⟩
  case round =>
    obtain ⟨k, hk, rfl, rfl, hB⟩ := hrel
    have HB := Lib.hid hB
    by_cases hlt : k < m
    · have hlt' : (k : Int) < (m : Int) := by omega
      obtain ⟨x, hx⟩ : ∃ x, ls[k]? = some x := ⟨_, List.getElem?_eq_getElem (by have := HM.out; omega)⟩
      obtain ⟨g, rfl, hg, hcx⟩ := HCELLS.out k x hx
      have hcw : wr.cell? ⟨g, k, none⟩ = some (.string x) := (hB.cell (p := ⟨g, k, none⟩) hg).trans hcx
      have hxs := HLE.out x (List.mem_of_getElem? hx)
      have hput := fun W => refPutString_c x W hxs
      have hstep := addAll_take1 T0 ls k x hx
      have hkl : (T0.addAll (ls.take k)).size ≤ 65600 * k := by
        have := addAll_le (ls.take k) (fun r hr => HLE.out r (List.mem_of_mem_take hr))
        rw [List.length_take] at this
        omega
      have hps := putS_le x hxs
      have hs2 : (putS x).size ≤ 70000 := by omega
      have hq2 : (T0.addAll (ls.take k)).size ≤ 400000 := by omega
      obtain ⟨s, hs⟩ : ∃ s, putS x = s := ⟨_, rfl⟩
      obtain ⟨q, hq⟩ : ∃ q, (T0.addAll (ls.take k)).size = q := ⟨_, rfl⟩
      rw [hs] at hput hps hstep hs2
      rw [hq] at hkl hstep hq2 ⊢
      have HPUT := Lib.hid hput
      have HST := Lib.hid hstep
      have hk0 : (0 : Int) ≤ (k : Int) := by omega
      clear hx hcx hxs hput hstep hs hq hB
      go_wp2_with (go_at_call 10; refine (HPUT.out _).mono ?_; rintro e w5 ⟨rfl, hB5⟩; have HB5 := Lib.hid hB5; clear hB5)
      refine ⟨⟨k + 1, by omega, by simp, ?_, HB.out.trans (HB5.out.mono HB.out.size)⟩, by simp [intOf]; omega⟩
      rw [HST.out]
      simp
    · have hkm : k = m := by omega
      subst hkm
      have htk : ls.take k = ls := by rw [← HM.out, List.take_length]
      rw [htk]
      have HS5 := Lib.hid (HS4.out.next hB)
      have HO5 := Lib.hid (own_next HOW.out hB)
      have hlt' : ¬ ((k : Int) < (k : Int)) := by omega
      obtain ⟨S, hS⟩ : ∃ S, (T0.addAll ls).size = S := ⟨_, rfl⟩
      have hSle : S ≤ 65600 * 6 := by have := HTOT.out; have := HM.out; omega
      rw [hS]
      have HSS := Lib.hid hS
      clear hB htk HB HS4 HOW HCELLS hS hlt
      have hei := HS5.out.either HR.out (lv := .slice lp k lc) (by rw [HM.out]; exact HO5.out) (by have := HM.out; omega) HLE.out HSS.out
      have HEI := Lib.hid hei
      clear hei
      go_wp2_with (fail)
      refine HEI.out.mono ?_
      rintro e w6 ⟨c, recs, base6, D6, rm, rfl, hs, ho, hN, hcase⟩
      have HS6 := Lib.hid hs
      have HO6 := Lib.hid ho
      have HN6 := Lib.hid hN
      clear hs ho hN HS5 HO5 HEI
      have hk6 : k ≤ 6 := by omega
      rcases hcase with ⟨hfit, rfl, hrm⟩ | ⟨hfit, rfl, hrm⟩
      rotate_left 1
      · have hfit' : ¬ (S : Int) ≤ (N : Int) := by omega
        go_wp2_with (go_at_call 7; refine (HSZ.out _).mono ?_; rintro e w' ⟨rfl, rfl⟩)
        refine (HS6.out.room HN6.out).mono ?_
        rintro e w7 ⟨rfl, hB⟩
        have HS7 := Lib.hid (HS6.out.next hB)
        have HO7 := Lib.hid (own_next HO6.out hB)
        clear hB HS6 HO6
        rw [hrm]
        clear hrm
        go_wp2_with (go_at_call 7; refine (HSZ.out _).mono ?_; rintro e w' ⟨rfl, rfl⟩)
        clear hfit' hfit
        have hbl := HS7.out.dsk.disk.lt
        have hjbl : jb < w7.heap.size := by obtain ⟨rv, hT⟩ := HS7.out.j.tape; exact blk_lt hT.blk
        refine HS7.out.records.mono ?_
        rintro e w8 ⟨wp, wc, rfl, hrow, hge, hB⟩
        have HS8 := Lib.hid (HS7.out.next hB)
        have HO8 := Lib.hid (own_next HO7.out hB)
        obtain ⟨rl, hrl⟩ : ∃ rl, recs.length = rl := ⟨_, rfl⟩
        rw [hrl] at hrow hge ⊢
        have HW8 := Lib.hid hrow
        have HGE := Lib.hid hge
        have HRL := Lib.hid hrl
        have HBL := Lib.hid hbl
        have HJBL := Lib.hid hjbl
        obtain ⟨L, hL⟩ : ∃ L, 65537 + pm = L := ⟨_, rfl⟩
        have hLi : (65537 : Int) + (pm : Int) = (L : Int) := by omega
        have hLw : IntKind.i64.wrap (L : Int) = (L : Int) := i64_id _ (by omega) (by omega)
        have hmk : ∀ W : World, (Instr.makeSlice 38 (.int .i64 L) (.int .i64 L)).run Tryd.prog W = .ok (.slice (some ⟨W.heap.size, 0, none⟩) L L) (W.alloc (.cells (madeCells #[.int .u8 0] L) 5)) := run_make_row' (P := Tryd.prog) 38 5 (.int .u8 0) 1 Tryd.underlying38 info_u8'' rfl .i64 .i64 L (by omega) (by omega)
        have hcv := mk_conv L
        obtain ⟨Z, hZ⟩ : ∃ Z, madeCells #[.int .u8 0] L = Z := ⟨_, rfl⟩
        obtain ⟨z, hz⟩ : ∃ z, (⟨(List.replicate L 0).toArray⟩ : ByteArray) = z := ⟨_, rfl⟩
        rw [hZ] at hmk hcv
        rw [hz] at hcv
        have hany : anyLong (ls ++ [z]) = true := by
          have : z.size = L := by rw [← hz]; exact zS_size L
          unfold anyLong
          rw [List.any_eq_true]
          exact ⟨z, by simp, by simp; omega⟩
        have he0 : (w8.alloc (.cells #[] 9)).ownsRow w8.heap.size 9 1 (.slice (some ⟨w8.heap.size, 0, none⟩) 0 0) 0 [] := ⟨rfl, .inr ⟨w8.heap.size, 0, #[], rfl, Nat.le_refl _, World.alloc_heap_new _ _, Nat.le_refl _, by simp [maxLen], rfl, rfl⟩⟩
        have hal : Below w8.heap.size w8 (w8.alloc (.cells #[] 9)) := (Below.refl _ w8).alloc (Nat.le_refl _) _
        have hrow8 : Row (w8.alloc (.cells #[] 9)) (.slice lp k lc) ls := own_row (own_next HO8.out hal)
        have hb1 : (0 + ls.length) * 16 ≤ 140737488355328 := by have := HM.out; omega
        have hb2 : w8.heap.size ≤ (w8.alloc (.cells #[] 9)).heap.size := by simp
        have hb3 : (k + [z].length) * 16 ≤ 140737488355328 := by simp; omega
        have HE0 := Lib.hid he0
        have HR8 := Lib.hid hrow8
        have HB1 := Lib.hid hb1
        have HB2 := Lib.hid hb2
        have HB3 := Lib.hid hb3
        have HAL := Lib.hid hal
        have HANY := Lib.hid hany
        clear hrow hge hB hrl hL hZ hz hany he0 hal hrow8 hb1 hb2 hb3 hbl hjbl HS7 HO7
        go_wp2_with (first
          | (go_at_call 14; refine (HPK.out _).mono ?_; rintro e w' ⟨rfl, rfl⟩)
          | (at_builtin; refine wpList_append_row rfl (.tmp 106) (.tmp 107) 22 rfl w8.heap.size 9 (.string ⟨#[]⟩) Tryd.underlying22 info_str rfl (some ⟨w8.heap.size, 0, none⟩) 0 0 [] rfl HE0.out (Nat.le_refl _) (.slice lp k lc) ls rfl HR8.out HB1.out HB2.out ?_; intro v1 w9 hO9 hG9; rw [Nat.zero_add, HM.out, List.nil_append] at hO9; obtain ⟨p9, c9, rfl, hnc9⟩ := own_cap hO9; have hf9 : Fr (fun r => w8.heap.size ≤ r) (w8.alloc (.cells #[] 9)) w9 := Fr.of_grown hG9 (fun r hr => .inl (by cases hr; exact Nat.le_refl _)); have hB9 := below_fr HAL.out hf9 (fun _ h => h); have hal9 : Below w9.heap.size w9 ((w9.alloc (.cells Z 5)).alloc (.cells #[.string z] 9)) := ((Below.refl _ w9).alloc (Nat.le_refl _) _).alloc (by simp) _; have hO10 := own_next hO9 hal9; have hrz := row_lit (W := w9.alloc (.cells Z 5)) [z] 1 9; rw [World.size_alloc] at hrz; have hb4 : w8.heap.size ≤ ((w9.alloc (.cells Z 5)).alloc (.cells #[.string z] 9)).heap.size := Nat.le_trans hB9.size hal9.size; have HB10 := Lib.hid (hB9.trans (hal9.mono hB9.size)); have HO10 := Lib.hid hO10; have HRZ := Lib.hid hrz; have HB4 := Lib.hid hb4; have HNC := Lib.hid hnc9; clear hO9 hG9 hf9 hB9 hnc9 hal9 hO10 hrz hb4)
          | (at_builtin; refine wpList_append_row rfl (.tmp 108) (.tmp 114) 22 rfl w8.heap.size 9 (.string ⟨#[]⟩) Tryd.underlying22 info_str rfl p9 k c9 (ls.map Value.string) rfl HO10.out HNC.out (.slice (some ⟨w9.heap.size + 1, 0, none⟩) 1 1) [z] rfl HRZ.out HB3.out HB4.out ?_; intro v2 wA hOA hGA; have hfA : Fr (fun r => w8.heap.size ≤ r) ((w9.alloc (.cells Z 5)).alloc (.cells #[.string z] 9)) wA := Fr.of_grown hGA (fun r hr => .inl (own_ge HO10.out r hr)); have hBA := below_fr HB10.out hfA (fun _ h => h); have hrA : Row wA v2 (ls ++ [z]) := own_row (by rw [List.map_append, List.length_append, HM.out]; exact hOA); have HBA := Lib.hid hBA; have HRA := Lib.hid hrA; clear hOA hGA hfA hBA hrA))
        refine ((HS8.out.next HBA.out).long HRA.out (by rw [List.length_append, HM.out]; simp; omega) HANY.out).mono ?_
        rintro e w' ⟨rfl, rfl⟩
        have HSA := Lib.hid (HS8.out.next HBA.out)
        have HOA := Lib.hid (own_next HO8.out HBA.out)
        have HWA := Lib.hid (HW8.out.same HBA.out)
        clear hmk hcv hLi hLw HS8 HO8 HW8 HBA HRA HB10 HO10 HRZ HB4 HNC HE0 HR8 HB1 HB2 HB3 HAL HANY
        go_wp2_with (fail)
        refine (HSA.out.dsk.offNil HSA.out.j HR.out HSA.out.left HSA.out.np).mono ?_
        rintro e wB ⟨rfl, hB⟩
        have HSB := Lib.hid (HSA.out.next hB)
        have HOB := Lib.hid (own_next HOA.out hB)
        have HWB := Lib.hid (HWA.out.same hB)
        clear hB HSA HOA HWA
        go_wp2_with (fail)
        refine HSB.out.cut0.mono ?_
        rintro e wC ⟨rfl, hd, hj, hf⟩
        have HOC := Lib.hid (own_keep HOB.out hf (fun g cs hg e => by subst e; have := HSB.out.dsk.disk.blk; rw [hg] at this; simp at this))
        have HWC := Lib.hid (HWB.out.fr hf (fun g c n e e2 => by have := HGE.out g c n e; have := HBL.out; omega))
        have hl := HSB.out.left
        have hnp := HSB.out.np
        have hnn := HSB.out.n
        obtain ⟨D7, hD7⟩ : ∃ D7, { D6 with off := true, left := 0 } = D7 := ⟨_, rfl⟩
        have ho7 : D7.off = true := by rw [← hD7]
        have hl7 : D7.left = 0 := by rw [← hD7]
        have hp7 : D7.np = 0 := by rw [← hD7]; exact hnp
        have hn7 : D7.n = N := by rw [← hD7]; exact hnn
        rw [hD7] at hd
        have HDC := Lib.hid hd
        have HJC := Lib.hid hj
        have HO7' := Lib.hid ho7
        have HL7 := Lib.hid hl7
        have HP7 := Lib.hid hp7
        have HN7 := Lib.hid hn7
        have HJL := Lib.hid HSB.out.jl
        clear hd hj hf hl hnp hnn hD7 ho7 hl7 hp7 hn7 HSB HOB HWB
        go_wp2_with (fail)
        have hrx : Row (wC.alloc (.cells #[.string ⟨#[120]⟩] 9)) (.slice (some ⟨wC.heap.size, 0, none⟩) 1 1) [sX] := row_lit [sX] 1 9
        have halc : Below wC.heap.size wC (wC.alloc (.cells #[.string ⟨#[120]⟩] 9)) := (Below.refl _ wC).alloc (Nat.le_refl _) _
        by_cases hsm : rm < 35
        · have hsm' : (rm : Int) < 35 := by omega
          refine ((HDC.out.next halc).offFull (HJC.out.next halc) HR.out hrx (by decide) (by decide) HL7.out HP7.out (by rw [HN7.out, size_x]; have := HN6.out; omega)).mono ?_
          rintro e wD ⟨rfl, hB⟩
          have hBD := halc.trans (hB.mono halc.size)
          have HDD := Lib.hid (HDC.out.next hBD)
          have HJD := Lib.hid (HJC.out.next hBD)
          have HOD := Lib.hid (own_next HOC.out hBD)
          have HWD := Lib.hid (HWC.out.same hBD)
          clear hrx halc hB hBD hsm HDC HJC HOC HWC
          go_wp2_with (fail)
          refine (HDD.out.roomEq HJD.out (by rw [HN7.out]; exact HN6.out)).mono ?_
          rintro e wE ⟨rfl, hB⟩
          have HDE := Lib.hid (HDD.out.next hB)
          have HJE := Lib.hid (HJD.out.next hB)
          have HOE := Lib.hid (own_next HOD.out hB)
          have HWE := Lib.hid (HWD.out.same hB)
          clear hB HDD HJD HOD HWD
          go_wp2_with (fail)
          refine (HDE.out.offNil HJE.out HR.out HL7.out HP7.out).mono ?_
          rintro e wF ⟨rfl, hB⟩
          have HDF := Lib.hid (HDE.out.next hB)
          have HJF := Lib.hid (HJE.out.next hB)
          have HOF := Lib.hid (own_next HOE.out hB)
          have HWF := Lib.hid (HWE.out.same hB)
          clear hB HDE HJE HOE HWE
          go_wp2_with (fail)
          refine (HDF.out.recordsRow HJF.out).mono ?_
          rintro e wG ⟨p2, c2, rfl, hrG, hB⟩
          have HBG := Lib.hid (HDF.out.next hB).bel
          have HSM := Lib.hid (same_true _ _ recs wG hrG (HWF.out.same hB) (by have := T0_len recs; have := HN6.out; omega))
          clear hrG hB
          rw [HRL.out]
          rw [HRL.out] at HSM
          go_wp2_with (fail)
          refine HSM.out.mono ?_
          rintro e wH ⟨rfl, hB⟩
          have HBH := Lib.hid (HBG.out.trans (hB.mono HBG.out.size))
          clear hB HSM
          go_wp2_with (fail)
          refine (Append_nil _ wH).mono ?_
          rintro e w' ⟨rfl, rfl⟩
          go_wp2_with (fail)
          refine (Records_nil wH).mono ?_
          rintro e w' ⟨rfl, rfl⟩
          go_wp2_with (fail)
          refine (Room_nil wH).mono ?_
          rintro e w' ⟨rfl, rfl⟩
          go_wp2_with (fail)
          go_ret
          exact ⟨rfl, HBH.out⟩
        · have hsm' : ¬ (rm : Int) < 35 := by omega
          refine ((HDC.out.next halc).offDead (HJC.out.next halc) HR.out hrx (by decide) (by decide) HL7.out HP7.out HO7'.out (by decide) (by rw [HN7.out, size_x]; have := HN6.out; omega) HJL.out).mono ?_
          rintro e wD ⟨rfl, hJ, hD, hf⟩
          have hO1 := own_next HOC.out halc
          have hW1 := HWC.out.same halc
          have HDD := Lib.hid hD
          have HJD := Lib.hid hJ
          have HOD := Lib.hid (own_keep hO1 hf (fun g cs hg e => by subst e; obtain ⟨rv, hT⟩ := (HJC.out.next halc).tape; have := hT.blk; rw [hg] at this; simp at this))
          have HWD := Lib.hid (hW1.fr hf (fun g c n e e2 => by have := HGE.out g c n e; have := HJBL.out; omega))
          clear hrx halc hJ hD hf hO1 hW1 hsm HDC HJC HOC HWC
          go_wp2_with (fail)
          refine (HDD.out.roomEq HJD.out (by rw [HN7.out]; exact HN6.out)).mono ?_
          rintro e wE ⟨rfl, hB⟩
          have HDE := Lib.hid (HDD.out.next hB)
          have HJE := Lib.hid (HJD.out.next hB)
          have HOE := Lib.hid (own_next HOD.out hB)
          have HWE := Lib.hid (HWD.out.same hB)
          clear hB HDD HJD HOD HWD
          go_wp2_with (fail)
          refine (Append_broken jb base6 b (T0.addAll recs) _ wE HJE.out).mono ?_
          rintro e wF ⟨rfl, rfl⟩
          have HDF := HDE
          have HJF := HJE
          have HOF := HOE
          have HWF := HWE
          go_wp2_with (fail)
          refine (HDF.out.recordsRow HJF.out).mono ?_
          rintro e wG ⟨p2, c2, rfl, hrG, hB⟩
          have HBG := Lib.hid (HDF.out.next hB).bel
          have HSM := Lib.hid (same_true _ _ recs wG hrG (HWF.out.same hB) (by have := T0_len recs; have := HN6.out; omega))
          clear hrG hB
          rw [HRL.out]
          rw [HRL.out] at HSM
          go_wp2_with (fail)
          refine HSM.out.mono ?_
          rintro e wH ⟨rfl, hB⟩
          have HBH := Lib.hid (HBG.out.trans (hB.mono HBG.out.size))
          clear hB HSM
          go_wp2_with (fail)
          refine (Append_nil _ wH).mono ?_
          rintro e w' ⟨rfl, rfl⟩
          go_wp2_with (fail)
          refine (Records_nil wH).mono ?_
          rintro e w' ⟨rfl, rfl⟩
          go_wp2_with (fail)
          refine (Room_nil wH).mono ?_
          rintro e w' ⟨rfl, rfl⟩
          go_wp2_with (fail)
          go_ret
          exact ⟨rfl, HBH.out⟩
      · have hfit' : (S : Int) ≤ (N : Int) := by omega
        go_wp2_with (go_at_call 7; refine (HSZ.out _).mono ?_; rintro e w' ⟨rfl, rfl⟩)
        refine (HS6.out.room HN6.out).mono ?_
        rintro e w7 ⟨rfl, hB⟩
        have HS7 := Lib.hid (HS6.out.next hB)
        have HO7 := Lib.hid (own_next HO6.out hB)
        clear hB HS6 HO6
        go_wp2_with (go_at_call 7; refine (HSZ.out _).mono ?_; rintro e w' ⟨rfl, rfl⟩)
        clear hfit' hfit hrm
        have hbl := HS7.out.dsk.disk.lt
        have hjbl : jb < w7.heap.size := by obtain ⟨rv, hT⟩ := HS7.out.j.tape; exact blk_lt hT.blk
        refine HS7.out.records.mono ?_
        rintro e w8 ⟨wp, wc, rfl, hrow, hge, hB⟩
        have HS8 := Lib.hid (HS7.out.next hB)
        have HO8 := Lib.hid (own_next HO7.out hB)
        obtain ⟨rl, hrl⟩ : ∃ rl, recs.length = rl := ⟨_, rfl⟩
        rw [hrl] at hrow hge ⊢
        have HW8 := Lib.hid hrow
        have HGE := Lib.hid hge
        have HRL := Lib.hid hrl
        have HBL := Lib.hid hbl
        have HJBL := Lib.hid hjbl
        obtain ⟨L, hL⟩ : ∃ L, 65537 + pm = L := ⟨_, rfl⟩
        have hLi : (65537 : Int) + (pm : Int) = (L : Int) := by omega
        have hLw : IntKind.i64.wrap (L : Int) = (L : Int) := i64_id _ (by omega) (by omega)
        have hmk : ∀ W : World, (Instr.makeSlice 38 (.int .i64 L) (.int .i64 L)).run Tryd.prog W = .ok (.slice (some ⟨W.heap.size, 0, none⟩) L L) (W.alloc (.cells (madeCells #[.int .u8 0] L) 5)) := run_make_row' (P := Tryd.prog) 38 5 (.int .u8 0) 1 Tryd.underlying38 info_u8'' rfl .i64 .i64 L (by omega) (by omega)
        have hcv := mk_conv L
        obtain ⟨Z, hZ⟩ : ∃ Z, madeCells #[.int .u8 0] L = Z := ⟨_, rfl⟩
        obtain ⟨z, hz⟩ : ∃ z, (⟨(List.replicate L 0).toArray⟩ : ByteArray) = z := ⟨_, rfl⟩
        rw [hZ] at hmk hcv
        rw [hz] at hcv
        have hany : anyLong (ls ++ [z]) = true := by
          have : z.size = L := by rw [← hz]; exact zS_size L
          unfold anyLong
          rw [List.any_eq_true]
          exact ⟨z, by simp, by simp; omega⟩
        have he0 : (w8.alloc (.cells #[] 9)).ownsRow w8.heap.size 9 1 (.slice (some ⟨w8.heap.size, 0, none⟩) 0 0) 0 [] := ⟨rfl, .inr ⟨w8.heap.size, 0, #[], rfl, Nat.le_refl _, World.alloc_heap_new _ _, Nat.le_refl _, by simp [maxLen], rfl, rfl⟩⟩
        have hal : Below w8.heap.size w8 (w8.alloc (.cells #[] 9)) := (Below.refl _ w8).alloc (Nat.le_refl _) _
        have hrow8 : Row (w8.alloc (.cells #[] 9)) (.slice lp k lc) ls := own_row (own_next HO8.out hal)
        have hb1 : (0 + ls.length) * 16 ≤ 140737488355328 := by have := HM.out; omega
        have hb2 : w8.heap.size ≤ (w8.alloc (.cells #[] 9)).heap.size := by simp
        have hb3 : (k + [z].length) * 16 ≤ 140737488355328 := by simp; omega
        have HE0 := Lib.hid he0
        have HR8 := Lib.hid hrow8
        have HB1 := Lib.hid hb1
        have HB2 := Lib.hid hb2
        have HB3 := Lib.hid hb3
        have HAL := Lib.hid hal
        have HANY := Lib.hid hany
        clear hrow hge hB hrl hL hZ hz hany he0 hal hrow8 hb1 hb2 hb3 hbl hjbl HS7 HO7
        go_wp2_with (first
          | (go_at_call 14; refine (HPK.out _).mono ?_; rintro e w' ⟨rfl, rfl⟩)
          | (at_builtin; refine wpList_append_row rfl (.tmp 106) (.tmp 107) 22 rfl w8.heap.size 9 (.string ⟨#[]⟩) Tryd.underlying22 info_str rfl (some ⟨w8.heap.size, 0, none⟩) 0 0 [] rfl HE0.out (Nat.le_refl _) (.slice lp k lc) ls rfl HR8.out HB1.out HB2.out ?_; intro v1 w9 hO9 hG9; rw [Nat.zero_add, HM.out, List.nil_append] at hO9; obtain ⟨p9, c9, rfl, hnc9⟩ := own_cap hO9; have hf9 : Fr (fun r => w8.heap.size ≤ r) (w8.alloc (.cells #[] 9)) w9 := Fr.of_grown hG9 (fun r hr => .inl (by cases hr; exact Nat.le_refl _)); have hB9 := below_fr HAL.out hf9 (fun _ h => h); have hal9 : Below w9.heap.size w9 ((w9.alloc (.cells Z 5)).alloc (.cells #[.string z] 9)) := ((Below.refl _ w9).alloc (Nat.le_refl _) _).alloc (by simp) _; have hO10 := own_next hO9 hal9; have hrz := row_lit (W := w9.alloc (.cells Z 5)) [z] 1 9; rw [World.size_alloc] at hrz; have hb4 : w8.heap.size ≤ ((w9.alloc (.cells Z 5)).alloc (.cells #[.string z] 9)).heap.size := Nat.le_trans hB9.size hal9.size; have HB10 := Lib.hid (hB9.trans (hal9.mono hB9.size)); have HO10 := Lib.hid hO10; have HRZ := Lib.hid hrz; have HB4 := Lib.hid hb4; have HNC := Lib.hid hnc9; clear hO9 hG9 hf9 hB9 hnc9 hal9 hO10 hrz hb4)
          | (at_builtin; refine wpList_append_row rfl (.tmp 108) (.tmp 114) 22 rfl w8.heap.size 9 (.string ⟨#[]⟩) Tryd.underlying22 info_str rfl p9 k c9 (ls.map Value.string) rfl HO10.out HNC.out (.slice (some ⟨w9.heap.size + 1, 0, none⟩) 1 1) [z] rfl HRZ.out HB3.out HB4.out ?_; intro v2 wA hOA hGA; have hfA : Fr (fun r => w8.heap.size ≤ r) ((w9.alloc (.cells Z 5)).alloc (.cells #[.string z] 9)) wA := Fr.of_grown hGA (fun r hr => .inl (own_ge HO10.out r hr)); have hBA := below_fr HB10.out hfA (fun _ h => h); have hrA : Row wA v2 (ls ++ [z]) := own_row (by rw [List.map_append, List.length_append, HM.out]; exact hOA); have HBA := Lib.hid hBA; have HRA := Lib.hid hrA; clear hOA hGA hfA hBA hrA))
        refine ((HS8.out.next HBA.out).long HRA.out (by rw [List.length_append, HM.out]; simp; omega) HANY.out).mono ?_
        rintro e w' ⟨rfl, rfl⟩
        have HSA := Lib.hid (HS8.out.next HBA.out)
        have HOA := Lib.hid (own_next HO8.out HBA.out)
        have HWA := Lib.hid (HW8.out.same HBA.out)
        clear hmk hcv hLi hLw HS8 HO8 HW8 HBA HRA HB10 HO10 HRZ HB4 HNC HE0 HR8 HB1 HB2 HB3 HAL HANY
        go_wp2_with (fail)
        refine (HSA.out.dsk.offNil HSA.out.j HR.out HSA.out.left HSA.out.np).mono ?_
        rintro e wB ⟨rfl, hB⟩
        have HSB := Lib.hid (HSA.out.next hB)
        have HOB := Lib.hid (own_next HOA.out hB)
        have HWB := Lib.hid (HWA.out.same hB)
        clear hB HSA HOA HWA
        go_wp2_with (fail)
        refine HSB.out.cut0.mono ?_
        rintro e wC ⟨rfl, hd, hj, hf⟩
        have HOC := Lib.hid (own_keep HOB.out hf (fun g cs hg e => by subst e; have := HSB.out.dsk.disk.blk; rw [hg] at this; simp at this))
        have HWC := Lib.hid (HWB.out.fr hf (fun g c n e e2 => by have := HGE.out g c n e; have := HBL.out; omega))
        have hl := HSB.out.left
        have hnp := HSB.out.np
        have hnn := HSB.out.n
        obtain ⟨D7, hD7⟩ : ∃ D7, { D6 with off := true, left := 0 } = D7 := ⟨_, rfl⟩
        have ho7 : D7.off = true := by rw [← hD7]
        have hl7 : D7.left = 0 := by rw [← hD7]
        have hp7 : D7.np = 0 := by rw [← hD7]; exact hnp
        have hn7 : D7.n = N := by rw [← hD7]; exact hnn
        rw [hD7] at hd
        have HDC := Lib.hid hd
        have HJC := Lib.hid hj
        have HO7' := Lib.hid ho7
        have HL7 := Lib.hid hl7
        have HP7 := Lib.hid hp7
        have HN7 := Lib.hid hn7
        have HJL := Lib.hid HSB.out.jl
        clear hd hj hf hl hnp hnn hD7 ho7 hl7 hp7 hn7 HSB HOB HWB
        go_wp2_with (fail)
        have hrx : Row (wC.alloc (.cells #[.string ⟨#[120]⟩] 9)) (.slice (some ⟨wC.heap.size, 0, none⟩) 1 1) [sX] := row_lit [sX] 1 9
        have halc : Below wC.heap.size wC (wC.alloc (.cells #[.string ⟨#[120]⟩] 9)) := (Below.refl _ wC).alloc (Nat.le_refl _) _
        by_cases hsm : rm < 35
        · have hsm' : (rm : Int) < 35 := by omega
          refine ((HDC.out.next halc).offFull (HJC.out.next halc) HR.out hrx (by decide) (by decide) HL7.out HP7.out (by rw [HN7.out, size_x]; have := HN6.out; omega)).mono ?_
          rintro e wD ⟨rfl, hB⟩
          have hBD := halc.trans (hB.mono halc.size)
          have HDD := Lib.hid (HDC.out.next hBD)
          have HJD := Lib.hid (HJC.out.next hBD)
          have HOD := Lib.hid (own_next HOC.out hBD)
          have HWD := Lib.hid (HWC.out.same hBD)
          clear hrx halc hB hBD hsm HDC HJC HOC HWC
          go_wp2_with (fail)
          refine (HDD.out.roomEq HJD.out (by rw [HN7.out]; exact HN6.out)).mono ?_
          rintro e wE ⟨rfl, hB⟩
          have HDE := Lib.hid (HDD.out.next hB)
          have HJE := Lib.hid (HJD.out.next hB)
          have HOE := Lib.hid (own_next HOD.out hB)
          have HWE := Lib.hid (HWD.out.same hB)
          clear hB HDD HJD HOD HWD
          go_wp2_with (fail)
          refine (HDE.out.offNil HJE.out HR.out HL7.out HP7.out).mono ?_
          rintro e wF ⟨rfl, hB⟩
          have HDF := Lib.hid (HDE.out.next hB)
          have HJF := Lib.hid (HJE.out.next hB)
          have HOF := Lib.hid (own_next HOE.out hB)
          have HWF := Lib.hid (HWE.out.same hB)
          clear hB HDE HJE HOE HWE
          go_wp2_with (fail)
          refine (HDF.out.recordsRow HJF.out).mono ?_
          rintro e wG ⟨p2, c2, rfl, hrG, hB⟩
          have HBG := Lib.hid (HDF.out.next hB).bel
          have HSM := Lib.hid (same_true _ _ recs wG hrG (HWF.out.same hB) (by have := T0_len recs; have := HN6.out; omega))
          clear hrG hB
          rw [HRL.out]
          rw [HRL.out] at HSM
          go_wp2_with (fail)
          refine HSM.out.mono ?_
          rintro e wH ⟨rfl, hB⟩
          have HBH := Lib.hid (HBG.out.trans (hB.mono HBG.out.size))
          clear hB HSM
          go_wp2_with (fail)
          refine (Append_nil _ wH).mono ?_
          rintro e w' ⟨rfl, rfl⟩
          go_wp2_with (fail)
          refine (Records_nil wH).mono ?_
          rintro e w' ⟨rfl, rfl⟩
          go_wp2_with (fail)
          refine (Room_nil wH).mono ?_
          rintro e w' ⟨rfl, rfl⟩
          go_wp2_with (fail)
          go_ret
          exact ⟨rfl, HBH.out⟩
        · have hsm' : ¬ (rm : Int) < 35 := by omega
          refine ((HDC.out.next halc).offDead (HJC.out.next halc) HR.out hrx (by decide) (by decide) HL7.out HP7.out HO7'.out (by decide) (by rw [HN7.out, size_x]; have := HN6.out; omega) HJL.out).mono ?_
          rintro e wD ⟨rfl, hJ, hD, hf⟩
          have hO1 := own_next HOC.out halc
          have hW1 := HWC.out.same halc
          have HDD := Lib.hid hD
          have HJD := Lib.hid hJ
          have HOD := Lib.hid (own_keep hO1 hf (fun g cs hg e => by subst e; obtain ⟨rv, hT⟩ := (HJC.out.next halc).tape; have := hT.blk; rw [hg] at this; simp at this))
          have HWD := Lib.hid (hW1.fr hf (fun g c n e e2 => by have := HGE.out g c n e; have := HJBL.out; omega))
          clear hrx halc hJ hD hf hO1 hW1 hsm HDC HJC HOC HWC
          go_wp2_with (fail)
          refine (HDD.out.roomEq HJD.out (by rw [HN7.out]; exact HN6.out)).mono ?_
          rintro e wE ⟨rfl, hB⟩
          have HDE := Lib.hid (HDD.out.next hB)
          have HJE := Lib.hid (HJD.out.next hB)
          have HOE := Lib.hid (own_next HOD.out hB)
          have HWE := Lib.hid (HWD.out.same hB)
          clear hB HDD HJD HOD HWD
          go_wp2_with (fail)
          refine (Append_broken jb base6 b (T0.addAll recs) _ wE HJE.out).mono ?_
          rintro e wF ⟨rfl, rfl⟩
          have HDF := HDE
          have HJF := HJE
          have HOF := HOE
          have HWF := HWE
          go_wp2_with (fail)
          refine (HDF.out.recordsRow HJF.out).mono ?_
          rintro e wG ⟨p2, c2, rfl, hrG, hB⟩
          have HBG := Lib.hid (HDF.out.next hB).bel
          have HSM := Lib.hid (same_true _ _ recs wG hrG (HWF.out.same hB) (by have := T0_len recs; have := HN6.out; omega))
          clear hrG hB
          rw [HRL.out]
          rw [HRL.out] at HSM
          go_wp2_with (fail)
          refine HSM.out.mono ?_
          rintro e wH ⟨rfl, hB⟩
          have HBH := Lib.hid (HBG.out.trans (hB.mono HBG.out.size))
          clear hB HSM
          go_wp2_with (fail)
          refine (Append_nil _ wH).mono ?_
          rintro e w' ⟨rfl, rfl⟩
          go_wp2_with (fail)
          refine (Records_nil wH).mono ?_
          rintro e w' ⟨rfl, rfl⟩
          go_wp2_with (fail)
          refine (Room_nil wH).mono ?_
          rintro e w' ⟨rfl, rfl⟩
          go_wp2_with (fail)
          go_ret
          exact ⟨rfl, HBH.out⟩
end Go.Proofs.YtpcmidhhbgjcjaaDoor
