/- The law's fixed examples: sane. -/
import Derived.Test.YtpcmidhhbgjcjaaDoorL4
namespace Go.Proofs.YtpcmidhhbgjcjaaDoor
open Go Go.RowKit

/-- A journal stays as it is where only the disk is written. -/
theorem HasJ.keepD {W W' : World} {jb base b b' : Nat} {P : TP} {br : Bool} {D : DK} (h : HasJ W jb base b' P br) (hD : HasDisk W b D) (hf : Fr (D.foot b) W W') : HasJ W' jb base b' P br := by
  obtain ⟨rv, hT⟩ := h.tape
  refine ⟨⟨rv, hf.blk hT.blk (hD.foot_not hT.blk (by decide) (by decide) (by decide)), hT.c0, hT.c1, hT.c2, ⟨hT.own.1, ?_⟩, hT.tb⟩, h.hh, Nat.le_trans h.bw hf.size⟩
  rcases hT.own.2 with h2 | ⟨g, cap, cur, h2, h3, h4, h5⟩
  · exact .inl h2
  · exact .inr ⟨g, cap, cur, h2, h3, hf.blk h4 (hD.foot_not h4 (by decide) (by decide) (by decide)), h5⟩
theorem row_lit {W : World} (ls : List ByteArray) (cap : Nat) (T : TypeId) : Row (W.alloc (.cells (ls.map Value.string).toArray T)) (.slice (some ⟨W.heap.size, 0, none⟩) ls.length cap) ls := by
  refine .inr ⟨W.heap.size, cap, rfl, by simp, fun i x hx => ?_⟩
  rw [blk_cell (World.alloc_heap_new W _)]
  simp [hx]
theorem mk_conv (n : Nat) (W : World) : (convert 38 9 (.slice (some ⟨W.heap.size, 0, none⟩) n n)).run Tryd.prog (W.alloc (.cells (madeCells #[.int .u8 0] n) 5)) = .ok (.string ⟨(List.replicate n 0).toArray⟩) (W.alloc (.cells (madeCells #[.int .u8 0] n) 5)) :=
  convN W.heap.size n (List.replicate n 0) (by simp) (by rw [made_u8]; exact World.alloc_heap_new W _)
/-- So many zero bytes. -/
def zS (n : Nat) : ByteArray := ⟨(List.replicate n 0).toArray⟩
theorem zS_size (n : Nat) : (zS n).size = n := by
  show (List.replicate n (0 : UInt8)).toArray.size = n
  simp
theorem add_size (T : TP) (r : ByteArray) : (T.add r).size = T.size + 33 + (vb (2 * r.size)).length + r.size := by
  show T.size + (encR T.head r).size = _
  rw [encR_size, putS_size]
  omega
theorem vb_1 (z : Nat) (h : z < 128) : (vb z).length = 1 := by rw [vb_last h]; rfl
theorem vb_2 (z : Nat) (h1 : 128 ≤ z) (h2 : z < 16384) : (vb z).length = 2 := by
  rw [vb_more h1, List.length_cons, vb_1 _ (by omega)]
def sAB : ByteArray := ⟨#[97, 98]⟩
def sE : ByteArray := ⟨#[]⟩
theorem size_0 : (T0.addAll []).size = 0 := rfl
theorem size_ab : (T0.addAll ([] ++ [sAB, sE])).size = 70 := by
  show ((T0.add sAB).add sE).size = 70
  rw [add_size, add_size, vb_1 _ (by decide), vb_1 _ (by decide)]
  rfl
theorem size_ab_n (n : Nat) (h1 : 64 ≤ n) (h2 : n < 8192) : (T0.addAll ([] ++ [sAB, sE] ++ [zS n])).size = 70 + 35 + n := by
  rw [addAll_append]
  show ((T0.addAll ([] ++ [sAB, sE])).add (zS n)).size = _
  rw [add_size, size_ab, zS_size, vb_2 _ (by omega) (by omega)]
theorem bad_load (D : DK) (t : List UInt8) (k : Nat) (h : D.vis = 2 :: t) : loadF D.str (k + 1) T0 = none := by
  have hd : D.str.data.toList.drop 0 = 2 :: t := h
  obtain ⟨hi, hx, _⟩ := drop_head hd
  have hs : stepF D.str T0 = .bad := by
    unfold stepF
    have hi' : T0.size < D.str.size := hi
    have hx' : D.str[T0.size]'hi' = 2 := hx
    rw [dif_pos hi', hx', if_neg (by decide), if_pos (by decide)]
  unfold loadF
  rw [hs]
/-- A byte is written over a disk's first one. -/
theorem Sys.spoil {w0 W : World} {b jb base n : Nat} {D : DK} {recs : List ByteArray} (h : Sys w0 W b jb base n D recs) (hn : 1 ≤ n) :
    Calls Tryd.prog 19 #[.pointer (some ⟨b, 0, none⟩), .int .i64 0, .string ⟨#[2]⟩] W fun e w' => e = .returned (.int .i64 0) ∧ ∃ D', HasDisk w' b D' ∧ D'.off = false ∧ D'.n = n ∧ (∀ k, loadF D'.str (k + 1) T0 = none) ∧ Fr (D.foot b) W w' ∧ Below w0.heap.size w0 w' := by
  have hn' := h.n
  refine (Write_c b 0 ⟨#[2]⟩ D W h.dsk.disk h.off (by rw [hn']; exact hn) (by rw [hn']; exact hn) (by rw [h.np]; omega)).mono ?_
  rintro e w' ⟨rfl, pend, hD, hf, _⟩
  refine ⟨rfl, _, hD, ?_, hn', fun k => bad_load _ (D.vis.drop 1) k ?_, hf, below_fr h.dsk.bel hf h.dsk.lo⟩
  · show (if D.left = 0 then D.off else D.left == 1) = false
    rw [if_pos h.left, h.off]
  · show putAt D.vis 0 [2] = _
    unfold putAt
    simp
/-- Room, the disk's content being whatever it is. -/
theorem HasJ.room0 {W : World} {jb base b : Nat} {P : TP} {br : Bool} {D : DK} (h : HasJ W jb base b P br) (hD : HasDisk W b D) (hs : P.size = D.n) :
    Calls Tryd.prog 12 #[.pointer (some ⟨jb, 0, none⟩)] W fun e w' => e = .returned (.int .i64 0) ∧ Below W.heap.size W w' := by
  obtain ⟨rv, hT⟩ := h.tape
  have hn := hD.nb
  refine (Room_c jb b P.size D W hD ((blk_cell hT.blk 2).trans hT.c2) (blk_cell hT.blk 3) (by omega)).mono ?_
  rintro e w' ⟨rfl, m, rfl⟩
  refine ⟨?_, below_drewN (Below.refl _ _) m⟩
  rw [hs, Int.sub_self]
/-- Records, with the first one at hand. -/
theorem HasJ.records1 {W : World} {jb base b : Nat} {P : TP} {br : Bool} (h : HasJ W jb base b P br) {x : ByteArray} {l : List ByteArray} (hp : P.recs = x :: l) (hl : l.length ≤ 1000) :
    Calls Tryd.prog 13 #[.pointer (some ⟨jb, 0, none⟩)] W fun e w' => ∃ g cap, e = .returned (.slice (some ⟨g, 0, none⟩) (l.length + 1) cap) ∧ w'.cell? ⟨g, 0, none⟩ = some (.string x) ∧ Below W.heap.size W w' := by
  refine (h.records (by rw [hp]; simp; omega)).mono ?_
  rintro e w' ⟨v', rfl, ho, hB⟩
  have hr := own_row ho
  rw [hp] at hr
  rcases hr with ⟨_, h⟩ | ⟨g, cap, rfl, _, hc⟩
  · cases h
  · exact ⟨g, cap, rfl, hc 0 x rfl, hB⟩
set_option maxRecDepth 100000 in
set_option maxHeartbeats 2000000 in
theorem sane_c (a : Addr) (w : World) (hR : HasRound w) (hE : HasErr w a) :
    Calls Tryd.prog 5 #[] w fun e w' => e = .returned (.bool true) ∧ Below w.heap.size w w' := by
  have HR := Lib.hid hR
  have HE := Lib.hid hE
  have hmk : ∀ (n : Nat) (_h : n ≤ 1000000) (W : World), (Instr.makeSlice 38 (.int .i64 n) (.int .i64 n)).run Tryd.prog W = .ok (.slice (some ⟨W.heap.size, 0, none⟩) n n) (W.alloc (.cells (madeCells #[.int .u8 0] n) 5)) := fun n h W => run_make_row' (P := Tryd.prog) 38 5 (.int .u8 0) 1 Tryd.underlying38 info_u8'' rfl .i64 .i64 n (by omega) (by omega) W
  have HMK := Lib.hid hmk
  clear hR hE hmk
  go_enter Tryd.func5, Tryd.ntmps5
  go_wp2_with (fail)
  refine (New_d 200 (by decide) (by decide) w w (Below.refl _ w)).mono ?_
  rintro e w1 ⟨b, D0, rfl, hd, ho, hl, hp, hn, _⟩
  have HD1 := Lib.hid hd
  have HO1 := Lib.hid ho
  have HL1 := Lib.hid hl
  have HP1 := Lib.hid hp
  have HN1 := Lib.hid hn
  clear hd ho hl hp hn
  go_wp2_with (fail)
  refine (New_open HR.out HE.out HD1.out HO1.out HL1.out HP1.out HN1.out).mono ?_
  rintro e w2 ⟨jb, base0, rfl, hs, _⟩
  have HS := Lib.hid hs
  clear HD1 HO1 HL1 HP1 HN1 hs
  go_wp2_with (fail)
  refine HS.out.records.mono ?_
  rintro e w3 ⟨p1, c1, rfl, _, _, hB⟩
  have HS3 := Lib.hid (HS.out.next hB)
  clear HS hB
  go_wp2_with (fail)
  refine (HS3.out.room (m := 200) rfl).mono ?_
  rintro e w4 ⟨rfl, hB⟩
  have HS4 := Lib.hid (HS3.out.next hB)
  clear HS3 hB
  go_wp2_with (fail)
  have hrow : Row (w4.alloc (.cells #[.string ⟨#[97, 98]⟩, .string ⟨#[]⟩] 9)) (.slice (some ⟨w4.heap.size, 0, none⟩) 2 2) [sAB, sE] := row_lit [sAB, sE] 2 9
  refine ((HS4.out.next ((Below.refl _ w4).alloc (Nat.le_refl _) _)).fit HR.out hrow (by decide) (by decide) (by rw [size_ab]; decide)).mono ?_
  rintro e w5 ⟨rfl, base5, D5, hs, _⟩
  have HS5 := Lib.hid hs
  clear hs hrow HS4
  have hmk := HMK.out 96 (by decide)
  have hcv := mk_conv 96 w5
  obtain ⟨Z, hZ⟩ : ∃ Z, madeCells #[.int .u8 0] 96 = Z := ⟨_, rfl⟩
  obtain ⟨z, hz⟩ : ∃ z, (⟨(List.replicate 96 0).toArray⟩ : ByteArray) = z := ⟨_, rfl⟩
  rw [hZ] at hmk hcv
  rw [hz] at hcv
  have hmk' : ∀ W : World, (Instr.makeSlice 38 (.int .i64 96) (.int .i64 96)).run Tryd.prog W = .ok (.slice (some ⟨W.heap.size, 0, none⟩) 96 96) (W.alloc (.cells Z 5)) := hmk
  have hrow := row_lit (W := w5.alloc (.cells Z 5)) [z] 1 9
  rw [World.size_alloc] at hrow
  have hrow' : Row ((w5.alloc (.cells Z 5)).alloc (.cells #[.string z] 9)) (.slice (some ⟨w5.heap.size + 1, 0, none⟩) 1 1) [z] := hrow
  have hal : Below w5.heap.size w5 ((w5.alloc (.cells Z 5)).alloc (.cells #[.string z] 9)) := ((Below.refl _ w5).alloc (Nat.le_refl _) _).alloc (by simp) _
  have hzs : z.size = 96 := by rw [← hz]; exact zS_size 96
  have hze : zS 96 = z := hz
  have HROW := Lib.hid hrow'
  have HAL := Lib.hid hal
  have HZS := Lib.hid hzs
  have HZE := Lib.hid hze
  clear hmk hZ hz hrow hrow' hal hzs hze
  go_wp2_with (fail)
  clear hmk' hcv
  refine ((HS5.out.next HAL.out).full HR.out HROW.out (by simp) (by intro r hr; simp at hr; rw [hr, HZS.out]; decide) (by rw [← HZE.out, size_ab_n _ (by decide) (by decide)]; decide)).mono ?_
  rintro e w6 ⟨rfl, hB⟩
  have HS6 := Lib.hid ((HS5.out.next HAL.out).next hB)
  clear hB HS5 HAL HROW HZS HZE
  go_wp2_with (fail)
  refine (HS6.out.room (m := 130) (by rw [size_ab])).mono ?_
  rintro e w7 ⟨rfl, hB⟩
  have HS7 := Lib.hid (HS6.out.next hB)
  clear HS6 hB
  have hmk := HMK.out 95 (by decide)
  have hcv := mk_conv 95 w7
  obtain ⟨Z, hZ⟩ : ∃ Z, madeCells #[.int .u8 0] 95 = Z := ⟨_, rfl⟩
  obtain ⟨z, hz⟩ : ∃ z, (⟨(List.replicate 95 0).toArray⟩ : ByteArray) = z := ⟨_, rfl⟩
  rw [hZ] at hmk hcv
  rw [hz] at hcv
  have hmk' : ∀ W : World, (Instr.makeSlice 38 (.int .i64 95) (.int .i64 95)).run Tryd.prog W = .ok (.slice (some ⟨W.heap.size, 0, none⟩) 95 95) (W.alloc (.cells Z 5)) := hmk
  have hrow := row_lit (W := w7.alloc (.cells Z 5)) [z] 1 9
  rw [World.size_alloc] at hrow
  have hrow' : Row ((w7.alloc (.cells Z 5)).alloc (.cells #[.string z] 9)) (.slice (some ⟨w7.heap.size + 1, 0, none⟩) 1 1) [z] := hrow
  have hal : Below w7.heap.size w7 ((w7.alloc (.cells Z 5)).alloc (.cells #[.string z] 9)) := ((Below.refl _ w7).alloc (Nat.le_refl _) _).alloc (by simp) _
  have hzs : z.size = 95 := by rw [← hz]; exact zS_size 95
  have hze : zS 95 = z := hz
  have HROW := Lib.hid hrow'
  have HAL := Lib.hid hal
  have HZS := Lib.hid hzs
  have HZE := Lib.hid hze
  clear hmk hZ hz hrow hrow' hal hzs hze
  go_wp2_with (fail)
  clear hmk' hcv
  refine ((HS7.out.next HAL.out).fit HR.out HROW.out (by simp) (by intro r hr; simp at hr; rw [hr, HZS.out]; decide) (by rw [← HZE.out, size_ab_n _ (by decide) (by decide)]; decide)).mono ?_
  rintro e w8 ⟨rfl, base8, D8, hs, _⟩
  have HS8 := Lib.hid hs
  clear hs HS7 HAL HROW HZS
  go_wp2_with (fail)
  refine (HS8.out.reopen HR.out HE.out).mono ?_
  rintro e w9 ⟨kb, kbase, rfl, hs, hB⟩
  have HS9 := Lib.hid (HS8.out.next hB)
  have HK9 := Lib.hid hs
  clear hs HS8 hB
  go_wp2_with (fail)
  refine (HS9.out.spoil (by decide)).mono ?_
  rintro e w10 ⟨rfl, D10, hD, ho, hn, hbad, hf, hB⟩
  have HJ10 := Lib.hid (HS9.out.j.keepD HS9.out.dsk.disk hf)
  have HK10 := Lib.hid (HK9.out.j.keepD HS9.out.dsk.disk hf)
  have HD10 := Lib.hid hD
  have HB10 := Lib.hid hB
  have HO10 := Lib.hid ho
  have HN10 := Lib.hid hn
  have HBAD := Lib.hid hbad
  clear hD ho hn hbad hf hB HS9 HK9
  go_wp2_with (fail)
  refine (Open_bad b a D10 w10 HD10.out HO10.out (round_below HR.out HB10.out (round_size HR.out)) ((HB10.out.cell (p := ⟨0, 0, none⟩) HE.out.lt).trans HE.out) (HBAD.out _)).mono ?_
  rintro e w11 ⟨rfl, hB⟩
  have HJ11 := Lib.hid (HJ10.out.next hB)
  have HK11 := Lib.hid (HK10.out.next hB)
  have HD11 := Lib.hid (HD10.out.below hB)
  have HB11 := Lib.hid (HB10.out.trans (hB.mono HB10.out.size))
  clear hB HJ10 HK10 HD10 HB10 HBAD HO10
  go_wp2_with (fail)
  refine (Open_nil w11).mono ?_
  rintro e w12 ⟨rfl, rfl⟩
  have hrecs : (T0.addAll ([] ++ [sAB, sE] ++ [z])).recs = sAB :: [sE, z] := by rw [T0_recs]; rfl
  have hsize : (T0.addAll ([] ++ [sAB, sE] ++ [z])).size = 200 := by rw [← HZE.out, size_ab_n _ (by decide) (by decide)]
  have HRECS := Lib.hid hrecs
  have HSIZE := Lib.hid hsize
  clear hrecs hsize
  go_wp2_with (fail)
  refine (HJ11.out.room0 HD11.out (by rw [HSIZE.out, HN10.out])).mono ?_
  rintro e w13 ⟨rfl, hB⟩
  have HK13 := Lib.hid (HK11.out.next hB)
  have HB13 := Lib.hid (HB11.out.trans (hB.mono HB11.out.size))
  clear hB HK11 HB11 HJ11 HD11
  go_wp2_with (fail)
  refine (HK13.out.records1 HRECS.out (by simp)).mono ?_
  rintro e w14 ⟨g1, k1, rfl, hc, hB⟩
  have HK14 := Lib.hid (HK13.out.next hB)
  have HB14 := Lib.hid (HB13.out.trans (hB.mono HB13.out.size))
  clear hB HK13 HB13 hc
  simp only [List.length_cons, List.length_nil, Nat.zero_add]
  go_wp2_with (fail)
  refine (HK14.out.records1 HRECS.out (by simp)).mono ?_
  rintro e w15 ⟨g2, k2, rfl, hc, hB⟩
  have HB15 := Lib.hid (HB14.out.trans (hB.mono HB14.out.size))
  have hc' : w15.cell? ⟨g2, 0, none⟩ = some (.string ⟨#[97, 98]⟩) := hc
  clear hB HK14 HB14 hc
  simp only [List.length_cons, List.length_nil, Nat.zero_add]
  go_wp2_with (fail)
  go_ret
  exact ⟨rfl, HB15.out⟩
end Go.Proofs.YtpcmidhhbgjcjaaDoor
