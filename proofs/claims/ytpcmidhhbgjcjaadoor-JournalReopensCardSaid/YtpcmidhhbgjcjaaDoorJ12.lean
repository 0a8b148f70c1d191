/- journal.Append. -/
import Derived.Test.YtpcmidhhbgjcjaaDoorF1
import Derived.Deep.RegionHeld3
import Derived.Deep.DrawnRows
namespace Go.Proofs.YtpcmidhhbgjcjaaDoor
open Go Go.RowKit
attribute [local go_sem ↓] Go.wp_at_zero Go.wp_at_succ

theorem AEnd.drewN {w0 W : World} {t bb : Nat} {P : TP} {ls : List ByteArray} (h : AEnd w0 t bb P ls W) (m : Nat) : AEnd w0 t bb P ls (W.drewN m) := by
  obtain ⟨rv, C, hT⟩ := h.tape
  exact ⟨⟨rv, C, hT.fr (X := fun _ => False) ((Fr.refl _ W).drewN m) id (fun _ _ _ => id)⟩, below_drewN h.fr m, h.ht, h.h0, h.hh⟩
/-- The journal takes the new tape. -/
theorem HasJ.take {w wX wf : World} {jb b t bb : Nat} {P : TP} {ls : List ByteArray} {D D' : DK} {vis : List UInt8} {rv : Value} {C : Array Value} {rp : Value} (hX : Below w.heap.size w wX) (hA : AEnd w t bb P ls wX) (hjf : ¬ D.foot b jb) (hjw : jb < w.heap.size) (hds : DS b D wX vis 0 wf D')
    (hT : HasTape wf t (t + 1) C 56 rv (P.addAll ls).recs (P.addAll ls).head (P.addAll ls).size) (hJ : wf.heap[jb]? = some (.cells #[rp, .string P.head, .int .i64 P.size, .pointer (some ⟨b, 0, none⟩), .bool false] 58 (0, 0))) :
    HasJ (((wf.setCell ⟨jb, 0, none⟩ rv).setCell ⟨jb, 1, none⟩ (.string (P.addAll ls).head)).setCell ⟨jb, 2, none⟩ (.int .i64 (P.addAll ls).size)) jb (t + 1) b (P.addAll ls) false ∧
    HasDisk (((wf.setCell ⟨jb, 0, none⟩ rv).setCell ⟨jb, 1, none⟩ (.string (P.addAll ls).head)).setCell ⟨jb, 2, none⟩ (.int .i64 (P.addAll ls).size)) b D' ∧
    Fr (fun x => x = jb ∨ D.foot b x) w (((wf.setCell ⟨jb, 0, none⟩ rv).setCell ⟨jb, 1, none⟩ (.string (P.addAll ls).head)).setCell ⟨jb, 2, none⟩ (.int .i64 (P.addAll ls).size)) ∧ (∀ r, D'.foot b r → D.foot b r ∨ w.heap.size ≤ r) := by
  have hfs : Fr (fun x => x = jb) wf (((wf.setCell ⟨jb, 0, none⟩ rv).setCell ⟨jb, 1, none⟩ (.string (P.addAll ls).head)).setCell ⟨jb, 2, none⟩ (.int .i64 (P.addAll ls).size)) := (((Fr.refl (fun x => x = jb) wf).setCell (p := ⟨jb, 0, none⟩) (.inl rfl) _).setCell (p := ⟨jb, 1, none⟩) (.inl rfl) _).setCell (p := ⟨jb, 2, none⟩) (.inl rfl) _
  have hfoot : ∀ r, D'.foot b r → D.foot b r ∨ w.heap.size ≤ r := fun r hr => (hds.foot r hr).imp id (fun h => Nat.le_trans hX.size h)
  have hjf' : ¬ D'.foot b jb := fun h => (hfoot jb h).elim hjf (fun h' => by omega)
  have h0 := hA.h0
  have hb : (((wf.setCell ⟨jb, 0, none⟩ rv).setCell ⟨jb, 1, none⟩ (.string (P.addAll ls).head)).setCell ⟨jb, 2, none⟩ (.int .i64 (P.addAll ls).size)).heap[jb]? = some (.cells #[rv, .string (P.addAll ls).head, .int .i64 (P.addAll ls).size, .pointer (some ⟨b, 0, none⟩), .bool false] 58 (0, 0)) := blk_set (blk_set (blk_set hJ 0 _) 1 _) 2 _
  refine ⟨⟨⟨rv, hb, rfl, rfl, rfl, ?_, by omega⟩, hA.hh, ?_⟩, hds.disk.fr hfs (fun r _ hr e => hjf' (e ▸ hr)), ?_, hfoot⟩
  · exact ownsRow_fr hT.own hfs (fun r hr => show ¬ r = jb by omega)
  · have := blk_lt hT.blk
    have := hfs.size
    omega
  · exact ((Fr.of_below (X := fun x => x = jb ∨ D.foot b x) hX).trans hds.fr (fun r hr => .inl (.inr hr))).trans hfs (fun r hr => .inl (.inl hr))
/-- A region's many ways meet again: the frame behind it hangs on two worlds and a number alone. -/
theorem wp_meet {P : Program} {k : Code} {Q : Exit → Act → World → Prop} {a : Act} {w : World} (fr : World → World → Int → Act) (R : Int → World → Prop)
    (region : k.wp P (fun e a' wf => ∃ wa wb c, e = .normal ∧ a' = fr wa wb c ∧ R c wf) a w) (after : ∀ wa wb c wf, R c wf → Q .normal (fr wa wb c) wf) : k.wp P Q a w := by
  refine Code.wp_mono ?_ region
  rintro e a' wf ⟨wa, wb, c, rfl, rfl, h⟩
  exact after wa wb c wf h
theorem run_tail1 {P : Program} (t : TypeId) (ht : P.underlying t = some .string) (s : ByteArray) (h1 : 1 ≤ s.size) (w : World) :
    (Instr.slice t (.string s) (some (.int .i64 1)) none none).run P w = .ok (.string (s.extract 1 s.size)) w := run_tail t ht s 1 h1 w
theorem run_headS {P : Program} (t : TypeId) (ht : P.underlying t = some .string) (s : ByteArray) (h : Nat) (h1 : h ≤ s.size) (w : World) :
    (Instr.slice t (.string s) none (some (.int .i64 (h : Int))) none).run P w = .ok (.string (s.extract 0 h)) w := by
  simp [Instr.slice, run_underlying ht, Instr.sliceBounds, run_sliceBound, h1]
theorem run_head1 {P : Program} (t : TypeId) (ht : P.underlying t = some .string) (s : ByteArray) (h1 : 1 ≤ s.size) (w : World) :
    (Instr.slice t (.string s) none (some (.int .i64 1)) none).run P w = .ok (.string (s.extract 0 1)) w := run_headS t ht s 1 h1 w
set_option maxRecDepth 100000 in
set_option maxHeartbeats 4000000 in
theorem Append_c (jb base b : Nat) (P : TP) (v : Value) (ls : List ByteArray) (D : DK) (w : World) (h : HasJ w jb base b P false) (hD : HasDisk w b D) (hR : HasRound w) (hr : Row w v ls) (hl : ls.length ≤ 100) (hlong : anyLong ls = false) (hP : P.recs.length ≤ P.size) (hPs : P.size ≤ D.n) (hleft : D.left = 0) (hnp : D.np ≤ 100) : Calls Tryd.prog 11 #[.pointer (some ⟨jb, 0, none⟩), v] w fun e w' =>
      (D.n < P.size + (encAll P ls).size ∧ e = .returned (.int .i64 341) ∧ Below w.heap.size w w') ∨
      (P.size + (encAll P ls).size ≤ D.n ∧ (encAll P ls).size = 0 ∧ e = .returned (.int .i64 0) ∧ Below w.heap.size w w') ∨
      (P.size + (encAll P ls).size ≤ D.n ∧ 0 < (encAll P ls).size ∧ D.off = true ∧ e = .returned (.int .i64 331) ∧ HasJ w' jb base b P true ∧ HasDisk w' b D ∧ Fr (fun x => x = jb) w w') ∨
      (P.size + (encAll P ls).size ≤ D.n ∧ 0 < (encAll P ls).size ∧ D.off = false ∧ e = .returned (.int .i64 0) ∧ ∃ base' D', HasJ w' jb base' b (P.addAll ls) false ∧ HasDisk w' b D' ∧ D'.off = false ∧ D'.left = 0 ∧ D'.np = 0 ∧ D'.n = D.n ∧
        D'.vis = putAt (putAt D.vis (P.size + 1) ((encAll P ls).extract 1 (encAll P ls).size).data.toList) P.size ((encAll P ls).extract 0 1).data.toList ∧ Fr (fun x => x = jb ∨ D.foot b x) w w' ∧ (∀ r, D'.foot b r → D.foot b r ∨ w.heap.size ≤ r)) := by
  have hmf : ∀ (fn : Fn) (first cap : Array Value) (w : World), (Instr.makeFunc fn first cap).run Tryd.prog w = .ok (.func fn first cap) w := fun _ _ _ _ => rfl
  have c4 := h.c4
  have hnb := hD.nb
  obtain ⟨rv, hT⟩ := h.tape
  obtain ⟨rp, rn, rc, rfl⟩ := own_slice hT.own
  obtain ⟨vp, vc, rfl, hrow⟩ := hr.slice
  have c0 : w.cell? ⟨jb, 0, none⟩ = some (.slice rp rn rc) := (blk_cell hT.blk 0).trans hT.c0
  have c1 : w.cell? ⟨jb, 1, none⟩ = some (.string P.head) := (blk_cell hT.blk 1).trans hT.c1
  have c2 : w.cell? ⟨jb, 2, none⟩ = some (.int .i64 P.size) := (blk_cell hT.blk 2).trans hT.c2
  have HC := Lib.hid (ContainsFunc_c _ ls w hr (by omega))
  have HL := Lib.hid hlong
  have HJ := Lib.hid h
  have HT := Lib.hid hT
  have HR := Lib.hid hR
  have HRow := Lib.hid hrow
  obtain ⟨hd, hhd⟩ : ∃ hd, P.head = hd := ⟨_, rfl⟩
  obtain ⟨sz, hsz⟩ : ∃ sz, P.size = sz := ⟨_, rfl⟩
  rw [hhd] at c1
  rw [hsz] at c2
  have HHD := Lib.hid hhd
  have HSZ := Lib.hid hsz
  have hB1 : Below w.heap.size w (w.alloc (.cells #[.slice rp rn rc, .string hd, .int .i64 sz] 56)) := (Below.refl _ w).alloc (Nat.le_refl _) _
  have hcl := Clone_c base (.slice rp rn rc) P.recs (w.alloc (.cells #[.slice rp rn rc, .string hd, .int .i64 sz] 56)) (ownsRow_fr (X := fun _ => False) hT.own ((Fr.refl _ w).alloc _) (fun _ _ => id)) (by omega)
  have HCl := Lib.hid hcl
  have HB1 := Lib.hid hB1
  obtain ⟨n, hn⟩ : ∃ n, ls.length = n := ⟨_, rfl⟩
  rw [hn] at HC hl ⊢
  have HN := Lib.hid hn
  obtain ⟨room, hroom⟩ : ∃ room : Nat, D.n = P.size + room := ⟨D.n - P.size, by omega⟩
  have HRM := Lib.hid hroom
  have hrmc : ∀ W, Below w.heap.size w W → Calls Tryd.prog 12 #[.pointer (some ⟨jb, 0, none⟩)] W fun e w' => e = .returned (.int .i64 room) ∧ ∃ m, w' = W.drewN m := by
    intro W hB
    have hTW := hT.fr (X := fun _ => False) (Fr.of_below hB) id (fun _ _ _ => id)
    have hDW := hD.below hB
    have h1 := Room_c jb b P.size D W hDW ((blk_cell hTW.blk 2).trans hTW.c2) (blk_cell hTW.blk 3) (by omega)
    have e : (D.n : Int) - P.size = (room : Int) := by omega
    rw [e] at h1
    exact h1
  have HRMC := Lib.hid hrmc
  clear hrmc
  have HD := Lib.hid hD
  clear hD hroom
  clear h hr hlong hT hR hhd hsz hB1 hcl hrow hn
  go_enter Tryd.func11, Tryd.ntmps11
  go_wp2_with (first
    | (go_at_call 29; refine HC.out.mono ?_; rintro e w' ⟨rfl, rfl⟩; rw [HL.out])
    | (go_at_call 30; refine HCl.out.mono ?_; rintro e w2 ⟨v2, rfl, ho2, hb2⟩; obtain ⟨p2, n2, k2, rfl⟩ := own_slice ho2; have ht2 := (hb2.block w.heap.size (by simp)).trans (World.alloc_heap_new w (.cells #[.slice rp rn rc, .string hd, .int .i64 sz] 56)); have d0 := blk_cell ht2 0; have f0 := blk_free ht2 0; have HO2 := Lib.hid ho2; have HB2 := Lib.hid hb2; have HT2 := Lib.hid ht2; clear ho2 hb2 ht2))
  obtain ⟨t, htt⟩ : ∃ t, w.heap.size = t := ⟨_, rfl⟩
  obtain ⟨bb, hbb⟩ : ∃ bb, w2.heap.size = bb := ⟨_, rfl⟩
  obtain ⟨W3, hW3⟩ : ∃ W3, (w2.setCell ⟨t, 0, none⟩ (.slice p2 n2 k2)).alloc (.cells #[.pointer none, .slice none 0 0] 67) = W3 := ⟨_, rfl⟩
  rw [htt, hbb, hW3]
  have hA0 : ALoop w t bb P ls 0 W3 := by
    have hB2 := HB2.out
    have hs2 := hB2.size
    rw [World.size_alloc] at hs2 hB2
    have hb2 : w2.heap[t]? = some (.cells #[.slice rp rn rc, .string hd, .int .i64 sz] 56 (0, 0)) := by rw [← htt]; exact HT2.out
    have hb3 : (w2.setCell ⟨t, 0, none⟩ (.slice p2 n2 k2)).heap[t]? = some (.cells #[.slice p2 n2 k2, .string hd, .int .i64 sz] 56 (0, 0)) := blk_set hb2 0 _
    have hB3 : Below w.heap.size w W3 := by
      rw [← hW3]
      exact (((HB1.out.trans (hB2.mono (by omega))).setCell (p := ⟨t, 0, none⟩) (by simp only; omega) _).alloc (by simp [World.setCell]; omega) _)
    have hf : Fr (fun x => x = t) w2 W3 := by
      rw [← hW3]
      exact ((Fr.refl (fun x => x = t) w2).setCell (p := ⟨t, 0, none⟩) (.inl rfl) _).alloc _
    have ho := HO2.out
    rw [World.size_alloc, htt] at ho
    have hbW : W3.heap[bb]? = some (.cells #[.pointer none, .slice none 0 0] 67 (0, 0)) := by
      rw [← hW3, ← hbb]
      have := World.alloc_heap_new (w2.setCell ⟨t, 0, none⟩ (.slice p2 n2 k2)) (.cells #[.pointer none, .slice none 0 0] 67)
      simpa [World.setCell] using this
    refine ⟨⟨.slice p2 n2 k2, #[.slice p2 n2 k2, .string hd, .int .i64 sz], ⟨?_, rfl, ?_, ?_, ?_, by omega⟩⟩, .inl ⟨Nat.le_refl _, .slice none 0 0, hbW, World.ownsRowF_nil _ _ _ _, by simp [Value.ownBlock]⟩, round_below HR.out hB3 (round_size HR.out), hB3, by omega, by omega, ?_⟩
    · rw [← hW3]; exact (Below.heap_alloc _ _ _ (blk_lt hb3)).trans hb3
    · rw [← HHD.out]; rfl
    · rw [← HSZ.out]; rfl
    · exact ownsRow_fr ho hf (fun r hr => show ¬ r = t by omega)
    · exact HJ.out.hh
  have HA0 := Lib.hid hA0
  have HTT := Lib.hid htt
  have HBBB := Lib.hid hbb
  clear d0 f0 c4 c0 c1 c2 htt hbb hW3 hA0
  go_loopw [33] (fun i wr => ∃ k : Nat, k ≤ n ∧ i = .int .i64 k ∧ ALoop w t bb P ls k wr) (fun i _ => n - (intOf i).toNat)
  case atStart => exact ⟨0, by omega, rfl, HA0.out⟩
  case round =>
    obtain ⟨k, hk, rfl, hA⟩ := hrel
    by_cases hlt : k < n
    · have hlt' : (k : Int) < (n : Int) := by omega
      have hk' : k < ls.length := by have := HN.out; omega
      obtain ⟨x, hx⟩ : ∃ x, ls[k]? = some x := ⟨_, List.getElem?_eq_getElem hk'⟩
      obtain ⟨g, rfl, hg, hcx⟩ := HRow.out k x hx
      have hcw : wr.cell? ⟨g, k, none⟩ = some (.string x) := (hA.fr.cell (p := ⟨g, k, none⟩) hg).trans hcx
      obtain ⟨rv, C, hT⟩ := hA.tape
      have hxs := anyLong_false HL.out x (List.mem_of_getElem? hx)
      have hle := encAll_le (ls.take k) P (fun r hr => anyLong_false HL.out r (List.mem_of_mem_take hr))
      have hasz := addAll_size P (ls.take k)
      have harec := congrArg List.length (addAll_recs P (ls.take k))
      rw [List.length_append] at harec
      rw [List.length_take] at hle harec
      have hadd := add_t t (t + 1) C _ rv _ _ x _ wr hT hA.round hA.hh (by omega) (by have := bld_lt hA.bld; have := hA.ht; omega) (by omega) (by omega)
      obtain ⟨out, hout⟩ : ∃ out, encR (P.addAll (ls.take k)).head x = out := ⟨_, rfl⟩
      rw [hout] at hadd
      have HADD := Lib.hid hadd
      have HX := Lib.hid hx
      have HA := Lib.hid hA
      have HTp := Lib.hid hT
      have HOUT := Lib.hid hout
      have HLE := Lib.hid hle
      have hos := encAll_le [x] (P.addAll (ls.take k)) (by intro r hr; simp at hr; rw [hr]; exact hxs)
      have hos2 : out.size ≤ 65600 := by
        rw [← hout]
        have : encAll (P.addAll (ls.take k)) [x] = encR (P.addAll (ls.take k)).head x := ByteArray.ext (by simp [encAll])
        rw [this] at hos
        simpa using hos
      have hws : ∀ wA, Lib.IsBuilderF 67 5 bb bb (Lib.byteCells (encAll P (ls.take k)).data.toList) wA → Calls Tryd.prog 31 #[.pointer (some ⟨bb, 0, none⟩), .string out] wA fun e w' => e = .returned (.tuple #[.int .i64 out.size, .nilIface]) ∧ (Lib.BuilderAtF 67 5 bb bb (.pointer (some ⟨bb, 0, none⟩)) (Lib.byteCells (encAll P (ls.take k)).data.toList ++ Lib.strCells out) w' ∧ Below bb wA w' ∧ Lib.OthersKept 5 (some bb) wA w') := by
        intro wA hb
        refine WriteString_c bb bb _ out wA hb ?_ (Nat.le_of_lt (bld_lt hb))
        rw [byteCells_len]
        have e : (encAll P (ls.take k)).data.toList.length = (encAll P (ls.take k)).size := rfl
        omega
      have HWS := Lib.hid hws
      clear hos hos2 hws
      clear hadd hx hA hT hout hcx hasz harec hle hxs hk'
      go_wp2_with (first
        | (go_at_call 32; refine HADD.out.mono ?_; rintro e wA ⟨rfl, rv', hb', ho', hf', hv'⟩; have hnA := HA.out.add HTp.out HX.out hb' (by rw [← HOUT.out, (addAll_take P ls k x HX.out).1]; rfl) ho' hf'; have HNA := Lib.hid hnA; clear hnA hb' ho' hf' hv')
        | (go_at_call 31; refine (HWS.out wA HNA.out.2.1).mono ?_; rintro e wB ⟨rfl, hb, hB, hk⟩; rw [← HOUT.out] at hb; have hnext := HA.out.next HR.out HX.out HNA.out.1 HNA.out.2.2.1 HNA.out.2.2.2 hb hB hk; have HNX := Lib.hid hnext; clear hb hB hk hnext))
      exact ⟨⟨k + 1, by omega, by simp, HNX.out⟩, by simp [intOf]; omega⟩
    · have hkn : k = n := by omega
      subst hkn
      have hlt' : ¬ ((k : Int) < (k : Int)) := by omega
      obtain ⟨hA1, hA2⟩ := hA.fin HN.out
      have HA := Lib.hid hA1
      have HBld := Lib.hid hA2
      clear hA hA1 hA2 hlt
      obtain ⟨out, hout⟩ : ∃ out, encAll P ls = out := ⟨_, rfl⟩
      have hst := Tryd.Builder_String_any_k bb bb (encAll P ls).data.toList wr HBld.out (Nat.le_of_lt (bld_lt HBld.out))
      rw [show (⟨(encAll P ls).data.toList.toArray⟩ : ByteArray) = encAll P ls from ByteArray.ext (by simp), hout] at hst
      have HST := Lib.hid hst
      have HOUT := Lib.hid hout
      clear hst hout
      by_cases hrl : room < out.size
      · go_wp2_with (first
          | (go_at_call 33; refine HST.out.mono ?_; rintro e wS ⟨rfl, hbS, hBS, hkS⟩; have hAS := HA.out.next HBld.out hBS hkS; have HAS := Lib.hid hAS; clear hAS hbS hBS hkS)
          | (go_at_call 12; refine (HRMC.out _ HAS.out.fr).mono ?_; rintro e wm ⟨rfl, m, rfl⟩))
        go_ret
        refine .inl ⟨?_, rfl, below_drewN HAS.out.fr m⟩
        rw [HOUT.out, HRM.out]
        omega
      · by_cases hz : out.size = 0
        · have ho : out = ⟨#[]⟩ := by
            apply ByteArray.ext
            exact Array.eq_empty_of_size_eq_zero hz
          rw [ho] at hrl HST HOUT
          have hrl' : ¬ room < (0 : Nat) := by omega
          clear hrl hz ho
          go_wp2_with (first
            | (go_at_call 33; refine HST.out.mono ?_; rintro e wS ⟨rfl, hbS, hBS, hkS⟩; have hAS := HA.out.next HBld.out hBS hkS; have HAS := Lib.hid hAS; clear hAS hbS hBS hkS)
            | (go_at_call 12; refine (HRMC.out _ HAS.out.fr).mono ?_; rintro e wm ⟨rfl, m, rfl⟩))
          go_ret
          refine .inr (.inl ⟨?_, ?_, rfl, below_drewN HAS.out.fr m⟩)
          · rw [HOUT.out, HRM.out]
            exact Nat.add_le_add_left (Nat.zero_le _) _
          · rw [HOUT.out]; rfl
        · have hne : out.toList.isEmpty = false := by
            rw [Lib.toList_data]
            cases h : out.data.toList with
            | nil => exact absurd (by have := congrArg List.length h; simpa using this) hz
            | cons x l => rfl
          have hpos : 1 ≤ out.size := by omega
          clear hz
          go_wp2_with (first
            | (go_at_call 33; refine HST.out.mono ?_; rintro e wS ⟨rfl, hbS, hBS, hkS⟩; have hAS := HA.out.next HBld.out hBS hkS; have HAS := Lib.hid hAS; clear hAS hbS hBS hkS)
            | (go_at_call 12; refine (HRMC.out _ HAS.out.fr).mono ?_; rintro e wm ⟨rfl, m, rfl⟩))
          obtain ⟨wX, hwX⟩ : ∃ wX, wS.drewN m = wX := ⟨_, rfl⟩
          rw [hwX]
          have hXf : Below w.heap.size w wX := by rw [← hwX]; exact below_drewN HAS.out.fr m
          have hTX := HT.out.fr (X := fun _ => False) (Fr.of_below hXf) id (fun _ _ _ => id)
          have x2 : wX.cell? ⟨jb, 2, none⟩ = some (.int .i64 sz) := by rw [← HSZ.out]; exact (blk_cell hTX.blk 2).trans hTX.c2
          have x3 : wX.cell? ⟨jb, 3, none⟩ = some (.pointer (some ⟨b, 0, none⟩)) := blk_cell hTX.blk 3
          have HXF := Lib.hid hXf
          have HTX := Lib.hid hTX
          have hjl : jb < wX.drew.heap.size := blk_lt hTX.blk
          have hszb : sz ≤ 4194304 := by have := HSZ.out; omega
          obtain ⟨s1, hs1⟩ : ∃ s1, sz + 1 = s1 := ⟨_, rfl⟩
          have hs1' : (sz : Int) + 1 = (s1 : Int) := by omega
          have HS1 := Lib.hid hs1
          have hwrs : IntKind.i64.wrap (s1 : Int) = (s1 : Int) := i64_id _ (by omega) (by omega)
          have hXf' := hXf
          have hAX : AEnd w t bb P ls wX := by rw [← hwX]; exact HAS.out.drewN m
          have HAX := Lib.hid hAX
          clear hwX hXf hTX hs1 hAX
          have hDX := HD.out.below hXf'
          have hjf : ¬ D.foot b jb := hDX.foot_not HTX.out.blk (by decide) (by decide) (by decide)
          have hos : 33 ≤ out.size := by
            have h1 := encAll_33 ls P
            rw [HOUT.out] at h1
            rcases h1 with h1 | h1 <;> omega
          have hrm := HRM.out
          have hsz := HSZ.out
          have hs1 := HS1.out
          have e1 : (out.extract 1 out.size).size = out.size - 1 := by rw [ByteArray.size_extract]; omega
          have e0 : (out.extract 0 1).size = 1 := by rw [ByteArray.size_extract]; omega
          have htl1 := run_tail1 (P := Tryd.prog) 9 Tryd.underlying9 out hpos
          have hhd1 := run_head1 (P := Tryd.prog) 9 Tryd.underlying9 out hpos
          have hpi : (1 : Int) ≤ (out.size : Int) := by omega
          have hfi := fun wa wb hwa hwb => first_any jb b sz s1 (out.extract 1 out.size) (out.extract 0 1) D wX wa wb hDX hleft hnp x2 x3 hjl hjf hwa hwb (by rw [e1]; omega) (by omega) (by rw [e0]; omega) (by omega)
          have HFI := Lib.hid hfi
          have HDX := Lib.hid hDX
          have HJF := Lib.hid hjf
          clear hfi hDX hjf hos hrm hsz hs1 e1 e0 hleft hnp hXf'
          apply wp_meet (R := fun c wf => (D.off = true ∧ c = 331 ∧ Below wX.heap.size wX wf) ∨ (D.off = false ∧ c = 0 ∧ ∃ D', DS b D wX (putAt (putAt D.vis s1 (out.extract 1 out.size).data.toList) sz (out.extract 0 1).data.toList) 0 wf D'))
          case region =>
            go_region_held3 (fun w' => w'.cell? ⟨jb, 2, none⟩ = some (.int .i64 sz) ∧ w'.cell? ⟨jb, 3, none⟩ = some (.pointer (some ⟨b, 0, none⟩))) (first | exact ⟨x2, x3⟩ | exact ⟨ya2, ya3⟩ | exact ⟨yb2, yb3⟩ | exact ⟨Lib.cell?_alloc_some _ yb2, Lib.cell?_alloc_some _ yb3⟩ | exact ⟨yf2, yf3⟩) (first
              | (go_at_call 25; first | (have hwaq := HWA; clear hwaq; refine (writing_w jb sz (out.extract 0 1) _).mono ?_; rintro e wb ⟨rfl, hww⟩; have yb2 := hww.cell ya2 (Nat.lt_of_lt_of_le hjl HWA.out.below.size); have yb3 := hww.cell ya3 (Nat.lt_of_lt_of_le hjl HWA.out.below.size); have HWB := Lib.hid hww; clear hww) | (refine (writing_w jb s1 (out.extract 1 out.size) _).mono ?_; rintro e wa ⟨rfl, hww⟩; have ya2 := hww.cell x2 hjl; have ya3 := hww.cell x3 hjl; have HWA := Lib.hid hww; clear hww))
              | (go_at_call 24; refine (HFI.out wa wb HWA.out HWB.out).mono ?_; rintro e wf ⟨c, rfl, yf2, yf3, hds⟩; have HDS := Lib.hid hds; clear hds))
            all_goals exact ⟨wa, wb, c, rfl, rfl, HDS.out⟩
          case after =>
            intro wa wb c wf hpost
            have hjw : jb < w.heap.size := blk_lt HT.out.blk
            rcases hpost with ⟨hoff, rfl, hB⟩ | ⟨hoff, rfl, D', hds⟩
            · have hTf := HTX.out.fr (X := fun _ => False) (Fr.of_below hB) id (fun _ _ _ => id)
              have z4 := blk_cell hTf.blk 4
              have zf4 := blk_free hTf.blk 4
              have hDf := HDX.out.below hB
              have HTF := Lib.hid hTf
              have HDF := Lib.hid hDf
              have HB := Lib.hid hB
              have HOFF := Lib.hid hoff
              clear hTf hDf hB hoff x2 x3 htl1 hhd1 hpi hwrs hs1'
              go_wp2
              go_ret
              have hfs : Fr (fun x => x = jb) wf (wf.setCell ⟨jb, 4, none⟩ (.bool true)) := (Fr.refl (fun x => x = jb) wf).setCell (p := ⟨jb, 4, none⟩) (.inl rfl) _
              have htb := HTF.out.tb
              refine .inr (.inr (.inl ⟨?_, ?_, HOFF.out, rfl, ⟨⟨_, blk_set HTF.out.blk 4 _, rfl, rfl, rfl, ownsRow_fr HTF.out.own hfs (fun r hr => show ¬ r = jb by omega), htb⟩, HJ.out.hh, ?_⟩, HDF.out.fr hfs (fun r _ hr e => HJF.out (e ▸ hr)), ?_⟩))
              · rw [HOUT.out, HRM.out]; omega
              · rw [HOUT.out]; omega
              · have h1 := HJ.out.bw
                have h2 := HXF.out.size
                have h3 := HB.out.size
                have h4 := hfs.size
                omega
              · exact ((Fr.of_below (X := fun x => x = jb) HXF.out).trans (Fr.of_below (X := fun _ => False) HB.out) (fun _ h => h.elim)).trans hfs (fun r hr => .inl hr)
            · obtain ⟨rv', C', hTt⟩ := HAX.out.tape
              have ht0 := HAX.out.h0
              have htf : ∀ x, D.foot b x → w.heap.size ≤ x → False := fun x hx hle => by
                have := HD.out.foot_lt x hx
                omega
              have hTt' := hTt.fr hds.fr (fun h => htf _ h ht0) (fun x hx _ h => htf _ h (by omega))
              have hjb' := hds.fr.blk HTX.out.blk HJF.out
              obtain ⟨p', n', c', rfl⟩ := own_slice hTt'.own
              have y0 := (blk_cell hTt'.blk 0).trans hTt'.c0
              have y1 := (blk_cell hTt'.blk 1).trans hTt'.c1
              have y2 := (blk_cell hTt'.blk 2).trans hTt'.c2
              have z0 := blk_cell hjb' 0
              have z1 := blk_cell hjb' 1
              have z2 := blk_cell hjb' 2
              have zf0 := blk_free hjb' 0
              have zf1 := blk_free hjb' 1
              have zf2 := blk_free hjb' 2
              have hres := HasJ.take (jb := jb) HXF.out HAX.out HJF.out hjw hds hTt' hjb'
              obtain ⟨hd', hhd'⟩ : ∃ hd', (P.addAll ls).head = hd' := ⟨_, rfl⟩
              obtain ⟨sz', hsz'⟩ : ∃ sz', (P.addAll ls).size = sz' := ⟨_, rfl⟩
              rw [hhd', hsz'] at hres
              rw [hhd'] at y1
              rw [hsz'] at y2
              have HRES := Lib.hid hres
              have HDS := Lib.hid hds
              have HOFF := Lib.hid hoff
              clear hres hds hoff hTt hTt' hjb' hhd' hsz' htf x2 x3 htl1 hhd1 hpi hwrs hs1'
              go_wp2
              go_ret
              obtain ⟨h1, h2, h3, h4⟩ := HRES.out
              refine .inr (.inr (.inr ⟨?_, ?_, HOFF.out, rfl, t + 1, D', h1, h2, HDS.out.off, HDS.out.left, Nat.le_zero.1 HDS.out.np, HDS.out.n, ?_, h3, h4⟩))
              · rw [HOUT.out, HRM.out]; omega
              · rw [HOUT.out]; omega
              · rw [HDS.out.vis, HOUT.out, HSZ.out, HS1.out]
end Go.Proofs.YtpcmidhhbgjcjaaDoor
