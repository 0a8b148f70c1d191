/- journal: tape.load. -/
import Derived.Test.YtpcmidhhbgjcjaaDoorJ5
import Derived.Test.YtpcmidhhbgjcjaaDoorP4
import Derived.Deep.RegionWith
namespace Go.Proofs.YtpcmidhhbgjcjaaDoor
open Go Go.RowKit

/-- How a tape lies while it is loaded: all that changes lies at t or at base and above. -/
structure Ld (w : World) (t base : Nat) (C : Array Value) (T : TypeId) (P : TP) (E : Value) (W : World) : Prop where
  tape : ∃ rv C', HasTape W t base C' T rv P.recs P.head P.size ∧ (∀ i, 3 ≤ i → C'[i]? = C[i]?) ∧ C'.size = C.size
  round : HasRound W
  err : W.cell? ⟨0, 0, none⟩ = some E
  fr : Fr (fun x => x = t ∨ base ≤ x) w W
  bw : base ≤ W.heap.size
  hh : P.head.size = 32
theorem run_sub {P : Program} (t : TypeId) (ht : P.underlying t = some .string) (s : ByteArray) (l h : Nat) (h1 : l ≤ h) (h2 : h ≤ s.size) (z : Int) (hz : z = (h : Int)) (w : World) :
    (Instr.slice t (.string s) (some (.int .i64 (l : Int))) (some (.int .i64 z)) none).run P w = .ok (.string (s.extract l h)) w := by
  subst hz
  simp [Instr.slice, run_underlying ht, Instr.sliceBounds, run_sliceBound, h1, h2]
theorem check_any (b : Bool) (t : TypeId) (p : Value) (w : World) (h : w.cell? ⟨0, 0, none⟩ = some (.iface t p)) : Calls Tryd.prog 57 #[.bool b] w fun e w' => (b = true ∧ e = .returned (.tuple #[]) ∧ w = w') ∨ (b = false ∧ e = .panicked [{ v := .iface t p, recovered := false }] ∧ w = w') := by
  cases b
  · refine (check_bad t p w h).mono ?_
    rintro e w' ⟨h1, h2⟩
    exact .inr ⟨rfl, h1, h2⟩
  · refine (check_ok w).mono ?_
    rintro e w' ⟨h1, h2⟩
    exact .inl ⟨rfl, h1, h2⟩
theorem load_fr {w wr w2 : World} {t base : Nat} {v : Option Nat} (h : Fr (fun x => x = t ∨ base ≤ x) w wr) (h2 : Fr (fun x => x = t ∨ v = some x) wr.drew w2) (hv : ∀ r, v = some r → base ≤ r) : Fr (fun x => x = t ∨ base ≤ x) w w2 :=
  (h.trans (drew_fr (X := fun _ => False) wr) (fun _ h => h.elim)).trans h2 (fun r hr => .inl (hr.elim .inl (fun e => .inr (hv r e))))
theorem toList_inj {a b : ByteArray} (h : a.toList = b.toList) : a = b := by
  rw [Lib.toList_data, Lib.toList_data] at h
  exact ByteArray.ext (Array.toList_inj.1 h)
theorem setTape_0 (C : Array Value) (rv : Value) (hd : ByteArray) (n : Nat) (h : 2 < C.size) : (setTape C rv hd n)[0]? = some rv := by
  unfold setTape
  rw [Array.getElem?_setIfInBounds_ne (by decide), Array.getElem?_setIfInBounds_self_of_lt (by simp; omega)]
theorem setTape_1 (C : Array Value) (rv : Value) (hd : ByteArray) (n : Nat) (h : 2 < C.size) : (setTape C rv hd n)[1]? = some (.string hd) := by
  unfold setTape
  rw [Array.getElem?_setIfInBounds_ne (by decide), Array.getElem?_setIfInBounds_ne (by decide), Array.getElem?_setIfInBounds_self_of_lt (by omega)]
theorem setTape_2 (C : Array Value) (rv : Value) (hd : ByteArray) (n : Nat) (h : 2 < C.size) : (setTape C rv hd n)[2]? = some (.int .i64 n) := by
  unfold setTape
  rw [Array.getElem?_setIfInBounds_self_of_lt (by simp; omega)]
theorem setTape_r (C : Array Value) (rv : Value) (hd : ByteArray) (n i : Nat) (h : 3 ≤ i) : (setTape C rv hd n)[i]? = C[i]? := by
  unfold setTape
  rw [Array.getElem?_setIfInBounds_ne (by omega), Array.getElem?_setIfInBounds_ne (by omega), Array.getElem?_setIfInBounds_ne (by omega)]
theorem setTape_size (C : Array Value) (rv : Value) (hd : ByteArray) (n : Nat) : (setTape C rv hd n).size = C.size := by simp [setTape]
theorem HasTape.big {W : World} {t base : Nat} {C : Array Value} {T : TypeId} {rv : Value} {recs : List ByteArray} {head : ByteArray} {size : Nat} (h : HasTape W t base C T rv recs head size) : 2 < C.size := (Array.getElem?_eq_some_iff.1 h.c2).1
theorem round_fr {X : Nat → Prop} {w w' : World} (hR : HasRound w) (h : Fr X w w') (hx : ¬ X 4) : HasRound w' := by
  obtain ⟨t, fr, h1⟩ := hR
  exact ⟨t, fr, h.blk h1 hx⟩
theorem err_keep {w w2 : World} {X : Nat → Prop} {g : Nat} {E : Value} (hf : Fr X w.drew w2) (he : w.cell? ⟨g, 0, none⟩ = some E) (hg : g < w.drew.heap.size ∧ ¬ X g) : w2.cell? ⟨g, 0, none⟩ = some E :=
  (hf.cell (a := ⟨g, 0, none⟩) hg.1 hg.2).trans he
theorem strF_bd {s : ByteArray} {a k : Nat} {r : ByteArray} (h : strF s a = some (r, k)) : k ≤ s.size ∧ r.size ≤ 65536 ∧ a < k := by
  unfold strF at h
  split at h
  · cases h
  · rename_i n m hi
    have hb := intF_bd hi
    split at h
    · cases h
    · rename_i hc
      rw [not_or, not_or] at hc
      injection h with h
      injection h with h1 h2
      rw [← h1, ← h2, ByteArray.size_extract]
      omega
set_option maxRecDepth 100000 in
set_option maxHeartbeats 2000000 in
theorem load_c (t base : Nat) (C : Array Value) (T : TypeId) (P : TP) (et : TypeId) (ep : Value) (s : ByteArray) (w : World) (h : Ld w t base C T P (.iface et ep) w) (hs : s.size ≤ 4194304) (hP : P.recs.length ≤ P.size) (hg : 0 < base ∧ 0 ≠ t ∧ 4 < base ∧ 4 ≠ t) :
    Calls Tryd.prog 40 #[.pointer (some ⟨t, 0, none⟩), .string s] w fun e w' =>
      (∃ P', loadF s (s.size + 1) P = some P' ∧ e = .returned (.tuple #[]) ∧ Ld w t base C T P' (.iface et ep) w') ∨
      (loadF s (s.size + 1) P = none ∧ e = .panicked [{ v := .iface et ep, recovered := false }] ∧ Fr (fun x => x = t ∨ base ≤ x) w w') := by
  have HL := Lib.hid h
  clear h
  go_enter Tryd.func40, Tryd.ntmps40
  go_wp2
  go_loopw [] (fun W => ∃ P' f, loadF s (s.size + 1) P = loadF s f P' ∧ P'.size + f ≥ s.size + 1 ∧ P'.recs.length ≤ P'.size ∧ Ld w t base C T P' (.iface et ep) W) (fun W => match W.cell? ⟨t, 2, none⟩ with | some (.int _ k) => s.size + 1 - k.toNat | _ => 0)
  case atStart => exact ⟨P, s.size + 1, rfl, by omega, hP, HL.out⟩
  case round =>
    obtain ⟨P', f, hf, hfs, hrl, hL⟩ := hrel
    obtain ⟨rv, C', hT, hC, hCs⟩ := hL.tape
    have c2 : wr.cell? ⟨t, 2, none⟩ = some (.int .i64 P'.size) := (blk_cell hT.blk 2).trans hT.c2
    obtain ⟨z, hz⟩ : ∃ z, P'.size = z := ⟨_, rfl⟩
    rw [hz] at c2
    have HLL := Lib.hid hL
    have HF := Lib.hid hf
    have HZ := Lib.hid hz
    by_cases hlt : z < s.size
    · have hlt' : (z : Int) < (s.size : Int) := by omega
      have hz0 : (0 : Int) ≤ (z : Int) := by omega
      obtain ⟨x, hx⟩ : ∃ x, s[z]'hlt = x := ⟨_, rfl⟩
      have HX := Lib.hid hx
      obtain ⟨f, rfl⟩ : ∃ f', f = f' + 1 := ⟨f - 1, by omega⟩
      have he : wr.cell? ⟨0, 0, none⟩ = some (.iface et ep) := hL.err
      by_cases hx0 : x = 0
      · have hd : stepF s P' = .done := by unfold stepF; subst hz; rw [dif_pos hlt, hx, if_pos hx0]
        have hres : loadF s (f + 1) P' = some P' := by unfold loadF; rw [hd]
        have HR := Lib.hid hres
        have hxn : ((x.toNat : Int) != 0) = false := by rw [hx0]; rfl
        clear hL hf hz hT hC hCs hfs hrl hd hres hx0
        go_wp2
        go_end0
        refine .inl ⟨P', ?_, rfl, HLL.out⟩
        rw [HF.out, HR.out]
      · have hxn : ((x.toNat : Int) != 0) = true := by
          simp only [bne_iff_ne, ne_eq]
          intro h
          exact hx0 (UInt8.toNat_inj.1 (by have : x.toNat = 0 := by omega
                                           rw [this]; rfl))
        by_cases hx1 : x = 1
        · have hxm : ((x.toNat : Int) == 1) = true := by rw [hx1]; rfl
          have hsc := String_c s (z + 1) wr (by omega) (by omega)
          rw [show ((z + 1 : Nat) : Int) = (z : Int) + 1 by omega] at hsc
          cases hst : strF s (z + 1) with
          | none =>
            have hd : stepF s P' = .bad := by unfold stepF; subst hz; rw [dif_pos hlt, hx, if_neg hx0, if_neg (by simpa using hx1), hst]
            have hres : loadF s (f + 1) P' = none := by unfold loadF; rw [hd]
            rw [hst] at hsc
            have HR := Lib.hid hres
            have HSC := Lib.hid hsc
            clear hL hf hz hT hC hCs hfs hrl hd hres hx0 hx1 hsc hst
            go_wp2_with (first
              | (go_at_call 57; refine (check_ok wr).mono ?_; rintro e w' ⟨rfl, rfl⟩)
              | (go_at_call 58; refine HSC.out.mono ?_; rintro e w' ⟨rfl, rfl⟩; simp only [strV])
              | (go_at_call 57; refine (check_bad et ep wr he).mono ?_; rintro e w' ⟨rfl, rfl⟩))
            exact ⟨rfl, .inr ⟨by rw [HF.out, HR.out], rfl, HLL.out.fr⟩⟩
          | some rk =>
            obtain ⟨r, k⟩ := rk
            obtain ⟨hk1, hr1, hk2⟩ := strF_bd hst
            have hn : ¬ (x ≠ 1) := by simpa using hx1
            by_cases hkb : k + 32 ≤ s.size
            · obtain ⟨q, hq⟩ : ∃ q, k + 32 = q := ⟨_, rfl⟩
              have hq' : (k : Int) + 32 = (q : Int) := by omega
              have hkd : decide ((q : Int) ≤ (s.size : Int)) = true := by simp; omega
              have hkz : (z : Int) ≤ (q : Int) := by omega
              have hks : (q : Int) ≤ (s.size : Int) := by omega
              have hk0 : (0 : Int) ≤ (q : Int) := by omega
              have HQ := Lib.hid hq
              have hwr2 : IntKind.i64.wrap (q : Int) = (q : Int) := i64_id _ (by omega) (by omega)
              have hwr : IntKind.i64.wrap ((k : Int) + 32) = (q : Int) := by rw [hq']; exact i64_id _ (by omega) (by omega)
              have hadd := add_t t base C' T rv P'.recs P'.head r P'.size wr.drew ⟨hT.blk, hT.c0, hT.c1, hT.c2, hT.own, hT.tb⟩ hL.round hL.hh (by omega) hL.bw (by omega) (by omega)
              obtain ⟨out, hout⟩ : ∃ out, encR P'.head r = out := ⟨_, rfl⟩
              rw [hout] at hadd
              have HADD := Lib.hid hadd
              rw [hst] at hsc
              have HSC := Lib.hid hsc
              have HT := Lib.hid hT
              have HC := Lib.hid hC
              have HCS := Lib.hid hCs
              have HOUT := Lib.hid hout
              have HST := Lib.hid hst
              clear hadd hsc hT hC hCs hout hL hf hst hq hkb
              go_wp2_with (first
                | (go_at_call 57; refine (check_ok wr).mono ?_; rintro e w' ⟨rfl, rfl⟩)
                | (go_at_call 58; refine HSC.out.mono ?_; rintro e w' ⟨rfl, rfl⟩; simp only [strV]))
              obtain ⟨bb, hbb⟩ : ∃ bb, (out.toList == (s.extract z q).toList) = bb := ⟨_, rfl⟩
              have HBB := Lib.hid hbb
              have htb : t < base := HT.out.tb
              have hge : 0 < wr.drew.heap.size ∧ ¬ (0 = t ∨ rv.ownBlock = some 0) := by
                refine ⟨Nat.lt_of_lt_of_le hg.1 HLL.out.bw, ?_⟩
                rintro (h | h)
                · exact hg.2.1 h
                · have := own_ge HT.out.own _ h
                  omega
              have hbad : bb = false → loadF s (f + 1) P' = none := by
                intro hb
                have hne : ¬ encR P'.head r = s.extract z (k + 32) := by
                  intro e
                  have h1 := HBB.out
                  rw [← HOUT.out, e, HQ.out, hb] at h1
                  simp at h1
                have hd : stepF s P' = .bad := by
                  unfold stepF
                  subst hz
                  rw [dif_pos hlt, hx, if_neg hx0, if_neg hn, HST.out]
                  simp only
                  rw [if_pos (by have := HQ.out; omega), if_neg hne]
                unfold loadF; rw [hd]
              have HBAD := Lib.hid hbad
              clear hbad hz
              go_region_with (first
                | (go_at_call 32; refine HADD.out.mono ?_; rintro e w2 ⟨rfl, rv2, hb2, ho2, hf2, ha2⟩; have he2 := err_keep hf2 he hge; have hf2' := load_fr HLL.out.fr hf2 (own_ge HT.out.own); have HB2 := Lib.hid hb2; have HO2 := Lib.hid ho2; have HF2 := Lib.hid hf2'; clear hb2 ho2 hf2 ha2 hf2')
                | (go_at_call 57; refine (check_any bb et ep _ (by assumption)).mono ?_; rintro e w' (⟨hb, rfl, rfl⟩ | ⟨hb, rfl, rfl⟩); rotate_left 1; exact ⟨rfl, .inr ⟨by rw [HF.out, HBAD.out hb], rfl, HF2.out⟩⟩))
              have hsize : 33 ≤ out.size := by rw [← HOUT.out]; exact encR_pos _ _
              have hgo : loadF s (f + 1) P' = loadF s f (P'.add r) := by
                have h1 := HBB.out
                rw [hb] at h1
                have heq : encR P'.head r = s.extract z (k + 32) := by
                  rw [HOUT.out, HQ.out]
                  exact toList_inj (by simpa using h1)
                have hd : stepF s P' = .next r := by
                  unfold stepF
                  have hz := HZ.out
                  subst hz
                  rw [dif_pos hlt, hx, if_neg hx0, if_neg hn, HST.out]
                  simp only
                  rw [if_pos (by have := HQ.out; omega), if_pos heq]
                rw [loadF, hd]
              have hbt := HB2.out
              have hc2 : (setTape C' rv2 (chainF P'.head r) (P'.size + out.size))[2]? = some (.int .i64 ((P'.size + out.size : Nat) : Int)) := setTape_2 _ _ _ _ HT.out.big
              have hm2 : w2.cell? ⟨t, 2, none⟩ = some (.int .i64 ((P'.size + out.size : Nat) : Int)) := (blk_cell hbt 2).trans hc2
              have HG := Lib.hid hgo
              have HM := Lib.hid hm2
              have HB := Lib.hid hbt
              clear hgo hm2 hbt hc2
              go_wp2
              have hz := HZ.out
              have hLw := HLL.out
              refine ⟨⟨P'.add r, f, ?_, ?_, ?_, ?_⟩, ?_⟩
              · rw [HF.out, HG.out]
              · show P'.size + (encR P'.head r).size + f ≥ s.size + 1
                rw [HOUT.out]; omega
              · show (P'.recs ++ [r]).length ≤ P'.size + (encR P'.head r).size
                rw [HOUT.out]; simp; omega
              · refine ⟨⟨rv2, _, ⟨HB.out, ?_, ?_, ?_, ?_, htb⟩, ?_, ?_⟩, ?_, he2, HF2.out, ?_, chainF_size _ _⟩
                · exact setTape_0 _ _ _ _ HT.out.big
                · exact setTape_1 _ _ _ _ HT.out.big
                · rw [← HOUT.out]; exact setTape_2 _ _ _ _ HT.out.big
                · have ho := HO2.out
                  show w2.ownsRow base 9 1 rv2 (P'.recs ++ [r]).length (List.map Value.string (P'.recs ++ [r]))
                  rw [List.length_append]
                  exact ho
                · intro i hi
                  rw [setTape_r _ _ _ _ _ hi]
                  exact HC.out i hi
                · rw [setTape_size]; exact HCS.out
                · exact round_fr HL.out.round HF2.out (by rintro (h | h) <;> omega)
                · exact Nat.le_trans HL.out.bw HF2.out.size
              · rw [HM.out, c2]
                simp only
                omega
            · have hd : stepF s P' = .bad := by unfold stepF; subst hz; rw [dif_pos hlt, hx, if_neg hx0, if_neg hn, hst]; exact if_neg hkb
              have hres : loadF s (f + 1) P' = none := by unfold loadF; rw [hd]
              rw [hst] at hsc
              have HR := Lib.hid hres
              have HSC := Lib.hid hsc
              have hkb' : decide ((k : Int) + 32 ≤ (s.size : Int)) = false := by simp; omega
              clear hL hf hz hT hC hCs hfs hrl hd hres hx0 hx1 hsc hst hn hkb
              go_wp2_with (first
                | (go_at_call 57; refine (check_ok wr).mono ?_; rintro e w' ⟨rfl, rfl⟩)
                | (go_at_call 58; refine HSC.out.mono ?_; rintro e w' ⟨rfl, rfl⟩; simp only [strV])
                | (go_at_call 57; refine (check_bad et ep wr he).mono ?_; rintro e w' ⟨rfl, rfl⟩))
              exact ⟨rfl, .inr ⟨by rw [HF.out, HR.out], rfl, HLL.out.fr⟩⟩
        · have hd : stepF s P' = .bad := by unfold stepF; subst hz; rw [dif_pos hlt, hx, if_neg hx0, if_pos hx1]
          have hres : loadF s (f + 1) P' = none := by unfold loadF; rw [hd]
          have HR := Lib.hid hres
          have hxm : ((x.toNat : Int) == 1) = false := by
            rw [beq_eq_false_iff_ne]
            intro h
            exact hx1 (UInt8.toNat_inj.1 (by have : x.toNat = 1 := by omega
                                             rw [this]; rfl))
          clear hL hf hz hT hC hCs hfs hrl hd hres hx0 hx1
          go_wp2_with (go_at_call 57; refine (check_bad et ep wr he).mono ?_; rintro e w' ⟨rfl, rfl⟩)
          exact ⟨rfl, .inr ⟨by rw [HF.out, HR.out], rfl, HLL.out.fr⟩⟩
    · have hlt' : ¬ (z : Int) < (s.size : Int) := by omega
      have hd : stepF s P' = .done := by unfold stepF; rw [dif_neg (by omega)]
      have hres : loadF s f P' = some P' := by
        cases f with
        | zero => rfl
        | succ f => unfold loadF; rw [hd]
      have HR := Lib.hid hres
      clear hL hf hz hT hC hCs hfs hrl hd hres hlt
      go_wp2
      go_end0
      refine .inl ⟨P', ?_, rfl, HLL.out⟩
      rw [HF.out, HR.out]
end Go.Proofs.YtpcmidhhbgjcjaaDoor
