/- JournalReopens. -/
import Derived.Test.YtpcmidhhbgjcjaaDoorL7
namespace Go.Proofs.YtpcmidhhbgjcjaaDoor
open Go Go.RowKit

/-- A slice of slices of strings. -/
def RowsO (w : World) (v : Value) (gs : List (List ByteArray)) : Prop :=
  ∃ p cap, v = .slice p gs.length cap ∧ ∀ i ls, gs[i]? = some ls → ∃ g o u, p = some ⟨g, o, none⟩ ∧ g < w.heap.size ∧ w.cell? ⟨g, o + i, none⟩ = some u ∧ RowO w u ls
theorem RowsO.below {w w' : World} {v : Value} {gs : List (List ByteArray)} (h : RowsO w v gs) (hb : Below w.heap.size w w') : RowsO w' v gs := by
  obtain ⟨p, cap, hv, hc⟩ := h
  refine ⟨p, cap, hv, fun i ls hx => ?_⟩
  obtain ⟨g, o, u, hg, hl, hx', hr⟩ := hc i ls hx
  exact ⟨g, o, u, hg, Nat.lt_of_lt_of_le hl hb.size, (hb.cell (p := ⟨g, o + i, none⟩) hl).trans hx', hr.below hb⟩
section
variable {w0 W W' : World} {b jb base n : Nat} {D : DK} {recs ls : List ByteArray} {v : Value}
theorem Sys.any (h : Sys w0 W b jb base n D recs) (hR : HasRound w0) (hr : Row W v ls) (hl : ls.length ≤ 100) (hle : ∀ r ∈ ls, r.size ≤ 65536) :
    Calls Tryd.prog 11 #[.pointer (some ⟨jb, 0, none⟩), v] W fun e w' => ∃ (c : Int) (recs' : List ByteArray) (base' : Nat) (D' : DK), e = .returned (.int .i64 c) ∧ Sys w0 w' b jb base' n D' recs' := by
  rcases Nat.lt_or_ge n (T0.addAll (recs ++ ls)).size with hf | hf
  · refine (h.full hR hr hl hle hf).mono ?_
    rintro e w' ⟨rfl, hB⟩
    exact ⟨341, recs, base, D, rfl, h.next hB⟩
  · refine (h.fit hR hr hl hle hf).mono ?_
    rintro e w' ⟨rfl, base', D', hs, _⟩
    exact ⟨0, recs ++ ls, base', D', rfl, hs⟩
theorem Sys.cut1 (h : Sys w0 W b jb base n D recs) :
    Calls Tryd.prog 15 #[.pointer (some ⟨b, 0, none⟩), .int .i64 1] W fun e w' => e = .returned (.int .i64 0) ∧ ∃ D', Dsk w0 w' b D' recs ∧ HasJ w' jb base b (T0.addAll recs) false ∧ D'.off = false ∧ D'.np = 0 ∧ D'.n = n := by
  refine (Cut_c b 1 D W h.dsk.disk h.off (by decide)).mono ?_
  rintro e w' ⟨rfl, hD, hf⟩
  have hf' : Fr (D.foot b) W w' := hf.mono (fun r hr => .inl (.inl hr))
  exact ⟨rfl, _, ⟨hD, ⟨h.dsk.inv.le, h.dsk.inv.fit, h.dsk.inv.vis⟩, h.dsk.lo, below_fr h.dsk.bel hf' h.dsk.lo⟩, h.j.keepD h.dsk.disk hf', rfl, h.np, h.n⟩
end
set_option maxRecDepth 100000 in
set_option maxHeartbeats 4000000 in
theorem JournalReopens_c (n : Int) (v : Value) (gs : List (List ByteArray)) (a : Addr) (w : World) (hR : HasRound w) (hE : HasErr w a) (hrow : RowsO w v gs) (h1 : -9223372036854775808 ≤ n) (h2 : n ≤ 9223372036854775807) :
    Calls Tryd.prog 4 #[.int .i64 n, v] w fun e w' => e = .returned (.bool true) ∧ Below w.heap.size w w' := by
  obtain ⟨N, hN1, hN2, hsz⟩ := size_nat n h1 h2
  obtain ⟨gp, gc, hgv, hcells⟩ := hrow
  subst hgv
  obtain ⟨G, hG⟩ : ∃ G, gs.length = G := ⟨_, rfl⟩
  rw [hG]
  have HR := Lib.hid hR
  have HE := Lib.hid hE
  have HSZ := Lib.hid hsz
  have HCELLS := Lib.hid hcells
  have HG := Lib.hid hG
  clear hR hE hsz h1 h2 hcells hG
  go_enter Tryd.func4, Tryd.ntmps4
  go_wp2_with (fail)
  refine (sane_c a w HR.out HE.out).mono ?_
  rintro e w1 ⟨rfl, hB⟩
  have HB1 := Lib.hid hB
  clear hB
  go_wp2_with (go_at_call 7; refine (HSZ.out _).mono ?_; rintro e w' ⟨rfl, rfl⟩)
  refine (New_d N hN1 (by omega) w w1 HB1.out).mono ?_
  rintro e w2 ⟨b, D0, rfl, hd, ho, hl, hp, hn, _⟩
  have HD := Lib.hid hd
  have HO := Lib.hid ho
  have HL := Lib.hid hl
  have HP := Lib.hid hp
  have HN := Lib.hid hn
  clear hd ho hl hp hn HB1
  go_wp2_with (fail)
  refine (New_open HR.out HE.out HD.out HO.out HL.out HP.out HN.out).mono ?_
  rintro e w3 ⟨jb, base0, rfl, hs, _⟩
  have HS3 := Lib.hid hs
  clear hs HD HO HL HP HN
  go_wp2_with (fail)
  go_loopw [10] (fun i wr => ∃ k : Nat, k ≤ G ∧ k ≤ 8 ∧ i = .int .i64 k ∧ ∃ base D recs, Sys w wr b jb base N D recs) (fun i _ => G - (intOf i).toNat)
  case atStart => exact ⟨0, by omega, by omega, rfl, _, _, _, HS3.out⟩
  case round =>
    obtain ⟨k, hk, hk8, rfl, base, D, recs, hs⟩ := hrel
    have HS := Lib.hid hs
    clear hs
    by_cases hlt : k < G
    · by_cases h8 : k < 8
      · have hlt' : (k : Int) < (G : Int) := by omega
        have h8' : (k : Int) < 8 := by omega
        obtain ⟨ls, hx⟩ : ∃ ls, gs[k]? = some ls := ⟨_, List.getElem?_eq_getElem (by have := HG.out; omega)⟩
        obtain ⟨g, o, u, rfl, hg, hcu, hru⟩ := HCELLS.out k ls hx
        have hcw : wr.cell? ⟨g, o + k, none⟩ = some u := (HS.out.dsk.bel.cell (p := ⟨g, o + k, none⟩) hg).trans hcu
        have HRU := Lib.hid (hru.below HS.out.dsk.bel)
        have hk0 : (0 : Int) ≤ (k : Int) := by omega
        obtain ⟨up, uc, hu, _⟩ := hru
        subst hu
        clear hx hcu
        go_wp2_with (fail)
        refine (few_c _ ls wr HRU.out).mono ?_
        rintro e w4 ⟨lv, rfl, ho, hB⟩
        obtain ⟨hlen, hle⟩ := fewF_le ls
        have HROW := Lib.hid (own_row ho)
        have HS4 := Lib.hid (HS.out.next hB)
        obtain ⟨lp, lc, hlv, _⟩ := (own_row ho).slice
        subst hlv
        have HAP := Lib.hid (HS4.out.any HR.out HROW.out (by omega) (fun r hr => by have := hle r hr; omega))
        clear ho hB hlen hle HS HRU
        go_wp2_with (fail)
        refine HAP.out.mono ?_
        rintro e w5 ⟨c, recs', base', D', rfl, hs⟩
        have HS5 := Lib.hid hs
        clear hs HAP HS4 HROW hcw
        go_wp2_with (fail)
        exact ⟨⟨k + 1, by omega, by omega, by simp, base', D', recs', HS5.out⟩, by simp [intOf]; omega⟩
      · have h8' : ¬ (k : Int) < 8 := by omega
        have hlt' : (k : Int) < (G : Int) := by omega
        clear hlt h8
        go_wp2_with (fail)
        refine HS.out.cut1.mono ?_
        rintro e w4 ⟨rfl, D7, hd, hj, ho, hp, hn⟩
        have HDD := Lib.hid hd
        have HJD := Lib.hid hj
        have HOD := Lib.hid ho
        have HPD := Lib.hid hp
        have HND := Lib.hid hn
        clear hd hj ho hp hn HS
        go_wp2_with (fail)
        refine (HDD.out.open HR.out HE.out HOD.out).mono ?_
        rintro e w5 ⟨kb, kbase, rfl, _, hk, hd, hB⟩
        have HD5 := Lib.hid hd
        have HJ5 := Lib.hid (HJD.out.next hB)
        have HK5 := Lib.hid hk
        obtain ⟨rm, hrm⟩ : ∃ rm : Nat, D7.n = (T0.addAll recs).size + rm := ⟨D7.n - (T0.addAll recs).size, by have := hd.inv.fit; omega⟩
        have HRM := Lib.hid hrm
        obtain ⟨rl, hrl⟩ : ∃ rl, recs.length = rl := ⟨_, rfl⟩
        have HRL := Lib.hid hrl
        clear hk hd hB HDD HJD hrm hrl
        go_wp2_with (fail)
        refine (HD5.out.recordsRow HJ5.out).mono ?_
        rintro e w6 ⟨p1, c1, rfl, hr1, hB⟩
        have HD6 := Lib.hid (HD5.out.next hB)
        have HJ6 := Lib.hid (HJ5.out.next hB)
        have HK6 := Lib.hid (HK5.out.next hB)
        have HR1 := Lib.hid hr1
        rw [HRL.out]
        clear hr1 hB HD5 HJ5 HK5
        go_wp2_with (fail)
        refine (HD6.out.recordsRow HK6.out).mono ?_
        rintro e w7 ⟨p2, c2, rfl, hr2, hB⟩
        have HD7 := Lib.hid (HD6.out.next hB)
        have HJ7 := Lib.hid (HJ6.out.next hB)
        have HK7 := Lib.hid (HK6.out.next hB)
        have HSM := Lib.hid (same_true _ _ recs w7 (HR1.out.same hB) hr2 (by have := T0_len recs; have := HRM.out; have := HND.out; omega))
        rw [HRL.out]
        rw [HRL.out] at HSM
        clear hr2 hB HD6 HJ6 HK6 HR1
        go_wp2_with (fail)
        refine HSM.out.mono ?_
        rintro e w8 ⟨rfl, hB⟩
        have HD8 := Lib.hid (HD7.out.next hB)
        have HJ8 := Lib.hid (HJ7.out.next hB)
        have HK8 := Lib.hid (HK7.out.next hB)
        clear hB HSM HD7 HJ7 HK7
        go_wp2_with (fail)
        refine (HD8.out.roomEq HJ8.out HRM.out).mono ?_
        rintro e w9 ⟨rfl, hB⟩
        have HD9 := Lib.hid (HD8.out.next hB)
        have HK9 := Lib.hid (HK8.out.next hB)
        clear hB HD8 HJ8 HK8
        go_wp2_with (fail)
        refine (HD9.out.roomEq HK9.out HRM.out).mono ?_
        rintro e wA ⟨rfl, hB⟩
        have HDA := Lib.hid (HD9.out.next hB)
        have hpe := Pending_c b D7 wA HDA.out.disk
        rw [HPD.out] at hpe
        have HPE := Lib.hid hpe
        have HCO := Lib.hid (content_c b D7 wA HDA.out.disk HOD.out)
        have hcs := (DK.str_size HDA.out.disk).trans HND.out
        obtain ⟨cs, hcse⟩ : ∃ cs, D7.str = cs := ⟨_, rfl⟩
        rw [hcse] at hcs HCO
        have hcs' : (cs.size : Int) = (N : Int) := by omega
        clear hB HD9 HK9 hpe hcse hcs
        go_wp2_with (fail)
        refine HPE.out.mono ?_
        rintro e w' ⟨rfl, rfl⟩
        go_wp2_with (fail)
        refine HCO.out.mono ?_
        rintro e w' ⟨rfl, rfl⟩
        go_wp2_with (go_at_call 7; refine (HSZ.out _).mono ?_; rintro e w' ⟨rfl, rfl⟩)
        go_ret
        exact ⟨rfl, HDA.out.bel⟩
    · have hlt' : ¬ (k : Int) < (G : Int) := by omega
      clear hlt
      go_wp2_with (fail)
      refine HS.out.cut1.mono ?_
      rintro e w4 ⟨rfl, D7, hd, hj, ho, hp, hn⟩
      have HDD := Lib.hid hd
      have HJD := Lib.hid hj
      have HOD := Lib.hid ho
      have HPD := Lib.hid hp
      have HND := Lib.hid hn
      clear hd hj ho hp hn HS
      go_wp2_with (fail)
      refine (HDD.out.open HR.out HE.out HOD.out).mono ?_
      rintro e w5 ⟨kb, kbase, rfl, _, hk, hd, hB⟩
      have HD5 := Lib.hid hd
      have HJ5 := Lib.hid (HJD.out.next hB)
      have HK5 := Lib.hid hk
      obtain ⟨rm, hrm⟩ : ∃ rm : Nat, D7.n = (T0.addAll recs).size + rm := ⟨D7.n - (T0.addAll recs).size, by have := hd.inv.fit; omega⟩
      have HRM := Lib.hid hrm
      obtain ⟨rl, hrl⟩ : ∃ rl, recs.length = rl := ⟨_, rfl⟩
      have HRL := Lib.hid hrl
      clear hk hd hB HDD HJD hrm hrl
      go_wp2_with (fail)
      refine (HD5.out.recordsRow HJ5.out).mono ?_
      rintro e w6 ⟨p1, c1, rfl, hr1, hB⟩
      have HD6 := Lib.hid (HD5.out.next hB)
      have HJ6 := Lib.hid (HJ5.out.next hB)
      have HK6 := Lib.hid (HK5.out.next hB)
      have HR1 := Lib.hid hr1
      rw [HRL.out]
      clear hr1 hB HD5 HJ5 HK5
      go_wp2_with (fail)
      refine (HD6.out.recordsRow HK6.out).mono ?_
      rintro e w7 ⟨p2, c2, rfl, hr2, hB⟩
      have HD7 := Lib.hid (HD6.out.next hB)
      have HJ7 := Lib.hid (HJ6.out.next hB)
      have HK7 := Lib.hid (HK6.out.next hB)
      have HSM := Lib.hid (same_true _ _ recs w7 (HR1.out.same hB) hr2 (by have := T0_len recs; have := HRM.out; have := HND.out; omega))
      rw [HRL.out]
      rw [HRL.out] at HSM
      clear hr2 hB HD6 HJ6 HK6 HR1
      go_wp2_with (fail)
      refine HSM.out.mono ?_
      rintro e w8 ⟨rfl, hB⟩
      have HD8 := Lib.hid (HD7.out.next hB)
      have HJ8 := Lib.hid (HJ7.out.next hB)
      have HK8 := Lib.hid (HK7.out.next hB)
      clear hB HSM HD7 HJ7 HK7
      go_wp2_with (fail)
      refine (HD8.out.roomEq HJ8.out HRM.out).mono ?_
      rintro e w9 ⟨rfl, hB⟩
      have HD9 := Lib.hid (HD8.out.next hB)
      have HK9 := Lib.hid (HK8.out.next hB)
      clear hB HD8 HJ8 HK8
      go_wp2_with (fail)
      refine (HD9.out.roomEq HK9.out HRM.out).mono ?_
      rintro e wA ⟨rfl, hB⟩
      have HDA := Lib.hid (HD9.out.next hB)
      have hpe := Pending_c b D7 wA HDA.out.disk
      rw [HPD.out] at hpe
      have HPE := Lib.hid hpe
      have HCO := Lib.hid (content_c b D7 wA HDA.out.disk HOD.out)
      have hcs := (DK.str_size HDA.out.disk).trans HND.out
      obtain ⟨cs, hcse⟩ : ∃ cs, D7.str = cs := ⟨_, rfl⟩
      rw [hcse] at hcs HCO
      have hcs' : (cs.size : Int) = (N : Int) := by omega
      clear hB HD9 HK9 hpe hcse hcs
      go_wp2_with (fail)
      refine HPE.out.mono ?_
      rintro e w' ⟨rfl, rfl⟩
      go_wp2_with (fail)
      refine HCO.out.mono ?_
      rintro e w' ⟨rfl, rfl⟩
      go_wp2_with (go_at_call 7; refine (HSZ.out _).mono ?_; rintro e w' ⟨rfl, rfl⟩)
      go_ret
      exact ⟨rfl, HDA.out.bel⟩
end Go.Proofs.YtpcmidhhbgjcjaaDoor
