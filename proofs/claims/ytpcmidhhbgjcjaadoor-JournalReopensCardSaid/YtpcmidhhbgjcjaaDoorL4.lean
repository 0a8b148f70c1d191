/- A disk that holds a journal's records, and what the calls do to it. -/
import Derived.Test.YtpcmidhhbgjcjaaDoorP6
import Derived.Test.YtpcmidhhbgjcjaaDoorJ12
import Derived.Test.YtpcmidhhbgjcjaaDoorL3
namespace Go.Proofs.YtpcmidhhbgjcjaaDoor
open Go Go.RowKit

/-- A disk of the call's own, laid since w0, that holds these records. -/
structure Dsk (w0 W : World) (b : Nat) (D : DK) (recs : List ByteArray) : Prop where
  disk : HasDisk W b D
  inv : JInv D recs
  lo : ∀ r, D.foot b r → w0.heap.size ≤ r
  bel : Below w0.heap.size w0 W
section
variable {w0 W W' : World} {b jb base : Nat} {D : DK} {recs ls : List ByteArray} {a : Addr} {v : Value}
theorem Dsk.next (h : Dsk w0 W b D recs) (hb : Below W.heap.size W W') : Dsk w0 W' b D recs :=
  ⟨h.disk.below hb, h.inv, h.lo, h.bel.trans (hb.mono h.bel.size)⟩
theorem HasJ.next {P : TP} {br : Bool} (h : HasJ W jb base b P br) (hb : Below W.heap.size W W') : HasJ W' jb base b P br :=
  h.fr (X := fun _ => False) (Fr.of_below hb) id (fun _ _ _ => id)
theorem Dsk.round (h : Dsk w0 W b D recs) (hR : HasRound w0) : HasRound W := round_below hR h.bel (round_size hR)
theorem Dsk.err (h : Dsk w0 W b D recs) (hE : HasErr w0 a) : HasErr W a := (h.bel.cell (p := ⟨0, 0, none⟩) hE.lt).trans hE
theorem JInv.nil (D : DK) (h : D.vis = List.replicate D.n 0) : JInv D [] := by
  have e : (T0.addAll []).size = 0 := rfl
  refine ⟨by simp, by rw [e]; exact Nat.zero_le _, ?_⟩
  rw [h, e]
  rfl
theorem New_d (n : Nat) (h1 : 1 ≤ n) (h2 : n ≤ 4194304) (w0 W : World) (hb : Below w0.heap.size w0 W) :
    Calls Tryd.prog 6 #[.int .i64 n] W fun e w' => ∃ b D, e = .returned (.tuple #[.pointer (some ⟨b, 0, none⟩), .int .i64 0]) ∧ Dsk w0 w' b D [] ∧ D.off = false ∧ D.left = 0 ∧ D.np = 0 ∧ D.n = n ∧ Below W.heap.size W w' := by
  refine (New_c n h1 h2 W).mono ?_
  rintro e w' ⟨b, D, rfl, hD, ho, hl, hp, hn, hv, hB, hf⟩
  refine ⟨b, D, rfl, ⟨hD, JInv.nil D (by rw [hv, hn]), fun r hr => Nat.le_trans hb.size (hf r hr), hb.trans (hB.mono hb.size)⟩, ho, hl, hp, hn, hB⟩
theorem Dsk.open (h : Dsk w0 W b D recs) (hR : HasRound w0) (hE : HasErr w0 a) (ho : D.off = false) :
    Calls Tryd.prog 8 #[.pointer (some ⟨b, 0, none⟩)] W fun e w' => ∃ jb base, e = .returned (.tuple #[.pointer (some ⟨jb, 0, none⟩), .int .i64 0]) ∧ W.heap.size ≤ jb ∧ HasJ w' jb base b (T0.addAll recs) false ∧ Dsk w0 w' b D recs ∧ Below W.heap.size W w' := by
  refine (Open_clean b a D (T0.addAll recs) W h.disk ho (h.round hR) (h.err hE) h.inv.load h.inv.fit h.inv.trim).mono ?_
  rintro e w' ⟨jb, base, rfl, hj, hJ, hB⟩
  exact ⟨jb, base, rfl, hj, hJ, h.next hB, hB⟩
theorem Dsk.room (h : Dsk w0 W b D recs) {br : Bool} (hJ : HasJ W jb base b (T0.addAll recs) br) :
    Calls Tryd.prog 12 #[.pointer (some ⟨jb, 0, none⟩)] W fun e w' => e = .returned (.int .i64 ((D.n - (T0.addAll recs).size : Nat) : Int)) ∧ Below W.heap.size W w' := by
  obtain ⟨rv, hT⟩ := hJ.tape
  have hf := h.inv.fit
  have hn := h.disk.nb
  refine (Room_c jb b (T0.addAll recs).size D W h.disk ((blk_cell hT.blk 2).trans hT.c2) (blk_cell hT.blk 3) (by omega)).mono ?_
  rintro e w' ⟨rfl, m, rfl⟩
  refine ⟨?_, below_drewN (Below.refl _ _) m⟩
  rw [show (D.n : Int) - (T0.addAll recs).size = ((D.n - (T0.addAll recs).size : Nat) : Int) by omega]
theorem HasJ.records {P : TP} {br : Bool} (hJ : HasJ W jb base b P br) (hn : P.recs.length ≤ 10000000) :
    Calls Tryd.prog 13 #[.pointer (some ⟨jb, 0, none⟩)] W fun e w' => ∃ v', e = .returned v' ∧ w'.ownsRow W.heap.size 9 1 v' P.recs.length (P.recs.map Value.string) ∧ Below W.heap.size W w' := by
  obtain ⟨rv, hT⟩ := hJ.tape
  exact Records_c jb base rv P.recs W ((blk_cell hT.blk 0).trans hT.c0) hT.own hn
theorem Dsk.records (h : Dsk w0 W b D recs) {br : Bool} (hJ : HasJ W jb base b (T0.addAll recs) br) :
    Calls Tryd.prog 13 #[.pointer (some ⟨jb, 0, none⟩)] W fun e w' => ∃ v', e = .returned v' ∧ w'.ownsRow W.heap.size 9 1 v' recs.length (recs.map Value.string) ∧ Below W.heap.size W w' := by
  have h1 := hJ.records (by rw [T0_recs]; have := T0_len recs; have := h.inv.fit; have := h.disk.nb; omega)
  rw [T0_recs] at h1
  exact h1
/-- What Append answers on a disk with power. -/
theorem Dsk.append (h : Dsk w0 W b D recs) (hJ : HasJ W jb base b (T0.addAll recs) false) (hR : HasRound w0) (hr : Row W v ls) (hl : ls.length ≤ 100) (hle : ∀ r ∈ ls, r.size ≤ 65536) (ho : D.off = false) (hleft : D.left = 0) (hnp : D.np = 0) (hjl : w0.heap.size ≤ jb) :
    Calls Tryd.prog 11 #[.pointer (some ⟨jb, 0, none⟩), v] W fun e w' =>
      (D.n < (T0.addAll (recs ++ ls)).size ∧ e = .returned (.int .i64 341) ∧ Below W.heap.size W w') ∨
      ((T0.addAll (recs ++ ls)).size ≤ D.n ∧ e = .returned (.int .i64 0) ∧ ∃ base' D', Dsk w0 w' b D' (recs ++ ls) ∧ HasJ w' jb base' b (T0.addAll (recs ++ ls)) false ∧ D'.off = false ∧ D'.left = 0 ∧ D'.np = 0 ∧ D'.n = D.n ∧ Fr (fun x => x = jb ∨ D.foot b x) W w') := by
  have hs : (T0.addAll (recs ++ ls)).size = (T0.addAll recs).size + (encAll (T0.addAll recs) ls).size := by rw [addAll_append, addAll_size]
  have hlong : anyLong ls = false := by
    unfold anyLong
    rw [List.any_eq_false]
    intro r hr
    have := hle r hr
    simp
    omega
  refine (Append_c jb base b (T0.addAll recs) v ls D W hJ h.disk (h.round hR) hr hl hlong (by rw [T0_recs]; exact T0_len recs) h.inv.fit hleft (by omega)).mono ?_
  rintro e w' (⟨h1, rfl, hB⟩ | ⟨h1, h2, rfl, hB⟩ | ⟨_, _, hoff, _⟩ | ⟨h1, h2, _, rfl, base', D', hJ', hD', o1, o2, o3, o4, hv, hf, hfo⟩)
  · exact .inl ⟨by omega, rfl, hB⟩
  · have hls : ls = [] := by
      cases ls with
      | nil => rfl
      | cons r l =>
        have := encAll_len (r :: l) (T0.addAll recs)
        simp at this
        omega
    subst hls
    rw [List.append_nil] at hs ⊢
    exact .inr ⟨h.inv.fit, rfl, base, D, h.next hB, hJ.next hB, ho, hleft, hnp, rfl, Fr.of_below hB⟩
  · rw [ho] at hoff
    cases hoff
  · refine .inr ⟨by omega, rfl, base', D', ⟨hD', h.inv.append hle o4 h1 h2 hv, ?_, ?_⟩, by rw [addAll_append]; exact hJ', o1, o2, o3, o4, hf⟩
    · intro r hr
      rcases hfo r hr with hr' | hr'
      · exact h.lo r hr'
      · exact Nat.le_trans h.bel.size hr'
    · exact below_fr h.bel hf (by
        rintro r (hr | hr)
        · omega
        · exact h.lo r hr)
/-- A disk with power and its journal. -/
structure Sys (w0 W : World) (b jb base n : Nat) (D : DK) (recs : List ByteArray) : Prop where
  dsk : Dsk w0 W b D recs
  j : HasJ W jb base b (T0.addAll recs) false
  off : D.off = false
  left : D.left = 0
  np : D.np = 0
  n : D.n = n
  jl : w0.heap.size ≤ jb
variable {n : Nat}
theorem Sys.next (h : Sys w0 W b jb base n D recs) (hb : Below W.heap.size W W') : Sys w0 W' b jb base n D recs :=
  ⟨h.dsk.next hb, h.j.next hb, h.off, h.left, h.np, h.n, h.jl⟩
theorem Sys.fit (h : Sys w0 W b jb base n D recs) (hR : HasRound w0) (hr : Row W v ls) (hl : ls.length ≤ 100) (hle : ∀ r ∈ ls, r.size ≤ 65536) (hf : (T0.addAll (recs ++ ls)).size ≤ n) :
    Calls Tryd.prog 11 #[.pointer (some ⟨jb, 0, none⟩), v] W fun e w' => e = .returned (.int .i64 0) ∧ ∃ base' D', Sys w0 w' b jb base' n D' (recs ++ ls) ∧ Fr (fun x => x = jb ∨ D.foot b x) W w' := by
  refine (h.dsk.append h.j hR hr hl hle h.off h.left h.np h.jl).mono ?_
  rintro e w' (⟨h1, _⟩ | ⟨_, rfl, base', D', hd, hj, o1, o2, o3, o4, hfr⟩)
  · have := h.n
    omega
  · exact ⟨rfl, base', D', ⟨hd, hj, o1, o2, o3, o4.trans h.n, h.jl⟩, hfr⟩
theorem Sys.full (h : Sys w0 W b jb base n D recs) (hR : HasRound w0) (hr : Row W v ls) (hl : ls.length ≤ 100) (hle : ∀ r ∈ ls, r.size ≤ 65536) (hf : n < (T0.addAll (recs ++ ls)).size) :
    Calls Tryd.prog 11 #[.pointer (some ⟨jb, 0, none⟩), v] W fun e w' => e = .returned (.int .i64 341) ∧ Below W.heap.size W w' := by
  refine (h.dsk.append h.j hR hr hl hle h.off h.left h.np h.jl).mono ?_
  rintro e w' (⟨_, rfl, hB⟩ | ⟨h1, _⟩)
  · exact ⟨rfl, hB⟩
  · have := h.n
    omega
theorem Sys.room (h : Sys w0 W b jb base n D recs) {m : Nat} (hm : n = (T0.addAll recs).size + m) :
    Calls Tryd.prog 12 #[.pointer (some ⟨jb, 0, none⟩)] W fun e w' => e = .returned (.int .i64 m) ∧ Below W.heap.size W w' := by
  refine (h.dsk.room h.j).mono ?_
  rintro e w' ⟨rfl, hB⟩
  refine ⟨?_, hB⟩
  rw [h.n, hm, Nat.add_sub_cancel_left]
theorem Sys.records (h : Sys w0 W b jb base n D recs) :
    Calls Tryd.prog 13 #[.pointer (some ⟨jb, 0, none⟩)] W fun e w' => ∃ p cap, e = .returned (.slice p recs.length cap) ∧ Row w' (.slice p recs.length cap) recs ∧ (∀ g c m, (Value.slice p recs.length cap) = .slice (some ⟨g, 0, none⟩) m c → W.heap.size ≤ g) ∧ Below W.heap.size W w' := by
  refine (h.dsk.records h.j).mono ?_
  rintro e w' ⟨v', rfl, ho, hB⟩
  have hr := own_row ho
  obtain ⟨p, cap, rfl, _⟩ := hr.slice
  refine ⟨p, cap, rfl, hr, ?_, hB⟩
  intro g c m e
  exact own_ge ho g (by rw [e]; rfl)
theorem Sys.reopen (h : Sys w0 W b jb base n D recs) (hR : HasRound w0) (hE : HasErr w0 a) :
    Calls Tryd.prog 8 #[.pointer (some ⟨b, 0, none⟩)] W fun e w' => ∃ kb base', e = .returned (.tuple #[.pointer (some ⟨kb, 0, none⟩), .int .i64 0]) ∧ Sys w0 w' b kb base' n D recs ∧ Below W.heap.size W w' := by
  refine (h.dsk.open hR hE h.off).mono ?_
  rintro e w' ⟨kb, base', rfl, hk, hJ, hd, hB⟩
  exact ⟨kb, base', rfl, ⟨hd, hJ, h.off, h.left, h.np, h.n, Nat.le_trans h.dsk.bel.size hk⟩, hB⟩
theorem New_open (hR : HasRound w0) (hE : HasErr w0 a) (h : Dsk w0 W b D recs) (ho : D.off = false) (hl : D.left = 0) (hp : D.np = 0) (hn : D.n = n) :
    Calls Tryd.prog 8 #[.pointer (some ⟨b, 0, none⟩)] W fun e w' => ∃ jb base, e = .returned (.tuple #[.pointer (some ⟨jb, 0, none⟩), .int .i64 0]) ∧ Sys w0 w' b jb base n D recs ∧ Below W.heap.size W w' := by
  refine (h.open hR hE ho).mono ?_
  rintro e w' ⟨kb, base', rfl, hk, hJ, hd, hB⟩
  exact ⟨kb, base', rfl, ⟨hd, hJ, ho, hl, hp, hn, Nat.le_trans h.bel.size hk⟩, hB⟩
end
end Go.Proofs.YtpcmidhhbgjcjaaDoor
