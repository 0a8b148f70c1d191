/- journal.Open where nothing is written. -/
import Derived.Test.YtpcmidhhbgjcjaaDoorJ8
import Derived.Test.YtpcmidhhbgjcjaaDoorShelf
namespace Go.Proofs.YtpcmidhhbgjcjaaDoor
open Go Go.RowKit

/-- What a disk's visible content is, as a string. -/
def DK.str (D : DK) : ByteArray := ⟨D.vis.toArray⟩
theorem DK.str_size {w : World} {b : Nat} {D : DK} (h : HasDisk w b D) : D.str.size = D.n := by
  have := h.lv
  show D.vis.toArray.size = D.n
  simpa using this
/-- The sentinel lies where it should. -/
def HasErr (w : World) (a : Addr) : Prop := w.cell? ⟨0, 0, none⟩ = some (.iface 155 (.pointer (some a)))
theorem HasErr.lt {w : World} {a : Addr} (h : HasErr w a) : 0 < w.heap.size := by
  rcases Nat.lt_or_ge 0 w.heap.size with h' | h'
  · exact h'
  · exfalso
    have : w.heap[0]? = none := Array.getElem?_eq_none h'
    simp [HasErr, World.cell?, this] at h
theorem HasErr.fr {w w' : World} {a : Addr} {X : Nat → Prop} (h : HasErr w a) (hf : Fr X w w') (hx : ¬ X 0) : HasErr w' a :=
  (hf.cell (a := ⟨0, 0, none⟩) h.lt hx).trans h
theorem Open_nil (w : World) : Calls Tryd.prog 8 #[.pointer none] w fun e w' => e = .returned (.tuple #[.pointer none, .int .i64 1]) ∧ w = w' := by
  go_enter Tryd.func8, Tryd.ntmps8
  go_wp2
  go_ret2
  exact ⟨rfl, rfl⟩
theorem run_tail {P : Program} (t : TypeId) (ht : P.underlying t = some .string) (s : ByteArray) (l : Nat) (h1 : l ≤ s.size) (w : World) :
    (Instr.slice t (.string s) (some (.int .i64 (l : Int))) none none).run P w = .ok (.string (s.extract l s.size)) w := by
  simp [Instr.slice, run_underlying ht, Instr.sliceBounds, run_sliceBound, h1]
set_option maxRecDepth 100000 in
set_option maxHeartbeats 1000000 in
theorem Open_bad (b : Nat) (a : Addr) (D : DK) (w : World) (h : HasDisk w b D) (ho : D.off = false) (hR : HasRound w) (he : HasErr w a) (hl : loadF D.str (D.n + 1) T0 = none) :
    Calls Tryd.prog 8 #[.pointer (some ⟨b, 0, none⟩)] w fun e w' => e = .returned (.tuple #[.pointer none, .int .i64 342]) ∧ Below w.heap.size w w' := by
  have hnb := h.nb
  have hss := DK.str_size h
  have hop := open_c b a D.str w hR he (by omega)
  rw [hss, hl] at hop
  have HSz := Lib.hid (Size_c b D w h)
  have HRd := Lib.hid (Read_c b D w h ho)
  have HO := Lib.hid hop
  obtain ⟨s, hs⟩ : ∃ s, D.str = s := ⟨_, rfl⟩
  have hs' : (⟨D.vis.toArray⟩ : ByteArray) = s := hs
  rw [hs'] at HRd
  rw [hs] at HO
  obtain ⟨n, hn⟩ : ∃ n, D.n = n := ⟨_, rfl⟩
  rw [hn] at HSz HRd
  clear hop h hnb hss hR he ho hl hs hs' hn
  go_enter Tryd.func8, Tryd.ntmps8
  go_wp2_with (first
    | (go_at_call 21; refine HSz.out.mono ?_; rintro e w' ⟨rfl, rfl⟩)
    | (go_at_call 20; refine HRd.out.mono ?_; rintro e w' ⟨rfl, rfl⟩)
    | (go_at_call 22; refine HO.out.mono ?_; rintro e w' (⟨_, _, _, h1, _⟩ | ⟨_, rfl, hB⟩); rotate_left 1; have HB := Lib.hid hB; clear hB; rotate_left 1; cases h1))
  go_ret2
  exact ⟨rfl, HB.out⟩
set_option maxRecDepth 100000 in
set_option maxHeartbeats 1000000 in
theorem Open_clean (b : Nat) (a : Addr) (D : DK) (P' : TP) (w : World) (h : HasDisk w b D) (ho : D.off = false) (hR : HasRound w) (he : HasErr w a) (hl : loadF D.str (D.n + 1) T0 = some P') (hp : P'.size ≤ D.n) (hz : Lib.trimB (D.vis.drop P'.size) 0 = []) :
    Calls Tryd.prog 8 #[.pointer (some ⟨b, 0, none⟩)] w fun e w' => ∃ jb base, e = .returned (.tuple #[.pointer (some ⟨jb, 0, none⟩), .int .i64 0]) ∧ w.heap.size ≤ jb ∧ HasJ w' jb base b P' false ∧ Below w.heap.size w w' := by
  have hnb := h.nb
  have hss := DK.str_size h
  have hop := open_c b a D.str w hR he (by omega)
  rw [hss, hl] at hop
  have hsd : (D.str.extract P'.size D.str.size).data.toList = D.vis.drop P'.size := by
    rw [Lib.extract_to_end]; rfl
  have htr : ∀ W, Calls Tryd.prog 23 #[.string (D.str.extract P'.size D.str.size), .string ⟨#[0]⟩] W fun e w' => e = .returned (.string ⟨#[]⟩) ∧ (w' = W ∨ w' = W.drew) := by
    intro W
    have h1 := Tryd.strings_Trim_one (D.str.extract P'.size D.str.size) 0 (by decide) W (by rw [ByteArray.size_extract]; omega)
    rw [hsd, hz] at h1
    exact h1
  have HSz := Lib.hid (Size_c b D w h)
  have HRd := Lib.hid (Read_c b D w h ho)
  have HO := Lib.hid hop
  have HTR := Lib.hid htr
  obtain ⟨s, hs⟩ : ∃ s, D.str = s := ⟨_, rfl⟩
  have hs' : (⟨D.vis.toArray⟩ : ByteArray) = s := hs
  rw [hs'] at HRd
  rw [hs] at HO HTR hss
  obtain ⟨n, hn⟩ : ∃ n, D.n = n := ⟨_, rfl⟩
  rw [hn] at HSz HRd hp hnb hss
  obtain ⟨z, hz⟩ : ∃ z, P'.size = z := ⟨_, rfl⟩
  have HZ := Lib.hid hz
  rw [hz] at HTR hp
  have htl := run_tail (P := Tryd.prog) 9 Tryd.underlying9 s z (by omega)
  obtain ⟨q, hq⟩ : ∃ q, s.extract z s.size = q := ⟨_, rfl⟩
  rw [hq] at HTR htl
  clear hop h hnb hss hR he ho hl hs hs' hn hsd htr hz hq
  go_enter Tryd.func8, Tryd.ntmps8
  go_wp2_with (first
    | (go_at_call 21; refine HSz.out.mono ?_; rintro e w' ⟨rfl, rfl⟩)
    | (go_at_call 20; refine HRd.out.mono ?_; rintro e w' ⟨rfl, rfl⟩)
    | (go_at_call 22; refine HO.out.mono ?_; rintro e w' (⟨P2, jb, base, h1, rfl, hjb, hJ, hB⟩ | ⟨h1, _⟩); rotate_left 1; cases h1; cases h1; obtain ⟨rv, hT⟩ := hJ.tape; have c2 : w'.cell? ⟨jb, 2, none⟩ = some (.int .i64 z) := by { rw [← HZ.out]; exact (blk_cell hT.blk 2).trans hT.c2 }; have HB := Lib.hid hB; have HJ := Lib.hid hJ; clear hB hJ hT)
    | (go_at_call 23; refine (HTR.out _).mono ?_; rintro e wt ⟨rfl, rfl | rfl⟩))
  · go_ret2
    exact ⟨jb, base, rfl, hjb, HJ.out, HB.out⟩
  · go_ret2
    exact ⟨jb, base, rfl, hjb, HJ.out.fr (X := fun _ => False) (drew_fr _) id (fun _ _ _ => id), HB.out.drew⟩
end Go.Proofs.YtpcmidhhbgjcjaaDoor
