/- journal.open. -/
import Derived.Test.YtpcmidhhbgjcjaaDoorJ7
namespace Go.Proofs.YtpcmidhhbgjcjaaDoor
open Go Go.RowKit

/-- A tape without records. -/
def T0 : TP := ⟨[], ⟨(List.replicate 32 0).toArray⟩, 0⟩
/-- A journal lies at jb: its tape, its disk's block, whether it is broken. -/
structure HasJ (W : World) (jb base b : Nat) (P : TP) (br : Bool) : Prop where
  tape : ∃ rv, HasTape W jb base #[rv, .string P.head, .int .i64 P.size, .pointer (some ⟨b, 0, none⟩), .bool br] 58 rv P.recs P.head P.size
  hh : P.head.size = 32
  bw : base ≤ W.heap.size
theorem HasTape.fr {W W' : World} {t base : Nat} {C : Array Value} {T : TypeId} {rv : Value} {recs : List ByteArray} {head : ByteArray} {size : Nat} {X : Nat → Prop} (h : HasTape W t base C T rv recs head size) (hf : Fr X W W') (hx : ¬ X t) (hb : ∀ x, base ≤ x → x < W.heap.size → ¬ X x) : HasTape W' t base C T rv recs head size := by
  refine ⟨hf.blk h.blk hx, h.c0, h.c1, h.c2, ?_, h.tb⟩
  obtain ⟨h1, h2⟩ := h.own
  refine ⟨h1, ?_⟩
  rcases h2 with h2 | ⟨g, cap, cur, h2, h3, h4, h5⟩
  · exact .inl h2
  · exact .inr ⟨g, cap, cur, h2, h3, hf.blk h4 (hb _ h3 (blk_lt h4)), h5⟩
theorem HasJ.fr {W W' : World} {jb base b : Nat} {P : TP} {br : Bool} {X : Nat → Prop} (h : HasJ W jb base b P br) (hf : Fr X W W') (hx : ¬ X jb) (hb : ∀ x, base ≤ x → x < W.heap.size → ¬ X x) : HasJ W' jb base b P br := by
  obtain ⟨rv, ht⟩ := h.tape
  exact ⟨⟨rv, ht.fr hf hx hb⟩, h.hh, Nat.le_trans h.bw hf.size⟩
theorem arr5 (C : Array Value) (a0 a1 a2 a3 a4 : Value) (hs : C.size = 5) (h0 : C[0]? = some a0) (h1 : C[1]? = some a1) (h2 : C[2]? = some a2) (h3 : C[3]? = some a3) (h4 : C[4]? = some a4) : C = #[a0, a1, a2, a3, a4] := by
  apply Array.ext
  · simpa using hs
  · intro i hi hi'
    have hi5 : i < 5 := by simpa using hi'
    apply Option.some.inj
    rw [← Array.getElem?_eq_getElem hi, ← Array.getElem?_eq_getElem hi']
    rcases i with _ | _ | _ | _ | _ | i
    · exact h0
    · exact h1
    · exact h2
    · exact h3
    · exact h4
    · omega
theorem made32 : madeCells #[.int .u8 0] 32 = (u8s (List.replicate 32 0)).toArray := made_u8 32
theorem convN {w : World} (B n : Nat) (l : List UInt8) (hl : l.length = n) (h : w.heap[B]? = some (.cells (u8s l).toArray 5 (0, 0))) : (convert 38 9 (.slice (some ⟨B, 0, none⟩) n n)).run Tryd.prog w = .ok (.string ⟨l.toArray⟩) w := by
  have := conv_cells (P := Tryd.prog) (w := w) 38 9 5 Tryd.underlying38 Tryd.underlying5 Tryd.underlying9 B 0 n l (by
    intro i hi
    rw [blk_cell h]
    simp [u8s, List.getD, List.getElem?_eq_getElem hi])
  rw [hl] at this
  exact this
set_option maxRecDepth 100000 in
set_option maxHeartbeats 1000000 in
theorem open_c (b : Nat) (a : Addr) (s : ByteArray) (w : World) (hR : HasRound w) (he : w.cell? ⟨0, 0, none⟩ = some (.iface 155 (.pointer (some a)))) (hs : s.size ≤ 4194304) :
    Calls Tryd.prog 22 #[.pointer (some ⟨b, 0, none⟩), .string s] w fun e w' =>
      (∃ P' jb base, loadF s (s.size + 1) T0 = some P' ∧ e = .returned (.tuple #[.pointer (some ⟨jb, 0, none⟩), .int .i64 0]) ∧ w.heap.size ≤ jb ∧ HasJ w' jb base b P' false ∧ Below w.heap.size w w') ∨
      (loadF s (s.size + 1) T0 = none ∧ e = .returned (.tuple #[.pointer none, .int .i64 342]) ∧ Below w.heap.size w w') := by
  have hmf : ∀ (fn : Fn) (first cap : Array Value) (w : World), (Instr.makeFunc fn first cap).run Tryd.prog w = .ok (.func fn first cap) w := fun _ _ _ _ => rfl
  have hmk : ∀ W : World, (Instr.makeSlice 38 (.int .i64 32) (.int .i64 32)).run Tryd.prog W = .ok (.slice (some ⟨W.heap.size, 0, none⟩) 32 32) (W.alloc (.cells (madeCells #[.int .u8 0] 32) 5)) := run_make_row' (P := Tryd.prog) 38 5 (.int .u8 0) 1 Tryd.underlying38 info_u8'' rfl .i64 .i64 32 (by omega) (by omega)
  have hcv := convN (w := ((w.alloc (.cells #[.pointer none] 29)).alloc (.cells #[.int .i64 0] 25)).alloc (.cells (madeCells #[.int .u8 0] 32) 5)) (w.heap.size + 2) 32 (List.replicate 32 0) (by simp) (by
    rw [made32]
    have := World.alloc_heap_new ((w.alloc (.cells #[.pointer none] 29)).alloc (.cells #[.int .i64 0] 25)) (.cells (u8s (List.replicate 32 0)).toArray 5)
    rw [World.size_alloc, World.size_alloc] at this
    exact this)
  obtain ⟨z32, hz32⟩ : ∃ z32, (⟨(List.replicate 32 0).toArray⟩ : ByteArray) = z32 := ⟨_, rfl⟩
  obtain ⟨Z, hZ⟩ : ∃ Z, madeCells #[.int .u8 0] 32 = Z := ⟨_, rfl⟩
  rw [hZ] at hmk hcv
  rw [hz32] at hcv
  have HZ32 := Lib.hid hz32
  have HZ := Lib.hid hZ
  have HR := Lib.hid hR
  have HE := Lib.hid he
  clear hZ hz32
  obtain ⟨W1, hW1⟩ : ∃ W1, (((w.alloc (.cells #[.pointer (some ⟨w.heap.size + 1 + 1 + 1, 0, none⟩)] 29)).alloc (.cells #[.int .i64 0] 25)).alloc (.cells Z 5)).alloc (.cells #[.slice none 0 0, .string z32, .int .i64 0, .pointer (some ⟨b, 0, none⟩), .bool false] 58) = W1 := ⟨_, rfl⟩
  obtain ⟨jb, hjb⟩ : ∃ jb, w.heap.size + 1 + 1 + 1 = jb := ⟨_, rfl⟩
  have hB1 : Below w.heap.size w W1 := by
    rw [← hW1]
    exact ((((Below.refl _ w).alloc (Nat.le_refl _) _).alloc (by simp) _).alloc (by simp; omega) _).alloc (by simp; omega) _
  have hbj : W1.heap[jb]? = some (.cells #[.slice none 0 0, .string z32, .int .i64 0, .pointer (some ⟨b, 0, none⟩), .bool false] 58 (0, 0)) := by
    rw [← hW1, ← hjb]
    have := World.alloc_heap_new (((w.alloc (.cells #[.pointer (some ⟨w.heap.size + 1 + 1 + 1, 0, none⟩)] 29)).alloc (.cells #[.int .i64 0] 25)).alloc (.cells Z 5)) (.cells #[.slice none 0 0, .string z32, .int .i64 0, .pointer (some ⟨b, 0, none⟩), .bool false] 58)
    rw [World.size_alloc, World.size_alloc, World.size_alloc] at this
    exact this
  have hbg : W1.heap[w.heap.size]? = some (.cells #[.pointer (some ⟨jb, 0, none⟩)] 29 (0, 0)) := by
    rw [← hW1, ← hjb]
    exact (Below.heap_alloc _ _ _ (by simp; omega)).trans ((Below.heap_alloc _ _ _ (by simp; omega)).trans ((Below.heap_alloc _ _ _ (by simp)).trans (World.alloc_heap_new _ _)))
  have hbe : W1.heap[w.heap.size + 1]? = some (.cells #[.int .i64 0] 25 (0, 0)) := by
    rw [← hW1]
    have := World.alloc_heap_new (w.alloc (.cells #[.pointer (some ⟨w.heap.size + 1 + 1 + 1, 0, none⟩)] 29)) (.cells #[.int .i64 0] 25)
    rw [World.size_alloc] at this
    exact (Below.heap_alloc _ _ _ (by simp)).trans ((Below.heap_alloc _ _ _ (by simp)).trans this)
  have hsz : W1.heap.size = jb + 1 := by rw [← hW1, ← hjb]; simp
  have hglt : 0 < w.heap.size := by
    rcases Nat.lt_or_ge 0 w.heap.size with h | h
    · exact h
    · exfalso
      have : w.heap[0]? = none := Array.getElem?_eq_none h
      simp [World.cell?, this] at he
  have hrlt := round_size hR
  have hLd : Ld W1 jb (jb + 1) #[.slice none 0 0, .string z32, .int .i64 0, .pointer (some ⟨b, 0, none⟩), .bool false] 58 ⟨[], z32, 0⟩ (.iface 155 (.pointer (some a))) W1 := by
    refine ⟨⟨.slice none 0 0, #[.slice none 0 0, .string z32, .int .i64 0, .pointer (some ⟨b, 0, none⟩), .bool false], ⟨hbj, rfl, rfl, rfl, World.ownsRow_nil _ _ _ _, by omega⟩, fun _ _ => rfl, rfl⟩, round_below hR hB1 hrlt, ?_, Fr.refl _ _, by omega, by rw [← HZ32.out]; rfl⟩
    exact (hB1.cell (p := ⟨0, 0, none⟩) hglt).trans he
  have HE1 := Lib.hid hLd.err
  have hT0 : (T0 : TP) = ⟨[], z32, 0⟩ := by rw [← HZ32.out, T0]
  rw [hT0]
  have hlc := load_c jb (jb + 1) _ _ _ _ _ s W1 hLd hs (by simp) ⟨by omega, by omega, by omega, by omega⟩
  have HLC := Lib.hid hlc
  have HB1 := Lib.hid hB1
  have HBG := Lib.hid hbg
  have HBE := Lib.hid hbe
  have HW1 := Lib.hid hW1
  have HJB := Lib.hid hjb
  clear hlc hR he hB1 hbj hbg hbe hW1 hjb hLd hT0 hsz
  go_enter_defers Tryd.func22, Tryd.ntmps22
  go_wp2_with (fail)
  rw [HJB.out] at HW1 ⊢
  rw [HW1.out]
  refine HLC.out.mono ?_
  rintro e w2 (⟨P', hP, rfl, hL⟩ | ⟨hn, rfl, hF⟩)
  · have hj1 := HJB.out
    have hG := hL.fr.blk HBG.out (by rintro (h | h) <;> omega)
    have hE := hL.fr.blk HBE.out (by rintro (h | h) <;> omega)
    have cg := blk_cell hG 0
    have ce := blk_cell hE 0
    have fg := blk_free hG 0
    have fe := blk_free hE 0
    have HLd := Lib.hid hL
    have HP := Lib.hid hP
    clear hL hP hG hE hj1
    go_wp2
    refine leaves_cons (f := 38) (args := #[.pointer (some ⟨w.heap.size, 0, none⟩), .pointer (some ⟨w.heap.size + 1, 0, none⟩)]) (by simp) (by simp [go_sem]) ?_
    refine (catch_idle _ _ _).mono ?_
    rintro e u' w3 ⟨rfl, rfl, rfl⟩
    simp [Leaves, settle, results, Tryd.results22, go_sem, cg, ce]
    have hj1 := HJB.out
    have hP := HP.out
    have hL := HLd.out
    obtain ⟨rv, C', hT, hC, hCs⟩ := hL.tape
    have hC' := arr5 C' _ _ _ _ _ hCs hT.c0 hT.c1 hT.c2 (hC 3 (by decide)) (hC 4 (by decide))
    rw [hC'] at hT
    have hfs : Fr (fun x => x = w.heap.size ∨ x = w.heap.size + 1) w2 ((w2.setCell ⟨w.heap.size, 0, none⟩ (.pointer (some ⟨jb, 0, none⟩))).setCell ⟨w.heap.size + 1, 0, none⟩ (.int .i64 0)) := ((Fr.refl _ _).setCell (p := ⟨w.heap.size, 0, none⟩) (.inl (.inl rfl)) _).setCell (p := ⟨w.heap.size + 1, 0, none⟩) (.inl (.inr rfl)) _
    refine ⟨P', hP, by omega, ⟨jb + 1, ⟨rv, hT.fr hfs (by omega) (fun x hx _ => by omega)⟩, hL.hh, Nat.le_trans hL.bw hfs.size⟩, ?_⟩
    exact below_fr (below_fr HB1.out hL.fr (by rintro r (h | h) <;> omega)) hfs (by rintro r (h | h) <;> omega)
  · have hj1 := HJB.out
    have hG := hF.blk HBG.out (by rintro (h | h) <;> omega)
    have hE := hF.blk HBE.out (by rintro (h | h) <;> omega)
    have hg1 := hF.blk HBG.out (by rintro (h | h) <;> omega)
    have cg := blk_cell hG 0
    have ce := blk_cell hE 0
    have fg := blk_free hG 0
    have fe := blk_free hE 0
    have HFF := Lib.hid hF
    have HN := Lib.hid hn
    clear hF hG hE hj1 hn
    go_wp2
    refine leaves_cons (f := 38) (args := #[.pointer (some ⟨w.heap.size, 0, none⟩), .pointer (some ⟨w.heap.size + 1, 0, none⟩)]) (by simp) (by simp [go_sem]) ?_
    refine (catch_panicking w.heap.size a _ _ [] _ cg fg ce fe ?_).mono ?_
    · have hj1 := HJB.out
      exact (HFF.out.cell (a := ⟨0, 0, none⟩) (by have := HB1.out.size; simp only; omega) (by rintro (h | h) <;> simp only at h <;> omega)).trans HE1.out
    rintro e u' w3 ⟨rfl, rfl, rfl⟩
    simp [Leaves, settle, results, Tryd.results22, go_sem, cg, ce]
    have hj1 := HJB.out
    refine ⟨HN.out, ?_⟩
    refine below_fr (X := fun x => x = w.heap.size ∨ x = w.heap.size + 1) (below_fr HB1.out HFF.out (by rintro r (h | h) <;> omega)) (((Fr.refl _ _).setCell (p := ⟨w.heap.size, 0, none⟩) (.inl (.inl rfl)) _).setCell (p := ⟨w.heap.size + 1, 0, none⟩) (.inl (.inr rfl)) _) (by rintro r (h | h) <;> omega)
end Go.Proofs.YtpcmidhhbgjcjaaDoor
