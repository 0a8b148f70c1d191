/- journal: what the calls that 'first' makes do to the disk. -/
import Derived.Test.YtpcmidhhbgjcjaaDoorJ11
namespace Go.Proofs.YtpcmidhhbgjcjaaDoor
open Go Go.RowKit

theorem HasDisk.foot_lt {w : World} {b : Nat} {D : DK} (h : HasDisk w b D) : ∀ r, D.foot b r → r < w.heap.size := by
  obtain ⟨l, hl1, hl2⟩ := h.dur
  obtain ⟨xs, hp⟩ := h.pend
  rintro r (rfl | rfl | rfl | hr)
  · exact h.lt
  · exact blk_lt hl2
  · exact blk_lt h.vis
  · exact own_lt hp _ hr
/-- What types the blocks of a disk have. -/
theorem HasDisk.foot_ty {w : World} {b : Nat} {D : DK} (h : HasDisk w b D) : ∀ r, D.foot b r → ∃ cs T, w.heap[r]? = some (.cells cs T (0, 0)) ∧ (T = 51 ∨ T = 5 ∨ T = 76) := by
  obtain ⟨l, hl1, hl2⟩ := h.dur
  obtain ⟨xs, hp⟩ := h.pend
  rintro r (rfl | rfl | rfl | hr)
  · exact ⟨_, _, h.blk, .inl rfl⟩
  · exact ⟨_, _, hl2, .inr (.inl rfl)⟩
  · exact ⟨_, _, h.vis, .inr (.inl rfl)⟩
  · obtain ⟨cs, g⟩ := own_blk hp hr
    exact ⟨_, _, g, .inr (.inr rfl)⟩
theorem HasDisk.foot_not {w : World} {b g : Nat} {D : DK} {cs : Array Value} {T : TypeId} (h : HasDisk w b D) (hg : w.heap[g]? = some (.cells cs T (0, 0))) (h1 : T ≠ 51) (h2 : T ≠ 5) (h3 : T ≠ 76) : ¬ D.foot b g := by
  intro hf
  obtain ⟨cs', T', hg', hT⟩ := h.foot_ty g hf
  rw [hg] at hg'
  injection hg' with e
  injection e with _ e2 _
  subst e2
  rcases hT with h | h | h
  · exact h1 h
  · exact h2 h
  · exact h3 h
/-- How the disk stands among several calls that began in w0 with D. -/
structure DS (b : Nat) (D : DK) (w0 : World) (vis : List UInt8) (k : Nat) (W : World) (D' : DK) : Prop where
  disk : HasDisk W b D'
  off : D'.off = false
  left : D'.left = 0
  np : D'.np ≤ k
  n : D'.n = D.n
  vis : D'.vis = vis
  fr : Fr (D.foot b) w0 W
  foot : ∀ r, D'.foot b r → D.foot b r ∨ w0.heap.size ≤ r
theorem DS.drew {b : Nat} {D D' : DK} {w0 W : World} {vis : List UInt8} {k : Nat} (h : DS b D w0 vis k W D') : DS b D w0 vis k W.drew D' :=
  ⟨h.disk.fr (X := fun _ => False) (drew_fr W) (fun _ _ _ => id), h.off, h.left, h.np, h.n, h.vis, h.fr.drew, h.foot⟩
theorem DS.write {b : Nat} {D D' : DK} {w0 W : World} {vis : List UInt8} {k : Nat} (h : DS b D w0 vis k W D') (hk : k ≤ 1000) (o : Nat) (s : ByteArray) (hs : o + s.size ≤ D.n) (ho : o < D.n) :
    Calls Tryd.prog 19 #[.pointer (some ⟨b, 0, none⟩), .int .i64 o, .string s] W fun e w' => e = .returned (.int .i64 0) ∧ ∃ D2, DS b D w0 (putAt vis o s.data.toList) (k + 1) w' D2 := by
  refine (Write_c b o s D' W h.disk h.off (by rw [h.n]; exact hs) (by rw [h.n]; exact ho) (by have := h.np; omega)).mono ?_
  rintro e w' ⟨rfl, pend, hD, hf, hp⟩
  refine ⟨rfl, _, hD, ?_, ?_, ?_, ?_, ?_, h.fr.trans hf h.foot, ?_⟩
  · show (if D'.left = 0 then D'.off else D'.left == 1) = false
    rw [if_pos h.left, h.off]
  · show D'.left - 1 = 0
    rw [h.left]
  · show D'.np + 1 ≤ k + 1
    have := h.np
    omega
  · exact h.n
  · show putAt D'.vis o s.data.toList = _
    rw [h.vis]
  · rintro r (hr | hr | hr | hr)
    · exact h.foot r (.inl hr)
    · exact h.foot r (.inr (.inl hr))
    · exact h.foot r (.inr (.inr (.inl hr)))
    · rcases hp r hr with h1 | h1
      · exact h.foot r (.inr (.inr (.inr h1)))
      · exact .inr (Nat.le_trans h.fr.size h1)
theorem DS.sync {b : Nat} {D D' : DK} {w0 W : World} {vis : List UInt8} {k : Nat} (h : DS b D w0 vis k W D') :
    Calls Tryd.prog 26 #[.pointer (some ⟨b, 0, none⟩)] W fun e w' => e = .returned (.int .i64 0) ∧ ∃ D2, DS b D w0 vis 0 w' D2 := by
  refine (Sync_c b D' W h.disk h.off).mono ?_
  rintro e w' ⟨rfl, pend, hD, hp, hf⟩
  refine ⟨rfl, _, hD, h.off, h.left, Nat.le_refl _, h.n, h.vis, h.fr.trans hf h.foot, ?_⟩
  rintro r (hr | hr | hr | hr)
  · exact h.foot r (.inl hr)
  · exact h.foot r (.inr (.inl hr))
  · exact h.foot r (.inr (.inr (.inl hr)))
  · have hr' : pend.ownBlock = some r := hr
    rw [hp] at hr'
    exact h.foot r (.inr (.inr (.inr hr')))
/-- What 'writing' has laid: three variables that its function captured. -/
structure Wrote (j at_ : Nat) (s : ByteArray) (w w' : World) : Prop where
  below : Below w.heap.size w w'
  size : w'.heap.size = w.heap.size + 3
  b0 : w'.heap[w.heap.size]? = some (.cells #[.pointer (some ⟨j, 0, none⟩)] 29 (0, 0))
  b1 : w'.heap[w.heap.size + 1]? = some (.cells #[.int .i64 at_] 3 (0, 0))
  b2 : w'.heap[w.heap.size + 2]? = some (.cells #[.string s] 9 (0, 0))
theorem writing_w (j at_ : Nat) (s : ByteArray) (w : World) :
    Calls Tryd.prog 25 #[.pointer (some ⟨j, 0, none⟩), .int .i64 at_, .string s] w fun e w' => e = .returned (.func (.func 48) #[] #[.pointer (some ⟨w.heap.size, 0, none⟩), .pointer (some ⟨w.heap.size + 1, 0, none⟩), .pointer (some ⟨w.heap.size + 2, 0, none⟩)]) ∧ Wrote j at_ s w w' := by
  refine (writing_c j at_ s w).mono ?_
  rintro e w' ⟨rfl, rfl⟩
  refine ⟨rfl, ((((Below.refl _ w).alloc (Nat.le_refl _) _).alloc (by simp) _).alloc (by simp; omega) _), by simp, ?_, ?_, ?_⟩
  · exact (Below.heap_alloc _ _ _ (by simp; omega)).trans ((Below.heap_alloc _ _ _ (by simp)).trans (World.alloc_heap_new _ _))
  · have := World.alloc_heap_new (w.alloc (.cells #[.pointer (some ⟨j, 0, none⟩)] 29)) (.cells #[.int .i64 at_] 3)
    rw [World.size_alloc] at this
    exact (Below.heap_alloc _ _ _ (by simp)).trans this
  · have := World.alloc_heap_new ((w.alloc (.cells #[.pointer (some ⟨j, 0, none⟩)] 29)).alloc (.cells #[.int .i64 at_] 3)) (.cells #[.string s] 9)
    rw [World.size_alloc, World.size_alloc] at this
    exact this
theorem Wrote.cell {j at_ : Nat} {s : ByteArray} {w w' : World} {a : Addr} {v : Value} (h : Wrote j at_ s w w') (hc : w.cell? a = some v) (ha : a.block < w.heap.size) : w'.cell? a = some v := (h.below.cell ha).trans hc
/-- The function value that 'writing' gives. -/
def FW (q : Nat) : FV := ⟨48, #[], #[.pointer (some ⟨q, 0, none⟩), .pointer (some ⟨q + 1, 0, none⟩), .pointer (some ⟨q + 2, 0, none⟩)]⟩
/-- d.Sync as a function value. -/
def FS (b : Nat) : FV := ⟨26, #[.pointer (some ⟨b, 0, none⟩)], #[]⟩
/-- The captured variables of a 'writing' lie at q. -/
structure WAt (j at_ : Nat) (s : ByteArray) (q : Nat) (W : World) : Prop where
  c0 : W.cell? ⟨q, 0, none⟩ = some (.pointer (some ⟨j, 0, none⟩))
  c1 : W.cell? ⟨q + 1, 0, none⟩ = some (.int .i64 at_)
  c2 : W.cell? ⟨q + 2, 0, none⟩ = some (.string s)
  lt : q + 2 < W.heap.size
theorem Wrote.at_ {j at_ : Nat} {s : ByteArray} {w w' : World} (h : Wrote j at_ s w w') : WAt j at_ s w.heap.size w' :=
  ⟨blk_cell h.b0 0, blk_cell h.b1 0, blk_cell h.b2 0, blk_lt h.b2⟩
theorem WAt.fr {j at_ : Nat} {s : ByteArray} {q : Nat} {W W' : World} {X : Nat → Prop} (h : WAt j at_ s q W) (hf : Fr X W W') (hx : ¬ X q ∧ ¬ X (q + 1) ∧ ¬ X (q + 2)) : WAt j at_ s q W' := by
  have := h.lt
  exact ⟨(hf.cell (a := ⟨q, 0, none⟩) (by simp only; omega) hx.1).trans h.c0, (hf.cell (a := ⟨q + 1, 0, none⟩) (by simp only; omega) hx.2.1).trans h.c1, (hf.cell (a := ⟨q + 2, 0, none⟩) (by simp only; omega) hx.2.2).trans h.c2, Nat.lt_of_lt_of_le h.lt hf.size⟩
/-- A 'writing' called. -/
theorem DS.fw {b : Nat} {D D' : DK} {w0 W : World} {vis : List UInt8} {k : Nat} (h : DS b D w0 vis k W D') (hk : k ≤ 1000) {j o q : Nat} {s : ByteArray} (hs : o + s.size ≤ D.n) (ho : o < D.n) (hw : WAt j o s q w0) (hj : w0.cell? ⟨j, 3, none⟩ = some (.pointer (some ⟨b, 0, none⟩))) (hjl : j < w0.heap.size)
    (hnf : ¬ D.foot b q ∧ ¬ D.foot b (q + 1) ∧ ¬ D.foot b (q + 2) ∧ ¬ D.foot b j) :
    Calls Tryd.prog (FW q).k ((FW q).a ++ (FW q).c) W fun e w' => e = .returned (.int .i64 0) ∧ ∃ D2, DS b D w0 (putAt vis o s.data.toList) (k + 1) w' D2 := by
  have hW := hw.fr h.fr ⟨hnf.1, hnf.2.1, hnf.2.2.1⟩
  exact writing1_c q (q + 1) (q + 2) j b o s W 0 _ hW.c0 hW.c1 hW.c2 ((h.fr.cell (a := ⟨j, 3, none⟩) hjl hnf.2.2.2).trans hj) (h.drew.write hk o s hs ho)
theorem DS.fs {b : Nat} {D D' : DK} {w0 W : World} {vis : List UInt8} {k : Nat} (h : DS b D w0 vis k W D') :
    Calls Tryd.prog (FS b).k ((FS b).a ++ (FS b).c) W fun e w' => e = .returned (.int .i64 0) ∧ ∃ D2, DS b D w0 vis 0 w' D2 := h.sync
/-- The four calls of Append where the disk has power. -/
theorem four_on (jb b q1 q0 g sz s1 : Nat) (o1 o0 : ByteArray) (D : DK) (w : World) (hD : HasDisk w b D) (hoff : D.off = false) (hleft : D.left = 0) (hnp : D.np ≤ 100) (hj : w.cell? ⟨jb, 3, none⟩ = some (.pointer (some ⟨b, 0, none⟩))) (hjl : jb < w.heap.size)
    (ha : WAt jb s1 o1 q1 w) (hb : WAt jb sz o0 q0 w) (hg : w.heap[g]? = some (.cells #[(FW q1).val, (FS b).val, (FW q0).val, (FS b).val] 60 (0, 0)))
    (h1 : s1 + o1.size ≤ D.n) (h1' : s1 < D.n) (h0 : sz + o0.size ≤ D.n) (h0' : sz < D.n)
    (hnf : ∀ r, D.foot b r → r ≠ jb ∧ r ≠ g ∧ r ≠ q1 ∧ r ≠ q1 + 1 ∧ r ≠ q1 + 2 ∧ r ≠ q0 ∧ r ≠ q0 + 1 ∧ r ≠ q0 + 2) :
    Calls Tryd.prog 24 #[.slice (some ⟨g, 0, none⟩) 4 4] w fun e w' => e = .returned (.int .i64 0) ∧ ∃ D', DS b D w (putAt (putAt D.vis s1 o1.data.toList) sz o0.data.toList) 0 w' D' := by
  have hq : ∀ r, (r = jb ∨ r = g ∨ r = q1 ∨ r = q1 + 1 ∨ r = q1 + 2 ∨ r = q0 ∨ r = q0 + 1 ∨ r = q0 + 2) → ¬ D.foot b r := by
    intro r hr hf
    have := hnf r hf
    omega
  refine (first_c g 4 [FW q1, FS b, FW q0, FS b] (fun i W => ∃ D', DS b D w (if i = 0 then D.vis else if i ≤ 2 then putAt D.vis s1 o1.data.toList else putAt (putAt D.vis s1 o1.data.toList) sz o0.data.toList) (if i = 0 then 100 else if i = 1 then 101 else if i = 3 then 1 else 0) W D') (fun _ _ => False) w (by simp) ?_ ?_ ?_ ?_).mono ?_
  · intro f hf
    simp only [List.mem_cons, List.not_mem_nil, or_false] at hf
    rcases hf with rfl | rfl | rfl | rfl
    · exact .inl rfl
    · exact .inr rfl
    · exact .inl rfl
    · exact .inr rfl
  · exact ⟨D, hD, hoff, hleft, hnp, rfl, rfl, Fr.refl _ _, fun r hr => .inl hr⟩
  · rintro i W ⟨D', hDS⟩ j f hf
    have hg' := hDS.fr.blk hg (hq g (by omega))
    rw [blk_cell hg']
    rcases j with _ | _ | _ | _ | j
    · cases hf; rfl
    · cases hf; rfl
    · cases hf; rfl
    · cases hf; rfl
    · cases hf
  · rintro i f W hf ⟨D', hDS⟩
    rcases i with _ | _ | _ | _ | i
    · cases hf
      refine (hDS.fw (by decide) h1 h1' ha hj hjl ⟨hq _ (by omega), hq _ (by omega), hq _ (by omega), hq _ (by omega)⟩).mono ?_
      rintro e w' ⟨rfl, D2, h2⟩
      exact .inl ⟨rfl, D2, h2⟩
    · cases hf
      refine hDS.fs.mono ?_
      rintro e w' ⟨rfl, D2, h2⟩
      exact .inl ⟨rfl, D2, h2⟩
    · cases hf
      refine (hDS.fw (by decide) h0 h0' hb hj hjl ⟨hq _ (by omega), hq _ (by omega), hq _ (by omega), hq _ (by omega)⟩).mono ?_
      rintro e w' ⟨rfl, D2, h2⟩
      exact .inl ⟨rfl, D2, h2⟩
    · cases hf
      refine hDS.fs.mono ?_
      rintro e w' ⟨rfl, D2, h2⟩
      exact .inl ⟨rfl, D2, h2⟩
    · cases hf
  · rintro e w' (⟨rfl, D', h⟩ | ⟨c, _, _, h⟩)
    · exact ⟨rfl, D', h⟩
    · exact h.elim
/-- The same where it has none: the first call is told of it. -/
theorem four_off (jb b q1 g s1 : Nat) (o1 : ByteArray) (fs : List FV) (D : DK) (w : World) (hD : HasDisk w b D) (hoff : D.off = true) (hj : w.cell? ⟨jb, 3, none⟩ = some (.pointer (some ⟨b, 0, none⟩)))
    (ha : WAt jb s1 o1 q1 w) (hg : ∀ j f, (FW q1 :: fs)[j]? = some f → w.cell? ⟨g, j, none⟩ = some f.val) (hl : fs.length ≤ 100) (hk : ∀ f ∈ fs, f.k = 48 ∨ f.k = 26) :
    Calls Tryd.prog 24 #[.slice (some ⟨g, 0, none⟩) (fs.length + 1) (fs.length + 1)] w fun e w' => e = .returned (.int .i64 331) ∧ Below w.heap.size w w' := by
  refine (first_c g (fs.length + 1) (FW q1 :: fs) (fun i W => i = 0 ∧ W = w) (fun c W => c = 331 ∧ Below w.heap.size w W) w (by simp; omega) ?_ ⟨rfl, rfl⟩ ?_ ?_).mono ?_
  · intro f hf
    rcases List.mem_cons.1 hf with rfl | hf
    · exact .inl rfl
    · exact hk f hf
  · rintro i W ⟨_, rfl⟩ j f hf
    exact hg j f hf
  · rintro i f W hf ⟨rfl, rfl⟩
    cases hf
    refine (writing1_c q1 (q1 + 1) (q1 + 2) jb b s1 o1 W 331 (fun w' => W.drew = w') ha.c0 ha.c1 ha.c2 hj (Write_off b _ _ D W.drew (hD.fr (X := fun _ => False) (drew_fr W) (fun _ _ _ => id)) hoff)).mono ?_
    rintro e w' ⟨rfl, rfl⟩
    exact .inr ⟨331, by decide, rfl, rfl, (Below.refl _ W).drew⟩
  · rintro e w' (⟨rfl, h, _⟩ | ⟨c, _, rfl, rfl, h⟩)
    · simp at h
    · exact ⟨rfl, h⟩
theorem DS.mono {b : Nat} {D D' : DK} {wX w0 W : World} {vis : List UInt8} {k : Nat} (h : DS b D w0 vis k W D') (hB : Below wX.heap.size wX w0) : DS b D wX vis k W D' :=
  ⟨h.disk, h.off, h.left, h.np, h.n, h.vis, (Fr.of_below (X := D.foot b) hB).trans h.fr (fun _ hr => .inl hr), fun r hr => (h.foot r hr).imp id (fun h' => Nat.le_trans hB.size h')⟩
theorem Wrote.blk {j at_ : Nat} {s : ByteArray} {w w' : World} {g : Nat} {o : Obj} (h : Wrote j at_ s w w') (hg : w.heap[g]? = some o) : w'.heap[g]? = some o := (h.below.block g (blk_lt hg)).trans hg
/-- The world in which Append calls 'first'. -/
def W4 (wX wa wb : World) (b : Nat) : World := wb.alloc (.cells #[.func (.func 48) #[] #[.pointer (some ⟨wX.heap.size, 0, none⟩), .pointer (some ⟨wX.heap.size + 1, 0, none⟩), .pointer (some ⟨wX.heap.size + 2, 0, none⟩)], .func (.func 26) #[.pointer (some ⟨b, 0, none⟩)] #[], .func (.func 48) #[] #[.pointer (some ⟨wa.heap.size, 0, none⟩), .pointer (some ⟨wa.heap.size + 1, 0, none⟩), .pointer (some ⟨wa.heap.size + 2, 0, none⟩)], .func (.func 26) #[.pointer (some ⟨b, 0, none⟩)] #[]] 60)
theorem first_on (jb b sz s1 : Nat) (o1 o0 : ByteArray) (D : DK) (wX wa wb : World) (hD : HasDisk wX b D) (hoff : D.off = false) (hleft : D.left = 0) (hnp : D.np ≤ 100) (hj : wX.cell? ⟨jb, 3, none⟩ = some (.pointer (some ⟨b, 0, none⟩))) (hjl : jb < wX.heap.size) (hjf : ¬ D.foot b jb)
    (hwa : Wrote jb s1 o1 wX.drew wa) (hwb : Wrote jb sz o0 wa wb) (h1 : s1 + o1.size ≤ D.n) (h1' : s1 < D.n) (h0 : sz + o0.size ≤ D.n) (h0' : sz < D.n) :
    Calls Tryd.prog 24 #[.slice (some ⟨wb.heap.size, 0, none⟩) 4 4] (W4 wX wa wb b) fun e w' => e = .returned (.int .i64 0) ∧ ∃ D', DS b D wX (putAt (putAt D.vis s1 o1.data.toList) sz o0.data.toList) 0 w' D' := by
  have hfl := hD.foot_lt
  have hsa : wa.heap.size = wX.heap.size + 3 := hwa.size
  have hsb := hwb.size
  have hBa : Below wX.heap.size wX wa := ((Below.refl _ wX).drew).trans hwa.below
  have hBb : Below wX.heap.size wX wb := hBa.trans (hwb.below.mono (by omega))
  have hB4 : Below wX.heap.size wX (W4 wX wa wb b) := hBb.alloc (by omega) _
  have hA4 : Below wa.heap.size wa (W4 wX wa wb b) := hwb.below.alloc (by omega) _
  have hb4 : Below wb.heap.size wb (W4 wX wa wb b) := (Below.refl _ wb).alloc (Nat.le_refl _) _
  have hq1 : WAt jb s1 o1 wX.heap.size (W4 wX wa wb b) := (hwa.at_).fr (X := fun _ => False) (Fr.of_below hA4) ⟨id, id, id⟩
  have hq0 : WAt jb sz o0 wa.heap.size (W4 wX wa wb b) := (hwb.at_).fr (X := fun _ => False) (Fr.of_below hb4) ⟨id, id, id⟩
  refine (four_on jb b wX.heap.size wa.heap.size wb.heap.size sz s1 o1 o0 D (W4 wX wa wb b) (hD.below hB4) hoff hleft hnp ((hB4.cell (p := ⟨jb, 3, none⟩) hjl).trans hj) (Nat.lt_of_lt_of_le hjl hB4.size) hq1 hq0 (World.alloc_heap_new wb _) h1 h1' h0 h0' ?_).mono ?_
  · intro r hr
    have := hfl r hr
    exact ⟨fun e => hjf (e ▸ hr), by omega, by omega, by omega, by omega, by omega, by omega, by omega⟩
  · rintro e w' ⟨rfl, D', h⟩
    exact ⟨rfl, D', h.mono hB4⟩
theorem first_off (jb b sz s1 : Nat) (o1 o0 : ByteArray) (D : DK) (wX wa wb : World) (hD : HasDisk wX b D) (hoff : D.off = true) (hj : wX.cell? ⟨jb, 3, none⟩ = some (.pointer (some ⟨b, 0, none⟩))) (hjl : jb < wX.heap.size)
    (hwa : Wrote jb s1 o1 wX.drew wa) (hwb : Wrote jb sz o0 wa wb) :
    Calls Tryd.prog 24 #[.slice (some ⟨wb.heap.size, 0, none⟩) 4 4] (W4 wX wa wb b) fun e w' => e = .returned (.int .i64 331) ∧ Below wX.heap.size wX w' := by
  have hsa : wa.heap.size = wX.heap.size + 3 := hwa.size
  have hsb := hwb.size
  have hBa : Below wX.heap.size wX wa := ((Below.refl _ wX).drew).trans hwa.below
  have hBb : Below wX.heap.size wX wb := hBa.trans (hwb.below.mono (by omega))
  have hB4 : Below wX.heap.size wX (W4 wX wa wb b) := hBb.alloc (by omega) _
  have hA4 : Below wa.heap.size wa (W4 wX wa wb b) := hwb.below.alloc (by omega) _
  have hq1 : WAt jb s1 o1 wX.heap.size (W4 wX wa wb b) := (hwa.at_).fr (X := fun _ => False) (Fr.of_below hA4) ⟨id, id, id⟩
  refine (four_off jb b wX.heap.size wb.heap.size s1 o1 [FS b, FW wa.heap.size, FS b] D (W4 wX wa wb b) (hD.below hB4) hoff ((hB4.cell (p := ⟨jb, 3, none⟩) hjl).trans hj) hq1 ?_ (by simp) ?_).mono ?_
  · intro j f hf
    unfold W4
    rw [blk_cell (World.alloc_heap_new wb _)]
    rcases j with _ | _ | _ | _ | j
    · cases hf; rfl
    · cases hf; rfl
    · cases hf; rfl
    · cases hf; rfl
    · cases hf
  · intro f hf
    simp only [List.mem_cons, List.not_mem_nil, or_false] at hf
    rcases hf with rfl | rfl | rfl
    · exact .inr rfl
    · exact .inl rfl
    · exact .inr rfl
  · rintro e w' ⟨rfl, h⟩
    exact ⟨rfl, hB4.trans (h.mono hB4.size)⟩
theorem first_any (jb b sz s1 : Nat) (o1 o0 : ByteArray) (D : DK) (wX wa wb : World) (hD : HasDisk wX b D) (hleft : D.left = 0) (hnp : D.np ≤ 100) (h2 : wX.cell? ⟨jb, 2, none⟩ = some (.int .i64 sz)) (hj : wX.cell? ⟨jb, 3, none⟩ = some (.pointer (some ⟨b, 0, none⟩))) (hjl : jb < wX.heap.size) (hjf : ¬ D.foot b jb)
    (hwa : Wrote jb s1 o1 wX.drew wa) (hwb : Wrote jb sz o0 wa wb) (h1 : s1 + o1.size ≤ D.n) (h1' : s1 < D.n) (h0 : sz + o0.size ≤ D.n) (h0' : sz < D.n) :
    Calls Tryd.prog 24 #[.slice (some ⟨wb.heap.size, 0, none⟩) 4 4] (W4 wX wa wb b) fun e w' => ∃ c : Int, e = .returned (.int .i64 c) ∧ w'.cell? ⟨jb, 2, none⟩ = some (.int .i64 sz) ∧ w'.cell? ⟨jb, 3, none⟩ = some (.pointer (some ⟨b, 0, none⟩)) ∧
      ((D.off = true ∧ c = 331 ∧ Below wX.heap.size wX w') ∨ (D.off = false ∧ c = 0 ∧ ∃ D', DS b D wX (putAt (putAt D.vis s1 o1.data.toList) sz o0.data.toList) 0 w' D')) := by
  cases hoff : D.off with
  | false =>
    refine (first_on jb b sz s1 o1 o0 D wX wa wb hD hoff hleft hnp hj hjl hjf hwa hwb h1 h1' h0 h0').mono ?_
    rintro e w' ⟨rfl, D', h⟩
    exact ⟨0, rfl, (h.fr.cell (a := ⟨jb, 2, none⟩) hjl hjf).trans h2, (h.fr.cell (a := ⟨jb, 3, none⟩) hjl hjf).trans hj, .inr ⟨rfl, rfl, D', h⟩⟩
  | true =>
    refine (first_off jb b sz s1 o1 o0 D wX wa wb hD hoff hj hjl hwa hwb).mono ?_
    rintro e w' ⟨rfl, h⟩
    exact ⟨331, rfl, (h.cell (p := ⟨jb, 2, none⟩) hjl).trans h2, (h.cell (p := ⟨jb, 3, none⟩) hjl).trans hj, .inl ⟨rfl, rfl, h⟩⟩
end Go.Proofs.YtpcmidhhbgjcjaaDoor
