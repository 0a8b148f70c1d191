/- disk: settle. -/
import Derived.Test.YtpcmidhhbgjcjaaDoorK3
namespace Go.Proofs.YtpcmidhhbgjcjaaDoor
open Go Go.RowKit

/-- clear of an owned row whose elements take two cells. -/
theorem run_clear_own {P : Program} (W : World) (t e ty : TypeId) (z0 z1 : Value) (z : Value) (ht : P.underlying t = some (.slice e)) (hv : ∀ w, (zeroValue e).run P w = .ok z w) (hz : z.cells = #[z0, z1]) (h0 : z0.oneCell' = true) (h1 : z1.oneCell' = true)
    (base n : Nat) (v : Value) (xs : List Value) (hown : W.ownsRow base e 2 v n xs) :
    ∃ W' xs', (Builtin.clear_ #[t] ty #[v]).run P W = .ok (.tuple #[]) W' ∧ W'.ownsRow base e 2 v n xs' ∧ Fr (fun r => v.ownBlock = some r) W W' := by
  obtain ⟨hl, h⟩ := hown
  rcases h with ⟨rfl, rfl⟩ | ⟨g, cap, cur, rfl, hb, hg, hn, hcap, hsz, htk⟩
  · exact ⟨W, xs, by simp [Builtin.clear_, run_underlying ht], ⟨hl, .inl ⟨rfl, rfl⟩⟩, Fr.refl _ _⟩
  · rcases n with _ | m
    · exact ⟨W, xs, by simp [Builtin.clear_, run_underlying ht], ⟨hl, .inr ⟨g, cap, cur, rfl, hb, hg, hn, hcap, hsz, htk⟩⟩, Fr.refl _ _⟩
    · obtain ⟨Z, hZ⟩ : ∃ Z, (Builtin.zeroCells z.cells (m + 1)).toList = Z := ⟨_, rfl⟩
      have hZl : Z.length = (m + 1) * 2 := by rw [← hZ, hz]; simp [Builtin.zeroCells]
      have hZ1 : ∀ v ∈ Z, v.oneCell' = true := by
        intro v hv
        rw [← hZ, hz] at hv
        simp [Builtin.zeroCells] at hv
        obtain ⟨i, _, rfl⟩ := hv
        have : i % 2 = 0 ∨ i % 2 = 1 := by omega
        rcases this with h | h <;> rw [h]
        · exact h0
        · exact h1
      have hst := run_storeCells_at P g 0 e Z 0 cur W hg (by rw [hZl, hsz]; omega) hZ1
      refine ⟨W.setRow g (cur.toList.take (0 + 0) ++ Z ++ cur.toList.drop (0 + 0 + Z.length)).toArray, Z, ?_, ?_, (Fr.refl _ W).setRow (X := fun r => some g = some r) (g := g) rfl _⟩
      · simp [Builtin.clear_, run_underlying ht, hv, hZ, hst]
      · refine ⟨hZl, .inr ⟨g, cap, _, rfl, hb, setRow_heap _ _ _ _ _ _ hg, hn, hcap, ?_, ?_⟩⟩
        · simp [hZl]; omega
        · simp [hZl]
theorem zero_write : ∀ w, (zeroValue 76).run Tryd.prog w = .ok (.agg #[.int .i64 0, .string ⟨#[]⟩]) w := by
  intro w
  obtain ⟨i0, hi, hz0, _, _⟩ := info_parts (show (Tryd.prog.info? 76).map (fun i => (i.zero, i.size, i.bytes)) = some (some (.agg #[.int .i64 0, .string ⟨#[]⟩]), 2, 24) by kernel_rfl)
  simp [zeroValue, typeInfo, hi, hz0]
theorem u8_copy (w : World) (b g n : Nat) (l m : List UInt8) (hl : l.length = n) (hm : m.length = n) (hb : w.heap[b]? = some (.cells (u8s l).toArray 5 (0, 0))) (hg : w.heap[g]? = some (.cells (u8s m).toArray 5 (0, 0))) :
    (Builtin.copy_ #[38, 38] 3 #[.slice (some ⟨g, 0, none⟩) n n, .slice (some ⟨b, 0, none⟩) n n]).run Tryd.prog w = .ok (goInt n) (w.setRow g (u8s l).toArray) := by
  have h := run_copy_row (P := Tryd.prog) w 38 38 3 5 g 0 n n ⟨b, 0, none⟩ n n (u8s m).toArray 5 (u8s l) Tryd.underlying38 u8_size1 hg (by simp [u8s, hl]) (by
    intro j v hv
    have : (⟨b, 0, none⟩ : Addr).add j = ⟨b, j, none⟩ := by unfold Addr.add; split <;> simp_all
    rw [this, blk_cell hb]
    simpa using hv) (by simp [u8s, hl, hm]) (by intro v hv; simp only [u8s, List.mem_map] at hv; obtain ⟨x, _, rfl⟩ := hv; rfl)
  rw [h]
  have e1 : (u8s l).length = n := by simp [u8s, hl]
  have e2 : (u8s m).length = n := by simp [u8s, hm]
  rw [e1, List.take_zero, List.nil_append, List.drop_of_length_le (by simp [e2]), List.append_nil]

set_option maxRecDepth 100000 in
set_option maxHeartbeats 1000000 in
theorem settle_c (b : Nat) (D : DK) (w : World) (h : HasDisk w b D) :
    Calls Tryd.prog 49 #[.pointer (some ⟨b, 0, none⟩), .slice (some ⟨D.bv, 0, none⟩) D.n D.n, .slice (some ⟨D.bd, 0, none⟩) D.n D.n] w fun e w' => e = .returned (.tuple #[]) ∧ ∃ pend, HasDisk w' b { D with pend := pend, np := 0 } ∧ pend.ownBlock = D.pend.ownBlock ∧ Fr (D.foot b) w w' := by
  obtain ⟨l, hl1, hl2⟩ := h.dur
  obtain ⟨xs, hp⟩ := h.pend
  have hcp := u8_copy w D.bv D.bd D.n D.vis l h.lv hl1 h.vis hl2
  have hf1 : Fr (fun r => r = D.bd) w (w.setRow D.bd (u8s D.vis).toArray) := (Fr.refl _ w).setRow (X := fun r => r = D.bd) rfl _
  obtain ⟨w1, hw1⟩ : ∃ w1, w.setRow D.bd (u8s D.vis).toArray = w1 := ⟨_, rfl⟩
  rw [hw1] at hcp hf1
  have hbd := h.hd
  have hbv := h.hv
  have hb1 := hf1.blk h.blk (show ¬ b = D.bd by omega)
  have hp1 : w1.ownsRow (b + 1) 76 2 D.pend D.np xs := ownsRow_fr hp hf1 (fun r hr => show ¬ r = D.bd by omega)
  obtain ⟨w2, xs2, hcl, hp2, hf2⟩ := run_clear_own (P := Tryd.prog) w1 49 76 0 (.int .i64 0) (.string ⟨#[]⟩) _ Tryd.underlying49 zero_write rfl rfl rfl (b + 1) D.np D.pend xs hp1
  have hbl2 : ∀ r, r ≤ b → ¬ D.pend.ownBlock = some r := fun r hr e => by have := own_ge hp r e; omega
  have hb2 := hf2.blk hb1 (hbl2 b (Nat.le_refl _))
  have hv2 := hf2.blk (hf1.blk h.vis (show ¬ D.bv = D.bd from fun e => h.ne e.symm)) (hbl2 _ (by omega))
  have hd2 : w2.heap[D.bd]? = some (.cells (u8s D.vis).toArray 5 (0, 0)) := hf2.blk (by rw [← hw1]; exact setRow_heap _ _ _ _ _ _ hl2) (hbl2 _ (by omega))
  have hff : Fr (D.foot b) w w2 := (hf1.mono (fun r hr => .inl (.inr (.inl hr)))).trans hf2 (fun r hr => .inl (.inr (.inr (.inr hr))))
  have HD := Lib.hid h
  have HB := Lib.hid hb2
  have HV := Lib.hid hv2
  have HDu := Lib.hid hd2
  have HF := Lib.hid hff
  have c4 : w1.cell? ⟨b, 4, none⟩ = some D.pend := blk_cell hb1 4
  have d4 : w2.cell? ⟨b, 4, none⟩ = some D.pend := blk_cell hb2 4
  have f4 := blk_free hb2 4
  have hend : ∀ pend, pend.ownBlock = D.pend.ownBlock → (∃ xs, w2.ownsRow (b + 1) 76 2 pend 0 xs) → ∃ q, HasDisk (w2.setCell ⟨b, 4, none⟩ pend) b { D with pend := q, np := 0 } ∧ q.ownBlock = D.pend.ownBlock ∧ Fr (D.foot b) w (w2.setCell ⟨b, 4, none⟩ pend) := by
    intro pend hpo ⟨ys, hys⟩
    have hfs : Fr (fun r => r = b) w2 (w2.setCell ⟨b, 4, none⟩ pend) := (Fr.refl _ w2).setCell (X := fun r => r = b) (p := ⟨b, 4, none⟩) (.inl rfl) _
    refine ⟨pend, ⟨blk_set HB.out 4 pend, ⟨D.vis, HD.out.lv, hfs.blk HDu.out (show ¬ D.bd = b by omega)⟩, hfs.blk HV.out (show ¬ D.bv = b by omega), HD.out.lv, ⟨ys, ownsRow_fr hys hfs (fun r hr => show ¬ r = b by omega)⟩, HD.out.hd, HD.out.hv, HD.out.ne, HD.out.n1, HD.out.nb, HD.out.left⟩, hpo, HF.out.trans hfs (fun r hr => .inl (.inl hr))⟩
  have HE := Lib.hid hend
  obtain ⟨p, hP⟩ : ∃ p, D.pend = p := ⟨_, rfl⟩
  have hpq := hp2.2
  rw [hP] at c4 d4 hcl hpq
  have HP := Lib.hid hP
  clear h hb1 hb2 hv2 hd2 hff hend hl1 hl2 hf1 hf2 hp hp1 hw1 hP hbl2
  rcases hpq with ⟨rfl, hn0⟩ | ⟨g, cap, cur, rfl, hbg, hg, hn, hcap, hsz, htk⟩
  · clear hp2
    go_enter Tryd.func49, Tryd.ntmps49
    go_wp2
    go_end0
    exact ⟨rfl, HE.out (.slice none 0 0) (by rw [HP.out]) ⟨[], by simp, .inl ⟨rfl, rfl⟩⟩⟩
  · have HG := Lib.hid hg
    clear hp2 hg htk
    go_enter Tryd.func49, Tryd.ntmps49
    go_wp2
    go_end0
    exact ⟨rfl, HE.out (.slice (some ⟨g, 0, none⟩) 0 cap) (by rw [HP.out]; rfl) ⟨[], by simp, .inr ⟨g, cap, cur, rfl, hbg, HG.out, by omega, hcap, hsz, by simp⟩⟩⟩
end Go.Proofs.YtpcmidhhbgjcjaaDoor
