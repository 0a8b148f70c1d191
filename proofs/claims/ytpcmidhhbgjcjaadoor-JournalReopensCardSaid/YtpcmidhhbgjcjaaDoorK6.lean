/- disk: Write. -/
import Derived.Test.YtpcmidhhbgjcjaaDoorK5
import Derived.StillTailTactics
import Derived.Deep.RegionLaw
namespace Go.Proofs.YtpcmidhhbgjcjaaDoor
open Go Go.RowKit

theorem Write_off (b : Nat) (x y : Value) (D : DK) (w : World) (h : HasDisk w b D) (ho : D.off = true) :
    Calls Tryd.prog 19 #[.pointer (some ⟨b, 0, none⟩), x, y] w fun e w' => e = .returned (.int .i64 331) ∧ w = w' := by
  have hc := check_c b D w h
  rw [ho] at hc
  have HC := Lib.hid hc
  clear hc h ho
  go_enter Tryd.func19, Tryd.ntmps19
  go_wp2_with (go_at_call 34; refine HC.out.mono ?_; rintro e w' ⟨rfl, rfl⟩; simp only [checkF, if_true])
  go_ret
  exact ⟨rfl, rfl⟩
/-- append of what a fresh block holds to an owned row, as one step of a drawing region. -/
theorem step_append_mine {P : Program} {ops : Array Oper} {o : Oper} {a : Act} {Q : Exit → Act → World → Prop} {K : Act → World → Prop} {E : Prop} {w : World} (base : Nat) (hg : o.guard = none) (s x : Operand) (t e : TypeId) (z : Value) (size bytes : Nat)
    (ho : o.op = .call { callee := .builtin .append, args := #[s, x], argTypes := #[t, t] })
    (ht : P.underlying t = some (.slice e)) (hinfo : (P.info? e).map (fun i => (i.zero, i.size, i.bytes)) = some (some z, size, bytes)) (hz : z.cells.size = size) (hs0 : 0 < size) (hb0 : 0 < bytes)
    (v : Value) (n : Nat) (xs ys : List Value) (hs : a.eval s = v) (g : Nat) (hx : a.eval x = .slice (some ⟨g, 0, none⟩) 1 1) (hys : ys.length = size) (hc : ∀ j u, ys[j]? = some u → w.cell? ⟨g, j, none⟩ = some u) (h1 : ∀ u ∈ ys, u.oneCell' = true)
    (HO : w.ownsRow base e size v n xs) (hbase : base ≤ w.heap.size) (hl : (n + 1) * bytes ≤ 140737488355328)
    (h : ∀ v1 w1, w1.ownsRow base e size v1 (n + 1) (xs ++ ys) → w.grownBy w1 v.ownBlock → (v1.ownBlock = v.ownBlock ∨ ∃ b, v1.ownBlock = some b ∧ w.heap.size ≤ b) → K (a.put o.dst v1) w1) :
    if Region.wanted o (yielded ops a.tmps) = true then Oper.wp P o a w K Q else E := by
  have hw : Region.wanted o (yielded ops a.tmps) = true := by simp [Region.wanted, hg]
  obtain ⟨i0, hi, hzz⟩ := Option.map_eq_some_iff.1 hinfo
  simp only [Prod.mk.injEq] at hzz
  obtain ⟨hz0, hz1, hz2⟩ := hzz
  have hlen : n + 1 ≤ 140737488355328 := Nat.le_trans (Nat.le_mul_of_pos_right _ hb0) hl
  rw [if_pos hw]
  obtain ⟨v1, w1, hr, hown, hg, _, hat⟩ := run_append_own_at (P := P) w base t o.type e i0 z size bytes ht hi hz0 hz1 hz2 hz hs0 v n xs HO ⟨g, 0, none⟩ 1 1 ys (by rw [hys]; simp)
    (fun j u hu => by have : (⟨g, 0, none⟩ : Addr).add j = ⟨g, j, none⟩ := by { unfold Addr.add; split <;> simp_all }
                      rw [this]; exact hc j u hu) h1 (by simp only [maxLen]; omega) hl hbase
  unfold Oper.wp execOp
  simp only [ho, resolve, invoke, builtin, Sem.run_bind, Sem.run_pure, Result.andThen_ok, List.map_toArray, List.map_cons, List.map_nil, hs, hx, hr]
  refine h v1 w1 hown hg ?_
  rcases hat with hat | hat
  · exact .inl hat
  · exact .inr ⟨_, hat, by simp⟩
theorem own_lt {w : World} {base e size n : Nat} {v : Value} {xs : List Value} (h : w.ownsRow base e size v n xs) : ∀ r, v.ownBlock = some r → r < w.heap.size := by
  obtain ⟨-, ⟨rfl, _⟩ | ⟨g, cap, cur, rfl, _, hg, _⟩⟩ := h
  · intro r hr; cases hr
  · intro r hr
    cases hr
    exact blk_lt hg
theorem own_succ {w : World} {base e size n : Nat} {v : Value} {xs : List Value} (h : w.ownsRow base e size v (n + 1) xs) : ∃ g cap, v = .slice (some ⟨g, 0, none⟩) (n + 1) cap := by
  obtain ⟨-, ⟨_, hz⟩ | ⟨g, cap, cur, hv, -⟩⟩ := h
  · omega
  · exact ⟨g, cap, hv⟩
theorem info_write : (Tryd.prog.info? 76).map (fun i => (i.zero, i.size, i.bytes)) = some (some (.agg #[.int .i64 0, .string ⟨#[]⟩]), 2, 24) := by kernel_rfl
/-- The disk after a write. -/
def DK.wrote (D : DK) (o : Nat) (s : ByteArray) (pend : Value) : DK := DK.used { D with vis := putAt D.vis o s.data.toList, pend := pend, np := D.np + 1 }
set_option maxRecDepth 100000 in
set_option maxHeartbeats 1000000 in
theorem Write_c (b o : Nat) (s : ByteArray) (D : DK) (w : World) (h : HasDisk w b D) (ho : D.off = false) (hs : o + s.size ≤ D.n) (hon : o < D.n) (hnp : D.np ≤ 1000000) :
    Calls Tryd.prog 19 #[.pointer (some ⟨b, 0, none⟩), .int .i64 o, .string s] w fun e w' => e = .returned (.int .i64 0) ∧ ∃ pend, HasDisk w' b (D.wrote o s pend) ∧ Fr (D.foot b) w w' ∧ (∀ r, pend.ownBlock = some r → D.pend.ownBlock = some r ∨ w.heap.size ≤ r) := by
  have hc := check_c b D w h
  rw [ho] at hc
  have hnb := h.nb
  have hi := inside_c b o s.size D w h (by omega) (by omega)
  rw [show decide (o ≤ D.n ∧ s.size ≤ D.n - o) = true by simp; omega] at hi
  have HC := Lib.hid hc
  have HI := Lib.hid hi
  have HD := Lib.hid h
  have c4 : w.cell? ⟨b, 4, none⟩ = some D.pend := blk_cell h.blk 4
  have hs63 : (s.size : Int) ≤ 4194304 := by omega
  clear hc hi h
  go_enter Tryd.func19, Tryd.ntmps19
  go_wp2_with (first
    | (go_at_call 34; refine HC.out.mono ?_; rintro e w' ⟨rfl, rfl⟩; simp only [checkF])
    | (go_at_call 35; refine HI.out.mono ?_; rintro e w' ⟨rfl, rfl⟩))
  obtain ⟨xs, hpd⟩ := HD.out.pend
  obtain ⟨w1, h1⟩ : ∃ w1, w.alloc (.cells #[.int .i64 o, .string s] 76) = w1 := ⟨_, rfl⟩
  have hb1 : w1.heap[w.heap.size]? = some (.cells #[.int .i64 o, .string s] 76 (0, 0)) := by rw [← h1]; exact World.alloc_heap_new _ _
  have hf1 : Fr (fun _ => False) w w1 := by rw [← h1]; exact (Fr.refl _ w).alloc _
  have HD1 := Lib.hid (HD.out.fr hf1 (fun _ _ _ => id))
  have c4 : w1.cell? ⟨b, 4, none⟩ = some D.pend := blk_cell HD1.out.blk 4
  have f4 := blk_free HD1.out.blk 4
  have k0 : w1.cell? ⟨w.heap.size, 0, none⟩ = some (.int .i64 o) := blk_cell hb1 0
  have k1 : w1.cell? ⟨w.heap.size, 1, none⟩ = some (.string s) := blk_cell hb1 1
  have hs1 : w1.heap.size = w.heap.size + 1 := by rw [← h1]; simp
  rw [h1]
  have HB1 := Lib.hid hb1
  have HF1 := Lib.hid hf1
  have HPD := Lib.hid (ownsRow_fr (X := fun _ => False) hpd hf1 (fun _ _ => id))
  have HS1 := Lib.hid hs1
  clear h1 hb1 hf1 hpd hs1
  have hlt := HD1.out.lt
  have hown : ∀ base', D.pend.ownBlock = some base' → base' ≠ b := fun r hr e => by have := own_ge HPD.out r hr; omega
  have HO := Lib.hid hown
  have hnp24 : (D.np + 1) * 24 ≤ 140737488355328 := by omega
  clear hown
  go_region_law? (refine step_append_mine (b + 1) rfl (.tmp 27) (.tmp 29) 49 76 (.agg #[.int .i64 0, .string ⟨#[]⟩]) 2 24 rfl Tryd.underlying49 info_write rfl (by decide) (by decide) D.pend D.np xs [.int .i64 o, .string s] rfl w1.heap.size rfl rfl (fun j u hu => (blk_cell (World.alloc_heap_new w1.drew (.cells #[.int .i64 o, .string s] 76)) j).trans (by simpa using hu)) (by intro u hu; simp at hu; rcases hu with rfl | rfl <;> rfl) (ownsRow_fr (X := fun _ => False) HPD.out (((Fr.refl _ w1).drew).alloc _) (fun _ _ => id)) (by simp; omega) hnp24 ?_; intro v1 w2 hO2 hG2 hA2; obtain ⟨g2, cap2, rfl⟩ := own_succ hO2; have hF2 : Fr (fun r => D.pend.ownBlock = some r) w1 w2 := ((((Fr.refl _ w1).drew).alloc _).trans (Fr.of_grown (X := fun r => D.pend.ownBlock = some r) hG2 (fun r hr => .inl hr)) (fun _ h => .inl h)); have hB2 := hF2.blk HD1.out.blk (fun e => HO.out _ e rfl); have c4' : w2.cell? ⟨b, 4, none⟩ = some D.pend := blk_cell hB2 4; have f4' := blk_free hB2 4; have HO2 := Lib.hid hO2; have HA2 := Lib.hid hA2; have HF2 := Lib.hid hF2; have HB2 := Lib.hid hB2; clear hO2 hG2 hA2 hF2 hB2)
  all_goals
    obtain ⟨w3, h3⟩ : ∃ w3, w2.setCell ⟨b, 4, none⟩ (.slice (some ⟨g2, 0, none⟩) (D.np + 1) cap2) = w3 := ⟨_, rfl⟩
    obtain ⟨pend, hpend⟩ : ∃ pend, (Value.slice (some ⟨g2, 0, none⟩) (D.np + 1) cap2) = pend := ⟨_, rfl⟩
    rw [h3, hpend]
    have hlt0 := HD.out.lt
    have hplt : ∀ r, D.pend.ownBlock = some r → r < w.heap.size := by
      obtain ⟨_, hp⟩ := HD.out.pend
      exact own_lt hp
    have hFs : Fr (fun r => r = b) w2 w3 := by rw [← h3]; exact (Fr.refl _ w2).setCell (X := fun r => r = b) (p := ⟨b, 4, none⟩) (.inl rfl) _
    have hF3 : Fr (fun r => r = b ∨ D.pend.ownBlock = some r) w w3 := ((HF1.out.mono (fun _ h => h.elim)).trans (HF2.out.mono (fun r hr => .inl (.inr hr))) (fun _ h => .inl h)).trans hFs (fun r hr => .inl (.inl hr))
    have hpb : ∀ r, D.pend.ownBlock = some r → b + 1 ≤ r := own_ge HPD.out
    obtain ⟨l0, hl0, hd0⟩ := HD.out.dur
    have hbd := HD.out.hd
    have hbv := HD.out.hv
    have hD3 : HasDisk w3 b { D with pend := pend, np := D.np + 1 } := by
      refine ⟨?_, ⟨l0, hl0, hF3.blk hd0 ?_⟩, hF3.blk HD.out.vis ?_, HD.out.lv, ⟨xs ++ [.int .i64 o, .string s], ?_⟩, hbd, hbv, HD.out.ne, HD.out.n1, HD.out.nb, HD.out.left⟩
      · rw [← h3, hpend]; exact blk_set HB2.out 4 pend
      · rintro (h | h)
        · have h' : D.bd = b := h
          omega
        · have h' : b + 1 ≤ D.bd := hpb _ h
          omega
      · rintro (h | h)
        · have h' : D.bv = b := h
          omega
        · have h' : b + 1 ≤ D.bv := hpb _ h
          omega
      · have h5 := ownsRow_fr HO2.out hFs (fun r hr => show ¬ r = b by omega)
        rw [hpend] at h5
        exact h5
    have hb3 : w3.heap[w.heap.size]? = some (.cells #[.int .i64 o, .string s] 76 (0, 0)) := hFs.blk (HF2.out.blk HB1.out (fun e => by have := hplt _ e; omega)) (show ¬ w.heap.size = b by omega)
    have hA3 : ∀ r, pend.ownBlock = some r → D.pend.ownBlock = some r ∨ w.heap.size ≤ r := by
      intro r hr
      rcases HA2.out with h | ⟨q, h, hq⟩
      · left; rw [← h, hpend]; exact hr
      · right; rw [hpend, hr] at h; cases h; have := HS1.out; simp at hq; omega
    have k0 : w3.cell? ⟨w.heap.size, 0, none⟩ = some (.int .i64 o) := blk_cell hb3 0
    have k1 : w3.cell? ⟨w.heap.size, 1, none⟩ = some (.string s) := blk_cell hb3 1
    have c3 : w3.cell? ⟨b, 3, none⟩ = some (.slice (some ⟨D.bv, 0, none⟩) D.n D.n) := blk_cell hD3.blk 3
    have HD3 := Lib.hid hD3
    have HF3 := Lib.hid hF3
    have HA3 := Lib.hid hA3
    have HOn := Lib.hid (onto_c D.bv D.n o D.vis s w3.drew hD3.vis HD.out.lv hs hon HD.out.nb)
    clear h3 hpend hplt hFs hF3 hpb hl0 hd0 hD3 hb3 hA3 HO2 HA2 HF2 HB2 HPD HS1 HB1 HF1 HD1 c4' f4'
    go_wp2
    go_still_tail 5, (by kernel_rfl)
    change wpList _ _ _ _ _ w3.drew
    go_wp2_with (go_at_call 36; refine HOn.out.mono ?_; rintro e w4 ⟨rfl, hf4, hv4⟩; have HF4 := Lib.hid hf4; have HV4 := Lib.hid hv4; clear hf4 hv4)
    have hF4' : Fr (D.foot b) w w4 := ((HF3.out.mono (fun r hr => .inl (hr.elim .inl (fun h => .inr (.inr (.inr h)))))).trans (drew_fr (X := fun _ => False) w3) (fun _ h => h.elim)).trans HF4.out (fun r hr => .inl (.inr (.inr (.inl hr))))
    have hD4 : HasDisk w4 b { D with pend := pend, np := D.np + 1, vis := putAt D.vis o s.data.toList } := by
      have hd3 := HD3.out.fr (X := fun _ => False) (drew_fr w3) (fun _ _ _ => id)
      obtain ⟨l0, hl0, hd0⟩ := hd3.dur
      obtain ⟨ys, hp3⟩ := hd3.pend
      have hne := HD.out.ne
      have hbv := HD.out.hv
      refine ⟨HF4.out.blk hd3.blk (show ¬ b = D.bv by omega), ⟨l0, hl0, HF4.out.blk hd0 (show ¬ D.bd = D.bv from hne)⟩, HV4.out, ?_, ⟨ys, ownsRow_fr hp3 HF4.out (fun r hr => show ¬ r = D.bv by omega)⟩, HD.out.hd, hbv, hne, HD.out.n1, HD.out.nb, HD.out.left⟩
      show (putAt D.vis o s.data.toList).length = D.n
      rw [putAt_len _ _ _ (by rw [HD.out.lv]; exact hs), HD.out.lv]
    refine (used_c b _ w4 hD4).mono ?_
    rintro e w5 ⟨rfl, hD5, hF5⟩
    have HD5 := Lib.hid hD5
    have HF5 := Lib.hid (hF4'.trans hF5 (fun r hr => .inl (.inl hr)))
    clear hF4' hD4 hD5 hF5
    go_wp2
    go_ret
    exact ⟨rfl, pend, HD5.out, HF5.out, HA3.out⟩
end Go.Proofs.YtpcmidhhbgjcjaaDoor
