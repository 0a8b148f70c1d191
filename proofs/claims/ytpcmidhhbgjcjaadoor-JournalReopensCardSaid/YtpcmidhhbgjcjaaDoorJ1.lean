/- journal: tape.add. -/
import Derived.Test.YtpcmidhhbgjcjaaDoorK6
import Derived.Test.YtpcmidhhbgjcjaaDoorD7
import Derived.Test.YtpcmidhhbgjcjaaDoorA5
namespace Go.Proofs.YtpcmidhhbgjcjaaDoor
open Go Go.RowKit

theorem cat_run2 {P : Program} (a b : ByteArray) (h : a.size + b.size ≤ 2000000000) : ∀ W, (Op.stringOp .add a b).run P W = .ok (.string (a ++ b)) W := fun W => run_string_add_sum W _ _ (by omega)
/-- What a record is stored as. -/
def encR (head r : ByteArray) : ByteArray := ⟨#[1]⟩ ++ putS r ++ chainF head r
theorem info_str : (Tryd.prog.info? 9).map (fun i => (i.zero, i.size, i.bytes)) = some (some (.string ⟨#[]⟩), 1, 16) := by kernel_rfl
/-- A tape lies at block t: its records, head and size. -/
structure HasTape (W : World) (t base : Nat) (C : Array Value) (T : TypeId) (rv : Value) (recs : List ByteArray) (head : ByteArray) (size : Nat) : Prop where
  blk : W.heap[t]? = some (.cells C T (0, 0))
  c0 : C[0]? = some rv
  c1 : C[1]? = some (.string head)
  c2 : C[2]? = some (.int .i64 size)
  own : W.ownsRow base 9 1 rv recs.length (recs.map Value.string)
  tb : t < base
def setTape (C : Array Value) (rv : Value) (head : ByteArray) (size : Nat) : Array Value := ((C.setIfInBounds 1 (.string head)).setIfInBounds 0 rv).setIfInBounds 2 (.int .i64 size)
theorem cell_new_set (w : World) (p : Addr) (v u : Value) (T : TypeId) : ((w.setCell p v).alloc (.cells #[u] T)).cell? ⟨w.heap.size, 0, none⟩ = some u := by
  have h := World.alloc_heap_new (w.setCell p v) (.cells #[u] T)
  have e : (w.setCell p v).heap.size = w.heap.size := by simp [World.setCell]
  rw [e] at h
  exact blk_cell h 0
/-- append of one cell to an owned row: also where the row lies then. -/
theorem wpList_append_one {P : Program} {w : World} {ops : Array Oper} {rest : List Oper} {o : Oper} {a : Act} {Q : Exit → Act → World → Prop} (hgd : o.guard = none) (s x : Operand) (t : TypeId)
    (ho : o.op = .call { callee := .builtin .append, args := #[s, x], argTypes := #[t, t] })
    (base : Nat) (e : TypeId) (z : Value) (bytes : Nat) (ht : P.underlying t = some (.slice e)) (hinfo : (P.info? e).map (fun i => (i.zero, i.size, i.bytes)) = some (some z, 1, bytes)) (hz : z.cells.size = 1) (hb0 : 0 < bytes)
    (v : Value) (n : Nat) (xs : List Value) (hs : a.eval s = v) (hown : w.ownsRow base e 1 v n xs)
    (ad : Addr) (c : Nat) (u : Value) (hx : a.eval x = .slice (some ad) 1 c) (hnew : w.cell? ad = some u) (h1 : u.oneCell' = true)
    (hbytes : (n + 1) * bytes ≤ 140737488355328) (hbase : base ≤ w.heap.size)
    (h : ∀ v' w', w'.ownsRow base e 1 v' (n + 1) (xs ++ [u]) → w.grownBy w' v.ownBlock → (v'.ownBlock = v.ownBlock ∨ v'.ownBlock = some w.heap.size) → wpList P ops Q rest (a.put o.dst v') w') : wpList P ops Q (o :: rest) a w := by
  refine wpList_plain hgd fun K hK => ?_
  obtain ⟨i0, hi, hzz⟩ := Option.map_eq_some_iff.1 hinfo
  simp only [Prod.mk.injEq] at hzz
  obtain ⟨hz0, hz1, hz2⟩ := hzz
  have hlen : n + 1 ≤ 140737488355328 := Nat.le_trans (Nat.le_mul_of_pos_right _ hb0) hbytes
  obtain ⟨v1, w1, hr, hown, hg, _, hat⟩ := run_append_own_at (P := P) w base t o.type e i0 z 1 bytes ht hi hz0 hz1 hz2 hz (by decide) v n xs hown ad 1 c [u] (by simp)
    (fun j y hy => by
      rcases j with _ | j
      · simp at hy
        subst hy
        have : ad.add 0 = ad := by unfold Addr.add; split <;> simp_all
        rw [this]; exact hnew
      · simp at hy) (by simpa using h1) (by simp only [maxLen]; omega) hbytes hbase
  unfold Oper.wp execOp
  simp only [ho, resolve, invoke, builtin, Sem.run_bind, Sem.run_pure, Result.andThen_ok, List.map_toArray, List.map_cons, List.map_nil, hs, hx, hr]
  exact hK _ _ (h v1 w1 hown hg hat)
set_option maxRecDepth 100000 in
set_option maxHeartbeats 2000000 in
theorem add_t (t base : Nat) (C : Array Value) (T : TypeId) (rv : Value) (recs : List ByteArray) (head r : ByteArray) (size : Nat) (w : World) (h : HasTape w t base C T rv recs head size) (hR : HasRound w)
    (hh : head.size = 32) (hr : r.size ≤ 65536) (hbw : base ≤ w.heap.size) (hn : recs.length ≤ 10000000) (hs : size ≤ 1000000000) :
    Calls Tryd.prog 32 #[.pointer (some ⟨t, 0, none⟩), .string r] w fun e w' => e = .returned (.string (encR head r)) ∧ ∃ rv', w'.heap[t]? = some (.cells (setTape C rv' (chainF head r) (size + (encR head r).size)) T (0, 0)) ∧ w'.ownsRow base 9 1 rv' (recs.length + 1) ((recs ++ [r]).map Value.string) ∧ Fr (fun x => x = t ∨ rv.ownBlock = some x) w w' ∧ (∀ x, rv'.ownBlock = some x → rv.ownBlock = some x ∨ w.heap.size ≤ x) := by
  have a0 : w.cell? ⟨t, 0, none⟩ = some rv := (blk_cell h.blk 0).trans h.c0
  have a1 : w.cell? ⟨t, 1, none⟩ = some (.string head) := (blk_cell h.blk 1).trans h.c1
  have hch := Chain_c head r w hR (by omega)
  obtain ⟨hd, hhd⟩ : ∃ hd, chainF head r = hd := ⟨_, rfl⟩
  rw [hhd] at hch ⊢
  obtain ⟨out, hout⟩ : ∃ out, encR head r = out := ⟨_, rfl⟩
  rw [hout]
  have HO := Lib.hid hout
  have HHD := Lib.hid hhd
  have HC := Lib.hid hch
  have HH := Lib.hid h
  clear h hch hhd hout
  go_enter Tryd.func32, Tryd.ntmps32
  go_wp2_with (first
    | (go_at_call 53; refine HC.out.mono ?_; rintro e w1 ⟨rfl, hB1⟩; have hb1 := (hB1.block t (blk_lt HH.out.blk)).trans HH.out.blk; have a0' : w1.cell? ⟨t, 0, none⟩ = some rv := (blk_cell hb1 0).trans HH.out.c0; have a1' : w1.cell? ⟨t, 1, none⟩ = some (.string head) := (blk_cell hb1 1).trans HH.out.c1; have f1 := blk_free hb1 1; have hf1 : Fr (fun x => x = t) w (w1.setCell ⟨t, 1, none⟩ (.string hd)) := (Fr.of_below hB1).setCell (X := fun x => x = t) (p := ⟨t, 1, none⟩) (.inl rfl) _; have ho1 := ownsRow_fr HH.out.own hf1 (fun x hx => show ¬ x = t from fun e => by have := HH.out.tb; omega); have HF1 := Lib.hid hf1; have HO1 := Lib.hid ho1; have hsz1 := hB1.size; have HB2 := Lib.hid (blk_set hb1 1 (.string hd)); clear hB1 hb1 hf1 ho1)
    | (refine wpList_append_one rfl (.tmp 21) (.tmp 23) 22 rfl base 9 (.string ⟨#[]⟩) 16 Tryd.underlying22 info_str rfl (by decide) rv recs.length (recs.map Value.string) rfl (HO1.out.alloc _) ⟨w1.heap.size, 0, none⟩ 1 (.string r) rfl (cell_new_set w1 _ _ _ _) rfl (by omega) (by simp; omega) ?_; intro v2 w2 hO2 hG2 hA2; obtain ⟨g2, cap2, rfl⟩ := own_succ hO2; have hb3 : w2.heap[t]? = some (.cells (C.setIfInBounds 1 (.string hd)) T (0, 0)) := (hG2.block t (by have := blk_lt HB2.out; simp; simp [World.setCell] at this; omega) (fun e => by have := own_ge HO1.out t e.symm; have := HH.out.tb; omega)).trans ((Below.heap_alloc _ _ _ (blk_lt HB2.out)).trans HB2.out); have f3 := blk_free hb3 0; have a3 : w2.cell? ⟨t, 0, none⟩ = some rv := (blk_cell hb3 0).trans (by rw [Array.getElem?_setIfInBounds_ne (by decide)]; exact HH.out.c0); have HG2 := Lib.hid hG2; have HA2 := Lib.hid hA2; have HO2 := Lib.hid hO2; have HB3 := Lib.hid hb3; clear hG2 hA2 hO2 hb3)
    | (go_at_call 54; refine (PutString_c r _ hr).mono ?_; rintro e w4 ⟨rfl, hB4⟩; have hb4 := (hB4.block t (blk_lt (blk_set HB3.out 0 _))).trans (blk_set HB3.out 0 _); have HB4 := Lib.hid hB4; have HK4 := Lib.hid hb4; have hc1 : C.size > 2 := (Array.getElem?_eq_some_iff.1 HH.out.c2).1; have b1 : w4.cell? ⟨t, 1, none⟩ = some (.string hd) := (blk_cell hb4 1).trans (by rw [Array.getElem?_setIfInBounds_ne (by decide), Array.getElem?_setIfInBounds_self_of_lt (by omega)]); have b2 : w4.cell? ⟨t, 2, none⟩ = some (.int .i64 size) := (blk_cell hb4 2).trans (by rw [Array.getElem?_setIfInBounds_ne (by decide), Array.getElem?_setIfInBounds_ne (by decide)]; exact HH.out.c2); have fz2 := blk_free hb4 2; clear hB4 hb4 hc1))
  obtain ⟨m1, hm1⟩ : ∃ m1 : ByteArray, (⟨#[1]⟩ : ByteArray) = m1 := ⟨_, rfl⟩
  have hcv := conv_cells (P := Tryd.prog) (w := (w4.alloc (.cells #[.int .u8 1] 5)).drew) 38 9 5 Tryd.underlying38 Tryd.underlying5 Tryd.underlying9 w4.heap.size 0 1 [1] (by
    intro i hi
    have : i = 0 := by simp at hi; omega
    subst this
    exact blk_cell (World.alloc_heap_new w4 (.cells #[.int .u8 1] 5)) 0)
  simp only [List.length_cons, List.length_nil, Nat.zero_add] at hcv
  rw [show (⟨[1].toArray⟩ : ByteArray) = m1 from hm1] at hcv
  obtain ⟨ps, hps⟩ : ∃ ps, putS r = ps := ⟨_, rfl⟩
  have hpl : ps.size ≤ 66000 := by
    rw [← hps, putS, ByteArray.size_append]
    have h1 := vb_len (2 * r.size) (by omega)
    have h2 : (⟨(vb (2 * r.size)).toArray⟩ : ByteArray).size = (vb (2 * r.size)).length := rfl
    omega
  have hm1s : m1.size = 1 := by rw [← hm1]; rfl
  have hhs : hd.size = 32 := by rw [← HHD.out]; exact chainF_size _ _
  obtain ⟨p1, hp1⟩ : ∃ p1, m1 ++ ps = p1 := ⟨_, rfl⟩
  have hp1s : p1.size = 1 + ps.size := by rw [← hp1, ByteArray.size_append, hm1s]
  have q1 : ∀ W, (Op.stringOp .add m1 ps).run Tryd.prog W = .ok (.string p1) W := fun W => by rw [← hp1]; exact cat_run m1 ps (by omega) (by omega) W
  have hout : p1 ++ hd = out := by rw [← hp1, ← hps, ← hm1, ← HO.out, encR, HHD.out]
  have q2 : ∀ W, (Op.stringOp .add p1 hd).run Tryd.prog W = .ok (.string out) W := fun W => by rw [← hout]; exact cat_run2 p1 hd (by omega) W
  have hos : out.size = 33 + ps.size := by rw [← hout, ByteArray.size_append, hhs]; omega
  rw [hps]
  have htl : t < w4.heap.size := blk_lt HK4.out
  have b1' : (w4.alloc (.cells #[.int .u8 1] 5)).cell? ⟨t, 1, none⟩ = some (.string hd) := Lib.cell?_alloc_some _ b1
  have b2' : (w4.alloc (.cells #[.int .u8 1] 5)).cell? ⟨t, 2, none⟩ = some (.int .i64 size) := Lib.cell?_alloc_some _ b2
  clear hm1 hps hp1 hout hm1s hhs hp1s
  go_region
  obtain ⟨w5, h5⟩ : ∃ w5, (w4.alloc (.cells #[.int .u8 1] 5)).drew = w5 := ⟨_, rfl⟩
  obtain ⟨v2, hv2⟩ : ∃ v2, (Value.slice (some ⟨g2, 0, none⟩) (recs.length + 1) cap2) = v2 := ⟨_, rfl⟩
  have hF45 : Fr (fun _ => False) w4 w5 := by rw [← h5]; exact ((Fr.refl _ w4).alloc _).drew
  have hb5 := hF45.blk HK4.out id
  have d2 : w5.cell? ⟨t, 2, none⟩ = some (.int .i64 size) := by rw [← h5]; exact b2'
  have e2 := blk_free hb5 2
  have HF45 := Lib.hid hF45
  have HB5 := Lib.hid hb5
  rw [h5, hv2]
  rw [hv2] at HB5
  have HV2 := Lib.hid hv2
  clear hcv b1 b1' b2 b2' q1 q2 f1 f3 fz2 a0 a1 a0' a1' a3 hF45 hb5 h5 hv2
  go_wp2
  go_ret
  have hsz : (size : Int) + (33 + (ps.size : Int)) = ((size + out.size : Nat) : Int) := by omega
  rw [hsz]
  have HW2 := HO2.out
  have HG := HG2.out
  have HA := HA2.out
  rw [HV2.out] at HW2 HA
  have htb := HH.out.tb
  have hF12 : Fr (fun x => rv.ownBlock = some x) (w1.setCell ⟨t, 1, none⟩ (.string hd)) w2 := ((Fr.refl _ _).alloc _).trans (Fr.of_grown (X := fun x => rv.ownBlock = some x) HG (fun x hx => .inl hx)) (fun _ h => .inl h)
  have hF23 : Fr (fun x => x = t) w2 (w2.setCell ⟨t, 0, none⟩ v2) := (Fr.refl _ w2).setCell (X := fun x => x = t) (p := ⟨t, 0, none⟩) (.inl rfl) _
  have hF34 : Fr (fun x => x = t) (w2.setCell ⟨t, 0, none⟩ v2) w4 := by
    have h := HB4.out
    rw [HV2.out] at h
    exact Fr.of_below h
  have hF26 : Fr (fun x => x = t) w2 (w5.setCell ⟨t, 2, none⟩ (.int .i64 ((size + out.size : Nat) : Int))) :=
    ((hF23.trans hF34 (fun _ h => .inl h)).trans HF45.out (fun _ h => h.elim)).setCell (X := fun x => x = t) (p := ⟨t, 2, none⟩) (.inl rfl) _
  refine ⟨rfl, v2, blk_set HB5.out 2 _, ?_, ?_, ?_⟩
  · have h := ownsRow_fr HW2 hF26 (fun x hx => show ¬ x = t by omega)
    rw [List.map_append]
    exact h
  · exact ((HF1.out.mono (fun x hx => .inl (.inl hx))).trans hF12 (fun x hx => .inl (.inr hx))).trans hF26 (fun x hx => .inl (.inl hx))
  · intro x hx
    rcases HA with h | h
    · left; rw [← h]; exact hx
    · right
      rw [hx] at h
      cases h
      have := HF1.out.size
      simp at this ⊢
      omega
end Go.Proofs.YtpcmidhhbgjcjaaDoor
