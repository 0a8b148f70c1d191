/- More contracts for JournalRoom: a disk without power; append of a row; what keeps rows. -/
import Derived.Test.YtpcmidhhbgjcjaaDoorL5
namespace Go.Proofs.YtpcmidhhbgjcjaaDoor
open Go Go.RowKit

section
variable {w0 W W' : World} {b jb base n : Nat} {D : DK} {recs ls : List ByteArray} {a : Addr} {v : Value}
/-- A row of strings lies neither in the disk nor in the journal's own block. -/
theorem own_keep {rb m : Nat} {xs : List Value} {X : Nat → Prop} (h : W.ownsRow rb 9 1 v m xs) (hf : Fr X W W') (hx : ∀ g cs, W.heap[g]? = some (.cells cs 9 (0, 0)) → ¬ X g) : W'.ownsRow rb 9 1 v m xs := by
  refine ⟨h.1, ?_⟩
  rcases h.2 with h2 | ⟨g, cap, cur, h2, h3, h4, h5⟩
  · exact .inl h2
  · exact .inr ⟨g, cap, cur, h2, h3, hf.blk h4 (hx _ _ h4), h5⟩
theorem own_next {rb m : Nat} {xs : List Value} (h : W.ownsRow rb 9 1 v m xs) (hb : Below W.heap.size W W') : W'.ownsRow rb 9 1 v m xs :=
  own_keep (X := fun _ => False) h (Fr.of_below hb) (fun _ _ _ => id)
theorem str_not {P : TP} {br : Bool} (hD : HasDisk W b D) (hJ : HasJ W jb base b P br) : ∀ g cs, W.heap[g]? = some (.cells cs 9 (0, 0)) → ¬ (g = jb ∨ D.foot b g) := by
  rintro g cs hg (rfl | h)
  · obtain ⟨rv, hT⟩ := hJ.tape
    rw [hT.blk] at hg
    simp at hg
  · exact hD.foot_not hg (by decide) (by decide) (by decide) h
theorem Sys.cut0 (h : Sys w0 W b jb base n D recs) :
    Calls Tryd.prog 15 #[.pointer (some ⟨b, 0, none⟩), .int .i64 0] W fun e w' => e = .returned (.int .i64 0) ∧ Dsk w0 w' b { D with off := true, left := 0 } recs ∧ HasJ w' jb base b (T0.addAll recs) false ∧ Fr (fun r => r = b) W w' := by
  refine (Cut_c b 0 D W h.dsk.disk h.off (by decide)).mono ?_
  rintro e w' ⟨rfl, hD, hf⟩
  have hf' : Fr (D.foot b) W w' := hf.mono (fun r hr => .inl (.inl hr))
  refine ⟨rfl, ⟨hD, ⟨h.dsk.inv.le, h.dsk.inv.fit, h.dsk.inv.vis⟩, h.dsk.lo, below_fr h.dsk.bel hf' h.dsk.lo⟩, h.j.keepD h.dsk.disk hf', hf⟩
theorem Dsk.offFull (h : Dsk w0 W b D recs) (hJ : HasJ W jb base b (T0.addAll recs) false) (hR : HasRound w0) (hr : Row W v ls) (hl : ls.length ≤ 100) (hle : ∀ r ∈ ls, r.size ≤ 65536) (hleft : D.left = 0) (hnp : D.np = 0) (hf : D.n < (T0.addAll (recs ++ ls)).size) :
    Calls Tryd.prog 11 #[.pointer (some ⟨jb, 0, none⟩), v] W fun e w' => e = .returned (.int .i64 341) ∧ Below W.heap.size W w' := by
  have hs : (T0.addAll (recs ++ ls)).size = (T0.addAll recs).size + (encAll (T0.addAll recs) ls).size := by rw [addAll_append, addAll_size]
  have hlong : anyLong ls = false := by
    unfold anyLong
    rw [List.any_eq_false]
    intro r hr
    have := hle r hr
    simp
    omega
  refine (Append_c jb base b (T0.addAll recs) v ls D W hJ h.disk (h.round hR) hr hl hlong (by rw [T0_recs]; exact T0_len recs) h.inv.fit hleft (by omega)).mono ?_
  rintro e w' (⟨_, rfl, hB⟩ | ⟨h1, _⟩ | ⟨h1, _⟩ | ⟨h1, _⟩)
  · exact ⟨rfl, hB⟩
  · omega
  · omega
  · omega
theorem Dsk.offNil (h : Dsk w0 W b D recs) (hJ : HasJ W jb base b (T0.addAll recs) false) (hR : HasRound w0) (hleft : D.left = 0) (hnp : D.np = 0) :
    Calls Tryd.prog 11 #[.pointer (some ⟨jb, 0, none⟩), .slice none 0 0] W fun e w' => e = .returned (.int .i64 0) ∧ Below W.heap.size W w' := by
  have e0 : (encAll (T0.addAll recs) []).size = 0 := rfl
  have hf := h.inv.fit
  refine (Append_c jb base b (T0.addAll recs) (.slice none 0 0) [] D W hJ h.disk (h.round hR) (.inl ⟨rfl, rfl⟩) (by decide) rfl (by rw [T0_recs]; exact T0_len recs) h.inv.fit hleft (by omega)).mono ?_
  rintro e w' (⟨h1, _⟩ | ⟨_, _, rfl, hB⟩ | ⟨_, h1, _⟩ | ⟨_, h1, _⟩)
  · omega
  · exact ⟨rfl, hB⟩
  · omega
  · omega
theorem Dsk.offDead (h : Dsk w0 W b D recs) (hJ : HasJ W jb base b (T0.addAll recs) false) (hR : HasRound w0) (hr : Row W v ls) (hl : ls.length ≤ 100) (hle : ∀ r ∈ ls, r.size ≤ 65536) (hleft : D.left = 0) (hnp : D.np = 0) (ho : D.off = true) (hne : 1 ≤ ls.length) (hf : (T0.addAll (recs ++ ls)).size ≤ D.n) (hjl : w0.heap.size ≤ jb) :
    Calls Tryd.prog 11 #[.pointer (some ⟨jb, 0, none⟩), v] W fun e w' => e = .returned (.int .i64 331) ∧ HasJ w' jb base b (T0.addAll recs) true ∧ Dsk w0 w' b D recs ∧ Fr (fun x => x = jb) W w' := by
  have hs : (T0.addAll (recs ++ ls)).size = (T0.addAll recs).size + (encAll (T0.addAll recs) ls).size := by rw [addAll_append, addAll_size]
  have h33 := encAll_len ls (T0.addAll recs)
  have hlong : anyLong ls = false := by
    unfold anyLong
    rw [List.any_eq_false]
    intro r hr
    have := hle r hr
    simp
    omega
  refine (Append_c jb base b (T0.addAll recs) v ls D W hJ h.disk (h.round hR) hr hl hlong (by rw [T0_recs]; exact T0_len recs) h.inv.fit hleft (by omega)).mono ?_
  rintro e w' (⟨h1, _⟩ | ⟨_, h1, _⟩ | ⟨_, _, _, rfl, hJ', hD', hf'⟩ | ⟨_, _, h1, _⟩)
  · omega
  · omega
  · exact ⟨rfl, hJ', ⟨hD', h.inv, h.lo, below_fr h.bel hf' (fun r hr => by rw [hr]; exact hjl)⟩, hf'⟩
  · rw [ho] at h1
    cases h1
theorem Sys.long (h : Sys w0 W b jb base n D recs) (hr : Row W v ls) (hl : ls.length ≤ 1000) (hlong : anyLong ls = true) :
    Calls Tryd.prog 11 #[.pointer (some ⟨jb, 0, none⟩), v] W fun e w' => e = .returned (.int .i64 340) ∧ W = w' :=
  Append_long jb base b (T0.addAll recs) v ls W h.j hr (by omega) hlong
end
theorem run_append_none {P : Program} (w : World) (t ty e : TypeId) (i : TypeInfo) (z : Value) (ht : P.underlying t = some (.slice e)) (hi : P.info? e = some i) (hz : i.zero = some z) (p : Option Addr) (n c : Nat) (hc : n ≤ c) :
    (Builtin.append_ #[t, t] ty #[.slice p n c, .slice none 0 0]).run P w = .ok (.slice p n c) w := by
  cases p <;> simp [Builtin.append_, run_underlying ht, sizeOf, zeroValue, typeInfo, hi, hz, hc, Builtin.lenOf, Builtin.firstCells, storeCells]
/-- append of a row of strings. -/
theorem wpList_append_row {P : Program} {w : World} {ops : Array Oper} {rest : List Oper} {o : Oper} {a : Act} {Q : Exit → Act → World → Prop} (hgd : o.guard = none) (s x : Operand) (t : TypeId)
    (ho : o.op = .call { callee := .builtin .append, args := #[s, x], argTypes := #[t, t] })
    (base : Nat) (e : TypeId) (z : Value) (ht : P.underlying t = some (.slice e)) (hinfo : (P.info? e).map (fun i => (i.zero, i.size, i.bytes)) = some (some z, 1, 16)) (hz : z.cells.size = 1)
    (p : Option Addr) (n c : Nat) (xs : List Value) (hs : a.eval s = .slice p n c) (hown : w.ownsRow base e 1 (.slice p n c) n xs) (hnc : n ≤ c)
    (xv : Value) (ls : List ByteArray) (hx : a.eval x = xv) (hrow : Row w xv ls) (hbytes : (n + ls.length) * 16 ≤ 140737488355328) (hbase : base ≤ w.heap.size)
    (h : ∀ v' w', w'.ownsRow base e 1 v' (n + ls.length) (xs ++ ls.map Value.string) → w.grownBy w' (Value.slice p n c).ownBlock → wpList P ops Q rest (a.put o.dst v') w') : wpList P ops Q (o :: rest) a w := by
  refine wpList_plain hgd fun K hK => ?_
  obtain ⟨i0, hi, hzz⟩ := Option.map_eq_some_iff.1 hinfo
  simp only [Prod.mk.injEq] at hzz
  obtain ⟨hz0, hz1, hz2⟩ := hzz
  unfold Oper.wp execOp
  rcases hrow with ⟨rfl, rfl⟩ | ⟨g, cap, rfl, hg, hc⟩
  · have hr := run_append_none (P := P) w t o.type e i0 z ht hi hz0 p n c hnc
    simp only [ho, resolve, invoke, builtin, Sem.run_bind, Sem.run_pure, Result.andThen_ok, List.map_toArray, List.map_cons, List.map_nil, hs, hx, hr]
    refine hK _ _ (h _ _ ?_ ?_)
    · simpa using hown
    · exact ⟨rfl, rfl, rfl, Nat.le_refl _, fun _ _ _ => rfl⟩
  · obtain ⟨v1, w1, hr, hown1, hgr, _, _⟩ := run_append_own_at (P := P) w base t o.type e i0 z 1 16 ht hi hz0 hz1 hz2 hz (by decide) (.slice p n c) n xs hown ⟨g, 0, none⟩ ls.length cap (ls.map Value.string) (by simp)
      (fun j y hy => by
        rw [List.getElem?_map] at hy
        obtain ⟨x, hx, rfl⟩ := Option.map_eq_some_iff.1 hy
        have : (⟨g, 0, none⟩ : Addr).add j = ⟨g, j, none⟩ := by { unfold Addr.add; split <;> simp_all }
        rw [this]
        exact hc j x hx) (by intro u hu; obtain ⟨x, _, rfl⟩ := List.mem_map.1 hu; rfl) (by simp only [maxLen]; omega) hbytes hbase
    simp only [ho, resolve, invoke, builtin, Sem.run_bind, Sem.run_pure, Result.andThen_ok, List.map_toArray, List.map_cons, List.map_nil, hs, hx, hr]
    exact hK _ _ (h v1 w1 hown1 hgr)
end Go.Proofs.YtpcmidhhbgjcjaaDoor
