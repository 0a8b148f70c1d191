/- Rows of bytes that came of []byte(s), and an append of one byte to them. -/
import Derived.Lib.ConvBytes
import Derived.Laws.IdiomCopy
import Derived.Test.YtpcmidhhbgjcjaaDoorR2
namespace Go.Proofs.YtpcmidhhbgjcjaaDoor
open Go Go.RowKit

/-- A row that the call owns, none of whose cells is frozen. -/
def OwnZ (w : World) (base : Nat) (e : TypeId) (v : Value) (n : Nat) (xs : List Value) : Prop :=
  xs.length = n ∧ ∃ g cap cur fz, v = .slice (some ⟨g, 0, none⟩) n cap ∧ base ≤ g ∧ w.heap[g]? = some (.cells cur e fz) ∧ (fz = (0, 0) ∨ cur.size ≤ fz.1) ∧ n ≤ cap ∧ cap ≤ maxLen ∧ cur.size = cap ∧ cur.toList.take n = xs

section
variable {w w1 : World} {base e n : Nat} {v : Value} {xs : List Value}
theorem OwnZ.fr {X : Nat → Prop} (h : OwnZ w base e v n xs) (hf : Fr X w w1) (hx : ∀ r, base ≤ r → ¬ X r) : OwnZ w1 base e v n xs := by
  obtain ⟨h1, g, cap, cur, fz, rfl, hg, hb, hr⟩ := h
  exact ⟨h1, g, cap, cur, fz, rfl, hg, hf.blk hb (hx g hg), hr⟩
theorem OwnZ.alloc (h : OwnZ w base e v n xs) (o : Obj) : OwnZ (w.alloc o) base e v n xs := h.fr (X := fun _ => False) ((Fr.refl _ w).alloc o) (fun _ _ => id)
theorem OwnZ.ge (h : OwnZ w base e v n xs) : ∀ r, v.ownBlock = some r → base ≤ r := by
  obtain ⟨_, g, cap, cur, fz, rfl, hg, _⟩ := h
  intro r hr; cases hr; exact hg
theorem OwnZ.of_own (h : w.ownsRow base e 1 v n xs) (hv : v ≠ .slice none 0 0) : OwnZ w base e v n xs := by
  obtain ⟨h1, h2⟩ := h
  rcases h2 with ⟨rfl, _⟩ | ⟨g, cap, cur, rfl, hg, hb, hn, hm, hs, ht⟩
  · exact (hv rfl).elim
  · exact ⟨by simpa using h1, g, cap, cur, (0, 0), rfl, hg, hb, .inl rfl, hn, hm, by simpa using hs, by simpa using ht⟩
theorem OwnZ.cell (h : OwnZ w base e v n xs) {g cap : Nat} (hv : v = .slice (some ⟨g, 0, none⟩) n cap) : ∀ j u, xs[j]? = some u → w.cell? ⟨g, j, none⟩ = some u := by
  obtain ⟨h1, g', cap', cur, fz, rfl, hg, hb, hf, hn, hm, hs, ht⟩ := h
  injection hv with hv _ _
  injection hv with hv
  injection hv with hv
  subst hv
  intro j u hj
  rw [← ht, List.getElem?_take] at hj
  split at hj
  · simpa [World.cell?, hb] using hj
  · cases hj
theorem OwnZ.succ (h : OwnZ w base e v n xs) : ∃ g cap, v = .slice (some ⟨g, 0, none⟩) n cap ∧ base ≤ g ∧ g < w.heap.size ∧ n ≤ cap ∧ cap ≤ maxLen := by
  obtain ⟨_, g, cap, cur, fz, rfl, hg, hb, _, hn, hm, _⟩ := h
  exact ⟨g, cap, rfl, hg, blk_lt hb, hn, hm⟩

theorem run_append1Z {P : Program} (t ty : TypeId) (i : TypeInfo) (z : Value) (ht : P.underlying t = some (.slice e)) (hi : P.info? e = some i) (hz : i.zero = some z) (hsize : i.size = 1) (hby : i.bytes = 1) (hzs : z.cells.size = 1)
    (hown : OwnZ w base e v n xs) (ad : Addr) (c : Nat) (u : Value) (hx : w.cell? ad = some u) (h1 : u.oneCell' = true) (hb : n + 1 ≤ 140737488355328) (hbase : base ≤ w.heap.size) :
    ∃ v' w', (Builtin.append_ #[t, t] ty #[v, .slice (some ad) 1 c]).run P w = .ok v' w' ∧ OwnZ w' base e v' (n + 1) (xs ++ [u]) ∧ w.grownBy w' v.ownBlock := by
  have hcells := fun g cap hv => hown.cell (g := g) (cap := cap) hv
  obtain ⟨hl, g, cap, cur, fz, rfl, hg, hblk, hf, hn, hm, hs, htk⟩ := hown
  have hadd : ∀ (a : Addr) (j : Nat) (y : Value), [u][j]? = some y → w.cell? (ad.add j) = some y := by
    intro a j y hj
    match j, hj with
    | 0, hj => simp at hj; subst hj; simpa [Addr.add] using hx
  by_cases hroom : n + 1 ≤ cap
  · have hfc := run_firstCells_some (P := P) w i.size 1 ad 1 c [u] (by simp [hsize]) (hadd ad)
    rw [hsize] at hfc
    have hc : w.cell? ⟨g, n, none⟩ = cur[n]? := by simp [World.cell?, hblk]
    have hcs : cur[n]? = some cur[n] := Array.getElem?_eq_getElem (by omega)
    have hfr : w.frozen? ⟨g, n, none⟩ = false := by
      simp only [World.frozen?, hblk]
      rcases hf with rfl | hf
      · simp
      · simp; omega
    have hst : (storeCells ⟨g, n, none⟩ [u]).run P w = .ok () (w.setCell ⟨g, n, none⟩ u) := by
      have := run_storeCells_cells (P := P) g n [u] 0 w (by intro j hj; simp at hj; subst hj; simp [hc, hcs]) (by intro j hj; simp at hj; subst hj; simpa using hfr) (by intro y hy; simp at hy; subst hy; exact h1)
      simpa [World.setCells, storeCells] using this
    have hadd2 : (⟨g, 0, none⟩ : Addr).add n = ⟨g, n, none⟩ := by unfold Addr.add; split <;> simp_all
    refine ⟨.slice (some ⟨g, 0, none⟩) (n + 1) cap, w.setCell ⟨g, n, none⟩ u, ?_, ⟨by simp [hl], g, cap, cur.setIfInBounds n u, fz, rfl, hg, blk_set hblk n u, ?_, hroom, hm, by simpa using hs, ?_⟩, ⟨rfl, rfl, rfl, by simp [World.setCell], fun k _ hk => Below.heap_setCell _ _ _ _ (fun e => hk (by simp [Value.ownBlock, e]))⟩⟩
    · simp [Builtin.append_, run_underlying ht, sizeOf, typeInfo, hi, Builtin.lenOf, hroom, hfc, hsize, hadd2, hst]
    · rcases hf with hf | hf
      · exact .inl hf
      · exact .inr (by simpa using hf)
    · rw [← htk, Array.toList_setIfInBounds, List.take_succ_eq_append_getElem (by simp; omega)]
      simp [List.take_set_of_le]
  · have hr := run_append_grow (P := P) w t ty e i z ht hi hz ⟨g, 0, none⟩ n cap xs (by simp [hl, hsize]) (fun j y hj => by
      have : (⟨g, 0, none⟩ : Addr).add j = ⟨g, j, none⟩ := by unfold Addr.add; split <;> simp_all
      rw [this]; exact hcells g cap rfl j y hj) ad 1 c [u] (by simp [hsize]) (hadd ad) (by omega) (by omega) (growslice_fits (by omega) (by rw [hby]; omega))
    refine ⟨_, _, hr, ⟨by simp [hl], w.heap.size, grownCap w (n + 1) cap e, _, (0, 0), rfl, hbase, World.alloc_heap_new w.drew _, .inl rfl, grownCap_ge w (n + 1) cap e, grownCap_le_maxLen w (n + 1) cap e (by simp only [maxLen]; omega), ?_, ?_⟩, ⟨rfl, rfl, rfl, by simp, fun k hk _ => Below.heap_alloc w.drew _ k hk⟩⟩
    · have := grownCap_ge w (n + 1) cap e
      simp [Builtin.zeroCells, hzs, hl]
      omega
    · have : (xs ++ [u]).length = n + 1 := by simp [hl]
      simp only [Array.toList_append, List.append_assoc]
      rw [← List.append_assoc, ← this]
      exact List.take_left
end
theorem wpListIn_append1Z {F : Fence} {nf : Nat} {P : Program} (w : World) {ops : Array Oper} {rest : List Oper} {o : Oper} {a : Act} {Q : Exit → Act → World → Prop}
    (hg : o.guard = none) (s x : Operand) (t : TypeId) (hop : o.op = Op.call { callee := Callee.builtin Builtin.append, args := #[s, x], argTypes := #[t, t] })
    (base e : Nat) (i : TypeInfo) (z : Value) (ht : P.underlying t = some (.slice e)) (hi : P.info? e = some i) (hz : i.zero = some z) (hsize : i.size = 1) (hby : i.bytes = 1) (hzs : z.cells.size = 1)
    (v : Value) (n : Nat) (xs : List Value) (hs : a.eval s = v) (hown : OwnZ w base e v n xs) (ad : Addr) (c : Nat) (u : Value) (hx : a.eval x = .slice (some ad) 1 c) (hc : w.cell? ad = some u) (h1 : u.oneCell' = true)
    (hb : n + 1 ≤ 140737488355328) (hbase : base ≤ w.heap.size)
    (hK : ∀ v' w', OwnZ w' base e v' (n + 1) (xs ++ [u]) → w.grownBy w' v.ownBlock → wpListIn F nf P ops Q rest (a.put o.dst v') w') :
    wpListIn F nf P ops Q (o :: rest) a w := by
  refine wpListIn_plain hg fun K hK' => ?_
  obtain ⟨v', w', hrun, r1, r2⟩ := run_append1Z (P := P) t o.type i z ht hi hz hsize hby hzs hown ad c u hc h1 hb hbase
  unfold Oper.wpIn
  refine ⟨?_, ?_⟩
  · simp [Oper.about, hop, resolve, Target.leads, Sem.run_pure]
  · rw [Oper.semAt_plain F _ _ (by rw [hop]; intro c hc'; cases hc')]
    simp [execOp, hop, resolve, invoke, builtin, hs, hx, hrun, Result.andThen]
    exact hK' _ _ (hK v' w' r1 r2)
/-- A load of a whole row or struct, in a fenced walk. -/
theorem wpListIn_load_row {F : Fence} {nf : Nat} {P : Program} {ops : Array Oper} {rest : List Oper} {o : Oper} {a : Act} {w : World} {Q : Exit → Act → World → Prop} (hgd : o.guard = none) (ty : TypeId) (x : Operand) (ho : o.op = .load ty x)
    (g : Nat) (hx : a.eval x = .pointer (some ⟨g, 0, none⟩)) (t : TypeId) (cs : Array Value) (fr : Nat × Nat) (d : TypeDesc) (hg : w.heap[g]? = some (.cells cs t fr))
    (hu : P.underlying ty = some d) (hd : (match d with | .struct _ | .array _ _ => true | _ => false) = true) (hi : (P.info? ty).map (·.size) = some cs.size)
    (h : wpListIn F nf P ops Q rest (a.put o.dst (.agg cs)) w) : wpListIn F nf P ops Q (o :: rest) a w := by
  refine wpListIn_plain hgd fun K hK' => ?_
  unfold Oper.wpIn
  refine ⟨?_, ?_⟩
  · simp [Oper.about, ho]
  · rw [Oper.semAt_plain F _ _ (by rw [ho]; intro c hc'; cases hc')]
    unfold execOp
    simp only [ho, hx, Instr.loadAt, Instr.sureAddr, Sem.run_bind, Sem.run_pure, Result.andThen_ok, run_loadVar_row w g t ty cs fr d hg hu hd hi]
    exact hK' _ _ h
/-- []byte(s): a row that the call owns. -/
theorem bytes_own (w : World) (e : TypeId) (s : ByteArray) (hs : s.size ≤ maxLen) (base : Nat) (hb : base ≤ w.heap.size) :
    OwnZ (Go.Lib.bytesWorld w e s) base e (.slice (some ⟨w.heap.size, 0, none⟩) s.size (grownCap w s.size 0 e)) s.size (u8s s.data.toList) := by
  have hge := grownCap_ge w s.size 0 e
  have hsz : (Go.Lib.bytesCells w e s).size = grownCap w s.size 0 e := by
    simp [Go.Lib.bytesCells]
    have : s.data.size = s.size := rfl
    omega
  refine ⟨by simp [u8s], w.heap.size, _, _, _, rfl, hb, Go.Lib.bytesWorld_at_new w e s, .inr (Nat.le_refl _), hge, grownCap_le_maxLen w s.size 0 e hs, hsz, ?_⟩
  simp only [Go.Lib.bytesCells, Array.toList_append, Array.toList_map]
  rw [List.take_append_of_le_length (by simp)]
  rw [List.take_of_length_le (by simp)]
  rfl
theorem bytes_fr (w : World) (e : TypeId) (s : ByteArray) (X : Nat → Prop) : Fr X w (Go.Lib.bytesWorld w e s) :=
  ⟨by unfold Go.Lib.bytesWorld World.freeze; rw [if_neg (by decide)]; rfl, by unfold Go.Lib.bytesWorld World.freeze; rw [if_neg (by decide)]; rfl, by unfold Go.Lib.bytesWorld World.freeze; rw [if_neg (by decide)]; rfl, by rw [Go.Lib.bytesWorld_size]; omega, fun k hk _ => Go.Lib.bytesWorld_at_old w e s k hk⟩
end Go.Proofs.YtpcmidhhbgjcjaaDoor
