/- What a call keeps, and a law on a range over a function whose iterator writes cells of its own. -/
import Derived.RangeFuncWrites
import Derived.RangeFuncNested
import Derived.RangeFuncBound
import Derived.RangeFuncCalls
import Derived.RangeFuncLeaves
import Derived.Shelf.Abstract
import Derived.Shelf.RegionOpen
import Derived.WalkKit
import Derived.OwnWalkIn
import Derived.TacticsInMore
import Derived.LoopNIn
import Derived.LoopIn
namespace Go.Proofs.YtpcmidhhbgjcjaaDoor
open Go Go.RowKit

/-- All is as it was but the blocks of X, and what is new. -/
structure Fr (X : Nat → Prop) (w w' : World) : Prop where
  os : w'.os = w.os
  tape : w'.tape = w.tape
  output : w'.output = w.output
  size : w.heap.size ≤ w'.heap.size
  block : ∀ k, k < w.heap.size → ¬ X k → w'.heap[k]? = w.heap[k]?

section
variable {X Y Z : Nat → Prop} {w w1 w2 : World}
theorem Fr.refl (X : Nat → Prop) (w : World) : Fr X w w := ⟨rfl, rfl, rfl, Nat.le_refl _, fun _ _ _ => rfl⟩
/-- Two steps: what the second writes, the whole may write, or it is new. -/
theorem Fr.trans (h : Fr X w w1) (k : Fr Y w1 w2) (hy : ∀ r, Y r → X r ∨ w.heap.size ≤ r) : Fr X w w2 :=
  ⟨k.os.trans h.os, k.tape.trans h.tape, k.output.trans h.output, Nat.le_trans h.size k.size, fun i hi hn =>
    (k.block i (Nat.lt_of_lt_of_le hi h.size) (fun hy' => (hy i hy').elim hn (fun h' => by omega))).trans (h.block i hi hn)⟩
theorem Fr.mono (h : Fr X w w1) (hs : ∀ r, X r → Y r ∨ w.heap.size ≤ r) : Fr Y w w1 :=
  ⟨h.os, h.tape, h.output, h.size, fun i hi hn => h.block i hi (fun hx => (hs i hx).elim hn (fun h' => by omega))⟩
theorem Fr.of_below (h : Below w.heap.size w w1) : Fr X w w1 := ⟨h.os, h.tape, h.output, h.size, fun i hi _ => h.block i hi⟩
theorem Fr.below (h : Fr X w w1) (hx : ∀ r, X r → w.heap.size ≤ r) : Below w.heap.size w w1 :=
  ⟨h.os, h.tape, h.output, h.size, fun i hi => h.block i hi (fun hx' => by have := hx i hx'; omega)⟩
theorem Fr.of_grown {row : Option Nat} (hg : w.grownBy w1 row) (hr : ∀ r, row = some r → X r ∨ w.heap.size ≤ r) : Fr X w w1 :=
  ⟨hg.os, hg.tape, hg.output, hg.size, fun i hi hn => hg.block i hi (fun e => (hr i e.symm).elim hn (fun h' => by omega))⟩
theorem Fr.alloc (h : Fr X w w1) (o : Obj) : Fr X w (w1.alloc o) :=
  h.trans (Y := fun _ => False) ⟨rfl, rfl, rfl, by simp, fun k hk _ => Below.heap_alloc _ _ _ hk⟩ (fun _ h => h.elim)
theorem Fr.drew (h : Fr X w w1) : Fr X w w1.drew := ⟨h.os, h.tape, h.output, h.size, h.block⟩
theorem Fr.drewN (h : Fr X w w1) (m : Nat) : Fr X w (w1.drewN m) := ⟨h.os, h.tape, h.output, h.size, h.block⟩
theorem Fr.setCell (h : Fr X w w1) {p : Addr} (hp : X p.block ∨ w.heap.size ≤ p.block) (u : Value) : Fr X w (w1.setCell p u) :=
  h.trans (Y := fun k => k = p.block) ⟨rfl, rfl, rfl, by simp [World.setCell], fun k _ hn => Below.heap_setCell _ _ _ _ hn⟩ (fun r hr => by rw [hr]; exact hp)
theorem Fr.putObj (h : Fr X w w1) {l : Nat} (hp : X l ∨ w.heap.size ≤ l) (o : Obj) : Fr X w (w1.putObj l o) :=
  h.trans (Y := fun k => k = l) (Fr.of_grown (grownBy_putObj' w1 l o) (fun r e => by cases e; exact .inl rfl)) (fun r hr => by rw [hr]; exact hp)
theorem Fr.cell (h : Fr X w w1) {a : Addr} (hl : a.block < w.heap.size) (hn : ¬ X a.block) : w1.cell? a = w.cell? a := World.cell?_of_block (w := w) (h.block a.block hl hn)
theorem Fr.frozen (h : Fr X w w1) {a : Addr} (hl : a.block < w.heap.size) (hn : ¬ X a.block) : w1.frozen? a = w.frozen? a := World.frozen?_of_block (w := w) (h.block a.block hl hn)
theorem blk_lt {g : Nat} {o : Obj} (h : w.heap[g]? = some o) : g < w.heap.size := (Array.getElem?_eq_some_iff.1 h).1
theorem Fr.blk (h : Fr X w w1) {g : Nat} {o : Obj} (hb : w.heap[g]? = some o) (hn : ¬ X g) : w1.heap[g]? = some o := (h.block g (blk_lt hb) hn).trans hb
end

variable {F : Fence} {n : Nat} {P : Program}

/-- THE CONTRACT OF AN ITERATOR whose rounds all go on: it may write the blocks of X; a round writes Y or what is new since w0. -/
def SeqS {α : Type} (F : Fence) (n : Nat) (P : Program) (g : Nat) (lb : Array Value) (encs : α → Array Value) (X Y : Nat → Prop) (S : List α → Prop) (N : Nat) (w0 : World) : Prop :=
  ∀ (l : Nat) (J : List α → World → Prop) (W : World), Below w0.heap.size w0 W → (∀ s A B, J s A → Fr X A B → J s B) →
    (∀ pre x W1, J pre W1 → pre.length < N → YieldAt F (n - 1) P l (encs x) W1 fun e W' =>
      (e = .returned (.bool true) ∧ J (pre ++ [x]) W' ∧ Fr (fun r => Y r ∨ w0.heap.size ≤ r) W1 W')) →
    J [] W →
    CallsIn F n P g (#[.func (.yield l) #[] #[]] ++ lb) W fun e W' => (∃ v, e = .returned v) ∧ ∃ xs, S xs ∧ J xs W'

/-- How the body of a round is left. -/
def postS {α : Type} (B : Nat) (Y : Nat → Prop) (I : List α → World → Prop) (xs : List α) (W : World) : Exit → Act → World → Prop
  | .normal, _, W' => Fr (fun r => Y r ∨ B + 2 ≤ r) W W' ∧ I xs W'
  | _, _, _ => False

theorem wpIn_rangeFunc_S {α : Type} {g : Operand} {ps : Array Tmp} {assign body : Code} {Q : Exit → Act → World → Prop} {a : Act} {w : World}
    (hro : F.round = none) (h1 : 1 ≤ n) {gf : Nat} {lb : Array Value} (hg : a.eval g = .func (.func gf) #[] lb) (hFg : F.fn gf) (eg : ∀ args w, (callFunc gf args).run P w = .ok (.enter gf args) w)
    {encs : α → Array Value} {X Y : Nat → Prop} {S : List α → Prop} {N : Nat} (hseq : SeqS F (n - 1) P gf lb encs X Y S N w)
    (hX : ∀ r, X r → r < w.heap.size) (hY : ∀ r, Y r → r < w.heap.size) (hps : ∀ x, (encs x).size = ps.size)
    (I : List α → World → Prop) (hI : ∀ s A B, I s A → Fr (fun r => X r ∨ r = w.heap.size + 1) A B → I s B) (h0 : I [] w) (a₁ : α → Act)
    (hassign : ∀ (l : Nat) (x : α) (W : World) (K : Act → World → Prop), K (a₁ x) W →
      assign.wpIn (F.inRound l) (n - 1 - 1) P (Exit.then K (fun _ _ _ => False)) { tmps := (ps.zip (encs x)).foldl (fun t (p, v) => t.setIfInBounds p v) a.tmps, defers := [] } W)
    (hbody : ∀ (l : Nat) (pre : List α) (x : α) (W : World), I pre W → pre.length < N → w.heap.size + 2 ≤ W.heap.size → body.wpIn (F.inRound l) (n - 1 - 1) P (postS w.heap.size Y I (pre ++ [x]) W) (a₁ x) W)
    (hdone : ∀ (D : Nat) (xs : List α) (W : World), w.heap.size ≤ D → S xs → I xs W → W.heap[D]? = some (.deferred (some [])) → Q .normal { a with defers := { target := .collected D, args := #[] } :: a.defers } W) :
    (Code.rangeFunc g ps assign body).wpIn F n P Q a w := by
  refine wpIn_rangeFunc ?_
  intro fn hfn
  rw [hro]
  obtain ⟨rec, hrec⟩ : ∃ rec : LoopState → Option Code → Loop, rec = fun st pe => { state := st, pending := pe, fn, tmps := a.tmps, params := ps, assign, body, defers := w.heap.size } := ⟨_, rfl⟩
  obtain ⟨W1, hW1⟩ : ∃ W1, (w.alloc (.deferred (some []))).alloc (.loop (rec .ready none)) = W1 := ⟨_, rfl⟩
  have hL1 : W1.heap[w.heap.size + 1]? = some (.loop (rec .ready none)) := by
    rw [← hW1]; have := World.alloc_heap_new (w.alloc (.deferred (some []))) (.loop (rec .ready none)); rwa [World.size_alloc] at this
  have hK1 : W1.heap[w.heap.size]? = some (.deferred (some [])) := by
    rw [← hW1]; exact (Below.heap_alloc _ _ _ (by simp)).trans (World.alloc_heap_new w _)
  have hI1 : I [] W1 := by rw [← hW1]; exact hI _ _ _ h0 (((Fr.refl _ w).alloc _).alloc _)
  have hb1 : Below w.heap.size w W1 := by
    rw [← hW1]; exact ((Below.refl _ w).alloc (Nat.le_refl _) _).alloc (by simp) _
  refine ⟨w.heap.size + 1, [{ target := .collected w.heap.size, args := #[] }], W1, { target := .fn (.func gf) lb, args := #[.func (.yield (w.heap.size + 1)) #[] #[]] }, W1, gf,
    #[.func (.yield (w.heap.size + 1)) #[] #[]] ++ lb, W1, ?_, ?_, ?_, ?_, fun _ => h1, ?_⟩
  · rw [← hW1, hrec]; exact run_enterLoop_outer _ _ _ _ _
  · simp only [resolve, hg]
    simp [go_sem]
  · intro f' hf'; simp [Target.leads] at hf'; subst hf'; exact hFg
  · simp [invoke, go_sem, eg]
  · refine (hseq (w.heap.size + 1)
      (fun pre W => I pre W ∧ W.heap[w.heap.size + 1]? = some (.loop (rec .ready none)) ∧ W.heap[w.heap.size]? = some (.deferred (some [])))
      W1 hb1
      (fun s A B hs hf => ⟨hI s A B hs.1 (hf.mono (fun r hr => .inl (.inl hr))), hf.blk hs.2.1 (fun hx => by have := hX _ hx; omega), hf.blk hs.2.2 (fun hx => by have := hX _ hx; omega)⟩)
      ?_ ⟨hI1, hL1, hK1⟩).mono ?_
    · -- one round
      rintro pre x W ⟨hi, hl, hk⟩ hlen
      have hlt : w.heap.size + 1 < W.heap.size := (Array.getElem?_eq_some_iff.1 hl).1
      have hy := run_yield (P := P) (args := encs x) hl (by rw [hrec]; exact hps x)
      rw [hrec] at hy
      refine ⟨fn, _, assign, body, hy, roundIn_of_wpIn hfn (hassign _ x W _ ⟨_, run_beginRound hl (by rw [hrec]), ?_⟩)⟩
      have hl2 : (W.putObj (w.heap.size + 1) (.loop { rec .ready none with state := .busy })).heap[w.heap.size + 1]? = some (.loop { rec .ready none with state := .busy }) := World.putObj_heap_same hlt
      have hk2 : (W.putObj (w.heap.size + 1) (.loop { rec .ready none with state := .busy })).heap[w.heap.size]? = some (.deferred (some [])) := (World.putObj_heap_other (by omega)).trans hk
      have hf2 : Fr (fun r => r = w.heap.size + 1) W (W.putObj (w.heap.size + 1) (.loop { rec .ready none with state := .busy })) := (Fr.refl (fun r => r = w.heap.size + 1) W).putObj (l := w.heap.size + 1) (.inl rfl) _
      refine wpIn_mono (hbody _ pre x _ (hI _ _ _ hi (hf2.mono (fun r hr => .inl (.inr hr)))) hlen (Nat.le_trans hlt hf2.size)) ?_
      have fin : ∀ (jump : Option Code) (W3 : World), Fr (fun r => Y r ∨ w.heap.size + 2 ≤ r) (W.putObj (w.heap.size + 1) (.loop { rec .ready none with state := .busy })) W3 →
          (Instr.endRound (w.heap.size + 1) jump).run P W3 = .ok (.bool jump.isNone) (W3.putObj (w.heap.size + 1) (.loop (rec (if jump.isNone then .ready else .done) jump))) ∧
          W3.heap[w.heap.size + 1]? = some (.loop { rec .ready none with state := .busy }) ∧
          (W3.putObj (w.heap.size + 1) (.loop (rec (if jump.isNone then .ready else .done) jump))).heap[w.heap.size + 1]? = some (.loop (rec (if jump.isNone then .ready else .done) jump)) ∧
          (W3.putObj (w.heap.size + 1) (.loop (rec (if jump.isNone then .ready else .done) jump))).heap[w.heap.size]? = some (.deferred (some [])) := fun jump W3 hk3 => by
        have hl3 := hk3.blk hl2 (fun h => by rcases h with h | h; (have := hY _ h; omega); omega)
        have := run_endRound (P := P) jump hl3
        rw [hrec] at this ⊢
        exact ⟨this, by rw [hrec] at hl3; exact hl3, World.putObj_heap_same (Array.getElem?_eq_some_iff.1 hl3).1, (World.putObj_heap_other (by omega)).trans (hk3.blk hk2 (fun h => by rcases h with h | h; (have := hY _ h; omega); omega))⟩
      rintro e a3 W3 hp
      cases e with
      | normal =>
        obtain ⟨hk3, hi3⟩ := hp
        obtain ⟨hr, hl3, hl4, hk4⟩ := fin none W3 hk3
        refine ⟨_, _, hr, rfl, ⟨hI _ _ _ hi3 ((Fr.refl _ W3).putObj (.inl (.inr rfl)) _), hl4, hk4⟩, ?_⟩
        exact ((hf2.mono (Y := fun r => Y r ∨ w.heap.size ≤ r) (fun r hr => .inl (.inr (by omega)))).trans hk3 (fun r hr => .inl (hr.imp id (fun h => by omega)))).putObj (.inl (.inr (by omega))) _
      | ret => exact hp.elim
      | exit id => exact hp.elim
      | goto t => exact hp.elim
      | panic ch => exact hp.elim
      | outgrown => exact hp.elim
    · -- behind the iterator
      rintro e W2 ⟨⟨v, rfl⟩, xs, hS, hi, hl, hk⟩
      exact ⟨none, _, by have := run_endLoop (P := P) hl (by rw [hrec]; simp); rw [hrec] at this; exact this, hdone _ xs _ (Nat.le_refl _) hS (hI _ _ _ hi ((Fr.refl _ W2).putObj (.inl (.inr rfl)) _)) ((World.putObj_heap_other (by omega)).trans hk)⟩
end Go.Proofs.YtpcmidhhbgjcjaaDoor
