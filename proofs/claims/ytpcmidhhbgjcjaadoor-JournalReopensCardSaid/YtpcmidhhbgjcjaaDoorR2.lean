/- Blocks of cells, rows that the call owns, and bytes: what a step leaves of them. -/
import Derived.Lib.Hide
import Derived.Laws.Bits64b
import Derived.Laws.BitsLemmas
import Derived.Laws.BytesArg
import Derived.Maps.AppendAt
import Derived.KernelRfl
import Derived.Test.YtpcmidhhbgjcjaaDoorR1
namespace Go.Proofs.YtpcmidhhbgjcjaaDoor
open Go Go.RowKit

theorem blk_cell {w : World} {g : Nat} {cs : Array Value} {t : TypeId} (h : w.heap[g]? = some (.cells cs t (0, 0))) (i : Nat) : w.cell? ⟨g, i, none⟩ = cs[i]? := by simp [World.cell?, h]
theorem blk_free {w : World} {g : Nat} {cs : Array Value} {t : TypeId} (h : w.heap[g]? = some (.cells cs t (0, 0))) (i : Nat) : w.frozen? ⟨g, i, none⟩ = false := by simp [World.frozen?, h]
theorem blk_set {w : World} {g : Nat} {cs : Array Value} {t : TypeId} {f : Nat × Nat} (h : w.heap[g]? = some (.cells cs t f)) (i : Nat) (v : Value) : (w.setCell ⟨g, i, none⟩ v).heap[g]? = some (.cells (cs.setIfInBounds i v) t f) := by
  simp [World.setCell, Array.getElem?_modify, h]
theorem blk_far {w : World} {g : Nat} {o : Obj} (h : w.heap[g]? = some o) {p : Addr} (hp : g ≠ p.block) (v : Value) : (w.setCell p v).heap[g]? = some o := (Below.heap_setCell w p v g hp).trans h

theorem ownsRow_fr {A B : World} {base e size n : Nat} {v : Value} {xs : List Value} {X : Nat → Prop} (h : A.ownsRow base e size v n xs) (hf : Fr X A B) (hx : ∀ r, base ≤ r → ¬ X r) : B.ownsRow base e size v n xs := by
  obtain ⟨h1, h2⟩ := h
  refine ⟨h1, h2.imp id ?_⟩
  rintro ⟨g, cap, cur, rfl, hg, hb, hr⟩
  exact ⟨g, cap, cur, rfl, hg, hf.blk hb (hx g hg), hr⟩
theorem below_fr {w A B : World} {X : Nat → Prop} (h : Below w.heap.size w A) (hf : Fr X A B) (hx : ∀ r, X r → w.heap.size ≤ r) : Below w.heap.size w B :=
  ((Fr.of_below (X := X) h).trans hf (fun _ h => .inl h)).below hx
def u8s (l : List UInt8) : List Value := l.map (fun b => Value.int .u8 b.toNat)
theorem u8s_snoc (l : List UInt8) (b : UInt8) : u8s (l ++ [b]) = u8s l ++ [.int .u8 b.toNat] := by simp [u8s]
theorem own_ge {A : World} {base e size n : Nat} {v : Value} {xs : List Value} (h : A.ownsRow base e size v n xs) : ∀ r, v.ownBlock = some r → base ≤ r := by
  rcases h.2 with ⟨rfl, _⟩ | ⟨g, cap, cur, rfl, hg, _⟩
  · intro r hr; cases hr
  · intro r hr; cases hr; exact hg
theorem grown_fr {A B : World} {base e size n : Nat} {v : Value} {xs : List Value} (ho : A.ownsRow base e size v n xs) (hg : A.grownBy B v.ownBlock) : Fr (fun r => base ≤ r) A B :=
  Fr.of_grown hg (fun r hr => .inl (own_ge ho r hr))
theorem or_u8 (a b : UInt8) : bits .or .u8 (a.toNat : Int) (b.toNat : Int) = ((a ||| b).toNat : Int) := by
  rw [(bits_nat .u8 8 (by decide) wraps_u8 a.toNat b.toNat a.toNat_lt b.toNat_lt).2, UInt8.toNat_or]

theorem u8s_len (l : List UInt8) : (u8s l).length = l.length := by simp [u8s]
/-- string(b), b a row of bytes whose cells are known. -/
theorem conv_cells {P : Program} {w : World} (src dst e : TypeId) (hs : P.underlying src = some (.slice e)) (he : P.underlying e = some (.int .u8)) (hd : P.underlying dst = some .string) (b off cap : Nat) (l : List UInt8)
    (hc : ∀ i, i < l.length → w.cell? ⟨b, off + i, none⟩ = some (.int .u8 (l.getD i 0).toNat)) : (convert src dst (.slice (some ⟨b, off, none⟩) l.length cap)).run P w = .ok (.string ⟨l.toArray⟩) w := by
  have := run_convert_bytes_arg (P := P) w src e hs he b off l.length cap (l.map (fun b => (b.toNat : Int))) (by simp) (fun i hi => by
    rw [hc i hi]; simp [List.getD, List.getElem?_eq_getElem hi]) dst hd
  rw [this, strOfNums]
  congr 2
  simp [List.map_map, Function.comp_def]
theorem ownsRow_cells {w : World} {base e n g cap : Nat} {xs : List Value} (h : w.ownsRow base e 1 (.slice (some ⟨g, 0, none⟩) n cap) n xs) : ∀ j x, xs[j]? = some x → w.cell? ⟨g, j, none⟩ = some x := by
  obtain ⟨h1, h2⟩ := h
  rcases h2 with ⟨h2, _⟩ | ⟨g', cap', cur, h3, hg, hb, hn, hm, hs, ht⟩
  · cases h2
  · injection h3 with h3 _ _
    injection h3 with h3
    injection h3 with h3
    subst h3
    intro j x hj
    rw [blk_cell hb]
    rw [← ht, List.getElem?_take] at hj
    split at hj
    · simpa using hj
    · cases hj
/-- string(b), b a row of bytes that the call owns. -/
theorem conv_own {P : Program} {w : World} {base e n : Nat} {v : Value} {l : List UInt8} (src dst : TypeId) (hs : P.underlying src = some (.slice e)) (he : P.underlying e = some (.int .u8)) (hd : P.underlying dst = some .string)
    (h : w.ownsRow base e 1 v n (u8s l)) : (convert src dst v).run P w = .ok (.string ⟨l.toArray⟩) w := by
  have hl : l.length = n := by have := h.1; simpa [u8s] using this
  rcases h.2 with ⟨rfl, hn⟩ | ⟨g, cap, cur, rfl, hg, hb, hr⟩
  · obtain rfl : l = [] := List.eq_nil_of_length_eq_zero (by omega)
    exact run_convert_bytes_nil w src e hs he 0 0 dst hd
  · subst hl
    refine conv_cells src dst e hs he hd g 0 cap l (fun i hi => ?_)
    rw [Nat.zero_add]
    exact ownsRow_cells h i _ (by simp [u8s, List.getElem?_eq_getElem hi, List.getD])
end Go.Proofs.YtpcmidhhbgjcjaaDoor
