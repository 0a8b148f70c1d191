/- journal.Append: its loop. -/
import Derived.Test.YtpcmidhhbgjcjaaDoorJ10
import Derived.Test.YtpcmidhhbgjcjaaDoorB1
import Derived.Lib.OthersKept
namespace Go.Proofs.YtpcmidhhbgjcjaaDoor
open Go Go.RowKit

theorem Append_nil (v : Value) (w : World) : Calls Tryd.prog 11 #[.pointer none, v] w fun e w' => e = .returned (.int .i64 1) ∧ w = w' := by
  go_enter Tryd.func11, Tryd.ntmps11
  go_wp2
  go_ret
  exact ⟨rfl, rfl⟩
theorem HasJ.c4 {W : World} {jb base b : Nat} {P : TP} {br : Bool} (h : HasJ W jb base b P br) : W.cell? ⟨jb, 4, none⟩ = some (.bool br) := by
  obtain ⟨rv, ht⟩ := h.tape
  exact blk_cell ht.blk 4
set_option maxRecDepth 100000 in
theorem Append_broken (jb base b : Nat) (P : TP) (v : Value) (w : World) (h : HasJ w jb base b P true) : Calls Tryd.prog 11 #[.pointer (some ⟨jb, 0, none⟩), v] w fun e w' => e = .returned (.int .i64 340) ∧ w = w' := by
  have hmf : ∀ (fn : Fn) (first cap : Array Value) (w : World), (Instr.makeFunc fn first cap).run Tryd.prog w = .ok (.func fn first cap) w := fun _ _ _ _ => rfl
  have c4 := h.c4
  clear h
  go_enter Tryd.func11, Tryd.ntmps11
  go_wp2_with (fail)
  go_ret
  exact ⟨rfl, rfl⟩
set_option maxRecDepth 100000 in
theorem Append_long (jb base b : Nat) (P : TP) (v : Value) (ls : List ByteArray) (w : World) (h : HasJ w jb base b P false) (hr : Row w v ls) (hl : ls.length ≤ 1000000) (hlong : anyLong ls = true) : Calls Tryd.prog 11 #[.pointer (some ⟨jb, 0, none⟩), v] w fun e w' => e = .returned (.int .i64 340) ∧ w = w' := by
  have c4 := h.c4
  have HC := Lib.hid (ContainsFunc_c v ls w hr hl)
  have HL := Lib.hid hlong
  clear h hr hlong
  go_enter Tryd.func11, Tryd.ntmps11
  go_wp2_with (go_at_call 29; refine HC.out.mono ?_; rintro e w' ⟨rfl, rfl⟩; rw [HL.out])
  go_ret
  exact ⟨rfl, rfl⟩

theorem Row.slice {w : World} {v : Value} {ls : List ByteArray} (h : Row w v ls) : ∃ p cap, v = .slice p ls.length cap ∧ ∀ i x, ls[i]? = some x → ∃ g, p = some ⟨g, 0, none⟩ ∧ g < w.heap.size ∧ w.cell? ⟨g, i, none⟩ = some (.string x) := by
  rcases h with ⟨rfl, rfl⟩ | ⟨g, cap, rfl, hg, hc⟩
  · exact ⟨_, _, rfl, fun i x hx => by simp at hx⟩
  · exact ⟨_, _, rfl, fun i x hx => ⟨g, rfl, hg, hc i x hx⟩⟩
theorem own_slice {w : World} {base e size n : Nat} {v : Value} {xs : List Value} (h : w.ownsRow base e size v n xs) : ∃ p m cap, v = .slice p m cap := by
  rcases h.2 with ⟨rfl, _⟩ | ⟨g, cap, cur, rfl, _⟩
  · exact ⟨_, _, _, rfl⟩
  · exact ⟨_, _, _, rfl⟩
/-- How things lie in Append's loop, i records being taken. -/
structure ALoop (w0 : World) (t bb : Nat) (P : TP) (ls : List ByteArray) (i : Nat) (W : World) : Prop where
  tape : ∃ rv C, HasTape W t (t + 1) C 56 rv (P.addAll (ls.take i)).recs (P.addAll (ls.take i)).head (P.addAll (ls.take i)).size
  bld : Lib.IsBuilderF 67 5 bb bb (Lib.byteCells (encAll P (ls.take i)).data.toList) W
  round : HasRound W
  fr : Below w0.heap.size w0 W
  ht : t < bb
  h0 : w0.heap.size ≤ t
  hh : (P.addAll (ls.take i)).head.size = 32
theorem bld_fr {T e : TypeId} {B b : Nat} {bs : List Value} {w w' : World} {X : Nat → Prop} (h : Lib.IsBuilderF T e B b bs w) (hf : Fr X w w') (hx : ¬ X b) (hb : ∀ g cs fz, w.heap[g]? = some (.cells cs e fz) → ¬ X g) : Lib.IsBuilderF T e B b bs w' := by
  have hp : ∀ p, Lib.BuilderAtF T e B b p bs w → Lib.BuilderAtF T e B b p bs w' := by
    rintro p ⟨hB, v, hbk, hown, hne⟩
    refine ⟨hB, v, hf.blk hbk hx, ⟨hown.1, ?_⟩, hne⟩
    rcases hown.2 with h | ⟨g, cap, cur, fz, h1, h2, h3, h4⟩
    · exact .inl h
    · exact .inr ⟨g, cap, cur, fz, h1, h2, hf.blk h3 (hb _ _ _ h3), h4⟩
  exact h.imp (hp _) (hp _)
theorem bld_blk {T e : TypeId} {B b : Nat} {bs : List Value} {w : World} (h : Lib.IsBuilderF T e B b bs w) : ∃ cs, w.heap[b]? = some (.cells cs T (0, 0)) := by
  rcases h with ⟨_, v, hb, _⟩ | ⟨_, v, hb, _⟩
  · exact ⟨_, hb⟩
  · exact ⟨_, hb⟩
theorem bld_lt {T e : TypeId} {B b : Nat} {bs : List Value} {w : World} (h : Lib.IsBuilderF T e B b bs w) : b < w.heap.size := by
  obtain ⟨cs, h⟩ := bld_blk h
  exact blk_lt h
theorem own_blk {w : World} {base e size n : Nat} {v : Value} {xs : List Value} (h : w.ownsRow base e size v n xs) {g : Nat} (hg : v.ownBlock = some g) : ∃ cs, w.heap[g]? = some (.cells cs e (0, 0)) := by
  rcases h.2 with ⟨rfl, _⟩ | ⟨g', cap, cur, rfl, _, hb, _⟩
  · cases hg
  · cases hg; exact ⟨_, hb⟩
theorem HasTape.kept {W W' : World} {t base bb : Nat} {C : Array Value} {T : TypeId} {rv : Value} {recs : List ByteArray} {head : ByteArray} {size : Nat} (h : HasTape W t base C T rv recs head size) (hk : Lib.OthersKept 5 (some bb) W W') (hT : T ≠ 5) (ht : t ≠ bb) (hr : rv.ownBlock ≠ some bb) : HasTape W' t base C T rv recs head size := by
  refine ⟨hk _ _ h.blk (by simpa using ht) (by intro c fz e; simp at e; exact hT e.2.1), h.c0, h.c1, h.c2, ⟨h.own.1, ?_⟩, h.tb⟩
  rcases h.own.2 with h2 | ⟨g, cap, cur, h2, h3, h4, h5⟩
  · exact .inl h2
  · refine .inr ⟨g, cap, cur, h2, h3, hk _ _ h4 ?_ (by intro c fz e; simp at e), h5⟩
    intro e
    apply hr
    rw [h2]
    exact e
theorem strCells_byte (s : ByteArray) : Lib.strCells s = Lib.byteCells s.data.toList := rfl
theorem byteCells_append (a b : List UInt8) : Lib.byteCells (a ++ b) = Lib.byteCells a ++ Lib.byteCells b := by simp [Lib.byteCells]
theorem byteCells_len (a : List UInt8) : (Lib.byteCells a).length = a.length := by simp [Lib.byteCells]
theorem addAll_take (P : TP) (ls : List ByteArray) (i : Nat) (x : ByteArray) (hx : ls[i]? = some x) : P.addAll (ls.take (i + 1)) = (P.addAll (ls.take i)).add x ∧ encAll P (ls.take (i + 1)) = encAll P (ls.take i) ++ encR (P.addAll (ls.take i)).head x := by
  have h : ls.take (i + 1) = ls.take i ++ [x] := by rw [List.take_add_one, hx]; rfl
  rw [h, addAll_append, encAll_append]
  refine ⟨rfl, ?_⟩
  congr 1
  simp only [encAll]
  exact ByteArray.ext (by simp)
theorem putS_le (s : ByteArray) (h : s.size ≤ 65536) : (putS s).size ≤ 10 + s.size := by
  rw [putS, ByteArray.size_append]
  have h1 := vb_len (2 * s.size) (by omega)
  have h2 : (⟨(vb (2 * s.size)).toArray⟩ : ByteArray).size = (vb (2 * s.size)).length := rfl
  omega
theorem encAll_le (l : List ByteArray) : ∀ P, (∀ r ∈ l, r.size ≤ 65536) → (encAll P l).size ≤ 65600 * l.length := by
  induction l with
  | nil => intro P _; exact Nat.zero_le _
  | cons r l ih =>
    intro P h
    have h1 := ih (P.add r) (fun x hx => h x (by simp [hx]))
    have h2 := putS_le r (h r (by simp))
    have h3 := h r (by simp)
    have h4 : (encR P.head r).size = 33 + (putS r).size := by
      rw [encR, ByteArray.size_append, ByteArray.size_append, chainF_size]
      have : (⟨#[1]⟩ : ByteArray).size = 1 := rfl
      omega
    simp only [encAll, ByteArray.size_append, List.length_cons]
    omega
theorem encAll_33 (l : List ByteArray) (P : TP) : (encAll P l).size = 0 ∨ 33 ≤ (encAll P l).size := by
  cases l with
  | nil => exact .inl rfl
  | cons r l =>
    have := encR_pos P.head r
    simp only [encAll, ByteArray.size_append]
    omega
/-- One record more: the tape's part. -/
theorem ALoop.add {w0 wr wA : World} {t bb : Nat} {P : TP} {ls : List ByteArray} {i : Nat} {rv rv' : Value} {C : Array Value} {x : ByteArray} {sz : Nat} (h : ALoop w0 t bb P ls i wr)
    (hT : HasTape wr t (t + 1) C 56 rv (P.addAll (ls.take i)).recs (P.addAll (ls.take i)).head (P.addAll (ls.take i)).size) (hx : ls[i]? = some x)
    (hb : wA.heap[t]? = some (.cells (setTape C rv' (chainF (P.addAll (ls.take i)).head x) sz) 56 (0, 0))) (hsz : sz = (P.addAll (ls.take (i + 1))).size)
    (ho : wA.ownsRow (t + 1) 9 1 rv' ((P.addAll (ls.take i)).recs.length + 1) (((P.addAll (ls.take i)).recs ++ [x]).map Value.string)) (hf : Fr (fun x => x = t ∨ rv.ownBlock = some x) wr wA) :
    HasTape wA t (t + 1) (setTape C rv' (chainF (P.addAll (ls.take i)).head x) sz) 56 rv' (P.addAll (ls.take (i + 1))).recs (P.addAll (ls.take (i + 1))).head (P.addAll (ls.take (i + 1))).size ∧
    Lib.IsBuilderF 67 5 bb bb (Lib.byteCells (encAll P (ls.take i)).data.toList) wA ∧ Below w0.heap.size w0 wA ∧ rv'.ownBlock ≠ some bb := by
  obtain ⟨e1, e2⟩ := addAll_take P ls i x hx
  have hbb := h.bld
  have ht := h.ht
  have h0 := h.h0
  have hne : ¬ (rv.ownBlock = some bb) := by
    intro e
    obtain ⟨c1, g1⟩ := own_blk hT.own e
    obtain ⟨c2, g2⟩ := bld_blk hbb
    rw [g1] at g2
    simp at g2
  have hbA := bld_fr hbb hf (by rintro (h | h); · omega
                                · exact hne h) (by
    rintro g cs fz hg (h | h)
    · subst h
      rw [hT.blk] at hg
      simp at hg
    · obtain ⟨c1, g1⟩ := own_blk hT.own h
      rw [g1] at hg
      simp at hg)
  refine ⟨⟨hb, setTape_0 _ _ _ _ hT.big, ?_, ?_, ?_, by omega⟩, hbA, below_fr h.fr hf ?_, ?_⟩
  · rw [e1]; exact setTape_1 _ _ _ _ hT.big
  · rw [← hsz]; exact setTape_2 _ _ _ _ hT.big
  · rw [e1]
    show wA.ownsRow (t + 1) 9 1 rv' ((P.addAll (ls.take i)).recs ++ [x]).length (List.map Value.string ((P.addAll (ls.take i)).recs ++ [x]))
    rw [List.length_append]
    exact ho
  · rintro r (h | h)
    · omega
    · have := own_ge hT.own _ h
      omega
  · intro e
    obtain ⟨c1, g1⟩ := own_blk ho e
    obtain ⟨c2, g2⟩ := bld_blk hbA
    rw [g1] at g2
    simp at g2
/-- One record more: the whole. -/
theorem ALoop.next {w0 wr wA wB : World} {t bb : Nat} {P : TP} {ls : List ByteArray} {i : Nat} {rv' : Value} {C : Array Value} {x : ByteArray} (h : ALoop w0 t bb P ls i wr) (hR0 : HasRound w0) (hx : ls[i]? = some x)
    (hT : HasTape wA t (t + 1) C 56 rv' (P.addAll (ls.take (i + 1))).recs (P.addAll (ls.take (i + 1))).head (P.addAll (ls.take (i + 1))).size) (hBA : Below w0.heap.size w0 wA) (hne : rv'.ownBlock ≠ some bb)
    (hb : Lib.BuilderAtF 67 5 bb bb (.pointer (some ⟨bb, 0, none⟩)) (Lib.byteCells (encAll P (ls.take i)).data.toList ++ Lib.strCells (encR (P.addAll (ls.take i)).head x)) wB) (hB : Below bb wA wB) (hk : Lib.OthersKept 5 (some bb) wA wB) :
    ALoop w0 t bb P ls (i + 1) wB := by
  obtain ⟨e1, e2⟩ := addAll_take P ls i x hx
  have ht := h.ht
  have h0 := h.h0
  have hBB : Below w0.heap.size w0 wB := hBA.trans (hB.mono (by omega))
  refine ⟨⟨rv', C, hT.kept hk (by decide) (by omega) hne⟩, .inr ?_, round_below hR0 hBB (round_size hR0), hBB, ht, h0, ?_⟩
  · rw [e2, ByteArray.data_append, Array.toList_append, byteCells_append, ← strCells_byte]
    exact hb
  · rw [e1]; exact chainF_size _ _
/-- How things lie behind Append's loop. -/
structure AEnd (w0 : World) (t bb : Nat) (P : TP) (ls : List ByteArray) (W : World) : Prop where
  tape : ∃ rv C, HasTape W t (t + 1) C 56 rv (P.addAll ls).recs (P.addAll ls).head (P.addAll ls).size
  fr : Below w0.heap.size w0 W
  ht : t < bb
  h0 : w0.heap.size ≤ t
  hh : (P.addAll ls).head.size = 32
theorem ALoop.fin {w0 W : World} {t bb k : Nat} {P : TP} {ls : List ByteArray} (h : ALoop w0 t bb P ls k W) (hk : ls.length = k) : AEnd w0 t bb P ls W ∧ Lib.IsBuilderF 67 5 bb bb (Lib.byteCells (encAll P ls).data.toList) W := by
  have e : ls.take k = ls := by rw [← hk, List.take_length]
  have h1 := h.tape
  have h2 := h.bld
  have h3 := h.hh
  rw [e] at h1 h2 h3
  exact ⟨⟨h1, h.fr, h.ht, h.h0, h3⟩, h2⟩
theorem AEnd.next {w0 W W' : World} {t bb : Nat} {P : TP} {ls : List ByteArray} {bs : List Value} (h : AEnd w0 t bb P ls W) (hb : Lib.IsBuilderF 67 5 bb bb bs W) (hB : Below bb W W') (hk : Lib.OthersKept 5 (some bb) W W') : AEnd w0 t bb P ls W' := by
  obtain ⟨rv, C, hT⟩ := h.tape
  have ht := h.ht
  have h0 := h.h0
  refine ⟨⟨rv, C, hT.kept hk (by decide) (by omega) ?_⟩, h.fr.trans (hB.mono (by omega)), h.ht, h.h0, h.hh⟩
  intro e
  obtain ⟨c1, g1⟩ := own_blk hT.own e
  obtain ⟨c2, g2⟩ := bld_blk hb
  rw [g1] at g2
  simp at g2
end Go.Proofs.YtpcmidhhbgjcjaaDoor
