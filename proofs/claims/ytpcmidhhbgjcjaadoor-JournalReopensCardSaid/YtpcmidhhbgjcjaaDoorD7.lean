/- digest.Chain. -/
import Derived.Test.YtpcmidhhbgjcjaaDoorD6
import Derived.Test.YtpcmidhhbgjcjaaDoorShelf
import Derived.Deep.RegionWith
namespace Go.Proofs.YtpcmidhhbgjcjaaDoor
open Go Go.RowKit Go.Shelf
attribute [local go_sem] Oper.semAt_some

/-- digest.Chain. -/
def chainF (h r : ByteArray) : ByteArray := sumF (⟨#[2]⟩ ++ (h ++ r))
theorem chainF_size (h r : ByteArray) : (chainF h r).size = 32 := sumF_size _
theorem join_two (h r : ByteArray) : (⟨(Lib.join [h.data.toList, r.data.toList] []).toArray⟩ : ByteArray) = h ++ r := by
  apply ByteArray.ext
  simp [Lib.join]
/-- How things stand between the calls of the region. -/
theorem round_below {w w' : World} (hR : HasRound w) {B : Nat} (h : Below B w w') (hB : 4 < B) : HasRound w' := by
  obtain ⟨t, fr, h1⟩ := hR
  exact ⟨t, fr, (h.block _ hB).trans h1⟩
theorem round_size {w : World} (hR : HasRound w) : 4 < w.heap.size := by
  obtain ⟨t, fr, h1⟩ := hR
  exact blk_lt h1

theorem size_c3 (mk x : ByteArray) (hk : mk.size ≤ 1000) (hs : x.size ≤ 900000000) : (mk ++ x).size ≤ 1000000000 := by
  rw [ByteArray.size_append]
  omega
theorem cat_run {P : Program} (a b : ByteArray) (ha : a.size ≤ 1000) (hb : b.size ≤ 900000000) : ∀ W, (Op.stringOp .add a b).run P W = .ok (.string (a ++ b)) W := fun W => run_string_add_sum W _ _ (by omega)
theorem below_two {w A B : World} (h : Below w.heap.size w A) (k : Below A.heap.size A B) : Below w.heap.size w B := h.trans (k.mono h.size)
theorem Join_c (b c : Nat) (h r : ByteArray) (w : World) (hb : b < w.heap.size) (h0 : w.cell? ⟨b, 0, none⟩ = some (.string h)) (h1 : w.cell? ⟨b, 1, none⟩ = some (.string r)) (hc : 2 ≤ c) (hs : h.size + r.size ≤ 900000000) :
    Calls Tryd.prog 72 #[.slice (some ⟨b, 0, none⟩) 2 c, .string { data := #[] }] w fun e w' => e = .returned (.string (h ++ r)) ∧ Below w.heap.size w w' := by
  have hl : (Lib.join (([h, r] : List ByteArray).map (·.data.toList)) (⟨#[]⟩ : ByteArray).data.toList).length ≤ 140737488355328 := by
    have e1 : h.data.toList.length = h.size := rfl
    have e2 : r.data.toList.length = r.size := rfl
    simp [Lib.join]
    have e3 : h.data.size = h.size := rfl
    have e4 : r.data.size = r.size := rfl
    omega
  have := Tryd.strings_Join b 0 c [h, r] ⟨#[]⟩ w (by
    intro j x hx
    rcases j with _ | _ | j
    · simp at hx; subst hx; simpa using h0
    · simp at hx; subst hx; simpa using h1
    · simp at hx) hb (by simp) hc hl
  refine this.mono ?_
  rintro e w' ⟨rfl, hB⟩
  refine ⟨?_, hB⟩
  have := join_two h r
  simp only [List.map_cons, List.map_nil] at this ⊢
  rw [this]

set_option maxRecDepth 100000 in
set_option maxHeartbeats 1000000 in
theorem marked1_c (b m c : Nat) (mk h r : ByteArray) (hk : mk.size ≤ 1000) (w : World) (tM : TypeId) (hR : HasRound w) (hb : b < w.heap.size) (hm : w.heap[m]? = some (.cells #[.string mk] tM (0, 0)))
    (h0 : w.cell? ⟨b, 0, none⟩ = some (.string h)) (h1 : w.cell? ⟨b, 1, none⟩ = some (.string r)) (hc : 2 ≤ c) (hs : h.size + r.size ≤ 900000000) :
    Calls Tryd.prog 70 #[.slice (some ⟨b, 0, none⟩) 2 c, .pointer (some ⟨m, 0, none⟩)] w fun e w' => e = .returned (.string (sumF (mk ++ (h ++ r)))) ∧ Below w.heap.size w w' := by
  have hJ := Join_c b c h r w.drew hb h0 h1 hc hs
  have hm0 : w.cell? ⟨m, 0, none⟩ = some (.string mk) := blk_cell hm 0
  have HR := Lib.hid hR
  have HM := Lib.hid hm
  have HJ := Lib.hid hJ
  have hs2 : (h ++ r).size ≤ 900000000 := by rw [ByteArray.size_append]; exact hs
  obtain ⟨x, hx⟩ : ∃ x, h ++ r = x := ⟨_, rfl⟩
  rw [hx] at hs2 HJ
  rw [hx]
  have hcat := cat_run (P := Tryd.prog) mk x hk hs2
  clear hR hm hJ hs hx h0 h1
  go_enter Tryd.func70, Tryd.ntmps70
  go_wp2_with (fail)
  go_region_with (first
    | (go_at_call 72; refine HJ.out.mono ?_; rintro e wj ⟨rfl, hBj⟩; have hmj := blk_cell ((hBj.block m (blk_lt HM.out)).trans HM.out) 0; have HBj := Lib.hid hBj; clear hBj)
    | (go_at_call 71; refine (Sum_c (mk ++ x) _ (size_c3 mk x hk hs2) (round_below (w := w.drew) HR.out HBj.out (round_size HR.out))).mono ?_; rintro e ws ⟨rfl, hBs⟩; have HBs := Lib.hid hBs; clear hBs))
  all_goals
    go_wp2
    go_ret
    exact ⟨rfl, below_two (((Below.refl _ w).drew).trans HBj.out) HBs.out⟩

theorem marked_c (mk : ByteArray) (w : World) :
    Calls Tryd.prog 64 #[.string mk] w fun e w' => e = .returned (.func (.func 70) #[] #[.pointer (some ⟨w.heap.size, 0, none⟩)]) ∧ w.alloc (.cells #[.string mk] 9) = w' := by
  have hmf : ∀ (fn : Fn) (first cap : Array Value) (w : World), (Instr.makeFunc fn first cap).run Tryd.prog w = .ok (.func fn first cap) w := fun _ _ _ _ => rfl
  go_enter Tryd.func64, Tryd.ntmps64
  go_wp2
  go_ret
  exact ⟨rfl, rfl⟩

set_option maxHeartbeats 1000000 in
theorem Chain_c (h r : ByteArray) (w : World) (hR : HasRound w) (hs : h.size + r.size ≤ 900000000) :
    Calls Tryd.prog 53 #[.string h, .string r] w fun e w' => e = .returned (.string (chainF h r)) ∧ Below w.heap.size w w' := by
  have HR := Lib.hid hR
  have HS := Lib.hid hs
  clear hR hs
  go_enter Tryd.func53, Tryd.ntmps53
  go_wp2_with (go_at_call 64; refine (marked_c ⟨#[2]⟩ w).mono ?_; rintro e w' ⟨rfl, rfl⟩)
  have hB : Below w.heap.size w ((w.alloc (.cells #[.string ⟨#[2]⟩] 9)).alloc (.cells #[.string h, .string r] 9)) := ((Below.refl _ w).alloc (Nat.le_refl _) _).alloc (by simp) _
  have hb : ((w.alloc (.cells #[.string ⟨#[2]⟩] 9)).alloc (.cells #[.string h, .string r] 9)).heap[w.heap.size + 1]? = some (.cells #[.string h, .string r] 9 (0, 0)) := by
    have := World.alloc_heap_new (w.alloc (.cells #[.string ⟨#[2]⟩] 9)) (.cells #[.string h, .string r] 9)
    rwa [World.size_alloc] at this
  refine (marked1_c (w.heap.size + 1) w.heap.size 2 ⟨#[2]⟩ h r (by decide) _ 9 (round_below HR.out hB (round_size HR.out)) (by simp) ((Below.heap_alloc _ _ _ (by simp)).trans (World.alloc_heap_new _ _)) (blk_cell hb 0) (blk_cell hb 1) (by decide) HS.out).mono ?_
  rintro e w' ⟨rfl, hB'⟩
  have HB := Lib.hid (below_two hB hB')
  clear hB hb hB'
  go_wp2
  go_ret
  exact ⟨rfl, HB.out⟩
end Go.Proofs.YtpcmidhhbgjcjaaDoor
