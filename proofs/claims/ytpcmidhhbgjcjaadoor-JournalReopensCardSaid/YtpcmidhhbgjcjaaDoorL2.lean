/- The law's helpers: same, content. -/
import Derived.Test.YtpcmidhhbgjcjaaDoorL1
namespace Go.Proofs.YtpcmidhhbgjcjaaDoor
open Go Go.RowKit

theorem take_same {a c : List ByteArray} {k : Nat} {x : ByteArray} (h : a.take k = c.take k) (hx : a[k]? = some x) (hy : c[k]? = some x) : a.take (k + 1) = c.take (k + 1) := by
  rw [List.take_add_one, List.take_add_one, h, hx, hy]
set_option maxRecDepth 100000 in
set_option maxHeartbeats 1000000 in
theorem same_c (va vc : Value) (a c : List ByteArray) (w : World) (ha : Row w va a) (hc : Row w vc c) (hl : a.length ≤ 1000000) :
    Calls Tryd.prog 16 #[va, vc] w fun e w' => e = .returned (.bool (decide (a = c))) ∧ ∃ m, w' = w.drewN m := by
  obtain ⟨pa, ca, rfl, hra⟩ := ha.slice
  obtain ⟨pc, cc, rfl, hrc⟩ := hc.slice
  by_cases hn : a.length = c.length
  · obtain ⟨n, hna⟩ : ∃ n, a.length = n := ⟨_, rfl⟩
    have hnc : c.length = n := by omega
    rw [hna, hnc]
    rw [hna] at hl
    have HA := Lib.hid hra
    have HC := Lib.hid hrc
    have HNA := Lib.hid hna
    have HNC := Lib.hid hnc
    clear ha hc hra hrc hna hnc hn
    go_enter Tryd.func16, Tryd.ntmps16
    go_wp2
    go_loopw [5] (fun i wr => ∃ k : Nat, k ≤ n ∧ i = .int .i64 k ∧ (∃ m, wr = w.drewN m) ∧ a.take k = c.take k) (fun i _ => n - (intOf i).toNat)
    case atStart => exact ⟨0, by omega, rfl, ⟨0, rfl⟩, rfl⟩
    case round =>
      obtain ⟨k, hk, rfl, ⟨m, rfl⟩, hT⟩ := hrel
      have HT := Lib.hid hT
      clear hT
      by_cases hlt : k < n
      · have hlt' : (k : Int) < (n : Int) := by omega
        obtain ⟨x, hx⟩ : ∃ x, a[k]? = some x := ⟨_, List.getElem?_eq_getElem (by have := HNA.out; omega)⟩
        obtain ⟨y, hy⟩ : ∃ y, c[k]? = some y := ⟨_, List.getElem?_eq_getElem (by have := HNC.out; omega)⟩
        obtain ⟨ga, rfl, hga, hcx⟩ := HA.out k x hx
        obtain ⟨gc, rfl, hgc, hcy⟩ := HC.out k y hy
        have hcx' : (w.drewN m).cell? ⟨ga, k, none⟩ = some (.string x) := hcx
        have hcy' : (w.drewN m).cell? ⟨gc, k, none⟩ = some (.string y) := hcy
        have HX := Lib.hid hx
        have HY := Lib.hid hy
        have hk0 : (0 : Int) ≤ (k : Int) := by omega
        obtain ⟨W, hW⟩ : ∃ W, w.drewN m = W := ⟨_, rfl⟩
        have HW := Lib.hid hW
        rw [hW] at hcx' hcy' ⊢
        clear hx hy hcx hcy hW
        by_cases hxy : x = y
        · subst hxy
          go_wp2
          go_quiet (fail)
          go_wp2
          refine ⟨⟨k + 1, by omega, by simp, ⟨m + nq, ?_⟩, take_same HT.out HX.out HY.out⟩, by simp [intOf]; omega⟩
          rw [← HW.out]
          simp [World.drewN, Nat.add_assoc]
        · have hd : (x.toList == y.toList) = false := by
            rw [beq_eq_false_iff_ne]
            intro h
            exact hxy (toList_inj h)
          have hd2 : ¬ x.toList = y.toList := fun h => hxy (toList_inj h)
          have hac : decide (a = c) = false := by
            rw [decide_eq_false_iff_not]
            intro h
            have h1 := HX.out
            rw [h, HY.out] at h1
            exact hxy (Option.some.inj h1).symm
          have HAC := Lib.hid hac
          clear hac hxy
          go_wp2
          go_quiet (fail)
          go_wp2
          go_ret
          refine ⟨by rw [HAC.out]; rfl, m + nq, ?_⟩
          rw [← HW.out]
          simp [World.drewN, Nat.add_assoc]
      · have hkn : k = n := by omega
        subst hkn
        have hlt' : ¬ ((k : Int) < (k : Int)) := by omega
        go_wp2
        go_ret
        refine ⟨?_, m, rfl⟩
        have h := HT.out
        rw [← HNA.out, List.take_length, HNA.out, ← HNC.out, List.take_length] at h
        rw [decide_eq_true h]
        rfl
  · have hne : ((a.length : Int) != (c.length : Int)) = true := by simp; omega
    have hac : decide (a = c) = false := by
      rw [decide_eq_false_iff_not]
      intro h
      exact hn (congrArg List.length h)
    rw [hac]
    clear ha hc hra hrc hn hac
    go_enter Tryd.func16, Tryd.ntmps16
    go_wp2
    go_ret
    exact ⟨rfl, 0, rfl⟩
set_option maxRecDepth 100000 in
theorem content_c (b : Nat) (D : DK) (w : World) (h : HasDisk w b D) (ho : D.off = false) :
    Calls Tryd.prog 18 #[.pointer (some ⟨b, 0, none⟩)] w fun e w' => e = .returned (.string D.str) ∧ w = w' := by
  have HSz := Lib.hid (Size_c b D w h)
  have HRd := Lib.hid (Read_c b D w h ho)
  obtain ⟨s, hs⟩ : ∃ s, D.str = s := ⟨_, rfl⟩
  have hs' : (⟨D.vis.toArray⟩ : ByteArray) = s := hs
  rw [hs'] at HRd
  rw [hs]
  obtain ⟨n, hn⟩ : ∃ n, D.n = n := ⟨_, rfl⟩
  rw [hn] at HSz HRd
  clear h ho hs hs' hn
  go_enter Tryd.func18, Tryd.ntmps18
  go_wp2_with (first
    | (go_at_call 21; refine HSz.out.mono ?_; rintro e w' ⟨rfl, rfl⟩)
    | (go_at_call 20; refine HRd.out.mono ?_; rintro e w' ⟨rfl, rfl⟩))
  go_ret
  exact ⟨rfl, rfl⟩
end Go.Proofs.YtpcmidhhbgjcjaaDoor
