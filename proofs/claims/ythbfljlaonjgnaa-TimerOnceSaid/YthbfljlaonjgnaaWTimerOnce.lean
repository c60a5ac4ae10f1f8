/-
  The walk of TimerOnce.
-/
import Derived.Test.YthbfljlaonjgnaaTimer
namespace Go.Proofs.Ythbfljlaonjgnaa.timerOnce
open Go.RowKit

theorem made (w : World) : TmrAt (w.alloc (.cells (timerCells 0 false) 38)) w.heap.size 0 false := Blk.new _ _ _

set_option maxRecDepth 100000 in
theorem main (at_ early late : Int) (w : World) : Calls Try.prog 5 #[.int .i64 at_, .int .i64 early, .int .i64 late] w fun e w' => e = .returned (.bool true) ∧ Below w.heap.size w w' := by
  rcases (show at_ ≤ early ∨ (early < at_ ∧ late < at_) ∨ (early < at_ ∧ at_ ≤ late) by omega) with h | ⟨h, h'⟩ | ⟨h, h'⟩
  · go_enter Try.func5, Try.ntmps5
    go_wp2_with fail
    refine (alive_true _).mono ?_
    rintro e w1 ⟨rfl, hb⟩
    go_wp2_with fail
    go_ret
    exact ⟨rfl, hb⟩
  · go_enter Try.func5, Try.ntmps5
    go_wp2_with fail
    refine (alive_true _).mono ?_
    rintro e w1 ⟨rfl, hb⟩
    go_wp2_with fail
    go_ret
    exact ⟨rfl, hb⟩
  · have d0 : dueAt at_ true early = false := by unfold dueAt; simp; omega
    have d1 : dueAt at_ true late = true := by unfold dueAt; simp; omega
    have d2 : dueAt at_ false late = false := rfl
    have d3 : dueAt at_ true at_ = true := by unfold dueAt; simp
    have hm := made w
    have hc0 := ((Chg.refl (One w.heap.size) w).alloc (.cells (timerCells 0 false) 38))
    go_enter Try.func5, Try.ntmps5
    go_wp2_with fail
    refine (timer_set _ _ _ _ at_ hm).mono ?_
    rintro e w1 ⟨rfl, h1, hc1⟩
    have hc1 := hc0.trans hc1 (fun _ _ t => t)
    go_wp2_with fail
    refine (timer_due _ _ _ _ early h1).mono ?_
    rintro e w2 ⟨rfl, h2, hc2⟩
    rw [d0] at h2 ⊢
    have hc2 := hc1.trans hc2 (fun _ _ t => t)
    go_wp2_with fail
    refine (timer_due _ _ _ _ late h2).mono ?_
    rintro e w3 ⟨rfl, h3, hc3⟩
    simp only [Bool.not_false, Bool.and_true, d1, Bool.not_true, Bool.and_false] at h3 ⊢
    have hc3 := hc2.trans hc3 (fun _ _ t => t)
    go_wp2_with fail
    refine (timer_due _ _ _ _ late h3).mono ?_
    rintro e w4 ⟨rfl, h4, hc4⟩
    simp only [d2, Bool.false_and] at h4 ⊢
    have hc4 := hc3.trans hc4 (fun _ _ t => t)
    go_wp2_with fail
    refine (timer_set _ _ _ _ at_ h4).mono ?_
    rintro e w5 ⟨rfl, h5, hc5⟩
    have hc5 := hc4.trans hc5 (fun _ _ t => t)
    go_wp2_with fail
    refine (timer_due _ _ _ _ at_ h5).mono ?_
    rintro e w6 ⟨rfl, h6, hc6⟩
    simp only [d3, Bool.not_true, Bool.and_false] at h6 ⊢
    have hc6 := hc5.trans hc6 (fun _ _ t => t)
    go_wp2_with fail
    refine (timer_set _ _ _ _ at_ h6).mono ?_
    rintro e w7 ⟨rfl, h7, hc7⟩
    have hc7 := hc6.trans hc7 (fun _ _ t => t)
    go_wp2_with fail
    refine (timer_stop _ _ _ _ h7).mono ?_
    rintro e w8 ⟨rfl, h8, hc8⟩
    have hc8 := hc7.trans hc8 (fun _ _ t => t)
    clear hc0 hc1 hc2 hc3 hc4 hc5 hc6 hc7 h1 h2 h3 h4 h5 h6 h7 hm
    have hlt := Blk.lt h8
    go_wp2_with fail
    refine (alive_true _).mono ?_
    rintro e w9 ⟨rfl, hb9⟩
    have h9 := h8.chg (Chg.of_below hb9) (by omega)
    have hbel9 := (hc8.below (B := w.heap.size) (Nat.le_refl _) (fun k e => by rw [e]; exact Nat.le_refl _)).trans (hb9.mono hc8.size)
    go_wp2_with fail
    refine (timer_due _ _ _ _ late h9).mono ?_
    rintro e w10 ⟨rfl, h10, hc10⟩
    simp only [d2] at h10 ⊢
    go_wp2_with fail
    go_ret
    exact ⟨rfl, hbel9.trans (hc10.below hbel9.size (fun k e => by rw [e]; exact Nat.le_refl _))⟩
end Go.Proofs.Ythbfljlaonjgnaa.timerOnce
