/-
  The clock's first call.
-/
import Derived.Test.YthbfljlaonjgnaaStep
namespace Go.Proofs.Ythbfljlaonjgnaa
open Go.RowKit

theorem stepBy_nat (b : Int) (h0 : 0 ≤ b) (h8 : b ≤ 8) : stepBy b = b := by unfold stepBy; omega
theorem lastOf_ones (T : Nat) (h : T < 8) : lastOf (List.replicate T 1) 1 = List.replicate (T + 1) 1 := by
  unfold lastOf
  rw [if_neg (by simp; omega), List.replicate_succ']
theorem sum_ones (T : Nat) : (List.replicate T (1 : Int)).sum = T := by
  induction T with
  | zero => rfl
  | succ T ih => rw [List.replicate_succ, List.sum_cons, ih]; omega
theorem bad_ones (T : Nat) : badSum (List.replicate T 1) = false := by
  unfold badSum
  apply decide_eq_false
  rw [sum_ones, List.length_replicate]
  omega

/-- A step, the world told from afar. -/
theorem clock_step_below (w0 w : World) (B q : Nat) (F : Nat → Prop) (now real : Int) (ls : List Int) (br : Bool) (by_ : Int) (h : Clk w B q F now real ls br) (hbel : Below B w0 w) (hB : B ≤ w0.heap.size)
    (h1 : 0 ≤ now) (h2 : now ≤ 100000) (h3 : 0 ≤ real) (h4 : real ≤ 100000) (h5 : ∀ x ∈ ls, 0 ≤ x ∧ x ≤ 8) :
    Calls Try.prog 12 #[.pointer (some ⟨q, 0, none⟩), .int .i64 by_] w fun e w' => e = .returned (.int .i64 (now + stepBy by_)) ∧
      ∃ F', Clk w' B q F' (now + stepBy by_) (real + 1) (lastOf ls (stepBy by_)) (br || badSum (lastOf ls (stepBy by_))) ∧ Below B w0 w' :=
  (clock_step w B q F now real ls br by_ h (Nat.le_trans hB hbel.size) h1 h2 h3 h4 h5).mono fun _ _ ⟨he, F', hk, hc, _⟩ => ⟨he, F', hk, hbel.trans (hc.below (Nat.le_trans hB hbel.size) h.ge)⟩

theorem last_in {ls : List Int} {b : Int} (h : ∀ x ∈ ls, 0 ≤ x ∧ x ≤ 8) (hb : 0 ≤ b ∧ b ≤ 8) : ∀ x ∈ lastOf ls b, 0 ≤ x ∧ x ≤ 8 := by
  intro x hx
  unfold lastOf at hx
  rw [List.mem_append] at hx
  rcases hx with hx | hx
  · split at hx
    · exact h x (List.mem_of_mem_drop hx)
    · exact h x hx
  · simp at hx
    omega

def Warming (w : World) (q k : Nat) (i : Value) (wr : World) : Prop := ∃ (T : Nat) (F : Nat → Prop), i = .int .i64 (T : Int) ∧ T + k = 8 ∧ Clk wr w.heap.size q F T T (List.replicate T 1) false ∧ Below w.heap.size w wr

set_option maxRecDepth 100000 in
theorem alive_true (w : World) : Calls Try.prog 9 #[] w fun e w' => e = .returned (.bool true) ∧ Below w.heap.size w w' := by
  go_enter Try.func9, Try.ntmps9
  go_wp2_with fail
  refine (clock_new _).mono ?_
  rintro e w1 ⟨rfl, hw1⟩
  have hk1 := Clk.made w
  have hb1 := ((Chg.refl No w).alloc (.cells (clockCells 0 0 none false) 31)).below (B := w.heap.size) (Nat.le_refl _) (fun _ t => t.elim)
  rw [hw1] at hk1 hb1
  clear hw1
  obtain ⟨q, hq⟩ : ∃ q, q = w.heap.size := ⟨_, rfl⟩
  rw [← hq]
  have hk2 : Clk w1 w.heap.size q (fun k => k = w.heap.size) 0 0 [] false := by rw [hq]; exact hk1
  clear hk1 hq
  go_wp2_with fail
  go_loopg [2] 8 (fun k i wr => Warming w q k i wr)
  case atStart => exact ⟨0, _, rfl, rfl, hk2, hb1⟩
  case round =>
    obtain ⟨T, F, rfl, hk, hclk, hbel⟩ := hrel
    have Hk := hide hk
    clear hk
    by_cases hT : T < 8
    · have hTi : (T : Int) < 8 := by omega
      go_wp2_with fail
      refine (clock_step_below w _ _ _ _ _ _ _ _ 1 hclk hbel (Nat.le_refl _) (by omega) (by omega) (by omega) (by omega) (fun x hx => by rw [List.mem_replicate] at hx; omega)).mono ?_
      rintro e w3 ⟨rfl, F3, hk3, hb3⟩
      rw [stepBy_nat 1 (by omega) (by omega), lastOf_ones T hT, bad_ones] at hk3
      go_wp2_with fail
      go_roundg (8 - (T + 1))
      case measure => have := Hk.out; omega
      case rel => exact ⟨T + 1, F3, by go_num, by omega, hk3, hb3⟩
    · obtain rfl : T = 8 := by have := Hk.out; omega
      go_wp2_with fail
      refine (clock_kept _ _ _ _ _ _ _ _ hclk).mono ?_
      rintro e w3 ⟨rfl, rfl⟩
      go_wp2_with fail
      refine (clock_step_below w _ _ _ _ _ _ _ _ 4 hclk hbel (Nat.le_refl _) (by omega) (by omega) (by omega) (by omega) (fun x hx => by rw [List.mem_replicate] at hx; omega)).mono ?_
      rintro e w4 ⟨rfl, F4, hk4, hb4⟩
      rw [stepBy_nat 4 (by omega) (by omega), show (false || badSum (lastOf (List.replicate 8 1) 4)) = true from by decide] at hk4
      rw [stepBy_nat 4 (by omega) (by omega)]
      go_wp2_with fail
      refine (clock_kept _ _ _ _ _ _ _ _ hk4).mono ?_
      rintro e w5 ⟨rfl, rfl⟩
      go_wp2_with fail
      refine (clock_real _ _ _ _ _ _ _ _ hk4).mono ?_
      rintro e w5 ⟨rfl, rfl⟩
      go_wp2_with fail
      go_ret
      exact ⟨rfl, hb4⟩
end Go.Proofs.Ythbfljlaonjgnaa
