/-
  The walk of ClockBound.
-/
import Derived.Test.YthbfljlaonjgnaaHist
namespace Go.Proofs.Ythbfljlaonjgnaa.clockBound
open Go.RowKit

/-- So many steps have been done. -/
def Ran (w : World) (B q len k : Nat) (i : Value) (wr : World) : Prop :=
  ∃ T F now ls br, i = .int .i64 ((T : Nat) : Int) ∧ T + k = len ∧ Clk wr B q F now (T : Int) ls br ∧ Below B w wr ∧ Hist T now ls br

set_option maxRecDepth 100000 in
theorem main (len cap b off : Nat) (w : World) (hl : len ≤ 300) (hb : b < w.heap.size) (hc : ∀ i, i < len → ∃ z : Int, w.cell? ⟨b, off + i, none⟩ = some (.int .i64 z)) :
    Calls Try.prog 4 #[.slice (some ⟨b, off, none⟩) len cap] w fun e w' => e = .returned (.bool true) ∧ Below w.heap.size w w' := by
  have h1 : (len : Int) ≤ 300 := by omega
  have Hc := hide hc
  clear hc
  go_enter Try.func4, Try.ntmps4
  go_wp2_with fail
  refine (clock_new _).mono ?_
  rintro e w1 ⟨rfl, hw1⟩
  have hk1 := Clk.made w
  have hb1 := ((Chg.refl No w).alloc (.cells (clockCells 0 0 none false) 31)).below (B := w.heap.size) (Nat.le_refl _) (fun _ t => t.elim)
  rw [hw1] at hk1 hb1
  clear hw1
  go_wp2_with fail
  go_loopg [4] len (fun k i wr => Ran w w.heap.size w.heap.size len k i wr)
  case atStart => exact ⟨0, _, 0, [], false, rfl, by omega, hk1, hb1, Hist.start⟩
  case round =>
    obtain ⟨T, F, now, ls, br, rfl, hk, hclk, hbel, hh⟩ := hrel
    have Hk := hide hk
    clear hk
    by_cases hT : T < len
    · obtain ⟨z, hz⟩ := Hc.out T hT
      have hz' := (hbel.cell (p := ⟨b, off + T, none⟩) hb).trans hz
      have hTi : (T : Int) < len := by omega
      obtain ⟨hr0, hr1⟩ := hh.range
      clear hz
      go_wp2_with fail
      refine (clock_step_below w _ _ _ _ _ _ _ _ z hclk hbel (Nat.le_refl _) hr0 (by omega) (by omega) (by omega) hh.in_).mono ?_
      rintro e w3 ⟨rfl, F3, hk3, hb3⟩
      have hh3 := hh.step (stepBy_le z)
      obtain ⟨now3, hn3⟩ : ∃ n, n = now + stepBy z := ⟨_, rfl⟩
      obtain ⟨ls3, hl3⟩ : ∃ l, l = lastOf ls (stepBy z) := ⟨_, rfl⟩
      obtain ⟨br3, hbr3⟩ : ∃ l, l = (br || badSum (lastOf ls (stepBy z))) := ⟨_, rfl⟩
      rw [← hbr3] at hh3 hk3
      rw [← hn3, ← hl3] at hh3 hk3
      rw [← hn3]
      clear hn3 hl3 hbr3 hr0 hr1 hh hclk hz'
      obtain ⟨hr0, hr1⟩ := hh3.range
      go_wp2_with fail
      refine (clock_kept _ _ _ _ _ _ _ _ hk3).mono ?_
      rintro e w4 ⟨rfl, rfl⟩
      cases br3 with
      | true =>
        go_wp2_with fail
        go_roundg (len - (T + 1))
        case measure => have := Hk.out; omega
        case rel => exact ⟨T + 1, F3, now3, ls3, true, by go_num, by omega, by simpa using hk3, hb3, hh3⟩
      | false =>
        have hr2 : now3 ≤ 3000 := by omega
        have Hr := hide hr1
        clear hr1
        go_wp2_with fail
        refine (clock_real _ _ _ _ _ _ _ _ hk3).mono ?_
        rintro e w4 ⟨rfl, rfl⟩
        by_cases h8 : 8 ≤ T + 1
        · obtain ⟨g1, g2⟩ := hh3.bound h8
          have h8i : 8 ≤ (T : Int) + 1 := by omega
          have G1 : 7 * ((T : Int) + 1) - 72 ≤ 8 * now3 := by omega
          have G2 : 8 * now3 ≤ 9 * ((T : Int) + 1) + 72 := by omega
          clear g1 g2
          go_wp2_with (first
            | (go_at_call 14; refine (clock_now _ _ _ _ _ _ _ _ hk3).mono ?_; rintro e w' ⟨rfl, rfl⟩)
            | (go_at_call 15; refine (clock_real _ _ _ _ _ _ _ _ hk3).mono ?_; rintro e w' ⟨rfl, rfl⟩))
          go_roundg (len - (T + 1))
          case measure => have := Hk.out; omega
          case rel => exact ⟨T + 1, F3, now3, ls3, false, by go_num, by omega, by simpa using hk3, hb3, hh3⟩
        · have h8i : (T : Int) + 1 < 8 := by omega
          go_wp2_with fail
          go_roundg (len - (T + 1))
          case measure => have := Hk.out; omega
          case rel => exact ⟨T + 1, F3, now3, ls3, false, by go_num, by omega, by simpa using hk3, hb3, hh3⟩
    · obtain rfl : T = len := by have := Hk.out; omega
      go_wp2_with fail
      refine (alive_true _).mono ?_
      rintro e w2 ⟨rfl, hb2⟩
      go_wp2_with fail
      go_ret
      exact ⟨rfl, hbel.trans (hb2.mono hbel.size)⟩

theorem main0 (cap : Nat) (X : Option Addr) (w : World) :
    Calls Try.prog 4 #[.slice X 0 cap] w fun e w' => e = .returned (.bool true) ∧ Below w.heap.size w w' := by
  go_enter Try.func4, Try.ntmps4
  go_wp2_with fail
  refine (clock_new _).mono ?_
  rintro e w1 ⟨rfl, hw1⟩
  have hb1 := ((Chg.refl No w).alloc (.cells (clockCells 0 0 none false) 31)).below (B := w.heap.size) (Nat.le_refl _) (fun _ t => t.elim)
  rw [hw1] at hb1
  clear hw1
  go_wp2_with fail
  refine wp_loop_rounds 1 ?_
  rw [rounds_succ]
  go_wp2_with fail
  refine (alive_true _).mono ?_
  rintro e w2 ⟨rfl, hb2⟩
  go_wp2_with fail
  go_ret
  exact ⟨rfl, hb1.trans (hb2.mono hb1.size)⟩
theorem out (len cap : Nat) (X : Option Addr) (w : World) (h : (300 : Int) < len) :
    Calls Try.prog 4 #[.slice X len cap] w fun e w' => e = .returned (.bool true) ∧ Below w.heap.size w w' := by
  go_enter Try.func4, Try.ntmps4
  go_wp2_with fail
  refine (alive_true _).mono ?_
  rintro e w2 ⟨rfl, hb2⟩
  go_wp2_with fail
  go_ret
  exact ⟨rfl, hb2⟩
end Go.Proofs.Ythbfljlaonjgnaa.clockBound
