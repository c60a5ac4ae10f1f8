/-
  The calls of package tick's timer.
-/
import Derived.Test.YthbfljlaonjgnaaClockAlive
namespace Go.Proofs.Ythbfljlaonjgnaa
open Go.RowKit

def timerCells (at_ : Int) (set : Bool) : Array Value := #[.int .i64 at_, .bool set]
def TmrAt (w : World) (t : Nat) (at_ : Int) (set : Bool) : Prop := Blk w t 38 (timerCells at_ set)
def One (t : Nat) : Nat → Prop := fun k => k = t

theorem TmrAt.chg {S : Nat → Prop} {w w' : World} {t : Nat} {at_ : Int} {set : Bool} (h : TmrAt w t at_ set) (hc : Chg S w w') (hn : ¬ S t) : TmrAt w' t at_ set := Blk.chg h hc hn
theorem tmr_cells {w : World} {t : Nat} {at_ : Int} {set : Bool} (h : TmrAt w t at_ set) :
    w.cell? ⟨t, 0, none⟩ = some (.int .i64 at_) ∧ w.cell? ⟨t, 1, none⟩ = some (.bool set) ∧ w.frozen? ⟨t, 0, none⟩ = false ∧ w.frozen? ⟨t, 1, none⟩ = false :=
  ⟨Blk.cell h 0, Blk.cell h 1, Blk.frozen h 0, Blk.frozen h 1⟩

section
variable (w : World) (t : Nat) (at_ : Int) (set : Bool) (n : Int)
theorem timer_set (h : TmrAt w t at_ set) : Calls Try.prog 16 #[.pointer (some ⟨t, 0, none⟩), .int .i64 n] w fun e w' => e = .returned (.tuple #[]) ∧ TmrAt w' t n true ∧ Chg (One t) w w' := by
  obtain ⟨c0, c1, f0, f1⟩ := tmr_cells h
  have g0 : ((w.setCell ⟨t, 0, none⟩ (.int .i64 n))).cell? ⟨t, 1, none⟩ = some (.bool set) := (Blk.store h 0 _).cell 1
  have g1 : ((w.setCell ⟨t, 0, none⟩ (.int .i64 n))).frozen? ⟨t, 1, none⟩ = false := (Blk.store h 0 _).frozen 1
  go_enter Try.func16, Try.ntmps16
  go_wp2
  go_end0
  refine ⟨rfl, (Blk.store (Blk.store h 0 (.int .i64 n)) 1 (.bool true)), ?_⟩
  exact ((Chg.refl (One t) w).setCell (p := ⟨t, 0, none⟩) (fun _ => rfl) _).setCell (p := ⟨t, 1, none⟩) (fun _ => rfl) _

theorem timer_stop (h : TmrAt w t at_ set) : Calls Try.prog 18 #[.pointer (some ⟨t, 0, none⟩)] w fun e w' => e = .returned (.tuple #[]) ∧ TmrAt w' t at_ false ∧ Chg (One t) w w' := by
  obtain ⟨c0, c1, f0, f1⟩ := tmr_cells h
  go_enter Try.func18, Try.ntmps18
  go_wp2
  go_end0
  exact ⟨rfl, Blk.store h 1 (.bool false), (Chg.refl (One t) w).setCell (p := ⟨t, 1, none⟩) (fun _ => rfl) _⟩

/-- Is it time? -/
def dueAt (at_ : Int) (set : Bool) (n : Int) : Bool := set && decide (at_ ≤ n)
theorem timer_due (h : TmrAt w t at_ set) : Calls Try.prog 17 #[.pointer (some ⟨t, 0, none⟩), .int .i64 n] w fun e w' => e = .returned (.bool (dueAt at_ set n)) ∧ TmrAt w' t at_ (set && !dueAt at_ set n) ∧ Chg (One t) w w' := by
  obtain ⟨c0, c1, f0, f1⟩ := tmr_cells h
  cases set with
  | false =>
    go_enter Try.func17, Try.ntmps17
    go_wp2
    go_ret
    exact ⟨rfl, h, Chg.refl _ _⟩
  | true =>
    by_cases hn : at_ ≤ n
    · have e : dueAt at_ true n = true := by unfold dueAt; simp [hn]
      have hn' : ¬ (n < at_) := by omega
      have E := hide e
      clear e
      go_enter Try.func17, Try.ntmps17
      go_wp2
      go_ret
      refine ⟨by rw [E.out]; rfl, ?_, (Chg.refl (One t) w).setCell (p := ⟨t, 1, none⟩) (fun _ => rfl) _⟩
      rw [E.out]
      exact Blk.store h 1 (.bool false)
    · have e : dueAt at_ true n = false := by unfold dueAt; simp [hn]
      have hn' : n < at_ := by omega
      have E := hide e
      clear e
      go_enter Try.func17, Try.ntmps17
      go_wp2
      go_ret
      refine ⟨by rw [E.out]; rfl, ?_, Chg.refl _ _⟩
      rw [E.out]
      exact h

theorem timer_left_unset (h : TmrAt w t at_ false) : Calls Try.prog 19 #[.pointer (some ⟨t, 0, none⟩), .int .i64 n] w fun e w' => e = .returned (.int .i64 (-1)) ∧ w = w' := by
  obtain ⟨c0, c1, f0, f1⟩ := tmr_cells h
  go_enter Try.func19, Try.ntmps19
  go_wp2
  go_ret
  exact ⟨rfl, rfl⟩
theorem timer_left_due (h : TmrAt w t at_ true) (hn : at_ ≤ n) : Calls Try.prog 19 #[.pointer (some ⟨t, 0, none⟩), .int .i64 n] w fun e w' => e = .returned (.int .i64 0) ∧ w = w' := by
  obtain ⟨c0, c1, f0, f1⟩ := tmr_cells h
  go_enter Try.func19, Try.ntmps19
  go_wp2
  go_ret
  exact ⟨rfl, rfl⟩
theorem wrap64_own (n : Int) (h : -9223372036854775808 ≤ n ∧ n ≤ 9223372036854775807) : wrap64 n = n := by unfold wrap64; omega
theorem u64_wrap (x : Int) : IntKind.u64.wrap x = x % 18446744073709551616 := by simp [IntKind.wrap, IntKind.signed, IntKind.bits]
theorem u64_gap (a b : Int) (h0 : 0 ≤ a - b) (h1 : a - b < 18446744073709551616) : IntKind.u64.wrap (IntKind.u64.wrap a - IntKind.u64.wrap b) = a - b := by
  rw [u64_wrap, u64_wrap, u64_wrap]
  omega
theorem timer_left_wait (h : TmrAt w t at_ true) (hn : n < at_) (h1 : -9223372036854775808 ≤ n) (h2 : at_ ≤ 9223372036854775807) : Calls Try.prog 19 #[.pointer (some ⟨t, 0, none⟩), .int .i64 n] w fun e w' => e = .returned (.int .i64 (min (at_ - n) 9223372036854775807)) ∧ w = w' := by
  obtain ⟨c0, c1, f0, f1⟩ := tmr_cells h
  go_enter Try.func19, Try.ntmps19
  go_wp2
  all_goals go_ret
  · rename_i h
    rw [u64_gap _ _ (by omega) (by omega)] at h
    refine ⟨?_, rfl⟩
    have e : min (at_ - n) 9223372036854775807 = 9223372036854775807 := by omega
    rw [e]
    show Ending.returned (Value.int .i64 (wrap64 9223372036854775807)) = _
    rw [wrap64_own _ (by omega)]
  · rename_i h
    have e1 := u64_gap at_ n (by omega) (by omega)
    rw [e1] at h
    refine ⟨?_, rfl⟩
    have e : min (at_ - n) 9223372036854775807 = at_ - n := by omega
    rw [e]
    show Ending.returned (Value.int .i64 (wrap64 (IntKind.u64.wrap (IntKind.u64.wrap at_ - IntKind.u64.wrap n)))) = _
    rw [e1, wrap64_own _ (by omega)]
end

/-! ### Of nil ones -/
theorem nil_set (n : Int) (w : World) : Calls Try.prog 16 #[.pointer none, .int .i64 n] w fun e w' => e = .returned (.tuple #[]) ∧ w = w' := by
  go_enter Try.func16, Try.ntmps16
  go_wp2
  go_end0
  exact ⟨rfl, rfl⟩
theorem nil_stop (w : World) : Calls Try.prog 18 #[.pointer none] w fun e w' => e = .returned (.tuple #[]) ∧ w = w' := by
  go_enter Try.func18, Try.ntmps18
  go_wp2
  go_end0
  exact ⟨rfl, rfl⟩
theorem nil_due (n : Int) (w : World) : Calls Try.prog 17 #[.pointer none, .int .i64 n] w fun e w' => e = .returned (.bool false) ∧ w = w' := by
  go_enter Try.func17, Try.ntmps17
  go_wp2
  go_ret
  exact ⟨rfl, rfl⟩
theorem nil_left (n : Int) (w : World) : Calls Try.prog 19 #[.pointer none, .int .i64 n] w fun e w' => e = .returned (.int .i64 (-1)) ∧ w = w' := by
  go_enter Try.func19, Try.ntmps19
  go_wp2
  go_ret
  exact ⟨rfl, rfl⟩
theorem nil_step (n : Int) (w : World) : Calls Try.prog 12 #[.pointer none, .int .i64 n] w fun e w' => e = .returned (.int .i64 0) ∧ w = w' := by
  go_enter Try.func12, Try.ntmps12
  go_wp2
  go_ret
  exact ⟨rfl, rfl⟩
theorem nil_now (w : World) : Calls Try.prog 14 #[.pointer none] w fun e w' => e = .returned (.int .i64 0) ∧ w = w' := by
  go_enter Try.func14, Try.ntmps14
  go_wp2
  go_ret
  exact ⟨rfl, rfl⟩
theorem nil_real (w : World) : Calls Try.prog 15 #[.pointer none] w fun e w' => e = .returned (.int .i64 0) ∧ w = w' := by
  go_enter Try.func15, Try.ntmps15
  go_wp2
  go_ret
  exact ⟨rfl, rfl⟩
theorem nil_kept (w : World) : Calls Try.prog 11 #[.pointer none] w fun e w' => e = .returned (.bool false) ∧ w = w' := by
  go_enter Try.func11, Try.ntmps11
  go_wp2
  go_ret
  exact ⟨rfl, rfl⟩
end Go.Proofs.Ythbfljlaonjgnaa
