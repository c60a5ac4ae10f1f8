/-
  The walk of TimerPlays.
-/
import Derived.Test.YthbfljlaonjgnaaOpenPairs
import Derived.Deep.CutBlock
namespace Go.Proofs.Ythbfljlaonjgnaa.timerPlays
open Go.RowKit

/-- Where the timer and the two variables stand. -/
def Turns (w : World) (t len k : Nat) (set at_ i : Value) (wr : World) : Prop :=
  ∃ (T : Nat) (s : Bool) (a a' : Int), set = .bool s ∧ at_ = .int .i64 a ∧ i = .int .i64 (T : Int) ∧ T + k = len ∧ TmrAt wr t a' s ∧ (s = true → a' = a) ∧ -9223372036854775808 ≤ a ∧ a ≤ 9223372036854775807 ∧ Below t w wr

/-- Behind one call. -/
def Turned (w : World) (t : Nat) (set at_ : Value) (wr : World) : Prop :=
  ∃ (s : Bool) (a a' : Int), set = .bool s ∧ at_ = .int .i64 a ∧ TmrAt wr t a' s ∧ (s = true → a' = a) ∧ -9223372036854775808 ≤ a ∧ a ≤ 9223372036854775807 ∧ Below t w wr

theorem below_one {t : Nat} {w wr w1 : World} (h : Below t w wr) (hc : Chg (One t) wr w1) (ht : t ≤ wr.heap.size) : Below t w w1 := h.trans (hc.below ht (fun k e => by rw [e]; exact Nat.le_refl _))

set_option maxHeartbeats 2000000 in
set_option maxRecDepth 100000 in
theorem main (len cap b off : Nat) (w : World) (hl : len ≤ 100) (hb : b < w.heap.size)
    (hc : ∀ i, i < len → ∃ c n : Int, w.cell? ⟨b, off + i * 2, none⟩ = some (.int .i64 c) ∧ w.cell? ⟨b, off + i * 2 + 1, none⟩ = some (.int .i64 n) ∧ -9223372036854775808 ≤ n ∧ n ≤ 9223372036854775807) :
    Calls Try.prog 7 #[.slice (some ⟨b, off, none⟩) len cap] w fun e w' => e = .returned (.bool true) ∧ Below w.heap.size w w' := by
  have h1 : (len : Int) ≤ 100 := by omega
  have Hc := hide hc
  clear hc
  go_enter Try.func7, Try.ntmps7
  go_wp2_with fail
  go_loopg [4, 5, 6] len (fun k s a i wr => Turns w w.heap.size len k s a i wr)
  case atStart => exact ⟨0, false, 0, 0, rfl, rfl, rfl, by omega, Blk.new _ _ _, by simp, by omega, by omega, ((Chg.refl No w).alloc _).below (Nat.le_refl _) (fun _ t => t.elim)⟩
  case round =>
    obtain ⟨T, s, a, a', rfl, rfl, rfl, hk, htm, hsa, ha1, ha2, hbel⟩ := hrel
    have Hk := hide hk
    clear hk
    have hsz := hbel.size
    by_cases hT : T < len
    · obtain ⟨c, n, hc0, hc1, hn1, hn2⟩ := Hc.out T hT
      have d0 := (hbel.cell (p := ⟨b, off + T * 2, none⟩) hb).trans hc0
      have d1 := (hbel.cell (p := ⟨b, off + T * 2 + 1, none⟩) hb).trans hc1
      have hTi : (T : Int) < len := by omega
      clear hc0 hc1
      go_upto_block 2 with fail
      obtain ⟨v, hv⟩ : ∃ v, v = bits BinOp.and IntKind.i64 c 3 := ⟨_, rfl⟩
      rw [← hv]
      clear hv d0 d1
      go_cut [4, 5, 8] (fun s a s8 wx => Turned w w.heap.size s a wx)
      case first =>
        by_cases v0 : v = 0
        · subst v0
          go_wp2_with fail
          refine (timer_set _ _ _ _ n htm).mono ?_
          rintro e w1 ⟨rfl, h1, hc1⟩
          go_wp2_with fail
          go_meet
          case rel => exact ⟨true, n, n, rfl, rfl, h1, fun _ => rfl, hn1, hn2, below_one hbel hc1 hsz⟩
        · have q0 : (v == 0) = false := by simp [v0]
          by_cases v1 : v = 1
          · subst v1
            cases s with
            | false =>
              go_wp2_with fail
              refine (timer_due _ _ _ _ n htm).mono ?_
              rintro e w1 ⟨rfl, h1, hc1⟩
              have d2 : dueAt a' false n = false := rfl
              rw [d2]
              go_wp2_with fail
              go_meet
              case rel => exact ⟨false, a, a', rfl, rfl, h1, hsa, ha1, ha2, below_one hbel hc1 hsz⟩
            | true =>
              obtain rfl := hsa rfl
              by_cases hn : a' ≤ n
              · have d2 : dueAt a' true n = true := by unfold dueAt; simp [hn]
                have D2 := hide d2
                clear d2
                go_wp2_with fail
                refine (timer_due _ _ _ _ n htm).mono ?_
                rintro e w1 ⟨rfl, h1, hc1⟩
                rw [D2.out] at h1 ⊢
                go_wp2_with fail
                go_meet
                case rel => exact ⟨false, a', a', rfl, rfl, h1, fun _ => rfl, ha1, ha2, below_one hbel hc1 hsz⟩
              · have d2 : dueAt a' true n = false := by unfold dueAt; simp [hn]
                have D2 := hide d2
                clear d2
                have hn' : n < a' := by omega
                go_wp2_with fail
                refine (timer_due _ _ _ _ n htm).mono ?_
                rintro e w1 ⟨rfl, h1, hc1⟩
                rw [D2.out] at h1 ⊢
                go_wp2_with fail
                go_meet
                case rel => exact ⟨true, a', a', rfl, rfl, h1, fun _ => rfl, ha1, ha2, below_one hbel hc1 hsz⟩
          · have q1 : (v == 1) = false := by simp [v1]
            by_cases v2 : v = 2
            · subst v2
              go_wp2_with fail
              refine (timer_stop _ _ _ _ htm).mono ?_
              rintro e w1 ⟨rfl, h1, hc1⟩
              go_wp2_with fail
              go_meet
              case rel => exact ⟨false, a, a', rfl, rfl, h1, fun e => by simp at e, ha1, ha2, below_one hbel hc1 hsz⟩
            · have q2 : (v == 2) = false := by simp [v2]
              clear v0 v1 v2
              go_wp2_with fail
              go_meet
              case rel => exact ⟨s, a, a', rfl, rfl, htm, hsa, ha1, ha2, hbel⟩
      case rest =>
        clear htm hsa ha1 ha2 hbel hsz
        obtain ⟨s1, a1, a1', rfl, rfl, htm, hsa, ha1, ha2, hbel⟩ := hcut
        cases s1 with
        | false =>
          go_wp2_with fail
          refine (timer_left_unset _ _ _ n htm).mono ?_
          rintro e w1 ⟨rfl, rfl⟩
          go_wp2_with fail
          go_roundg (len - (T + 1))
          case measure => have := Hk.out; omega
          case rel => exact ⟨T + 1, false, a1, a1', rfl, rfl, by go_num, by omega, htm, fun e => by simp at e, ha1, ha2, hbel⟩
        | true =>
          obtain rfl := hsa rfl
          by_cases hn : a1' ≤ n
          · go_wp2_with fail
            refine (timer_left_due _ _ _ n htm hn).mono ?_
            rintro e w1 ⟨rfl, rfl⟩
            go_wp2_with fail
            go_roundg (len - (T + 1))
            case measure => have := Hk.out; omega
            case rel => exact ⟨T + 1, true, a1', a1', rfl, rfl, by go_num, by omega, htm, fun _ => rfl, ha1, ha2, hbel⟩
          · have hn' : n < a1' := by omega
            by_cases hg : a1' - n ≤ 9223372036854775807
            · have e1 : min (a1' - n) 9223372036854775807 = a1' - n := by omega
              have E1 := hide e1
              have hg0 : 0 < a1' - n := by omega
              have hg1 : ¬ (a1' - n < 0) := by omega
              have hw : wrap64 (a1' - n) = a1' - n := wrap64_own _ (by omega)
              clear e1 hn
              go_wp2_with fail
              refine (timer_left_wait _ _ _ n htm hn' hn1 ha2).mono ?_
              rintro e w1 ⟨rfl, rfl⟩
              rw [E1.out]
              go_wp2_with fail
              go_roundg (len - (T + 1))
              case measure => have := Hk.out; omega
              case rel => exact ⟨T + 1, true, a1', a1', rfl, rfl, by go_num, by omega, htm, fun _ => rfl, ha1, ha2, hbel⟩
            · have e1 : min (a1' - n) 9223372036854775807 = 9223372036854775807 := by omega
              have E1 := hide e1
              obtain ⟨m, hm⟩ : ∃ m, m = wrap64 (a1' - n) := ⟨_, rfl⟩
              have hm0 : m < 0 := by rw [hm]; unfold wrap64; omega
              have hw : wrap64 (a1' - n) = m := hm.symm
              clear e1 hn hm hg
              go_wp2_with fail
              refine (timer_left_wait _ _ _ n htm hn' hn1 ha2).mono ?_
              rintro e w1 ⟨rfl, rfl⟩
              rw [E1.out]
              go_wp2_with fail
              go_roundg (len - (T + 1))
              case measure => have := Hk.out; omega
              case rel => exact ⟨T + 1, true, a1', a1', rfl, rfl, by go_num, by omega, htm, fun _ => rfl, ha1, ha2, hbel⟩
    · obtain rfl : T = len := by have := Hk.out; omega
      go_wp2_with fail
      refine (alive_true _).mono ?_
      rintro e w2 ⟨rfl, hb2⟩
      go_wp2_with fail
      go_ret
      exact ⟨rfl, hbel.trans (hb2.mono hbel.size)⟩
theorem main0 (cap : Nat) (X : Option Addr) (w : World) :
    Calls Try.prog 7 #[.slice X 0 cap] w fun e w' => e = .returned (.bool true) ∧ Below w.heap.size w w' := by
  have hb1 := ((Chg.refl No w).alloc (.cells (timerCells 0 false) 38)).below (B := w.heap.size) (Nat.le_refl _) (fun _ t => t.elim)
  go_enter Try.func7, Try.ntmps7
  go_wp2_with fail
  refine wp_loop_rounds 1 ?_
  rw [rounds_succ]
  go_wp2_with fail
  refine (alive_true _).mono ?_
  rintro e w2 ⟨rfl, hb2⟩
  go_wp2_with fail
  go_ret
  exact ⟨rfl, hb1.trans (hb2.mono hb1.size)⟩
theorem out (len cap : Nat) (X : Option Addr) (w : World) (h : (100 : Int) < len) :
    Calls Try.prog 7 #[.slice X len cap] w fun e w' => e = .returned (.bool true) ∧ Below w.heap.size w w' := by
  go_enter Try.func7, Try.ntmps7
  go_wp2_with fail
  refine (alive_true _).mono ?_
  rintro e w2 ⟨rfl, hb2⟩
  go_wp2_with fail
  go_ret
  exact ⟨rfl, hb2⟩
end Go.Proofs.Ythbfljlaonjgnaa.timerPlays
