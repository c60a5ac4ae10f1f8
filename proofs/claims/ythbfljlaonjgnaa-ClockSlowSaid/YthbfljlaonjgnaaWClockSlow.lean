/-
  The walk of ClockSlow.
-/
import Derived.Test.YthbfljlaonjgnaaHist
import Derived.Test.YthbfljlaonjgnaaTimer
namespace Go.Proofs.Ythbfljlaonjgnaa.clockSlow
open Go.RowKit
set_option linter.unusedSimpArgs false

/-- So many steps have been done; bs: all of them. -/
def Ran (w : World) (B q len k : Nat) (l : List Int) (was i : Value) (wr : World) : Prop :=
  ∃ T F now br, was = .bool (!br) ∧ i = .int .i64 ((T : Nat) : Int) ∧ T + k = len ∧ Clk wr B q F now (T : Int) (last8 ((l.take T).map stepBy)) br ∧ Below B w wr ∧ Hist T now (last8 ((l.take T).map stepBy)) br

/-- The inner sum: J places behind the first. -/
def Adding (bs : List Int) (a n : Nat) (w : World) (k : Nat) (s i : Value) (wr : World) : Prop :=
  ∃ J : Nat, s = .int .i64 ((bs.drop a).take J).sum ∧ i = .int .i64 ((a + J : Nat) : Int) ∧ J + k = n ∧ w = wr

set_option maxHeartbeats 2000000 in
set_option maxRecDepth 100000 in
theorem main (len cap : Nat) (X : Option Addr) (l : List Int) (at_ : Int) (w : World) (hl : len ≤ 100) (hll : l.length = len) (hX : 0 < len → ∃ b off, X = some ⟨b, off, none⟩ ∧ b < w.heap.size ∧ ∀ i z, l[i]? = some z → w.cell? ⟨b, off + i, none⟩ = some (.int .i64 z)) :
    Calls Try.prog 6 #[.slice X len cap, .int .i64 at_] w fun e w' => e = .returned (.bool true) ∧ Below w.heap.size w w' := by
  have h1 : (len : Int) ≤ 100 := by omega
  have HX := hide hX
  have Hl := hide hll
  clear hX hll
  go_enter Try.func6, Try.ntmps6
  go_wp2_with fail
  refine (clock_new _).mono ?_
  rintro e w1 ⟨rfl, hw1⟩
  have hk1 := Clk.made w
  have hb1 := ((Chg.refl No w).alloc (.cells (clockCells 0 0 none false) 31)).below (B := w.heap.size) (Nat.le_refl _) (fun _ t => t.elim)
  rw [hw1] at hk1 hb1
  clear hw1
  go_wp2_with fail
  go_loopg [6, 7] len (fun k s i wr => Ran w w.heap.size w.heap.size len k l s i wr)
  case atStart => exact ⟨0, _, 0, false, rfl, rfl, by omega, by simpa [last8] using hk1, hb1, by simpa [last8] using Hist.start⟩
  case round =>
    obtain ⟨T, F, now, br, rfl, rfl, hk, hclk, hbel, hh⟩ := hrel
    have Hk := hide hk
    clear hk
    by_cases hT : T < len
    · obtain ⟨b, off, rfl, hb, hc⟩ := HX.out (by omega)
      have Hc := hide hc
      clear hc
      obtain ⟨z, hz⟩ : ∃ z, l[T]? = some z := ⟨_, List.getElem?_eq_getElem (by rw [Hl.out]; exact hT)⟩
      have hz' := (hbel.cell (p := ⟨b, off + T, none⟩) hb).trans (Hc.out T z hz)
      have hTi : (T : Int) < len := by omega
      obtain ⟨hr0, hr1⟩ := hh.range
      go_wp2_with fail
      refine (clock_step_below w _ _ _ _ _ _ _ _ z hclk hbel (Nat.le_refl _) hr0 (by omega) (by omega) (by omega) hh.in_).mono ?_
      rintro e w3 ⟨rfl, F3, hk3, hb3⟩
      have hh3 := hh.step (stepBy_le z)
      have hbs : (l.take (T + 1)).map stepBy = (l.take T).map stepBy ++ [stepBy z] := by rw [List.take_add_one, hz]; simp
      rw [last8_snoc, ← hbs] at hh3 hk3
      clear hclk hbel hh hz' hr0 hr1
      go_upto_region 12 with fail
      obtain ⟨a, ha⟩ : ∃ a : Nat, a = T + 1 - 8 := ⟨_, rfl⟩
      go_cut [9] (fun v wx => v = .int .i64 (a : Int) ∧ wx = w3)
      case first =>
        go_wp2_with fail
        all_goals go_meet
        all_goals case rel => exact ⟨by congr 1; omega, rfl⟩
      case rest =>
        obtain ⟨rfl, hwx⟩ := hcut
        rw [hwx]
        clear hwx
        have Ha := hide ha
        have haT : (a : Int) ≤ T := by omega
        obtain ⟨bs, hbsd⟩ : ∃ bs, bs = (l.take (T + 1)).map stepBy := ⟨_, rfl⟩
        rw [← hbsd] at hh3 hk3
        have hbl : bs.length = T + 1 := by rw [hbsd, List.length_map, List.length_take, Hl.out]; omega
        have hbi : ∀ x ∈ bs, 0 ≤ x ∧ x ≤ 8 := by
          intro x hx
          rw [hbsd, List.mem_map] at hx
          obtain ⟨y, _, rfl⟩ := hx
          exact stepBy_le y
        have Hbs := hide hbsd
        have Hbl := hide hbl
        have Hbi := hide hbi
        clear hbsd hbl hbi ha hbs hz
        go_wp2_with fail
        go_loopg [8, 9] (T + 1 - a) (fun k s i wr => Adding bs a (T + 1 - a) w3 k s i wr)
        case atStart => exact ⟨0, by simp, by simp, by omega, rfl⟩
        case round =>
          obtain ⟨J, rfl, rfl, hk2, rfl⟩ := hrel
          have Hk2 := hide hk2
          obtain ⟨S, hS⟩ : ∃ S, S = ((bs.drop a).take J).sum := ⟨_, rfl⟩
          have hSb := sum_bound ((bs.drop a).take J) (fun y hy => Hbi.out y (List.mem_of_mem_drop (List.mem_of_mem_take hy)))
          have hSl : ((bs.drop a).take J).length ≤ J := by simp; omega
          rw [← hS] at hSb ⊢
          obtain ⟨hs0, hs1⟩ := hSb
          have hs2 : S ≤ 1000 := by omega
          have HS := hide hS
          clear hS hs1 hSl hk2
          by_cases hJ : J < T + 1 - a
          · have hJi : (a : Int) + J ≤ T := by omega
            have hJi2 : ((a + J : Nat) : Int) < len := by omega
            obtain ⟨x, hx⟩ : ∃ x, l[a + J]? = some x := ⟨_, List.getElem?_eq_getElem (by rw [Hl.out]; omega)⟩
            have hxc := (hb3.cell (p := ⟨b, off + (a + J), none⟩) hb).trans (Hc.out _ x hx)
            have hxb : (bs.drop a)[J]? = some (stepBy x) := by
              rw [List.getElem?_drop, Hbs.out, List.getElem?_map, List.getElem?_take_of_lt (by omega), hx]
              rfl
            have Hx := hide hxb
            clear hx hxb
            rcases (show x < 0 ∨ (0 ≤ x ∧ x ≤ 8) ∨ 8 < x by omega) with hx | ⟨hx, hx'⟩ | hx
            all_goals
              go_wp2_with fail
              go_roundg (T + 1 - a - (J + 1))
              case measure => have := Hk2.out; omega
              case rel => exact ⟨J + 1, by rw [sum_take _ _ _ Hx.out, ← HS.out]; unfold stepBy; congr 1; omega, by go_num, by omega, rfl⟩
          · have hJe : J = T + 1 - a := by have := Hk2.out; omega
            have hSe : S = (last8 bs).sum := by
              rw [HS.out, List.take_of_length_le (by rw [List.length_drop, Hbl.out]; omega)]
              unfold last8
              rw [Hbl.out, ← Ha.out]
            have hbd : badSum (last8 bs) = decide (7 ≤ T ∧ (S < 7 ∨ 9 < S)) := by
              unfold badSum
              rw [← hSe, last8_length, Hbl.out]
              congr 1
              apply propext
              constructor <;> intro h <;> omega
            have hJi : ¬ (((a + J : Nat) : Int) ≤ T) := by omega
            have Hbd := hide hbd
            clear hSe hbd hJe hJ Hk2
            rcases (show T < 7 ∨ (7 ≤ T ∧ S < 7) ∨ (7 ≤ T ∧ 9 < S) ∨ (7 ≤ T ∧ 7 ≤ S ∧ S ≤ 9) by omega) with c1 | ⟨c1, c2⟩ | ⟨c1, c2⟩ | ⟨c1, c2, c3⟩
            · have cT : (T : Int) < 7 := by omega
              rw [Hbd.out, decide_eq_false (by omega)] at hk3 hh3
              cases br
              all_goals
                simp only [Bool.or_false, Bool.false_or, Bool.true_or, Bool.or_true] at hk3 hh3
                go_wp2_with fail
                refine (clock_kept _ _ _ _ _ _ _ _ hk3).mono ?_
                rintro e w4 ⟨rfl, rfl⟩
                go_wp2_with fail
                refine (clock_kept _ _ _ _ _ _ _ _ hk3).mono ?_
                rintro e w4 ⟨rfl, rfl⟩
                go_wp2_with fail
                go_roundg (len - (T + 1))
                case measure => have := Hk.out; omega
                case rel => exact ⟨T + 1, F3, _, _, rfl, by go_num, by omega, by rw [← Hbs.out]; simpa using hk3, hb3, by rw [← Hbs.out]; exact hh3⟩
            · have cT : ¬ ((T : Int) < 7) := by omega
              rw [Hbd.out, decide_eq_true (by omega)] at hk3 hh3
              cases br
              all_goals
                simp only [Bool.or_false, Bool.false_or, Bool.true_or, Bool.or_true] at hk3 hh3
                go_wp2_with fail
                refine (clock_kept _ _ _ _ _ _ _ _ hk3).mono ?_
                rintro e w4 ⟨rfl, rfl⟩
                go_wp2_with fail
                refine (clock_kept _ _ _ _ _ _ _ _ hk3).mono ?_
                rintro e w4 ⟨rfl, rfl⟩
                go_wp2_with fail
                go_roundg (len - (T + 1))
                case measure => have := Hk.out; omega
                case rel => exact ⟨T + 1, F3, _, _, rfl, by go_num, by omega, by rw [← Hbs.out]; simpa using hk3, hb3, by rw [← Hbs.out]; exact hh3⟩
            · have cT : ¬ ((T : Int) < 7) := by omega
              have c3 : ¬ (S ≤ 9) := by omega
              have c4 : 7 ≤ S := by omega
              rw [Hbd.out, decide_eq_true (by omega)] at hk3 hh3
              cases br
              all_goals
                simp only [Bool.or_false, Bool.false_or, Bool.true_or, Bool.or_true] at hk3 hh3
                go_wp2_with fail
                refine (clock_kept _ _ _ _ _ _ _ _ hk3).mono ?_
                rintro e w4 ⟨rfl, rfl⟩
                go_wp2_with fail
                refine (clock_kept _ _ _ _ _ _ _ _ hk3).mono ?_
                rintro e w4 ⟨rfl, rfl⟩
                go_wp2_with fail
                go_roundg (len - (T + 1))
                case measure => have := Hk.out; omega
                case rel => exact ⟨T + 1, F3, _, _, rfl, by go_num, by omega, by rw [← Hbs.out]; simpa using hk3, hb3, by rw [← Hbs.out]; exact hh3⟩
            · have cT : ¬ ((T : Int) < 7) := by omega
              rw [Hbd.out, decide_eq_false (by omega)] at hk3 hh3
              cases br
              all_goals
                simp only [Bool.or_false, Bool.false_or, Bool.true_or, Bool.or_true] at hk3 hh3
                go_wp2_with fail
                refine (clock_kept _ _ _ _ _ _ _ _ hk3).mono ?_
                rintro e w4 ⟨rfl, rfl⟩
                go_wp2_with fail
                refine (clock_kept _ _ _ _ _ _ _ _ hk3).mono ?_
                rintro e w4 ⟨rfl, rfl⟩
                go_wp2_with fail
                go_roundg (len - (T + 1))
                case measure => have := Hk.out; omega
                case rel => exact ⟨T + 1, F3, _, _, rfl, by go_num, by omega, by rw [← Hbs.out]; simpa using hk3, hb3, by rw [← Hbs.out]; exact hh3⟩
    · obtain rfl : T = len := by have := Hk.out; omega
      have hm : TmrAt (wr.alloc (.cells (timerCells 0 false) 38)) wr.heap.size 0 false := Blk.new _ _ _
      have hca := (Chg.refl No wr).alloc (.cells (timerCells 0 false) 38)
      have hclk1 := hclk.chg hca (fun _ _ t => t)
      have hbel1 := hbel.trans (hca.below hbel.size (fun _ t => t.elim))
      have hqt : ∀ k, F k → ¬ One wr.heap.size k := fun k hk e => by have := hclk.lt k hk; have : k = wr.heap.size := e; omega
      have d1 : dueAt at_ true at_ = true := by unfold dueAt; simp
      have d2 : dueAt at_ false at_ = false := rfl
      have hone : ∀ k, One wr.heap.size k → w.heap.size ≤ k := fun k e => by have : k = wr.heap.size := e; have := hbel.size; omega
      obtain ⟨tb, htb⟩ : ∃ tb, tb = wr.heap.size := ⟨_, rfl⟩
      rw [← htb] at hm hqt hone
      have Htb := hide htb
      clear htb hca hclk
      go_wp2_with fail
      rw [← Htb.out]
      refine (timer_set _ _ _ _ at_ hm).mono ?_
      rintro e w1 ⟨rfl, h1, hc1⟩
      have hclk2 := hclk1.chg hc1 hqt
      have hbel2 := hbel1.trans (hc1.below hbel1.size hone)
      go_wp2_with fail
      refine (alive_true _).mono ?_
      rintro e w2 ⟨rfl, hb2⟩
      have h2 := h1.chg (Chg.of_below hb2) (by have := Blk.lt h1; omega)
      have hclk3 := hclk2.chg (Chg.of_below hb2) (fun k hk h => by have := hclk2.lt k hk; omega)
      have hbel3 := hbel2.trans (hb2.mono hbel2.size)
      go_wp2_with fail
      refine (timer_due _ _ _ _ at_ h2).mono ?_
      rintro e w3 ⟨rfl, h3, hc3⟩
      have hclk4 := hclk3.chg hc3 hqt
      have hbel4 := hbel3.trans (hc3.below hbel3.size hone)
      simp only [d1, Bool.not_true, Bool.and_false] at h3 ⊢
      go_wp2_with fail
      refine (timer_due _ _ _ _ at_ h3).mono ?_
      rintro e w4 ⟨rfl, h4, hc4⟩
      have hclk5 := hclk4.chg hc4 hqt
      have hbel5 := hbel4.trans (hc4.below hbel4.size hone)
      simp only [d2, Bool.false_and] at h4 ⊢
      go_wp2_with fail
      refine (timer_left_unset _ _ _ at_ h4).mono ?_
      rintro e w5 ⟨rfl, rfl⟩
      go_wp2_with fail
      refine (clock_real _ _ _ _ _ _ _ _ hclk5).mono ?_
      rintro e w6 ⟨rfl, rfl⟩
      go_wp2_with fail
      go_ret
      exact ⟨rfl, hbel5⟩

theorem out (len cap : Nat) (X : Option Addr) (at_ : Int) (w : World) (h : (100 : Int) < len) :
    Calls Try.prog 6 #[.slice X len cap, .int .i64 at_] w fun e w' => e = .returned (.bool true) ∧ Below w.heap.size w w' := by
  go_enter Try.func6, Try.ntmps6
  go_wp2_with fail
  refine (alive_true _).mono ?_
  rintro e w2 ⟨rfl, hb2⟩
  go_wp2_with fail
  go_ret
  exact ⟨rfl, hb2⟩
end Go.Proofs.Ythbfljlaonjgnaa.clockSlow
