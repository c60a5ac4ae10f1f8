/-
  The walk of RingRound.
-/
import Derived.Test.YtinklonbkhmpdaaRingAlive
import Derived.Deep.LoopGhost
namespace Go.Proofs.Ytinklonbkhmpdaa.ringRound
open Go.RowKit

/-- The cells of the numbers a, a + 1, .., n of them. -/
def vals (a n : Nat) : List Value := (List.range' a n).map fun (i : Nat) => Value.int .i64 (i : Int)

theorem vals_snoc {O I : Nat} (h : O ≤ I) : vals O (I - O) ++ [Value.int .i64 (I : Int)] = vals O (I + 1 - O) := by
  unfold vals
  rw [show I + 1 - O = (I - O) + 1 by omega, List.range'_concat, List.map_append]
  simp
  omega
theorem vals_head {O n : Nat} (h : 0 < n) : (vals O n)[0]? = some (Value.int .i64 (O : Int)) := by
  simp [vals, h]
theorem vals_tail {O n : Nat} : (vals O n).drop 1 = vals (O + 1) (n - 1) := by
  simp [vals, ← List.map_drop]
theorem vals_one (O n : Nat) : ∀ u ∈ vals O n, u.oneCell' = true := by
  intro u hu
  unfold vals at hu
  rw [List.mem_map] at hu
  obtain ⟨i, _, rfl⟩ := hu
  rfl

theorem and15 (z : Int) : ∃ N : Nat, bits .and .i64 z 15 = (N : Int) ∧ (N : Int) ≤ 15 := by
  have h : ((BitVec.ofInt 64 z &&& BitVec.ofInt 64 15).toNat) ≤ 15 := by
    rw [BitVec.toNat_and]
    exact Nat.le_trans Nat.and_le_right (by decide)
  refine ⟨(BitVec.ofInt 64 z &&& BitVec.ofInt 64 15).toNat, ?_, by omega⟩
  show IntKind.i64.wrap ((BitVec.ofInt 64 z &&& BitVec.ofInt 64 15).toNat : Int) = _
  rw [IntKind.wrap_i64]
  omega

def Outer (w : World) (R len k : Nat) (i o j : Value) (wr : World) : Prop :=
  ∃ I O K : Nat, i = .int .i64 (I : Int) ∧ o = .int .i64 (O : Int) ∧ j = .int .i64 (K : Int) ∧ K + k = len ∧ O ≤ I ∧ I ≤ 15 * K ∧
    ∃ A c, riAt wr w.heap.size w.heap.size A (I - O) c (vals O (I - O)) R ∧ Below w.heap.size w wr

/-- The loop that pushes. -/
def Pushing (w : World) (R I0 N O k : Nat) (i t : Value) (wr : World) : Prop :=
  ∃ I T : Nat, i = .int .i64 (I : Int) ∧ t = .int .i64 (T : Int) ∧ T + k = N ∧ O ≤ I ∧ I ≤ I0 + T ∧
    ∃ A c, riAt wr w.heap.size w.heap.size A (I - O) c (vals O (I - O)) R ∧ Below w.heap.size w wr

/-- The loop that pops. -/
def Popping (w : World) (R M I k : Nat) (o t : Value) (wr : World) : Prop :=
  ∃ O T : Nat, o = .int .i64 (O : Int) ∧ t = .int .i64 (T : Int) ∧ T + k = M ∧ O ≤ I ∧
    ∃ A c, riAt wr w.heap.size w.heap.size A (I - O) c (vals O (I - O)) R ∧ Below w.heap.size w wr

set_option maxRecDepth 100000 in
theorem main (R len cap : Nat) (b off : Nat) (w : World) (hR1 : 1 ≤ R) (hR : R ≤ 50) (hl : len ≤ 60) (hb : b < w.heap.size)
    (hc : ∀ i, i < len → ∃ z : Int, w.cell? ⟨b, off + i, none⟩ = some (.int .i64 z)) :
    Calls Try.prog 3 #[.int .i64 (R : Int), .slice (some ⟨b, off, none⟩) len cap] w fun e w' => e = .returned (.bool true) ∧ Below w.heap.size w w' := by
  have eR : roomOf (R : Int) = R := by unfold roomOf; omega
  have h1 : (1 : Int) ≤ R := by omega
  have h2 : (R : Int) ≤ 50 := by omega
  have h3 : (len : Int) ≤ 60 := by omega
  have Hc := hide hc
  clear hc
  go_enter Try.func3, Try.ntmps3
  go_wp2_with fail
  refine (ri_new_any _ _).mono ?_
  rintro e w1 ⟨rfl, hr1, hc1, hs1⟩
  rw [eR] at hr1
  clear eR
  go_wp2_with fail
  go_loopg [6, 7, 8] len (fun k i o j wr => Outer w R len k i o j wr)
  case atStart => exact ⟨0, 0, 0, rfl, rfl, rfl, by omega, by omega, by omega, _, _, hr1, hc1.below (Nat.le_refl _) (fun _ t => t.elim)⟩
  case round =>
    obtain ⟨I, O, K, rfl, rfl, rfl, hk, hO, hI, A, c, hr, hbel⟩ := hrel
    by_cases hlt : K < len
    · obtain ⟨z, hz⟩ := Hc.out K hlt
      have hcell := (hbel.cell (p := ⟨b, off + K, none⟩) hb).trans hz
      have Hk := hide hk
      have Hz := hide hz
      clear hk hz
      obtain ⟨N, hN, hN15⟩ := and15 z
      go_wp2_with fail
      have HN := hide hN
      clear hN hcell
      go_loopg [6, 10] N (fun k i t wr => Pushing w R I N O k i t wr)
      case atStart => exact ⟨I, 0, rfl, rfl, by omega, by omega, by omega, _, _, hr, hbel⟩
      case round =>
        obtain ⟨I1, T, rfl, rfl, hk1, hO1, hI1, A1, c1, hr1, hbel1⟩ := hrel
        by_cases hT : T < N
        · by_cases hf : I1 - O < R
          · go_wp2_with fail
            refine (ri_push_one _ _ _ _ _ _ _ _ hr1 _ rfl hf (by have := hbel1.size; omega)).mono ?_
            rintro e w2 ⟨rfl, A2, c2, hr2, hc2, hf2⟩
            have hbel2 := hbel1.trans (hc2.below (B := w.heap.size) (by have := hbel1.size; omega) (fun k hk => hr1.foot_ge k hk))
            rw [vals_snoc hO1, show I1 - O + 1 = I1 + 1 - O by omega] at hr2
            go_wp2_with fail
            go_roundg (N - (T + 1))
            case measure => omega
            case rel => exact ⟨I1 + 1, T + 1, by go_num, by go_num, by omega, by omega, by omega, _, _, hr2, hbel2⟩
          · go_wp2_with fail
            refine (ri_push_full _ _ _ _ _ _ _ _ hr1 _ (by have := hr1.fits; omega)).mono ?_
            rintro e w2 ⟨rfl, A2, c2, hr2, hc2, hf2⟩
            have hbel2 := hbel1.trans (hc2.below (B := w.heap.size) (by have := hbel1.size; omega) (fun k hk => hr1.foot_ge k hk))
            go_wp2_with fail
            go_roundg (N - (T + 1))
            case measure => omega
            case rel => exact ⟨I1, T + 1, rfl, by go_num, by omega, by omega, by omega, _, _, hr2, hbel2⟩
        · have hcell := (hbel1.cell (p := ⟨b, off + K, none⟩) hb).trans Hz.out
          obtain ⟨M, hM, hM15⟩ := and15 (z / 16)
          go_wp2_with fail
          have HM := hide hM
          clear hM hcell hr hbel
          go_loopg [7, 11] M (fun k o t wr => Popping w R M I1 k o t wr)
          case atStart => exact ⟨O, 0, rfl, rfl, by omega, hO1, _, _, hr1, hbel1⟩
          case round =>
            obtain ⟨O1, T1, rfl, rfl, hk2, hO2, A2, c2, hr2, hbel2⟩ := hrel
            have hcell := (hbel2.cell (p := ⟨b, off + K, none⟩) hb).trans Hz.out
            have hM := HM.out
            by_cases hT1 : T1 < M
            · by_cases he : O1 < I1
              · go_wp2_with fail
                refine (ri_pop_some _ _ _ _ _ _ _ _ hr2 (vals_one _ _) _ (vals_head (by omega)) (by omega) (by have := hbel2.size; omega)).mono ?_
                rintro e w3 ⟨rfl, A3, c3, hr3, hc3, hf3⟩
                have hbel3 := hbel2.trans (hc3.below (B := w.heap.size) (by have := hbel2.size; omega) (fun k hk => hr2.foot_ge k hk))
                rw [vals_tail, show I1 - O1 - 1 = I1 - (O1 + 1) by omega] at hr3
                clear hcell hM
                go_wp2_with fail
                go_roundg (M - (T1 + 1))
                case measure => omega
                case rel => exact ⟨O1 + 1, T1 + 1, by go_num, by go_num, by omega, by omega, _, _, hr3, hbel3⟩
              · obtain rfl : O1 = I1 := by omega
                rw [Nat.sub_self] at hr2
                go_wp2_with fail
                refine (ri_pop_none _ _ _ _ _ _ _ hr2).mono ?_
                rintro e w3 ⟨rfl, A3, c3, hr3, hc3, hf3⟩
                have hbel3 := hbel2.trans (hc3.below (B := w.heap.size) (by have := hbel2.size; omega) (fun k hk => hr2.foot_ge k hk))
                clear hcell hM
                go_wp2_with fail
                go_roundg (M - (T1 + 1))
                case measure => omega
                case rel => exact ⟨O1, T1 + 1, by go_num, by go_num, by omega, by omega, _, _, by rw [Nat.sub_self]; exact hr3, hbel3⟩
            · have hfit := hr2.fits
              go_wp2_with fail
              clear hcell hM
              refine (ri_len_any _ _ _ _ _ _ _ _ hr2).mono ?_
              rintro e w3 ⟨rfl, rfl⟩
              go_wp2_with fail
              refine (ri_len_any _ _ _ _ _ _ _ _ hr2).mono ?_
              rintro e w3 ⟨rfl, rfl⟩
              go_wp2_with fail
              refine (ri_room_any _ _ _ _ _ _ _ _ hr2).mono ?_
              rintro e w3 ⟨rfl, q, rfl⟩
              go_wp2_with fail
              refine (ri_len_any _ _ _ _ _ _ _ _ (hr2.drewN q)).mono ?_
              rintro e w3 ⟨rfl, rfl⟩
              go_wp2_with fail
              go_roundg (len - (K + 1))
              case measure => have := Hk.out; omega
              case rel => exact ⟨I1, O1, K + 1, rfl, rfl, by go_num, by omega, hO2, by omega, _, _, hr2.drewN q, hbel2.trans (((Chg.refl No _).drewN q).below hbel2.size (fun _ t => t.elim))⟩
    · go_wp2_with fail
      refine (alive_true _).mono ?_
      rintro e w2 ⟨rfl, hb2⟩
      go_wp2
      go_ret
      exact ⟨rfl, hbel.trans (hb2.mono hbel.size)⟩
/-- No pushes. -/
theorem main0 (R cap : Nat) (S : Option Addr) (w : World) (hR1 : 1 ≤ R) (hR : R ≤ 50) :
    Calls Try.prog 3 #[.int .i64 (R : Int), .slice S 0 cap] w fun e w' => e = .returned (.bool true) ∧ Below w.heap.size w w' := by
  have h1 : (1 : Int) ≤ R := by omega
  have h2 : (R : Int) ≤ 50 := by omega
  go_enter Try.func3, Try.ntmps3
  go_wp2_with fail
  refine (ri_new_any _ _).mono ?_
  rintro e w1 ⟨rfl, hr1, hc1, hs1⟩
  go_wp2_with fail
  refine wp_loop_rounds 1 ?_
  rw [rounds_succ]
  go_wp2_with fail
  refine (alive_true _).mono ?_
  rintro e w2 ⟨rfl, hb2⟩
  go_wp2
  go_ret
  exact ⟨rfl, (hc1.below (Nat.le_refl _) (fun _ t => t.elim)).trans (hb2.mono hc1.size)⟩

/-- Outside the statement's bounds. -/
theorem out (k : Int) (len cap : Nat) (S : Option Addr) (w : World) (h : k < 1 ∨ (1 ≤ k ∧ 50 < k) ∨ (1 ≤ k ∧ k ≤ 50 ∧ (60 : Int) < len)) :
    Calls Try.prog 3 #[.int .i64 k, .slice S len cap] w fun e w' => e = .returned (.bool true) ∧ Below w.heap.size w w' := by
  rcases h with h | ⟨h0, h⟩ | ⟨h0, h1, h⟩
  all_goals
    go_enter Try.func3, Try.ntmps3
    go_wp2_with (go_at_call 10; refine (alive_true _).mono ?_; rintro e w' ⟨rfl, hb⟩)
    all_goals go_ret
    all_goals exact ⟨rfl, hb⟩

end Go.Proofs.Ytinklonbkhmpdaa.ringRound
