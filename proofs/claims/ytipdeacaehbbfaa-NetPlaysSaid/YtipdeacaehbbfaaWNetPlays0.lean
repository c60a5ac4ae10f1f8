/-
  NetPlays: no calls; too many.
-/
import Derived.Test.YtipdeacaehbbfaaWNetPlays
import Derived.Test.YtipdeacaehbbfaaOpenNet
namespace Go.Proofs.Ytipdeacaehbbfaa.netPlays
open Go.RowKit

set_option maxRecDepth 100000 in
theorem out (zero : Bool) (len cap : Nat) (S : Option Addr) (w : World) (h : (120 : Int) < len) :
    Calls Try.prog 3 #[.bool zero, .slice S len cap] w fun e w' => e = .returned (.bool true) ∧ Below w.heap.size w w' := by
  go_enter Try.func3, Try.ntmps3
  go_wp2_with fail
  refine (alive_true _).mono ?_
  rintro e w2 ⟨rfl, hc⟩
  go_wp2_with fail
  go_ret
  exact ⟨rfl, hc.below (Nat.le_refl _) (fun _ t => t.elim)⟩

set_option maxHeartbeats 4000000 in
set_option maxRecDepth 100000 in
theorem main0 (zero : Bool) (cap : Nat) (S : Option Addr) (w : World) :
    Calls Try.prog 3 #[.bool zero, .slice S 0 cap] w fun e w' => e = .returned (.bool true) ∧ Below w.heap.size w w' := by
  go_enter Try.func3, Try.ntmps3
  go_wp2_with fail
  refine (net_new _).mono ?_
  rintro e w1 ⟨rfl, hw1⟩
  have hc1 := (Chg.refl No w).alloc (.cells (netCells none none) 34)
  rw [hw1] at hc1
  have hs1 : w1.heap.size = w.heap.size + 1 := by rw [← hw1]; simp
  clear hw1
  have hR2 := ref_made w1 w.heap.size (by omega)
  have hc2 := (Chg.refl No w1).alloc (.cells #[.slice none 0 0, .slice none 0 0] 30)
  have hbel2 := (hc1.trans hc2 (fun _ _ t => t)).below (B := w.heap.size) (Nat.le_refl _) (fun _ t => t.elim)
  go_upto_if 30 with fail
  rw [hs1] at hR2
  obtain ⟨w2, hw2⟩ : ∃ w2, w2 = w1.alloc (.cells #[.slice none 0 0, .slice none 0 0] 30) := ⟨_, rfl⟩
  rw [← hw2] at hR2 hbel2 ⊢
  have hs2 : w2.heap.size = w.heap.size + 2 := by rw [hw2]; simp; omega
  clear hw2 hc1 hc2
  obtain ⟨r, hr⟩ : ∃ r, r = w.heap.size + 1 := ⟨_, rfl⟩
  rw [← hr] at hR2 ⊢
  go_cut [5] (fun s5 wx => ∃ q : Nat, s5 = .pointer (some ⟨q, 0, none⟩) ∧ RefAt wx w.heap.size r none 0 [] none 0 [] ∧ Below w.heap.size w wx)
  case first =>
    cases zero with
    | true =>
      go_wp2
      go_meet
      case rel =>
        have hc3 := (Chg.refl No w2).alloc (.cells (netCells none none) 34)
        exact ⟨w2.heap.size, by rw [hs2], hR2.quiet hc3, hbel2.trans (hc3.below (by omega) (fun _ t => t.elim))⟩
    | false =>
      go_wp2
      go_meet
      case rel => exact ⟨w.heap.size, rfl, hR2, hbel2⟩
  case rest =>
    clear hR2 hbel2 hs2
    obtain ⟨q, rfl, hR, hbel⟩ := hcut
    have k0 : wc.cell? ⟨r, 0, none⟩ = some (.slice none 0 0) := hR.k0
    clear hr
    go_wp2_with fail
    refine wp_loop_rounds 1 ?_
    rw [rounds_succ]
    go_wp2_with fail
    refine wp_loop_rounds 1 ?_
    rw [rounds_succ]
    go_wp2_with fail
    refine (alive_true _).mono ?_
    rintro e w2 ⟨rfl, hc2⟩
    go_wp2_with fail
    go_ret
    exact ⟨rfl, hbel.trans (hc2.below hbel.size (fun _ t => t.elim))⟩
end Go.Proofs.Ytipdeacaehbbfaa.netPlays
