/-
  The walk of NetNone.
-/
import Derived.Test.YtipdeacaehbbfaaNetNil
namespace Go.Proofs.Ytipdeacaehbbfaa.netNone
open Go.RowKit

set_option maxHeartbeats 1000000 in
set_option maxRecDepth 100000 in
theorem main (k : Int) (w : World) : Calls Try.prog 4 #[.int .i64 k] w fun e w' => e = .returned (.bool true) ∧ Below w.heap.size w w' := by
  go_enter Try.func4, Try.ntmps4
  go_wp2_with fail
  refine (nil_take k _).mono ?_
  rintro e w1 ⟨rfl, hc1⟩
  have hc1a := hc1.alloc (.cells #[.int .i64 0, .int .i64 0, .string ⟨#[]⟩] 45)
  clear hc1
  go_wp2_with fail
  refine (nil_peek k _).mono ?_
  rintro e w2 ⟨rfl, hc2⟩
  have hc2a := (hc1a.trans hc2 (fun _ _ t => t)).alloc (.cells #[.int .i64 0, .int .i64 0, .string ⟨#[]⟩] 45)
  clear hc1a hc2
  go_wp2_with fail
  refine (nil_cut 1 2 true _).mono ?_
  rintro e w3 ⟨rfl, rfl⟩
  go_wp2_with fail
  refine (alive_true _).mono ?_
  rintro e w4 ⟨rfl, hc4⟩
  have hc4a := (hc2a.trans hc4 (fun _ _ t => t)).alloc (.cells #[.int .i64 0, .int .i64 0, .string ⟨#[]⟩] 45)
  clear hc2a hc4
  go_wp2_with fail
  refine (nil_send _ _ _ _).mono ?_
  rintro e w5 ⟨rfl, rfl⟩
  go_wp2_with fail
  refine (nil_len _).mono ?_
  rintro e w5 ⟨rfl, rfl⟩
  go_wp2_with fail
  refine (nil_clear _).mono ?_
  rintro e w5 ⟨rfl, rfl⟩
  go_wp2_with fail
  refine (nil_drop k _).mono ?_
  rintro e w6 ⟨rfl, hc6⟩
  have hc6a := hc4a.trans hc6 (fun _ _ t => t)
  clear hc4a hc6
  go_wp2_with fail
  refine (nil_double k _).mono ?_
  rintro e w7 ⟨rfl, hc7⟩
  have hc7a := hc6a.trans hc7 (fun _ _ t => t)
  clear hc6a hc7
  go_wp2_with fail
  refine (nil_swap k 0 _).mono ?_
  rintro e w8 ⟨rfl, hc8⟩
  have hc8a := hc7a.trans hc8 (fun _ _ t => t)
  clear hc7a hc8
  go_wp2_with fail
  go_ret
  exact ⟨rfl, hc8a.below (Nat.le_refl _) (fun _ t => t.elim)⟩
end Go.Proofs.Ytipdeacaehbbfaa.netNone
