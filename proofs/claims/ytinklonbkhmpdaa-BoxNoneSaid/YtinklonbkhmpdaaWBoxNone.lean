/-
  The walk of BoxNone.
-/
import Derived.Test.YtinklonbkhmpdaaBox
namespace Go.Proofs.Ytinklonbkhmpdaa.boxNone
open Go.RowKit

theorem main (v : Int) (w : World) : Calls Try.prog 8 #[.int .i64 v] w fun e w' => e = .returned (.bool true) ∧ Below w.heap.size w w' := by
  go_enter Try.func8, Try.ntmps8
  go_wp2_with fail
  refine (nobox_take _).mono ?_
  rintro e w1 ⟨rfl, rfl⟩
  go_wp2_with fail
  refine (boxed_true _).mono ?_
  rintro e w1 ⟨rfl, hc⟩
  go_wp2_with fail
  refine (nobox_send _ _).mono ?_
  rintro e w2 ⟨rfl, rfl⟩
  go_wp2_with fail
  refine (nobox_len _).mono ?_
  rintro e w2 ⟨rfl, rfl⟩
  go_wp2_with fail
  refine (nobox_close _).mono ?_
  rintro e w2 ⟨rfl, rfl⟩
  go_wp2_with fail
  go_ret
  exact ⟨rfl, hc.below (Nat.le_refl _) (fun _ t => t.elim)⟩
end Go.Proofs.Ytinklonbkhmpdaa.boxNone
