/-
  The walk of RingNone.
-/
import Derived.Test.YtinklonbkhmpdaaRingAlive
namespace Go.Proofs.Ytinklonbkhmpdaa.ringNone
open Go.RowKit

theorem main (v k : Int) (w : World) : Calls Try.prog 6 #[.int .i64 v, .int .i64 k] w fun e w' => e = .returned (.bool true) ∧ Below w.heap.size w w' := by
  go_enter Try.func6, Try.ntmps6
  go_wp2_with (first
    | (go_at_call 10; refine (alive_true _).mono ?_; rintro e w1 ⟨rfl, hb⟩)
    | (go_at_call 13; refine (ri_nil_pop _).mono ?_; rintro e w' ⟨rfl, rfl⟩)
    | (go_at_call 26; refine (ri_nil_peek _ _).mono ?_; rintro e w' ⟨rfl, rfl⟩)
    | (go_at_call 12; refine (ri_nil_push _ 1 1 _ (by omega)).mono ?_; rintro e w' ⟨rfl, rfl⟩)
    | (go_at_call 14; refine (ri_nil_len _).mono ?_; rintro e w' ⟨rfl, rfl⟩)
    | (go_at_call 15; refine (ri_nil_room _).mono ?_; rintro e w' ⟨rfl, rfl⟩)
    | (go_at_call 27; refine (ri_nil_clear _).mono ?_; rintro e w' ⟨rfl, rfl⟩)
    | (go_at_call 22; refine (ri_nil_drop _ _).mono ?_; rintro e w' ⟨rfl, rfl⟩)
    | (go_at_call 24; refine (ri_nil_list _).mono ?_; rintro e w' ⟨rfl, rfl⟩)
    | (go_at_call 25; refine (ri_nil_set _ _ _).mono ?_; rintro e w' ⟨rfl, rfl⟩))
  go_ret
  exact ⟨rfl, hb.alloc hb.size _⟩
end Go.Proofs.Ytinklonbkhmpdaa.ringNone
