/-
  How much room a queue or a box may have: package ring's 'room'.
-/
import Derived.Test.YtipdeacaehbbfaaProg
import Derived.Test.YtipdeacaehbbfaaBase
import Derived.WalkLawsBesides
import Derived.Deep.QuietTactic
import Derived.BigQuiet
namespace Go.Proofs.Ytipdeacaehbbfaa
open Go.RowKit

/-- How much room there may be. -/
def roomOf (k : Int) : Nat := (min (max k 0) 100000).toNat

/-- How many are dropped where so many are asked for. -/
def dropped (k : Int) (n : Nat) : Nat := (min (max k 0) (n : Int)).toNat
theorem dropped_le (k : Int) (n : Nat) : dropped k n ≤ n := by unfold dropped; omega

theorem room_fn (k : Int) (w : World) : Calls Try.prog 46 #[.int .i64 k] w fun e w' => e = .returned (.int .i64 (roomOf k)) ∧ w = w' := by
  have e : roomOf k = (min (max k 0) 100000).toNat := rfl
  rcases Int.lt_or_le k 0 with h | h
  · obtain e' : (roomOf k : Int) = 0 := by omega
    have E := hide e'
    clear e e'
    go_enter Try.func46, Try.ntmps46
    go_wp2
    all_goals go_ret
    all_goals exact ⟨by rw [E.out]; rfl, rfl⟩
  · rcases Int.lt_or_le 100000 k with h' | h'
    · obtain e' : (roomOf k : Int) = 100000 := by omega
      have E := hide e'
      clear e e'
      go_enter Try.func46, Try.ntmps46
      go_wp2
      all_goals go_ret
      all_goals exact ⟨by rw [E.out]; rfl, rfl⟩
    · obtain e' : (roomOf k : Int) = k := by omega
      have E := hide e'
      clear e e'
      go_enter Try.func46, Try.ntmps46
      go_wp2
      all_goals go_ret
      all_goals exact ⟨by rw [E.out]; rfl, rfl⟩

end Go.Proofs.Ytipdeacaehbbfaa
