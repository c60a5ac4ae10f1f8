/-
  The reference's bound on a ring's room; and two appends onto nil.
-/
import Derived.Test.YtinklonbkhmpdaaBase
import Derived.Test.YtinklonbkhmpdaaRoom
import Derived.WalkLawsBesides
namespace Go.Proofs.Ytinklonbkhmpdaa
open Go.RowKit

/-- Two appends onto nil, one behind the other: all is new. -/
theorem fresh2 {w w1 w2 : World} {E : TypeId} {size n n2 c1 c2 : Nat} {A1 A2 : Option Addr} {xs ys : List Value} (h1 : Grew w w.heap.size E size none n xs A1 c1 w1) (h2 : Grew w1 w.heap.size E size A1 n2 ys A2 c2 w2) : Chg No w w2 := by
  have hc1 : Chg No w w1 := h1.chg.mono (by simp [blkOf])
  exact hc1.trans h2.chg (fun i hi hs => by have := (own_lt h1.own hs).1; omega) |>.mono (fun _ _ t => t)

theorem ref_room (k : Int) (w : World) : Calls Try.prog 30 #[.int .i64 k] w fun e w' => e = .returned (.int .i64 (roomOf k)) ∧ w = w' := by
  have e : roomOf k = (min (max k 0) 100000).toNat := rfl
  rcases Int.lt_or_le k 0 with h | h
  · obtain e' : (roomOf k : Int) = 0 := by omega
    have E := hide e'
    clear e e'
    go_enter Try.func30, Try.ntmps30
    go_wp2
    all_goals go_ret
    all_goals exact ⟨by rw [E.out]; rfl, rfl⟩
  · rcases Int.lt_or_le 100000 k with h' | h'
    · obtain e' : (roomOf k : Int) = 100000 := by omega
      have E := hide e'
      clear e e'
      go_enter Try.func30, Try.ntmps30
      go_wp2
      all_goals go_ret
      all_goals exact ⟨by rw [E.out]; rfl, rfl⟩
    · obtain e' : (roomOf k : Int) = k := by omega
      have E := hide e'
      clear e e'
      go_enter Try.func30, Try.ntmps30
      go_wp2
      all_goals go_ret
      all_goals exact ⟨by rw [E.out]; rfl, rfl⟩
end Go.Proofs.Ytinklonbkhmpdaa
