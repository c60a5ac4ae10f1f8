/-
  'alive' of the statements on rings returns true, and turns nothing that was there.
-/
import Derived.Test.YtinklonbkhmpdaaGreatRingInt
namespace Go.Proofs.YtinklonbkhmpdaaGreat
open Go.RowKit

theorem alive_true (w : World) : Calls Tryz.prog 4 #[] w fun e w' => e = .returned (.bool true) ∧ Below w.heap.size w w' := by
  have e2 : roomOf 2 = 2 := rfl
  go_enter Tryz.func4, Tryz.ntmps4
  go_wp2_with fail
  refine (ri_new_any _ _).mono ?_
  rintro e w1 ⟨rfl, hr1, hc1, hs1⟩
  rw [e2] at hr1
  clear e2
  go_wp2_with fail
  refine (ri_push_some _ _ _ _ _ _ _ _ (hr1.alloc _) _ 3 3 _ (Sees.of_blk (Blk.new _ _ _) rfl) (by simp [Value.oneCell']) (by omega) (by omega) (by omega) (by simp; omega)).mono ?_
  rintro e w2 ⟨rfl, hm⟩
  obtain ⟨A2, c2, hr2, hc2, hf2⟩ := hm.of_chg ((Chg.refl _ w1).alloc _)
  clear hm
  simp only [List.nil_append, Nat.sub_zero, List.take_succ_cons, List.take_zero] at hr2
  go_wp2_with fail
  refine (ri_pop_some _ _ _ _ _ _ _ _ hr2 (by simp [Value.oneCell']) _ rfl (by omega) (by have := hc2.size; omega)).mono ?_
  rintro e w3 ⟨rfl, A3, c3, hr3, hc3, hf3⟩
  go_wp2_with fail
  refine (ri_peek_in _ _ _ _ _ _ _ _ hr3 0 (by omega) (by omega) _ rfl).mono ?_
  rintro e w3' ⟨rfl, rfl⟩
  go_wp2_with fail
  refine (ri_room_any _ _ _ _ _ _ _ _ hr3).mono ?_
  rintro e w4 ⟨rfl, q, rfl⟩
  go_wp2
  go_ret
  refine ⟨rfl, ?_⟩
  have hb1 := hc1.below (B := w.heap.size) (Nat.le_refl _) (fun _ t => t.elim)
  have hb2 := hc2.below (B := w.heap.size) hc1.size (fun k hk => hr1.foot_ge k hk)
  have hb3 := hc3.below (B := w.heap.size) (by have := hc1.size; have := hc2.size; omega) (fun k hk => hr2.foot_ge k hk)
  exact ((hb1.trans hb2).trans hb3).trans (((Chg.refl No w3).drewN q).below (by have := hc1.size; have := hc2.size; have := hc3.size; omega) (fun _ t => t.elim))
end Go.Proofs.YtinklonbkhmpdaaGreat
