/-
  RingPlays: no calls; too many.
-/
import Derived.Test.YtinklonbkhmpdaaGreatWPlays
import Derived.Test.YtinklonbkhmpdaaGreatOpenOps
namespace Go.Proofs.YtinklonbkhmpdaaGreat.ringPlays
open Go.RowKit

set_option maxRecDepth 100000 in
theorem out (k : Int) (zero : Bool) (len cap : Nat) (S : Option Addr) (w : World) (h : (100 : Int) < len) :
    Calls Tryz.prog 3 #[.int .i64 k, .bool zero, .slice S len cap] w fun e w' => e = .returned (.bool true) ∧ Below w.heap.size w w' := by
  go_enter Tryz.func3, Tryz.ntmps3
  go_wp2_with (go_at_call 4; refine (alive_true _).mono ?_; rintro e w' ⟨rfl, hb⟩)
  all_goals go_ret
  all_goals exact ⟨rfl, hb⟩

set_option maxRecDepth 100000 in
theorem main0 (k : Int) (zero : Bool) (cap : Nat) (S : Option Addr) (w : World) :
    Calls Tryz.prog 3 #[.int .i64 k, .bool zero, .slice S 0 cap] w fun e w' => e = .returned (.bool true) ∧ Below w.heap.size w w' := by
  go_enter Tryz.func3, Tryz.ntmps3
  go_wp2_with fail
  refine (ri_new_any _ _).mono ?_
  rintro e w1 ⟨rfl, hr1, hc1, hs1⟩
  go_wp2_with fail
  refine (ref_room _ _).mono ?_
  rintro e w2 ⟨rfl, rfl⟩
  have hbel1 := hc1.below (B := w.heap.size) (Nat.le_refl _) (fun _ t => t.elim)
  go_upto_if 32 with fail
  go_cut [7, 8] (fun s7 s8 wx => ∃ p, s7 = .pointer (some ⟨p, 0, none⟩) ∧ Below w.heap.size w wx)
  case first =>
    cases zero with
    | true =>
      go_wp2
      go_meet
      case rel => exact ⟨_, rfl, hbel1.trans (((Chg.refl No w1).alloc _).below (by omega) (fun _ t => t.elim))⟩
    | false =>
      go_wp2
      go_meet
      case rel => exact ⟨_, rfl, hbel1⟩
  case rest =>
    clear hr1 hbel1 hc1 hs1
    obtain ⟨p, rfl, hbel2⟩ := hcut
    have hs2 := hbel2.size
    go_wp2_with fail
    refine wp_loop_rounds 1 ?_
    rw [rounds_succ]
    go_wp2_with fail
    have hbk := BookAt.made wc
    have hbel3 := hbel2.trans (((Chg.refl No wc).alloc (.cells (bookCells (.slice none 0 0) (.slice none 0 0)) 47)).below hs2 (fun _ t => t.elim))
    refine (alive_true _).mono ?_
    rintro e w2 ⟨rfl, hb2⟩
    have hbk2 := hbk.chg (Chg.of_below hb2) (fun j hj h => by have := hbk.lt j hj; simp [bookCells] at this h; omega)
    have hbel4 := hbel3.trans (hb2.mono hbel3.size)
    have hs3 : wc.heap.size ≤ w2.heap.size := by have := hb2.size; simp at this; omega
    go_wp2_with fail
    refine (book_apart _ _ _ _ _ hbk2 (by omega) hs3).mono ?_
    rintro e w3 ⟨rfl, hc3⟩
    go_wp2_with fail
    go_ret
    exact ⟨rfl, hbel4.trans (hc3.below hbel4.size (fun j hj => Nat.le_trans hs2 (hbk2.ge j hj)))⟩
end Go.Proofs.YtinklonbkhmpdaaGreat.ringPlays
