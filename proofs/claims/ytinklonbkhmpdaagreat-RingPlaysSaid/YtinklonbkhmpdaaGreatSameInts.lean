/-
  SameInts of two lists that hold the same returns true, and only reads.
-/
import Derived.Test.YtinklonbkhmpdaaGreatRoom
import Derived.Deep.LoopGhost
namespace Go.Proofs.YtinklonbkhmpdaaGreat
open Go.RowKit

/-- The loop's counter, the world behind some draws. -/
def iSame (w : World) (n k : Nat) (i : Value) (wr : World) : Prop := ∃ K q : Nat, i = .int .i64 (K : Int) ∧ K + k = n ∧ w.drewN q = wr

theorem i_same (w : World) (B C n c d : Nat) (X Y : Option Addr) (zs : List Int) (hx : Sees w B 1 X n (zs.map fun x => .int .i64 x)) (hy : Sees w C 1 Y n (zs.map fun x => .int .i64 x)) (hn : n ≤ 1000000) :
    Calls Tryz.prog 17 #[.slice X n c, .slice Y n d] w fun e w' => e = .returned (.bool true) ∧ ∃ q, w.drewN q = w' := by
  rcases Nat.eq_zero_or_pos n with rfl | hp
  · clear hx hy hn
    go_enter Tryz.func17, Tryz.ntmps17
    go_wp2
    refine wp_loop_rounds 1 ?_
    rw [rounds_succ]
    go_wp2
    go_ret
    exact ⟨rfl, 0, rfl⟩
  · obtain ⟨b, off, rfl, _, hcx⟩ := hx.spot hp (by omega)
    obtain ⟨b', off', rfl, _, hcy⟩ := hy.spot hp (by omega)
    have hl : zs.length = n := by simpa using hx.1
    have Hl := hide hl
    have Hx := hide hcx
    have Hy := hide hcy
    have hm : (n : Int) ≤ 1000000 := by omega
    clear hl hcx hcy hx hy
    go_enter Tryz.func17, Tryz.ntmps17
    go_wp2
    go_loopg [5] n (fun k i wr => iSame w n k i wr)
    case atStart => exact ⟨0, 0, rfl, by omega, rfl⟩
    case round =>
      obtain ⟨K, q, rfl, hk, rfl⟩ := hrel
      have Hk := hide hk
      clear hk
      by_cases hlt : K < n
      · have hK : K < zs.length := by rw [Hl.out]; exact hlt
        obtain ⟨z, hz⟩ : ∃ z, zs[K]? = some z := ⟨_, List.getElem?_eq_getElem hK⟩
        have c1 := Hx.out K (.int .i64 z) (by rw [List.getElem?_map, hz]; rfl)
        have c2 := Hy.out K (.int .i64 z) (by rw [List.getElem?_map, hz]; rfl)
        clear hz hK
        have hi : (K : Int) < n := by omega
        go_wp2_with fail
        go_quiet (fail)
        go_wp2
        go_roundg (n - (K + 1))
        case measure => have := Hk.out; omega
        case rel => exact ⟨K + 1, _, by go_num, by omega, rfl⟩
      · go_wp2
        go_ret
        exact ⟨rfl, q, rfl⟩
/-- The same in a region that draws, among other reads. -/
theorem i_same_q (w : World) (B C n c d q : Nat) (X Y : Option Addr) (zs : List Int) (hx : Sees w B 1 X n (zs.map fun x => .int .i64 x)) (hy : Sees w C 1 Y n (zs.map fun x => .int .i64 x)) (hn : n ≤ 1000000) :
    Calls Tryz.prog 17 #[.slice X n c, .slice Y n d] (w.drewN q) fun e w' => e = .returned (.bool true) ∧ ∃ m, w' = (w.drewN q).drewN m :=
  (i_same (w.drewN q) B C n c d X Y zs (hx.drewN q) (hy.drewN q) hn).mono fun _ _ ⟨he, m, hm⟩ => ⟨he, m, hm.symm⟩
end Go.Proofs.YtinklonbkhmpdaaGreat
