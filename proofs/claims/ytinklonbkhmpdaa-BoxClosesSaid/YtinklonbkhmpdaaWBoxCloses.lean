/-
  The walk of BoxCloses.
-/
import Derived.Test.YtinklonbkhmpdaaBox
import Derived.Deep.LoopGhost
import Derived.Deep.DeepCutAuto
namespace Go.Proofs.Ytinklonbkhmpdaa.boxCloses
open Go.RowKit
set_option linter.unusedSimpArgs false

/-- So many have been sent. -/
def Filling (w : World) (B g c len : Nat) (l : List Int) (k : Nat) (i : Value) (wr : World) : Prop :=
  ∃ T : Nat, i = .int .i64 (T : Int) ∧ T + k = len ∧ BoxAt wr B g c len (l.take T) false ∧ Below B w wr
/-- So many have been taken. -/
def Emptying (w : World) (B g c len : Nat) (l : List Int) (k : Nat) (i : Value) (wr : World) : Prop :=
  ∃ T : Nat, i = .int .i64 (T : Int) ∧ T + k = len ∧ BoxAt wr B g c len (l.drop T) true ∧ Below B w wr

set_option maxHeartbeats 1000000 in
set_option maxRecDepth 100000 in
theorem main (len cap : Nat) (X : Option Addr) (l : List Int) (w : World) (hl : len ≤ 60) (hll : l.length = len) (hX : 0 < len → ∃ b off, X = some ⟨b, off, none⟩ ∧ b < w.heap.size ∧ ∀ i z, l[i]? = some z → w.cell? ⟨b, off + i, none⟩ = some (.int .i64 z)) :
    Calls Try.prog 9 #[.slice X len cap] w fun e w' => e = .returned (.bool true) ∧ Below w.heap.size w w' := by
  have h1 : (len : Int) ≤ 60 := by omega
  have hro : roomOf (len : Int) = len := by unfold roomOf; omega
  have HX := hide hX
  have Hl := hide hll
  have Hro := hide hro
  clear hX hll hro
  go_enter Try.func9, Try.ntmps9
  go_wp2_with fail
  refine (box_new _ _).mono ?_
  rintro e w1 ⟨rfl, hk1, hc1, hs1⟩
  rw [Hro.out] at hk1
  have hb1 := hc1.below (B := w.heap.size) (Nat.le_refl _) (fun _ t => t.elim)
  have hn : ∀ k, BFoot (w.heap.size + 1) w.heap.size k → w.heap.size ≤ k := by rintro k (rfl | rfl) <;> omega
  obtain ⟨g, hg⟩ : ∃ g, g = w.heap.size + 1 := ⟨_, rfl⟩
  rw [← hg] at hk1 hn ⊢
  clear hg hc1 hs1
  go_wp2_with fail
  go_loopg [4] len (fun k i wr => Filling w w.heap.size g w.heap.size len l k i wr)
  case atStart => exact ⟨0, rfl, by omega, by simpa using hk1, hb1⟩
  case round =>
    clear hk1 hb1
    obtain ⟨T, rfl, hk, hbx, hbel⟩ := hrel
    have Hk := hide hk
    clear hk
    by_cases hT : T < len
    · obtain ⟨b, off, rfl, hb, hc⟩ := HX.out (by omega)
      obtain ⟨z, hz⟩ : ∃ z, l[T]? = some z := ⟨_, List.getElem?_eq_getElem (by rw [Hl.out]; exact hT)⟩
      have hz' := (hbel.cell (p := ⟨b, off + T, none⟩) hb).trans (hc T z hz)
      clear hc
      have hlt : (l.take T).length < len := by rw [List.length_take]; omega
      have htk : l.take (T + 1) = l.take T ++ [z] := by rw [List.take_add_one, hz]; rfl
      have Ht := hide htk
      clear htk hz
      have hTi : (T : Int) < len := by omega
      go_wp2_with fail
      refine (box_send_room _ _ _ _ _ _ _ hbx hlt).mono ?_
      rintro e w2 ⟨rfl, hbx2, hc2⟩
      go_wp2_with fail
      go_roundg (len - (T + 1))
      case measure => have := Hk.out; omega
      case rel => exact ⟨T + 1, by go_num, by omega, by rw [Ht.out]; exact hbx2, hbel.trans (hc2.below hbel.size hn)⟩
    · obtain rfl : T = len := by have := Hk.out; omega
      have e0 : l.take T = l := List.take_of_length_le (by rw [Hl.out]; omega)
      rw [e0] at hbx
      clear e0
      have hTT : ¬ ((T : Int) < T) := by omega
      go_wp2_with fail
      refine (box_close_open _ _ _ _ _ _ hbx).mono ?_
      rintro e w2 ⟨rfl, hbx2, hc2⟩
      have hbel2 := hbel.trans (hc2.below hbel.size hn)
      clear hbx hbel hc2
      go_wp2_with fail
      refine (box_close_shut _ _ _ _ _ _ hbx2).mono ?_
      rintro e w3 ⟨rfl, hbx3, hc3⟩
      have hbel3 := hbel2.trans (hc3.below hbel2.size hn)
      clear hbx2 hbel2 hc3
      go_wp2_with fail
      refine (box_send_shut _ _ _ _ _ _ _ hbx3).mono ?_
      rintro e w4 ⟨rfl, hbx4, hc4⟩
      have hbel4 := hbel3.trans (hc4.below hbel3.size hn)
      clear hbx3 hbel3 hc4
      go_wp2_with fail
      refine (box_len _ _ _ _ _ _ _ hbx4).mono ?_
      rintro e w5 ⟨rfl, rfl⟩
      rw [Hl.out]
      go_wp2_with fail
      go_loopg [5] T (fun k i wr => Emptying w w.heap.size g w.heap.size T l k i wr)
      case atStart => exact ⟨0, rfl, by omega, by simpa using hbx4, hbel4⟩
      case round =>
        clear hbx4 hbel4
        obtain ⟨J, rfl, hk2, hbx, hbel⟩ := hrel
        have Hk2 := hide hk2
        clear hk2
        by_cases hJ : J < T
        · obtain ⟨b, off, rfl, hb, hc⟩ := HX.out (by omega)
          obtain ⟨z, hz⟩ : ∃ z, l[J]? = some z := ⟨_, List.getElem?_eq_getElem (by rw [Hl.out]; exact hJ)⟩
          have hz' := (hbel.cell (p := ⟨b, off + J, none⟩) hb).trans (hc J z hz)
          clear hc
          have hd : l.drop J = z :: l.drop (J + 1) := by
            obtain ⟨hJ', rfl⟩ := List.getElem?_eq_some_iff.1 hz
            exact List.drop_eq_getElem_cons hJ'
          rw [hd] at hbx
          clear hd hz
          have hJi : (J : Int) < T := by omega
          go_wp2_with fail
          refine (box_take_some _ _ _ _ _ _ _ _ hbx).mono ?_
          rintro e w2 ⟨rfl, hbx2, hc2⟩
          have hbel2 := hbel.trans (hc2.below hbel.size hn)
          have hz2 := (hbel2.cell (p := ⟨b, off + J, none⟩) hb).trans ((hbel.cell (p := ⟨b, off + J, none⟩) hb).symm.trans hz')
          clear hz' hbx hbel hc2
          go_wp2_with fail
          go_roundg (T - (J + 1))
          case measure => have := Hk2.out; omega
          case rel => exact ⟨J + 1, by go_num, by omega, hbx2, hbel2⟩
        · obtain rfl : J = T := by have := Hk2.out; omega
          have e0 : l.drop J = [] := List.drop_eq_nil_of_le (by rw [Hl.out]; omega)
          rw [e0] at hbx
          clear e0
          go_wp2_with fail
          refine (box_take_none _ _ _ _ _ _ hbx).mono ?_
          rintro e w2 ⟨rfl, rfl⟩
          go_wp2_with fail
          refine (boxed_true _).mono ?_
          rintro e w3 ⟨rfl, hc3⟩
          have hbx3 := hbx.chg hc3 (fun _ _ t => t)
          have hbel3 := hbel.trans (hc3.below hbel.size (fun _ t => t.elim))
          go_wp2_with fail
          refine (box_len _ _ _ _ _ _ _ hbx3).mono ?_
          rintro e w4 ⟨rfl, rfl⟩
          go_wp2_with fail
          go_ret
          exact ⟨rfl, hbel3⟩

theorem out (len cap : Nat) (X : Option Addr) (w : World) (h : (60 : Int) < len) :
    Calls Try.prog 9 #[.slice X len cap] w fun e w' => e = .returned (.bool true) ∧ Below w.heap.size w w' := by
  go_enter Try.func9, Try.ntmps9
  go_wp2_with fail
  refine (boxed_true _).mono ?_
  rintro e w2 ⟨rfl, hc⟩
  go_wp2_with fail
  go_ret
  exact ⟨rfl, hc.below (Nat.le_refl _) (fun _ t => t.elim)⟩
end Go.Proofs.Ytinklonbkhmpdaa.boxCloses
