/-
  The walk of RingDrops.
-/
import Derived.Test.YtinklonbkhmpdaaRingAlive
import Derived.Test.YtinklonbkhmpdaaSameInts
import Derived.Deep.LoopGhost
namespace Go.Proofs.Ytinklonbkhmpdaa.ringDrops
open Go.RowKit

abbrev cells (l : List Int) : List Value := l.map fun x => Value.int .i64 x

/-- What Set leaves of a list: another one where there is the place, else the same. -/
theorem set_list (l : List Int) (k v : Int) (n : Nat) (hn : l.length = n) :
    ∃ lw : List Int, (if riThere k n = true then (cells l).set k.toNat (.int .i64 v) else cells l) = cells lw ∧
      ∀ j : Nat, j < n → ∃ z y : Int, l[j]? = some z ∧ lw[j]? = some y ∧ ((j : Int) ≠ k → y = z) ∧ ((j : Int) = k → y = v) := by
  by_cases h : 0 ≤ k ∧ k < n
  · refine ⟨l.set k.toNat v, ?_, fun j hj => ?_⟩
    · have e : riThere k n = true := by unfold riThere; exact decide_eq_true h
      rw [if_pos e]
      simp [cells, List.map_set]
    · have hj' : j < l.length := by omega
      refine ⟨l[j], (l.set k.toNat v)[j]'(by simpa using hj'), List.getElem?_eq_getElem hj', List.getElem?_eq_getElem (by simpa using hj'), fun hne => ?_, fun he => ?_⟩
      · rw [List.getElem_set_ne (by omega)]
      · have : k.toNat = j := by omega
        simp [this]
  · refine ⟨l, ?_, fun j hj => ?_⟩
    · have e : riThere k n = false := by unfold riThere; exact decide_eq_false h
      rw [e, if_neg (by decide)]
    · have hj' : j < l.length := by omega
      exact ⟨l[j], l[j], List.getElem?_eq_getElem hj', List.getElem?_eq_getElem hj', fun _ => rfl, fun he => by omega⟩

/-- The loop that takes: i taken, the other ring as it was. -/
def Taking (w : World) (B pa pb len : Nat) (Aa : Option Addr) (na ca : Nat) (la lb : List Int) (M k : Nat) (i : Value) (wr : World) : Prop :=
  ∃ T : Nat, i = .int .i64 (T : Int) ∧ T + k = M ∧ ∃ Ab cb, riAt wr B pb Ab (len - T) cb (cells (lb.drop T)) len ∧ riAt wr B pa Aa na ca (cells la) len ∧ Apart pa Aa pb Ab ∧ Below B w wr

/-- The loop that compares. -/
def Comparing (w : World) (n k : Nat) (i : Value) (wr : World) : Prop := ∃ T q : Nat, i = .int .i64 (T : Int) ∧ T + k = n ∧ w.drewN q = wr

set_option maxRecDepth 100000 in
theorem main (len cap : Nat) (X : Option Addr) (ls : List Int) (n k v : Int) (w : World) (hl : len ≤ 60) (hlc : len ≤ cap) (hx : Sees w w.heap.size 1 X len (cells ls)) :
    Calls Try.prog 5 #[.slice X len cap, .int .i64 n, .int .i64 k, .int .i64 v] w fun e w' => e = .returned (.bool true) ∧ Below w.heap.size w w' := by
  have eR : roomOf (len : Int) = len := by unfold roomOf; omega
  have hls : ls.length = len := by simpa using hx.1
  have Hls := hide hls
  have h3 : (len : Int) ≤ 60 := by omega
  clear hls
  go_enter Try.func5, Try.ntmps5
  go_wp2_with fail
  refine (ri_new_any _ _).mono ?_
  rintro e w1 ⟨rfl, ha1, hc1, hs1⟩
  go_wp2_with fail
  refine (ri_new_any _ _).mono ?_
  rintro e w2 ⟨rfl, hb2, hc2, hs2⟩
  rw [eR] at ha1 hb2
  clear eR
  have hbel1 := hc1.below (Nat.le_refl _) (fun _ t => t.elim)
  have hbel2 := hc2.below (Nat.le_refl _) (fun _ t => t.elim)
  have ha2 := ha1.chg hc2 (fun _ _ t => t)
  have hb2' := hb2.lower (B' := w.heap.size) (by omega)
  have hx2 := (hx.below hbel1).below (hbel2.mono (by omega))
  have hap : Apart w.heap.size none w1.heap.size none := by
    rintro j (rfl | h) (h' | h')
    · omega
    · simp [blkOf] at h'
    · simp [blkOf] at h
    · simp [blkOf] at h
  go_wp2_with fail
  refine (ri_push_fit _ _ _ _ _ _ _ _ ha2 X len cap _ (hx2.more (by omega)) ints_one (by omega) hlc (by omega)).mono ?_
  rintro e w3 ⟨rfl, Aa, ca, ha3, hc3, hf3⟩
  have hbel3 := hc3.below (B := w.heap.size) (by omega) (fun j hj => ha2.foot_ge j hj)
  have hb3 := hb2'.chg hc3 (fun j h1 h2 => hap j h2 h1)
  have hap3 := (hap.symm.step (w := w2) (fun j hj => hb2'.foot_lt j hj) hf3).symm
  have hx3 := hx2.below hbel3
  rw [List.nil_append, Nat.zero_add] at ha3
  have hs3 := hc3.size
  go_wp2_with fail
  refine (ri_push_fit _ _ _ _ _ _ _ _ hb3 X len cap _ (hx3.more (by omega)) ints_one (by omega) hlc (by omega)).mono ?_
  rintro e w4 ⟨rfl, Ab, cb, hb4, hc4, hf4⟩
  have hbel4 := hc4.below (B := w.heap.size) (by omega) (fun j hj => hb3.foot_ge j hj)
  have ha4 := ha3.chg hc4 (fun j h1 h2 => hap3 j h1 h2)
  have hap4 := hap3.step (w := w3) (fun j hj => ha3.foot_lt j hj) hf4
  rw [List.nil_append, Nat.zero_add] at hb4
  have hs4 := hc4.size
  have hall4 := ((hbel1.trans (hbel2.mono (by omega))).trans hbel3).trans hbel4
  clear hx hx2 hx3 hb2 hb2' hb3 ha1 ha2 ha3 hap hap3 hf3 hf4 hc1 hc2 hc3 hc4
  go_wp2_with fail
  refine (ri_drop_any _ _ _ _ _ _ _ _ ha4 ints_one n (by omega)).mono ?_
  obtain ⟨M, hM⟩ : ∃ M, M = dropped n len := ⟨_, rfl⟩
  have hMl : M ≤ len := by rw [hM]; exact dropped_le _ _
  rw [← hM]
  clear hM
  rintro e w5 ⟨rfl, Aa5, ca5, ha5, hc5, hf5⟩
  have hbel5 := hall4.trans (hc5.below (B := w.heap.size) (by omega) (fun j hj => ha4.foot_ge j hj))
  have hb5 := hb4.chg hc5 (fun j h1 h2 => hap4 j h2 h1)
  have hap5 := (hap4.symm.step (w := w4) (fun j hj => hb4.foot_lt j hj) hf5).symm
  have hs5 := hc5.size
  clear hb4 ha4 hap4 hall4 hc5 hf5
  rw [List.map_drop.symm] at ha5
  go_wp2_with fail
  go_loopg [12] M (fun k i wr => Taking w w.heap.size w.heap.size w1.heap.size len Aa5 (len - M) ca5 (ls.drop M) ls M k i wr)
  case atStart => exact ⟨0, rfl, by omega, Ab, cb, by simpa using hb5, ha5, hap5, hbel5⟩
  case round =>
    obtain ⟨T, rfl, hk, Ab6, cb6, hb6, ha6, hap6, hbel6⟩ := hrel
    have Hk := hide hk
    clear hk
    by_cases hT : T < M
    · have hz : ∃ z, (ls.drop T)[0]? = some z := ⟨_, List.getElem?_eq_getElem (by rw [List.length_drop, Hls.out]; omega)⟩
      obtain ⟨z, hz⟩ := hz
      go_wp2_with fail
      refine (ri_pop_some _ _ _ _ _ _ _ _ hb6 ints_one (.int .i64 z) (by rw [List.getElem?_map, hz]; rfl) (by omega) (by have := hbel6.size; omega)).mono ?_
      rintro e w7 ⟨rfl, Ab7, cb7, hb7, hc7, hf7⟩
      have hbel7 := hbel6.trans (hc7.below (B := w.heap.size) (by have := hbel6.size; omega) (fun j hj => hb6.foot_ge j hj))
      have ha7 := ha6.chg hc7 (fun j h1 h2 => hap6 j h1 h2)
      have hap7 := hap6.step (fun j hj => ha6.foot_lt j hj) hf7
      rw [← List.map_drop, List.drop_drop, show len - T - 1 = len - (T + 1) by omega] at hb7
      go_wp2_with fail
      go_roundg (M - (T + 1))
      case measure => have := Hk.out; omega
      case rel => exact ⟨T + 1, by go_num, by omega, Ab7, cb7, hb7, ha7, hap7, hbel7⟩
    · obtain rfl : T = M := by have := Hk.out; omega
      clear hT
      have hs6 := hbel6.size
      go_wp2_with fail
      refine (ri_list_any _ _ _ _ _ _ _ _ ha6 ints_one).mono ?_
      rintro e w7 ⟨A7, c7, rfl, ho7, hc7⟩
      have hs7 := hc7.size
      have ha7 := ha6.chg hc7 (fun _ _ t => t)
      have hb7 := hb6.chg hc7 (fun _ _ t => t)
      go_wp2_with fail
      refine (ri_list_any _ _ _ _ _ _ _ _ hb7 ints_one).mono ?_
      rintro e w8 ⟨A8, c8, rfl, ho8, hc8⟩
      have hs8 := hc8.size
      have ha8 := ha7.chg hc8 (fun _ _ t => t)
      have ho7' := own_chg ho7 hc8 (fun _ _ t => t)
      go_wp2_with fail
      refine (i_same _ _ _ _ _ _ _ _ _ (Sees.of_own ho7') (Sees.of_own ho8) (by omega)).mono ?_
      rintro e w9 ⟨rfl, q, rfl⟩
      have ha9 := ha8.drewN q
      have hbel9 : Below w.heap.size w (w8.drewN q) := hbel6.trans ((((hc7.trans hc8 (fun _ _ t => t)).drewN q)).below hs6 (fun _ t => t.elim))
      have hs9 := hbel9.size
      clear ha6 hb6 ha7 hb7 ha8 ho7 ho7' ho8 hc7 hc8 hap6 hbel6
      go_wp2_with fail
      refine (ri_list_any _ _ _ _ _ _ _ _ ha9 ints_one).mono ?_
      rintro e w10 ⟨W, cw, rfl, hwas, hc10⟩
      have hs10 := hc10.size
      have ha10 := ha9.chg hc10 (fun _ _ t => t)
      have hbel10 := hbel9.trans (hc10.below hs9 (fun _ t => t.elim))
      have hfar : ∀ j, (Value.slice W (len - T) cw).ownBlock = some j → ¬ Foot w.heap.size Aa5 j := fun j hj hf => by
        have h1 := (hwas.lt j hj).1
        have h2 := ha9.foot_lt j hf
        omega
      go_wp2_with fail
      obtain ⟨bt, hbt⟩ : ∃ bt, bt = riThere k (len - T) := ⟨_, rfl⟩
      refine (ri_set_any _ _ _ _ _ _ _ _ ha10 k v).mono ?_
      rw [← hbt]
      rintro e w11 ⟨rfl, A11, c11, ha11, hc11, hf11⟩
      have hs11 := hc11.size
      have hwas11 := own_chg hwas hc11 hfar
      have hbel11 := hbel10.trans (hc11.below (by omega) (fun j hj => ha10.foot_ge j hj))
      obtain ⟨lw, hlw, hset⟩ := set_list (ls.drop T) k v (len - T) (by rw [List.length_drop, Hls.out])
      rw [← hbt] at hlw
      rw [hlw] at ha11
      have Hset := hide hset
      have Hbt := hide hbt
      clear hset hlw hbt
      go_wp2_with fail
      refine (ri_list_any _ _ _ _ _ _ _ _ ha11 ints_one).mono ?_
      rintro e w12 ⟨V, cv, rfl, hnow, hc12⟩
      have hs12 := hc12.size
      have hwas12 := own_chg hwas11 hc12 (fun _ _ t => t)
      have hbel12 := hbel11.trans (hc12.below (by omega) (fun _ t => t.elim))
      clear ha9 ha10 ha11 hwas hwas11 hc10 hc11 hc12 hfar hf11
      go_wp2_with fail
      go_loopg [16] (len - T) (fun k i wr => Comparing w12 (len - T) k i wr)
      case atStart => exact ⟨0, 0, rfl, by omega, rfl⟩
      case round =>
        obtain ⟨J, q2, rfl, hk, rfl⟩ := hrel
        have Hk := hide hk
        clear hk
        by_cases hJ : J < len - T
        · obtain ⟨z, y, hz, hy, hne, heq⟩ := Hset.out J hJ
          obtain ⟨gw, offw, rfl, _, hcw⟩ := (Sees.of_own hwas12).spot (by omega) (by omega)
          obtain ⟨gv, offv, rfl, _, hcv⟩ := (Sees.of_own hnow).spot (by omega) (by omega)
          have cw1 := hcw J (.int .i64 z) (by rw [List.getElem?_map, hz]; rfl)
          have cv1 := hcv J (.int .i64 y) (by rw [List.getElem?_map, hy]; rfl)
          clear hcw hcv hz hy
          by_cases hjk : (J : Int) = k
          · obtain rfl := heq hjk
            have hb1 : ((J : Int) != k) = false := by simp [hjk]
            have hb2 : ((J : Int) == k) = true := by simp [hjk]
            clear hne heq hjk
            go_wp2_with fail
            go_quiet (fail)
            go_wp2_with fail
            go_roundg (len - T - (J + 1))
            case measure => have := Hk.out; omega
            case rel => exact ⟨J + 1, _, by go_num, by omega, rfl⟩
          · obtain rfl := hne hjk
            have hb1 : ((J : Int) != k) = true := by simp [hjk]
            have hb2 : ((J : Int) == k) = false := by simp [hjk]
            clear hne heq hjk
            go_wp2_with fail
            go_quiet (fail)
            go_wp2_with fail
            go_roundg (len - T - (J + 1))
            case measure => have := Hk.out; omega
            case rel => exact ⟨J + 1, _, by go_num, by omega, rfl⟩
        · go_wp2_with fail
          refine (alive_true _).mono ?_
          rintro e w14 ⟨rfl, hb14⟩
          have hend := (hbel12.trans (((Chg.refl No w12).drewN q2).below (B := w.heap.size) (by omega) (fun _ t => t.elim))).trans (hb14.mono (by simp; omega))
          by_cases hk0 : 0 ≤ k
          · by_cases hk1 : k < ((len - T : Nat) : Int)
            · have e : bt = true := by rw [Hbt.out]; unfold riThere; exact decide_eq_true ⟨hk0, hk1⟩
              subst e
              have hk2 : decide (k < ((len - T : Nat) : Int)) = true := decide_eq_true hk1
              go_wp2_with fail
              go_ret
              exact ⟨rfl, hend⟩
            · have e : bt = false := by rw [Hbt.out]; unfold riThere; exact decide_eq_false (fun h => hk1 h.2)
              subst e
              have hk2 : decide (k < ((len - T : Nat) : Int)) = false := decide_eq_false hk1
              go_wp2_with fail
              go_ret
              exact ⟨rfl, hend⟩
          · have e : bt = false := by rw [Hbt.out]; unfold riThere; exact decide_eq_false (fun h => hk0 h.1)
            subst e
            have hk1 : k < 0 := by omega
            go_wp2_with fail
            go_ret
            exact ⟨rfl, hend⟩

theorem out (len cap : Nat) (X : Option Addr) (n k v : Int) (w : World) (h : (60 : Int) < len) :
    Calls Try.prog 5 #[.slice X len cap, .int .i64 n, .int .i64 k, .int .i64 v] w fun e w' => e = .returned (.bool true) ∧ Below w.heap.size w w' := by
  go_enter Try.func5, Try.ntmps5
  go_wp2_with (go_at_call 10; refine (alive_true _).mono ?_; rintro e w' ⟨rfl, hb⟩)
  go_ret
  exact ⟨rfl, hb⟩
end Go.Proofs.Ytinklonbkhmpdaa.ringDrops
