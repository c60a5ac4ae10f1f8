/-
  The walk of RingTexts.
-/
import Derived.Test.YtinklonbkhmpdaaRingAlive
import Derived.Test.YtinklonbkhmpdaaRingText
import Derived.Test.YtinklonbkhmpdaaSameTexts
import Derived.Test.YtinklonbkhmpdaaLies
import Derived.Deep.LoopGhost
import Derived.Deep.DeepCutAuto
namespace Go.Proofs.Ytinklonbkhmpdaa.ringTexts
open Go.RowKit

abbrev texts (l : List ByteArray) : List Value := l.map fun x => Value.string x

/-- The ring and the slice x hold the same texts, in blocks of their own. -/
def Turn (w : World) (p most len k : Nat) (x i : Value) (wr : World) : Prop :=
  ∃ (K : Nat) (ts : List ByteArray) (A : Option Addr) (c : Nat) (X : Option Addr) (d : Nat), i = .int .i64 (K : Int) ∧ x = .slice X ts.length d ∧ K + k = len ∧ ts.length ≤ K ∧
    rsAt wr w.heap.size p A ts.length c (texts ts) most ∧ Lies wr w.heap.size 1 X ts.length d (texts ts) ∧ (∀ j, blkOf X = some j → ¬ Foot p A j) ∧ Below w.heap.size w wr

/-- Behind the push, of round K. -/
def Pushed (w : World) (p most K : Nat) (x : Value) (wr : World) : Prop :=
  ∃ (ts : List ByteArray) (A : Option Addr) (c : Nat) (X : Option Addr) (d : Nat), x = .slice X ts.length d ∧ ts.length ≤ K + 1 ∧
    rsAt wr w.heap.size p A ts.length c (texts ts) most ∧ Lies wr w.heap.size 1 X ts.length d (texts ts) ∧ (∀ j, blkOf X = some j → ¬ Foot p A j) ∧ Below w.heap.size w wr

set_option maxRecDepth 100000 in
theorem main (k : Int) (len cap plen pcap b off b' off' : Nat) (T : Option Addr) (w : World) (hk : k ≤ 1000) (hl : len ≤ 100) (hp : plen ≤ 200)
    (hb : b < w.heap.size) (hc : ∀ i, i < len → ∃ s : ByteArray, w.cell? ⟨b, off + i, none⟩ = some (.string s))
    (hT : 0 < plen → T = some ⟨b', off', none⟩) (hb' : 0 < plen → b' < w.heap.size) (hc' : ∀ i, i < plen → ∃ s : Bool, w.cell? ⟨b', off' + i, none⟩ = some (.bool s)) :
    Calls Try.prog 4 #[.int .i64 k, .slice (some ⟨b, off, none⟩) len cap, .slice T plen pcap] w fun e w' => e = .returned (.bool true) ∧ Below w.heap.size w w' := by
  have h1 : (len : Int) ≤ 100 := by omega
  have h2 : (plen : Int) ≤ 200 := by omega
  have hR : (roomOf k : Int) ≤ max k 0 := by unfold roomOf; omega
  obtain ⟨R, hRR⟩ : ∃ R, R = roomOf k := ⟨_, rfl⟩
  rw [← hRR] at hR
  have HR := hide hR
  have Hc := hide hc
  have Hc' := hide hc'
  have HT := hide hT
  clear hT
  obtain ⟨i0, hi, hz0, hz1, hz2⟩ := info_parts Try.info9
  clear hR hc hc'
  have HRR := hide hRR
  clear hRR
  go_enter Try.func4, Try.ntmps4
  go_wp2_with fail
  refine (rs_new_any _ _).mono ?_
  rintro e w1 ⟨rfl, hr1, hc1, hs1⟩
  rw [← HRR.out] at hr1
  go_wp2_with fail
  go_loopg [8, 9] len (fun k x i wr => Turn w w.heap.size R len k x i wr)
  case atStart => exact ⟨0, [], none, 0, none, 0, rfl, rfl, by omega, by simp, hr1, Lies.nil _ _ _, by simp [blkOf], hc1.below (Nat.le_refl _) (fun _ t => t.elim)⟩
  case round =>
    obtain ⟨K, ts, A, c, X, d, rfl, rfl, hkk, htK, hr, hx, hap, hbel⟩ := hrel
    have Hk := hide hkk
    clear hkk
    by_cases hlt : K < len
    · obtain ⟨s, hs⟩ := Hc.out K hlt
      have hcell := (hbel.cell (p := ⟨b, off + K, none⟩) hb).trans hs
      have Hs := hide hs
      clear hs
      have hsz := hbel.size
      go_wp2_with fail
      refine (rs_push_either _ _ _ _ _ _ _ _ hr (.string s) rfl (by omega)).mono ?_
      rintro e w2 ⟨t, n2, xs2, rfl, ht, A2, c2, hr2, hc2, hf2⟩
      have hbel2 := hbel.trans (hc2.below (B := w.heap.size) (by omega) (fun j hj => hr.foot_ge j hj))
      have hx2 := hx.chg hc2 hap
      have hs2 := hc2.size
      have hap2 : ∀ j, blkOf X = some j → ¬ Foot w.heap.size A2 j := by
        rintro j hj (rfl | h)
        · exact hap _ hj (.inl rfl)
        · rcases hf2 j h with e | e
          · exact hap j hj (.inr e)
          · have := (hx.lt hj).2; omega
      clear hcell hx hap hc2 hf2
      have Ht := hide ht
      clear ht
      go_upto_if 42 with fail
      go_cut [8] (fun x wx => Pushed w w.heap.size R K x wx)
      case first =>
        have hcell := (hbel2.cell (p := ⟨b, off + K, none⟩) hb).trans Hs.out
        rcases Ht.out with ⟨rfl, rfl, rfl, hroom⟩ | ⟨rfl, rfl, rfl, hfull⟩
        · go_wp2_with (at_builtin; refine wpList_append_longer _ rfl (.tmp 43) (.tmp 48) 32 rfl 9 i0 _ 1 16 Try.underlying32 hi hz0 hz1 hz2 rfl (by decide) w.heap.size X ts.length d (texts ts) rfl (hx2.chg ((Chg.refl No w2).alloc _) (fun _ _ t => t)) _ (some ⟨w2.heap.size, 0, none⟩) 1 1 [.string s] rfl (Sees.of_blk (cs := #[.string s]) (Blk.new _ _ _) rfl) (by simp [Value.oneCell']) (by unfold maxLen; omega) (by omega) (by simp; omega) ?_; intro X3 d3 w3 hg3; skip)
          go_meet
          case rel =>
            have hc3 : Chg (fun j => blkOf X = some j) w2 w3 := ((Chg.refl No w2).alloc _).mono (T := fun j => blkOf X = some j) (fun _ _ t => t.elim) |>.trans hg3.chg (fun _ _ t => t)
            refine ⟨ts ++ [s], A2, c2, X3, d3, by simp, by simp; omega, ?_, ?_, ?_, hbel2.trans (hc3.below (by omega) (fun j hj => (hx2.lt hj).1))⟩
            · have := hr2.chg hc3 (fun j h1 h2 => hap2 j h2 h1)
              simpa [texts] using this
            · have := hg3.lies
              simpa [texts] using this
            · intro j hj hf
              rcases hg3.fresh j hj with e | e
              · exact hap2 j e hf
              · have := hr2.foot_lt j hf
                simp at e; omega
        · clear hfull
          go_wp2_with fail
          go_meet
          case rel => exact ⟨ts, A2, c2, X, d, rfl, by omega, hr2, hx2, hap2, hbel2⟩
      case rest =>
        clear hr hr2 hx2 hap2 hbel2 Ht hbel
        obtain ⟨us, A3, c3, X3, d3, rfl, hu3, hr3, hx3, hap3, hbel3⟩ := hcut
        have hs3 := hbel3.size
        have hx3c := hx3.2.1
        by_cases hp1 : K < plen
        · have hTe := HT.out (by omega)
          subst hTe
          obtain ⟨bo, hbo⟩ := Hc'.out K hp1
          have hcell := (hbel3.cell (p := ⟨b', off' + K, none⟩) (hb' (by omega))).trans hbo
          clear hbo
          cases bo with
          | false =>
            go_wp2_with fail
            go_roundg (len - (K + 1))
            case measure => have := Hk.out; omega
            case rel => exact ⟨K + 1, us, A3, c3, X3, d3, by go_num, rfl, by omega, hu3, hr3, hx3, hap3, hbel3⟩
          | true =>
            rcases us with _ | ⟨u, us⟩
            · go_wp2_with fail
              refine (rs_pop_none _ _ _ _ _ _ _ hr3).mono ?_
              rintro e w4 ⟨rfl, A4, c4, hr4, hc4, hf4⟩
              have hbel4 := hbel3.trans (hc4.below (B := w.heap.size) (by omega) (fun j hj => hr3.foot_ge j hj))
              clear hcell
              go_wp2_with fail
              go_roundg (len - (K + 1))
              case measure => have := Hk.out; omega
              case rel =>
                refine ⟨K + 1, [], A4, c4, X3, d3, by go_num, rfl, by omega, by simp, hr4, hx3.chg hc4 hap3, ?_, hbel4⟩
                rintro j hj (rfl | h)
                · exact hap3 _ hj (.inl rfl)
                · rcases hf4 j h with e | e
                  · exact hap3 j hj (.inr e)
                  · have := (hx3.lt hj).2; omega
            · have hlen : (u :: us).length = us.length + 1 := rfl
              rw [hlen] at hr3 hx3 hu3 hx3c
              go_wp2_with fail
              refine (rs_pop_some _ _ _ _ _ _ _ _ hr3 texts_one (.string u) rfl (by omega) (by omega)).mono ?_
              rintro e w4 ⟨rfl, A4, c4, hr4, hc4, hf4⟩
              have hbel4 := hbel3.trans (hc4.below (B := w.heap.size) (by omega) (fun j hj => hr3.foot_ge j hj))
              have hx4 := hx3.chg hc4 hap3
              obtain ⟨g, o, hX3, _, _, hcx⟩ := hx4.spot (by omega)
              have hcx0 := hcx 0 (.string u) rfl
              have hx5 := hx4.tail (k := 1) (by omega)
              have hap4 : ∀ j, blkOf X3 = some j → ¬ Foot w.heap.size A4 j := by
                rintro j hj (rfl | h)
                · exact hap3 _ hj (.inl rfl)
                · rcases hf4 j h with e | e
                  · exact hap3 j hj (.inr e)
                  · have := (hx3.lt hj).2; omega
              have hsl := run_tail (P := Try.prog) 32 1 Try.underlying32 (fun _ => by kernel_rfl) X3 (us.length + 1) d3 1 (by omega)
              rw [show ((1 : Nat) : Int) = 1 from rfl] at hsl
              obtain ⟨X5, hX5⟩ : ∃ X5, X5 = cutAt X3 d3 1 1 := ⟨_, rfl⟩
              have hb5 : blkOf X5 = blkOf X3 := by
                rw [hX5]; unfold cutAt
                split
                · rfl
                · rw [hX3]; simp [blkOf, add_block]
              rw [← hX5] at hsl hx5
              have e1 : us.length + 1 - 1 = us.length := by omega
              rw [e1] at hsl hx5 hr4
              rw [hX3] at hsl
              simp only [List.map_cons, List.drop_one, List.tail_cons, Nat.one_mul] at hx5 hr4
              have HX := hide hX3
              have H5 := hide hb5
              rw [Nat.add_zero] at hcx0
              have hrw : Value.slice X3 (us.length + 1) d3 = Value.slice (some ⟨g, o, none⟩) (us.length + 1) d3 := by rw [hX3]
              clear hX5 hb5 hX3 e1 hcx hcell hx3 hx4
              rw [hrw]
              clear hrw
              go_wp2_with fail
              go_roundg (len - (K + 1))
              case measure => have := Hk.out; omega
              case rel => exact ⟨K + 1, us, A4, c4, X5, d3 - 1, by go_num, rfl, by omega, by omega, hr4, hx5, fun j hj => hap4 j (by rw [← H5.out]; exact hj), hbel4⟩
        · go_wp2_with fail
          go_roundg (len - (K + 1))
          case measure => have := Hk.out; omega
          case rel => exact ⟨K + 1, us, A3, c3, X3, d3, by go_num, rfl, by omega, hu3, hr3, hx3, hap3, hbel3⟩
    · have hK : K = len := by have := Hk.out; omega
      have hs1 := hbel.size
      have hxc := hx.2.1
      go_wp2_with fail
      refine (alive_true _).mono ?_
      rintro e w2 ⟨rfl, hb2⟩
      have hr2 : rsAt w2 w.heap.size w.heap.size A ts.length c (texts ts) R := hr.chg (Chg.of_below hb2) (fun j hj h => by have := hr.foot_lt j hj; omega)
      have hx2 := hx.chg (Chg.of_below hb2) (fun j hj h => by have := (hx.lt hj).2; omega)
      have hbel2 := hbel.trans (hb2.mono hs1)
      have hs2 := hb2.size
      go_wp2_with fail
      refine (rs_list_any _ _ _ _ _ _ _ _ hr2 texts_one).mono ?_
      rintro e w3 ⟨L, cl, rfl, hL, hc3⟩
      have hs3 := hc3.size
      have hr3 := hr2.chg hc3 (fun _ _ t => t)
      have hx3 := hx2.chg hc3 (fun _ _ t => t)
      have hbel3 := hbel2.trans (hc3.below (by omega) (fun _ t => t.elim))
      clear hr hr2 hx hx2
      go_wp2_with fail
      refine (s_same _ _ _ _ _ _ _ _ _ (Sees.of_own hL) hx3.sees (by omega)).mono ?_
      rintro e w4 ⟨rfl, q, rfl⟩
      go_wp2_with fail
      refine (rs_len_any _ _ _ _ _ _ _ _ (hr3.drewN q)).mono ?_
      rintro e w5 ⟨rfl, rfl⟩
      have hfit : (ts.length : Int) ≤ max k 0 := by have := HR.out; have := hr3.fits; omega
      have hend := hbel3.trans (((Chg.refl No w3).drewN q).below (B := w.heap.size) (by omega) (fun _ t => t.elim))
      rcases Int.lt_or_le k 0 with hk0 | hk0
      · obtain rfl : ts = [] := List.eq_nil_of_length_eq_zero (by omega)
        clear hfit hK
        go_wp2_with fail
        all_goals go_ret
        all_goals exact ⟨rfl, hend⟩
      · have hf0 : (ts.length : Int) ≤ k := by omega
        clear hfit hK
        go_wp2_with fail
        all_goals go_ret
        all_goals exact ⟨rfl, hend⟩
/-- No texts. -/
theorem main0 (k : Int) (cap plen pcap : Nat) (S T : Option Addr) (w : World) (hk : k ≤ 1000) (hp : plen ≤ 200) :
    Calls Try.prog 4 #[.int .i64 k, .slice S 0 cap, .slice T plen pcap] w fun e w' => e = .returned (.bool true) ∧ Below w.heap.size w w' := by
  have h2 : (plen : Int) ≤ 200 := by omega
  go_enter Try.func4, Try.ntmps4
  go_wp2_with fail
  refine (rs_new_any _ _).mono ?_
  rintro e w1 ⟨rfl, hr1, hc1, hs1⟩
  go_wp2_with fail
  refine wp_loop_rounds 1 ?_
  rw [rounds_succ]
  go_wp2_with fail
  refine (alive_true _).mono ?_
  rintro e w2 ⟨rfl, hb2⟩
  have hr2 : rsAt w2 w.heap.size w.heap.size none 0 0 [] (roomOf k) := hr1.chg (Chg.of_below hb2) (fun j hj h => by have := hr1.foot_lt j hj; omega)
  have hbel2 := (hc1.below (B := w.heap.size) (Nat.le_refl _) (fun _ t => t.elim)).trans (hb2.mono (by omega))
  have hs2 := hbel2.size
  go_wp2_with fail
  refine (rs_list_any _ _ _ _ _ _ _ _ hr2 (by simp)).mono ?_
  rintro e w3 ⟨L, cl, rfl, hL, hc3⟩
  have hr3 := hr2.chg hc3 (fun _ _ t => t)
  have hbel3 := hbel2.trans (hc3.below (by omega) (fun _ t => t.elim))
  have hs3 := hc3.size
  go_wp2_with fail
  refine (s_same _ _ _ _ _ _ _ _ [] (Sees.of_own hL) (Sees.nil _ 0 _ _) (by omega)).mono ?_
  rintro e w4 ⟨rfl, q, rfl⟩
  go_wp2_with fail
  refine (rs_len_any _ _ _ _ _ _ _ _ (hr3.drewN q)).mono ?_
  rintro e w5 ⟨rfl, rfl⟩
  have hend := hbel3.trans (((Chg.refl No w3).drewN q).below (B := w.heap.size) (by omega) (fun _ t => t.elim))
  rcases Int.lt_or_le k 0 with hk0 | hk0
  · go_wp2_with fail
    all_goals go_ret
    all_goals exact ⟨rfl, hend⟩
  · go_wp2_with fail
    all_goals go_ret
    all_goals exact ⟨rfl, hend⟩

theorem out (k : Int) (len cap plen pcap : Nat) (S T : Option Addr) (w : World) (h : (100 : Int) < len ∨ ((len : Int) ≤ 100 ∧ (200 : Int) < plen) ∨ ((len : Int) ≤ 100 ∧ (plen : Int) ≤ 200 ∧ 1000 < k)) :
    Calls Try.prog 4 #[.int .i64 k, .slice S len cap, .slice T plen pcap] w fun e w' => e = .returned (.bool true) ∧ Below w.heap.size w w' := by
  rcases h with h | ⟨h0, h⟩ | ⟨h0, h1, h⟩
  all_goals
    go_enter Try.func4, Try.ntmps4
    go_wp2_with (go_at_call 10; refine (alive_true _).mono ?_; rintro e w' ⟨rfl, hb⟩)
    all_goals go_ret
    all_goals exact ⟨rfl, hb⟩
end Go.Proofs.Ytinklonbkhmpdaa.ringTexts
