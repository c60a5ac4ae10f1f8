/-
  Send: what goes, and what is lost.
-/
import Derived.Test.YtipdeacaehbbfaaNet
namespace Go.Proofs.Ytipdeacaehbbfaa
open Go.RowKit
set_option linter.unusedSimpArgs false

/-- One packet is sent: it is lost where its ends are cut from each other, or there is no room. -/
def sendOne (ks : List (Int × Int)) (L : List Pk) (x : Pk) : List Pk := if endsOf x.fr x.to ∈ ks then L else if L.length < 900 then L ++ [x] else L
def sendAll (ks : List (Int × Int)) (L ys : List Pk) : List Pk := ys.foldl (sendOne ks) L
theorem sendAll_snoc (ks : List (Int × Int)) (L ys : List Pk) (x : Pk) : sendAll ks L (ys ++ [x]) = sendOne ks (sendAll ks L ys) x := by
  unfold sendAll
  rw [List.foldl_append]
  rfl
theorem sendOne_len (ks : List (Int × Int)) (L : List Pk) (x : Pk) : L.length ≤ (sendOne ks L x).length ∧ (sendOne ks L x).length ≤ L.length + 1 := by
  unfold sendOne
  split
  · omega
  · split
    · simp
    · omega
theorem sendAll_len (ks : List (Int × Int)) (ys : List Pk) : ∀ L, L.length ≤ (sendAll ks L ys).length ∧ (sendAll ks L ys).length ≤ L.length + ys.length := by
  induction ys with
  | nil => intro L; simp [sendAll]
  | cons y ys ih =>
    intro L
    have h1 := ih (sendOne ks L y)
    have h2 := sendOne_len ks L y
    have e : sendAll ks L (y :: ys) = sendAll ks (sendOne ks L y) ys := rfl
    rw [e, List.length_cons]
    omega
abbrev wfPk (y : Pk) : Prop := (Lit.int .i64 y.fr).wf = true ∧ (Lit.int .i64 y.to).wf = true ∧ y.data.size ≤ 281474976710656

/-- So many have been looked at. -/
def Sending (w : World) (B q p : Nat) (F : Nat → Prop) (C : Option Nat) (L ys : List Pk) (ks : List (Int × Int)) (k : Nat) (s i : Value) (wr : World) : Prop :=
  ∃ K A c L', i = .int .i64 ((K : Nat) : Int) ∧ K + k = ys.length ∧ L' = sendAll ks L (ys.take K) ∧ s = .int .i64 ((L'.length : Int) - L.length) ∧ NetR wr B q p A c L' C ks ∧ Went F (NFoot q p A C) w wr

set_option maxHeartbeats 4000000 in
set_option maxRecDepth 100000 in
theorem net_send (w : World) (B q : Nat) (F : Nat → Prop) (L : List Pk) (ks : List (Int × Int)) (h : NetAt w B q F L ks) (hB : B ≤ w.heap.size) (X : Option Addr) (d : Nat) (ys : List Pk)
    (hX : Sees w w.heap.size 3 X ys.length (flat ys)) (hXF : ∀ j, blkOf X = some j → ¬ F j) (hy : ∀ y ∈ ys, wfPk y) (hyl : ys.length ≤ 100000) :
    Calls Try.prog 11 #[.pointer (some ⟨q, 0, none⟩), .slice X ys.length d] w fun e w' => e = .returned (.int .i64 (((sendAll ks L ys).length : Int) - L.length)) ∧ ∃ F', NetAt w' B q F' (sendAll ks L ys) ks ∧ Went F F' w w' := by
  obtain ⟨m, hm⟩ : ∃ m, m = ys.length := ⟨_, rfl⟩
  have hmi : (m : Int) ≤ 100000 := by omega
  rw [← hm] at hX ⊢
  have Hm := hide hm
  have Hy := hide hy
  clear hm hyl hy
  go_enter Try.func11, Try.ntmps11
  go_wp2_with fail
  refine (net_list _ B q F L ks h hB).mono ?_
  rintro e w1 ⟨p, A, c, C, rfl, hr1, hw1⟩
  go_wp2_with fail
  go_loopg [6, 17] m (fun k s i wr => Sending w B q p F C L ys ks k s i wr)
  case atStart => exact ⟨0, A, c, L, rfl, by have := Hm.out; omega, by simp [sendAll], by simp, hr1, hw1⟩
  case round =>
    clear hr1 hw1
    obtain ⟨K, A', c', L', rfl, hk, hL', rfl, hr, hw⟩ := hrel
    have Hk := hide hk
    have HL := hide hL'
    clear hk hL'
    have hBr := Nat.le_trans hB hw.chg.size
    by_cases hK : K < m
    · obtain ⟨y, hyk⟩ : ∃ y, ys[K]? = some y := ⟨_, List.getElem?_eq_getElem (by rw [← Hm.out]; exact hK)⟩
      obtain ⟨gx, ox, rfl, hgl, hcx⟩ := hX.spot (by omega) (by omega)
      obtain ⟨e0, e1, e2⟩ := flat_get hyk
      have hgF : ¬ F gx := hXF gx rfl
      have cell := fun j u (hu : (flat ys)[j]? = some u) => (hw.chg.cell (p := ⟨gx, ox + j, none⟩) hgl hgF).trans (hcx j u hu)
      have d0 := cell _ _ e0
      have d1 := cell _ _ e1
      have d2 := cell _ _ e2
      have hyw := Hy.out y (List.mem_of_getElem? hyk)
      have Hyw := hide hyw
      have htk : ys.take (K + 1) = ys.take K ++ [y] := by rw [List.take_add_one, hyk]; rfl
      have Htk := hide htk
      have hKi : (K : Int) < m := by omega
      clear cell hcx e0 e1 e2 htk hyw hyk
      rw [show ox + (K * 3 + 1) = ox + K * 3 + 1 by omega] at d1
      rw [show ox + (K * 3 + 2) = ox + K * 3 + 2 by omega] at d2
      go_upto_region 8 with fail
      obtain ⟨w2, hw2⟩ : ∃ w2, w2 = wr.alloc (.cells #[.int .i64 y.fr, .int .i64 y.to, .string y.data] 45) := ⟨_, rfl⟩
      have hc2 : Chg No wr w2 := by rw [hw2]; exact (Chg.refl No wr).alloc _
      have hby : Blk w2 wr.heap.size 45 #[.int .i64 y.fr, .int .i64 y.to, .string y.data] := by rw [hw2]; exact Blk.new _ _ _
      rw [← hw2]
      obtain ⟨gy, hgy⟩ : ∃ gy, gy = wr.heap.size := ⟨_, rfl⟩
      rw [← hgy] at hby ⊢
      have hgN : ¬ NFoot q p A' C gy := fun t => by have := hr.lt _ t; omega
      have hgw : w.heap.size ≤ gy := by have := hw.chg.size; omega
      have hr2 := hr.chg hc2 (fun _ _ t => t)
      have hw02 := hw.trans (Went.no hc2)
      clear hw2 hgy hr hw hc2 d0 d1 d2
      go_cut [10] (fun v wx => v = .bool (decide (endsOf y.fr y.to ∈ ks)) ∧ Chg No w2 wx)
      case first =>
        obtain ⟨k0, k1⟩ := net_cells hr2.blk
        obtain ⟨d0, d1, d2, _, _, _⟩ := pk_there hby
        have hcu := hr2.cuts
        have Hwf := hide (ends_wf Hyw.out.1 Hyw.out.2.1)
        have Hcu := hide hcu
        have Hby := hide hby
        have Hbl := hide hr2.blk
        clear hr2 hw02 hcu hby
        go_region_held3 (fun w' => w'.cell? ⟨q, 1, none⟩ = some (.map C) ∧ w'.cell? ⟨gy, 0, none⟩ = some (.int .i64 y.fr) ∧ w'.cell? ⟨gy, 1, none⟩ = some (.int .i64 y.to)) (first | exact ⟨x1, x2, x3⟩ | exact ⟨k1, d0, d1⟩ | go_keep) (first
          | (go_at_call 31; refine (ends_any _ _ _).mono ?_; rintro e w3 ⟨rfl, hc3'⟩; have hc3 : Chg No w2 w3 := (by first | exact ⟨hc3'.os, hc3'.tape, hc3'.output, hc3'.size, hc3'.block⟩ | exact (((Chg.refl No w2).alloc _).drew).trans hc3' (fun _ _ t => t)); obtain ⟨x2, x3, _, _, _, _⟩ := pk_there (Hby.out.chg hc3 (fun t => t)); have x1 := (net_cells (Hbl.out.chg hc3 (fun t => t))).2; have hlk := cut_look (Hcu.out.chg hc3 (fun _ _ t => t)) (endsOf y.fr y.to) Hwf.out; have hlk2 := cut_look (Hcu.out.chg (hc3.alloc (.cells #[] 62)) (fun _ _ t => t)) (endsOf y.fr y.to) Hwf.out))
        all_goals
          go_wp2_with fail
          go_meet
          case rel => exact ⟨rfl, by first | with_reducible exact hc3.alloc _ | with_reducible exact hc3⟩
      case rest =>
        obtain ⟨rfl, hc3⟩ := hcut
        have hr3 := hr2.chg hc3 (fun _ _ t => t)
        have hw03 := hw02.trans (Went.no hc3)
        have hby3 := hby.chg hc3 (fun t => t)
        clear hr2 hw02 hc3 hby
        by_cases hin : endsOf y.fr y.to ∈ ks
        · have hd : decide (endsOf y.fr y.to ∈ ks) = true := decide_eq_true hin
          have hs : sendAll ks L (ys.take (K + 1)) = L' := by rw [Htk.out, sendAll_snoc, ← HL.out]; unfold sendOne; rw [if_pos hin]
          rw [hd]
          have Hs := hide hs
          clear hd hs hin
          go_wp2_with fail
          go_roundg (m - (K + 1))
          case measure => have := Hk.out; have := Hm.out; omega
          case rel => exact ⟨K + 1, A', c', L', by go_num, by have := Hm.out; omega, Hs.out.symm, rfl, hr3, hw03⟩
        · have hd : decide (endsOf y.fr y.to ∈ ks) = false := decide_eq_false hin
          rw [hd]
          have Hin := hide hin
          clear hd hin
          obtain ⟨n1, hn⟩ : ∃ n1, n1 = min 1 (900 - L'.length) := ⟨_, rfl⟩
          have hs : sendAll ks L (ys.take (K + 1)) = L' ++ [y].take n1 := by
            rw [Htk.out, sendAll_snoc, ← HL.out]
            unfold sendOne
            rw [if_neg Hin.out]
            by_cases hl : L'.length < 900
            · obtain rfl : n1 = 1 := by omega
              rw [if_pos hl]
              rfl
            · obtain rfl : n1 = 0 := by omega
              rw [if_neg hl]
              simp
          have hnl : (L' ++ [y].take n1).length = L'.length + n1 := by simp; omega
          have Hs := hide hs
          have Hn := hide hn
          have Hnl := hide hnl
          clear hs hn hnl
          obtain ⟨d0, d1, d2, _, _, g2⟩ := pk_there hby3
          go_wp2_with fail
          refine (clone_any _ _ Hyw.out.2.2).mono ?_
          rintro e w4 ⟨rfl, hc4⟩
          have hr4 := hr3.chg hc4 (fun _ _ t => t)
          have hw04 := hw03.trans (Went.no hc4)
          have hby4 := hby3.chg hc4 (fun t => t)
          clear hr3 hw03 hby3 hc4 d0 d1 d2 g2
          obtain ⟨d0, d1, d2, _, _, g2⟩ := pk_there hby4
          go_upto_region 11 with fail
          have hby5 : Blk (w4.setCell ⟨gy, 2, none⟩ (.string y.data)) gy 45 #[.int .i64 y.fr, .int .i64 y.to, .string y.data] := hby4.store 2 (.string y.data)
          have hc5 : Chg (fun k => k = gy) w4 (w4.setCell ⟨gy, 2, none⟩ (.string y.data)) := (Chg.refl (fun k => k = gy) w4).setCell (p := ⟨gy, 2, none⟩) (fun _ => rfl) _
          obtain ⟨w5, hw5⟩ : ∃ w5, w5 = w4.setCell ⟨gy, 2, none⟩ (.string y.data) := ⟨_, rfl⟩
          rw [← hw5] at hby5 hc5 ⊢
          have hr5 := hr4.chg hc5 (fun k hk e => by subst e; exact hgN hk)
          have hw05 := hw04.new hc5 (fun k e => by rw [e]; exact hgw)
          clear hw5 hr4 hw04 hby4 hc5 d0 d1 d2 g2
          obtain ⟨d0, d1, d2, _, _, _⟩ := pk_there hby5
          have hB5 := Nat.le_trans hB hw05.chg.size
          have hfit := hr5.ring.fits
          have hlL : L.length ≤ L'.length := by rw [HL.out]; exact (sendAll_len ks _ L).1
          have hn1 : n1 ≤ 1 := by have := Hn.out; omega
          go_wp2_with fail
          refine (push_one _ B p c' A' L' y (hr5.ring.alloc _) _ (Sees.of_blk (cs := #[.int .i64 y.fr, .int .i64 y.to, .string y.data]) (Blk.new _ _ _) rfl) (by simp; omega) n1 Hn.out).mono ?_
          rintro e w6 ⟨rfl, hm6'⟩
          have hm6 : Moved 71 45 3 w5 w6 B p A' (L' ++ [y].take n1).length (flat (L' ++ [y].take n1)) 900 := hm6'.of_chg ((Chg.refl No w5).alloc _)
          obtain ⟨A6, c6, hr6, hw6⟩ := hr5.turn hm6
          have hw06 := hw05.trans hw6
          have hgoal : ((L'.length : Int) - L.length) + n1 = ((L' ++ [y].take n1).length : Int) - L.length := by rw [Hnl.out]; omega
          have Hgoal := hide hgoal
          clear hgoal
          go_wp2_with fail
          go_roundg (m - (K + 1))
          case measure => have := Hk.out; have := Hm.out; omega
          case rel => exact ⟨K + 1, A6, c6, _, by go_num, by have := Hm.out; omega, Hs.out.symm, by rw [Hgoal.out], hr6, hw06⟩
    · have hKm : K = ys.length := by have := Hk.out; have := Hm.out; omega
      have hall : ys.take K = ys := List.take_of_length_le (by omega)
      have hL2 := HL.out
      rw [hall] at hL2
      subst hL2
      clear hKm hall
      go_wp2_with fail
      go_ret
      exact ⟨rfl, _, hr.at_, hw⟩
end Go.Proofs.Ytipdeacaehbbfaa
