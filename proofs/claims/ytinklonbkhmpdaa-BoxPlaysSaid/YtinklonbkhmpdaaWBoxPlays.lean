/-
  The walk of BoxPlays.
-/
import Derived.Test.YtinklonbkhmpdaaBoxSt
import Derived.Test.YtinklonbkhmpdaaRefRoom
import Derived.Deep.LoopGhost
import Derived.Deep.DeepCutAuto
import Derived.Deep.CutBlock
import Derived.Deep.RegionLaw
import Derived.BigRegion
namespace Go.Proofs.Ytinklonbkhmpdaa.boxPlays
open Go.RowKit
set_option linter.unusedSimpArgs false

theorem Try.info3 : (Try.prog.info? 3).map (fun i => (i.zero, i.size, i.bytes)) = some (some (.int .i64 0), 1, 8) := by kernel_rfl

theorem _root_.Go.Proofs.Ytinklonbkhmpdaa.Lies.lower {w : World} {B B' size n c : Nat} {A : Option Addr} {xs : List Value} (h : Lies w B size A n c xs) (hB : B' ≤ B) : Lies w B' size A n c xs := by
  refine ⟨h.1, h.2.1, h.2.2.1, ?_⟩
  rcases h.2.2.2 with h0 | ⟨g, o, e, hb, r⟩
  · exact .inl h0
  · exact .inr ⟨g, o, e, Nat.le_trans hB hb, r⟩

/-- Two appends, one behind the other, onto nil: all is new. -/
theorem boxed_send_a {w2 w4 w5 : World} {E T : TypeId} {n n2 c1 c2 : Nat} {A1 A2 : Option Addr} {xs ys : List Value} {cs : Array Value} (h1 : Grew w2.drew w2.heap.size E 1 none n xs A1 c1 w4) (h4c : Chg No w2 w4) (h2 : Grew (w4.alloc (.cells cs T)) w2.heap.size E 1 A1 n2 ys A2 c2 w5) : Chg No w2 w5 :=
  (h4c.alloc _).trans h2.chg (fun i hi hs => by have := (own_lt h1.own hs).1; omega)
theorem boxed_send_b {w2 w4 : World} {E T : TypeId} {n c1 : Nat} {A1 : Option Addr} {xs : List Value} {cs : Array Value} (h1 : Grew (w2.drew.alloc (.cells cs T)) w2.heap.size E 1 none n xs A1 c1 w4) : Chg No w2 w4 ∧ Blk w4 w2.heap.size T cs := by
  have h0 : Chg No (w2.drew.alloc (.cells cs T)) w4 := h1.chg.mono (by simp [blkOf])
  refine ⟨((Chg.refl No w2).drew.alloc _).trans h0 (fun _ _ t => t), ?_⟩
  exact (Blk.new w2.drew T cs).chg h0 (fun t => t)
theorem boxed_send_c {w2 w4 w5 : World} {E T : TypeId} {n n2 c1 c2 : Nat} {A1 A2 : Option Addr} {xs ys : List Value} {cs : Array Value} (h1 : Grew (w2.drew.alloc (.cells cs T)) w2.heap.size E 1 none n xs A1 c1 w4) (h4c : Chg No w2 w4) (h2 : Grew w4 w2.heap.size E 1 A1 n2 ys A2 c2 w5) : Chg No w2 w5 :=
  h4c.trans h2.chg (fun i hi hs => by have := (own_lt h1.own hs).1; omega)

set_option maxHeartbeats 2000000 in
set_option maxRecDepth 100000 in
theorem main (k : Int) (zero : Bool) (len cap_ : Nat) (L : Option Addr) (l : List Int) (w : World) (hl : len ≤ 100) (hll : l.length = len) (hX : 0 < len → ∃ b off, L = some ⟨b, off, none⟩ ∧ b < w.heap.size ∧ ∀ i z, l[i]? = some z → w.cell? ⟨b, off + i, none⟩ = some (.int .i64 z)) :
    Calls Try.prog 7 #[.int .i64 k, .bool zero, .slice L len cap_] w fun e w' => e = .returned (.bool true) ∧ Below w.heap.size w w' := by
  have h1 : (len : Int) ≤ 100 := by omega
  obtain ⟨i0, hi0, hz0, hz1, hz2⟩ := info_parts Try.info3
  have HX := hide hX
  have Hl := hide hll
  clear hX hll
  go_enter Try.func7, Try.ntmps7
  go_upto_if 20 with fail
  go_cut [0] (fun s wx => ∃ k' : Int, s = .int .i64 k' ∧ k' ≤ 300 ∧ w = wx)
  case first =>
    rcases Int.lt_or_le 300 k with hk | hk
    · go_wp2
      go_meet
      case rel => exact ⟨300, rfl, by omega, rfl⟩
    · go_wp2
      go_meet
      case rel => exact ⟨k, rfl, hk, rfl⟩
  case rest =>
    obtain ⟨k', rfl, hk', rfl⟩ := hcut
    have hR : roomOf k' ≤ 300 := by unfold roomOf; omega
    obtain ⟨M0, hM0⟩ : ∃ M0, M0 = roomOf k' := ⟨_, rfl⟩
    rw [← hM0] at hR
    have HM := hide hM0
    clear hM0
    go_wp2_with fail
    refine (box_new _ _).mono ?_
    rintro e w1 ⟨rfl, hb1, hc1, hs1⟩
    rw [← HM.out] at hb1
    go_wp2_with fail
    refine (ref_room _ _).mono ?_
    rintro e w2 ⟨rfl, rfl⟩
    rw [← HM.out]
    have hbel1 := hc1.below (B := w.heap.size) (Nat.le_refl _) (fun _ t => t.elim)
    go_upto_if 25 with fail
    go_cut [7, 8] (fun s7 s8 wx => ∃ g c M : Nat, s7 = .pointer (some ⟨g, 0, none⟩) ∧ s8 = .int .i64 (M : Int) ∧ M ≤ 300 ∧ Bx wx w.heap.size zero g c M [] false ∧ Below w.heap.size w wx)
    case first =>
      cases zero with
      | true =>
        go_wp2
        go_meet
        case rel =>
          exact ⟨w1.heap.size, w1.heap.size, 0, rfl, rfl, by omega, .inl ⟨rfl, ⟨Blk.new _ _ _, by omega⟩, rfl, rfl, rfl⟩, hbel1.trans (((Chg.refl No w1).alloc _).below (by omega) (fun _ t => t.elim))⟩
      | false =>
        go_wp2
        go_meet
        case rel => exact ⟨w.heap.size + 1, w.heap.size, M0, rfl, rfl, hR, .inr ⟨rfl, hb1⟩, hbel1⟩
    case rest =>
      clear hb1 hbel1 hc1 hs1 HM hR M0
      obtain ⟨g, c, M, rfl, rfl, hM, hbx, hbel⟩ := hcut
      have hMi : (M : Int) ≤ 300 := by omega
      go_wp2_with fail
      go_loopg [9, 10, 11] len (fun k x cl i wr => BPlays w zero g c M len k x cl i wr)
      case atStart => exact ⟨0, none, 0, [], false, rfl, rfl, rfl, by omega, ⟨hbx, Lies.nil _ _ _, by simp [blkOf], hbel⟩⟩
      case round =>
        clear hbx hbel
        obtain ⟨K, X, d, xs, cl, rfl, rfl, rfl, hk, hst⟩ := hrel
        have Hk := hide hk
        clear hk
        by_cases hK : K < len
        · obtain ⟨b, off, rfl, hb, hc⟩ := HX.out (by omega)
          obtain ⟨z, hz⟩ : ∃ z, l[K]? = some z := ⟨_, List.getElem?_eq_getElem (by rw [Hl.out]; exact hK)⟩
          have hz' := (hst.below.cell (p := ⟨b, off + K, none⟩) hb).trans (hc K z hz)
          clear hc hz
          have hKi : (K : Int) < len := by omega
          go_upto_block 2 with fail
          go_cut [9, 10] (fun x cl wx => BDone w zero g c M x cl wx)
          case first =>
            obtain ⟨b1, q1⟩ : ∃ b1, (bits BinOp.and IntKind.i64 z 3 == 3) = b1 := ⟨_, rfl⟩
            obtain ⟨b2, q2⟩ : ∃ b2, (bits BinOp.and IntKind.i64 z 64 != 0) = b2 := ⟨_, rfl⟩
            obtain ⟨b3, q3⟩ : ∃ b3, (bits BinOp.and IntKind.i64 z 1 == 1) = b3 := ⟨_, rfl⟩
            by_cases hb12 : b1 = true ∧ b2 = true
            · obtain ⟨rfl, rfl⟩ := hb12
              as_aux_lemma =>
              cases zero <;> cases cl
              all_goals
                go_wp2_with fail
                refine (bx_close _ _ _ _ _ _ _ _ hst.box).mono ?_
                rintro e w2 ⟨rfl, hb2, hc2⟩
                obtain ⟨hx2, hbel2⟩ := hst.turn hc2
                simp only [Bool.not_false, Bool.not_true, Bool.and_self, Bool.and_false, Bool.false_and, Bool.and_true]
                go_wp2_with fail
                go_meet
                case rel => exact ⟨X, d, xs, true, rfl, rfl, ⟨hb2, hx2, hst.apart, hbel2⟩⟩
            · have q12 : b1 = false ∨ (b1 = true ∧ b2 = false) := by cases b1 <;> cases b2 <;> simp at hb12 ⊢
              clear hb12
              cases b3 with
              | true =>
                as_aux_lemma =>
                rcases xs with _ | ⟨x, xs⟩
                · rcases q12 with rfl | ⟨rfl, rfl⟩
                  all_goals
                    go_wp2_with fail
                    refine (bx_take_none _ _ _ _ _ _ _ hst.box).mono ?_
                    rintro e w2 ⟨rfl, rfl⟩
                    go_wp2_with fail
                    go_meet
                    case rel => exact ⟨X, d, [], cl, rfl, rfl, hst⟩
                · have hlen : (x :: xs).length = xs.length + 1 := rfl
                  have hx := hst.x
                  rw [hlen] at hx
                  rw [hlen]
                  obtain ⟨gx, ox, rfl, hgx, _, hcx⟩ := hx.spot (by omega)
                  have hcx0 := hcx 0 (.int .i64 x) rfl
                  have hxn : blkOf (some (⟨gx, ox, none⟩ : Addr)) = some gx := rfl
                  have hxt := hx.tail (k := 1) (by omega)
                  have hsl := run_tail (P := Try.prog) 22 3 1 Try.underlying22 i0 hi0 hz1 (some ⟨gx, ox, none⟩) (xs.length + 1) d 1 (by omega)
                  rw [show ((1 : Nat) : Int) = 1 from rfl] at hsl
                  obtain ⟨X5, hX5⟩ : ∃ X5, X5 = cutAt (some ⟨gx, ox, none⟩) d 1 1 := ⟨_, rfl⟩
                  have hb5 : blkOf X5 = some gx := by
                    rw [hX5]; unfold cutAt
                    split
                    · rfl
                    · simp [blkOf, add_block]
                  rw [← hX5] at hsl hxt
                  rw [Nat.add_sub_cancel] at hsl hxt
                  simp only [List.map_cons, List.drop_one, List.tail_cons, Nat.one_mul] at hxt
                  rw [Nat.add_zero] at hcx0
                  have hdc := hx.2.1
                  have H5 := hide hb5
                  have Hxt := hide hxt
                  clear hX5 hb5 hcx hxn hxt hx
                  rcases q12 with rfl | ⟨rfl, rfl⟩
                  all_goals
                    go_wp2_with fail
                    refine (bx_take_some _ _ _ _ _ _ _ _ _ hst.box).mono ?_
                    rintro e w2 ⟨rfl, hb2, hc2⟩
                    obtain ⟨_, hbel2⟩ := hst.turn hc2
                    have hxt2 := Hxt.out.chg hc2 (fun j hj => hst.apart j (by rw [H5.out] at hj; exact hj))
                    have hcx2 := (hc2.cell (p := ⟨gx, ox, none⟩) (World.block_lt_of_cell? wr _ hcx0) (hst.apart gx rfl)).trans hcx0
                    go_wp2_with fail
                    go_meet
                    case rel => exact ⟨X5, d - 1, xs, cl, rfl, rfl, ⟨hb2, hxt2, fun j hj => hst.apart j (by rw [H5.out] at hj; exact hj), hbel2⟩⟩
              | false =>
                as_aux_lemma =>
                have hfit := hst.box.fits
                by_cases hcan : cl = false ∧ xs.length < M
                · obtain ⟨rfl, hroom⟩ := hcan
                  have hri : (xs.length : Int) < M := by omega
                  have hxm := hst.x.2.1
                  rcases q12 with rfl | ⟨rfl, rfl⟩
                  all_goals
                    go_wp2_with fail
                    refine (bx_send_yes _ _ _ _ _ _ _ z hst.box hroom).mono ?_
                    rintro e w2 ⟨rfl, hb2, hc2⟩
                    obtain ⟨hx2, hbel2⟩ := hst.turn hc2
                    have hzw := (hbel2.cell (p := ⟨b, off + K, none⟩) hb).trans ((hst.below.cell (p := ⟨b, off + K, none⟩) hb).symm.trans hz')
                    have hbz := Nat.lt_of_lt_of_le hb hbel2.size
                    clear hz' hc2
                    go_wp2_with fail
                    go_region_law (first
                      | (refine step_append_sees _ rfl (.const (.slice none 0 0)) (.tmp 53) 22 rfl w2.heap.size 3 i0 (.int .i64 0) 1 8 Try.underlying22 hi0 hz0 hz1 hz2 rfl (by decide) none 0 0 [] rfl (World.ownsRow_nil _ _ _ _) _ X xs.length d (nums xs) rfl (show Sees w2.drew w2.heap.size 1 X xs.length (nums xs) from hx2.sees) ints_one (by unfold maxLen; omega) (by omega) (Nat.le_refl _) ?_; intro X4 d4 w4 hg1; rw [Nat.zero_add, List.nil_append] at hg1; have h4c : Chg No w2 w4 := ⟨hg1.by_.os, hg1.by_.tape, hg1.by_.output, hg1.by_.size, fun k hk _ => hg1.by_.block k hk (by simp [blkOf])⟩; have hz4 := (h4c.cell (p := ⟨b, off + K, none⟩) hbz (fun t => t)).trans hzw)
                      | (refine step_append_sees _ rfl (.tmp 54) (.tmp 59) 22 rfl w2.heap.size 3 i0 (.int .i64 0) 1 8 Try.underlying22 hi0 hz0 hz1 hz2 rfl (by decide) X4 xs.length d4 (nums xs) rfl (own_chg hg1.own ((Chg.refl No w4).alloc _) (fun _ _ t => t)) _ (some ⟨w4.heap.size, 0, none⟩) 1 1 [.int .i64 z] rfl (Sees.of_blk (cs := #[.int .i64 z]) (Blk.new _ _ _) rfl) (by simp [Value.oneCell']) (by unfold maxLen; omega) (by omega) (by have := h4c.size; simp; omega) ?_; intro X5 d5 w5 hg2; have h5c := boxed_send_a hg1 h4c hg2)
                      | (refine step_append_sees _ rfl (.const (.slice none 0 0)) (.tmp 53) 22 rfl w2.heap.size 3 i0 (.int .i64 0) 1 8 Try.underlying22 hi0 hz0 hz1 hz2 rfl (by decide) none 0 0 [] rfl (World.ownsRow_nil _ _ _ _) _ X xs.length d (nums xs) rfl (show Sees (w2.drew.alloc (.cells #[.int .i64 z] 3)) _ 1 X xs.length (nums xs) from (hx2.chg ((Chg.refl No w2).alloc _) (fun _ _ t => t)).sees) ints_one (by unfold maxLen; omega) (by omega) (by simp) ?_; intro X4 d4 w4 hg1; rw [Nat.zero_add, List.nil_append] at hg1; obtain ⟨h4c, hbz4⟩ := boxed_send_b hg1)
                      | (refine step_append_sees _ rfl (.tmp 54) (.tmp 59) 22 rfl w2.heap.size 3 i0 (.int .i64 0) 1 8 Try.underlying22 hi0 hz0 hz1 hz2 rfl (by decide) X4 xs.length d4 (nums xs) rfl hg1.own _ (some ⟨w2.heap.size, 0, none⟩) 1 1 [.int .i64 z] rfl (Sees.of_blk (cs := #[.int .i64 z]) hbz4 rfl) (by simp [Value.oneCell']) (by unfold maxLen; omega) (by omega) h4c.size ?_; intro X5 d5 w5 hg2; have h5c := boxed_send_c hg1 h4c hg2))
                    all_goals
                      go_wp2_with fail
                      have hb6 := hb2.chg h5c (fun _ _ t => t)
                      have hbel6 := hbel2.trans (h5c.below hbel2.size (fun _ t => t.elim))
                      have ho6 := hg2.own
                      have hap6 : ∀ j, blkOf X5 = some j → ¬ BFoot g c j := fun j hj hf => by have := (own_lt ho6 hj).1; have := hb2.lt j hf; omega
                      have hx6 : Lies w5 w.heap.size 1 X5 (xs ++ [z]).length d5 (nums (xs ++ [z])) := by
                        have e1 : (xs ++ [z]).length = xs.length + 1 := by simp
                        have e2 : nums (xs ++ [z]) = nums xs ++ [.int .i64 z] := by simp [nums]
                        rw [e1, e2]
                        exact (Lies.of_own ho6).lower hbel2.size
                      go_meet
                      case rel => exact ⟨X5, d5, xs ++ [z], false, by simp, rfl, ⟨hb6, hx6, hap6, hbel6⟩⟩
                · have hno : cl = true ∨ (cl = false ∧ M ≤ xs.length) := by cases cl <;> simp at hcan ⊢; exact hcan
                  clear hcan
                  have hxm := hst.x.2.1
                  rcases hno with rfl | ⟨rfl, hfull⟩
                  · rcases q12 with rfl | ⟨rfl, rfl⟩
                    all_goals
                      go_wp2_with fail
                      refine (bx_send_no _ _ _ _ _ _ _ _ z hst.box (.inl rfl)).mono ?_
                      rintro e w2 ⟨rfl, hb2, hc2⟩
                      obtain ⟨hx2, hbel2⟩ := hst.turn hc2
                      go_wp2_with fail
                      go_meet
                      case rel => exact ⟨X, d, xs, true, rfl, rfl, ⟨hb2, hx2, hst.apart, hbel2⟩⟩
                  · have hfi : ¬ ((xs.length : Int) < M) := by omega
                    rcases q12 with rfl | ⟨rfl, rfl⟩
                    all_goals
                      go_wp2_with fail
                      refine (bx_send_no _ _ _ _ _ _ _ _ z hst.box (.inr hfull)).mono ?_
                      rintro e w2 ⟨rfl, hb2, hc2⟩
                      obtain ⟨hx2, hbel2⟩ := hst.turn hc2
                      go_wp2_with fail
                      go_meet
                      case rel => exact ⟨X, d, xs, false, rfl, rfl, ⟨hb2, hx2, hst.apart, hbel2⟩⟩
          case rest =>
            clear hst hz'
            obtain ⟨X1, d1, xs1, cl1, rfl, rfl, hst1⟩ := hcut
            go_wp2_with fail
            refine (bx_len _ _ _ _ _ _ _ _ hst1.box).mono ?_
            rintro e w2 ⟨rfl, rfl⟩
            go_wp2_with fail
            go_roundg (len - (K + 1))
            case measure => have := Hk.out; omega
            case rel => exact ⟨K + 1, X1, d1, xs1, cl1, rfl, rfl, by go_num, by omega, hst1⟩
        · obtain rfl : K = len := by have := Hk.out; omega
          have hbel := hst.below
          go_wp2_with fail
          refine (boxed_true _).mono ?_
          rintro e w2 ⟨rfl, hc2⟩
          go_wp2_with fail
          go_ret
          exact ⟨rfl, hbel.trans (hc2.below hbel.size (fun _ t => t.elim))⟩

theorem out (k : Int) (zero : Bool) (len cap_ : Nat) (L : Option Addr) (w : World) (h : (100 : Int) < len) :
    Calls Try.prog 7 #[.int .i64 k, .bool zero, .slice L len cap_] w fun e w' => e = .returned (.bool true) ∧ Below w.heap.size w w' := by
  go_enter Try.func7, Try.ntmps7
  go_wp2_with fail
  refine (boxed_true _).mono ?_
  rintro e w2 ⟨rfl, hc⟩
  go_wp2_with fail
  go_ret
  exact ⟨rfl, hc.below (Nat.le_refl _) (fun _ t => t.elim)⟩
end Go.Proofs.Ytinklonbkhmpdaa.boxPlays
