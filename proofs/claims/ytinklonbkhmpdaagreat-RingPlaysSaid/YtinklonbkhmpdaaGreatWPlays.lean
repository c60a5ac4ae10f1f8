/-
  The walk of RingPlays. (Printed by genplays.py.)
-/
import Derived.Test.YtinklonbkhmpdaaGreatPlays
import Derived.Deep.DeepCutAuto
import Derived.Deep.CutBlock
namespace Go.Proofs.YtinklonbkhmpdaaGreat.ringPlays
open Go.RowKit

theorem op_cells {w : World} {g : Nat} {kind n v : Int} {S : Option Addr} {sl sc : Nat} (h : Blk w g 49 (opCells kind n v S sl sc)) :
    w.cell? ⟨g, 0, none⟩ = some (.int .i64 kind) ∧ w.cell? ⟨g, 1, none⟩ = some (.int .i64 n) ∧ w.cell? ⟨g, 2, none⟩ = some (.int .i64 v) ∧ w.cell? ⟨g, 3, none⟩ = some (.slice S sl sc) :=
  ⟨h.cell 0, h.cell 1, h.cell 2, h.cell 3⟩
theorem lent_sees {w : World} {B n c : Nat} {A : Option Addr} {l : List Int} (h : w.ownsRow B 3 1 (.slice A (n + 1) c) (n + 1) (nums (l ++ [-77]))) (hl : l.length = n) : Sees w w.heap.size 1 A n (nums l) := by
  have := (Sees.of_own h).take (k := n) (by omega)
  rw [Nat.mul_one] at this
  have e : (nums (l ++ [-77])).take n = nums l := by
    unfold nums
    rw [List.map_append, List.take_left' (by simpa using hl)]
  rwa [e] at this

set_option maxHeartbeats 4000000 in
set_option maxRecDepth 100000 in
theorem main (k : Int) (zero : Bool) (len cap b off : Nat) (w : World) (hl : len ≤ 100) (hb : b < w.heap.size) (hops : ∀ i, i < len → OpAt w b off i) :
    Calls Tryz.prog 3 #[.int .i64 k, .bool zero, .slice (some ⟨b, off, none⟩) len cap] w fun e w' => e = .returned (.bool true) ∧ Below w.heap.size w w' := by
  have h1 : (len : Int) ≤ 100 := by omega
  obtain ⟨i0, hi0, hz0, hz1, hz2⟩ := info_parts Tryz.info3
  have Hops := hide hops
  clear hops
  go_enter Tryz.func3, Tryz.ntmps3
  go_wp2_with fail
  refine (ri_new_any _ _).mono ?_
  rintro e w1 ⟨rfl, hr1, hc1, hs1⟩
  go_wp2_with fail
  refine (ref_room _ _).mono ?_
  rintro e w2 ⟨rfl, rfl⟩
  obtain ⟨M0, hM0⟩ : ∃ M0, M0 = roomOf k := ⟨_, rfl⟩
  rw [← hM0] at hr1 ⊢
  have hbel1 := hc1.below (B := w.heap.size) (Nat.le_refl _) (fun _ t => t.elim)
  clear hM0
  go_upto_if 32 with fail
  go_cut [7, 8] (fun s7 s8 wx => ∃ p M : Nat, s7 = .pointer (some ⟨p, 0, none⟩) ∧ s8 = .int .i64 (M : Int) ∧ riAt wx w.heap.size p none 0 0 [] M ∧ Below w.heap.size w wx)
  case first =>
    cases zero with
    | true =>
      go_wp2
      go_meet
      case rel =>
        exact ⟨w1.heap.size, 0, rfl, rfl, (RingAt.made _ _ _ w1 w.heap.size 0 (by omega) (by omega)), hbel1.trans (((Chg.refl No w1).alloc _).below (by omega) (fun _ t => t.elim))⟩
    | false =>
      go_wp2
      go_meet
      case rel => exact ⟨w.heap.size, M0, rfl, rfl, hr1, hbel1⟩
  case rest =>
    clear hr1 hbel1 hc1 hs1
    obtain ⟨p, M, rfl, rfl, hr2, hbel2⟩ := hcut
    have hs2 := hbel2.size
    have hm := hr2.most
    have hM : (M : Int) ≤ 100000 := by omega
    go_wp2_with fail
    go_loopg [9, 11] len (fun k x i wr => Plays w w.heap.size p wc.heap.size M len k x i wr)
    case atStart =>
      refine ⟨0, fun j => j = wc.heap.size, none, 0, none, 0, [], rfl, rfl, by omega, ⟨hr2.alloc _, World.ownsRow_nil _ _ _ _, by simp [blkOf], (BookAt.made wc).lower hs2, ?_, by simp [blkOf], hbel2.trans (((Chg.refl No wc).alloc _).below hs2 (fun _ t => t.elim)), by simp; omega⟩⟩
      rintro j rfl hf
      have := hr2.foot_lt _ hf
      omega
    case round =>
      obtain ⟨K, F, A, c, X, d, ls, rfl, rfl, hk, hst⟩ := hrel
      have Hk := hide hk
      clear hk
      by_cases hlt : K < len
      · obtain ⟨kind, n, v, S, sl, sc, zs, c0, c1, c2, c3, hsl, hsc, hzs⟩ := Hops.out K hlt
        have d0 := (hst.below.cell (p := ⟨b, off + K * 4, none⟩) hb).trans c0
        have d1 := (hst.below.cell (p := ⟨b, off + K * 4 + 1, none⟩) hb).trans c1
        have d2 := (hst.below.cell (p := ⟨b, off + K * 4 + 2, none⟩) hb).trans c2
        have d3 := (hst.below.cell (p := ⟨b, off + K * 4 + 3, none⟩) hb).trans c3
        have hi : (K : Int) < len := by omega
        clear c0 c1 c2 c3
        by_cases h60 : sl ≤ 60
        · have h6 : (sl : Int) ≤ 60 := by omega
          go_upto_block 2 with fail
          have hst0 := hst.quiet ((Chg.refl No wr).alloc (.cells (opCells kind n v S sl sc) 49))
          have hob : Blk (wr.alloc (.cells (opCells kind n v S sl sc) 49)) wr.heap.size 49 (opCells kind n v S sl sc) := Blk.new _ _ _
          change Code.wp _ _ _ _ (wr.alloc (.cells (opCells kind n v S sl sc) 49))
          obtain ⟨oB, hoB⟩ : ∃ oB, oB = wr.heap.size := ⟨_, rfl⟩
          rw [← hoB] at hob ⊢
          obtain ⟨wo, hwo⟩ : ∃ wo, wo = wr.alloc (.cells (opCells kind n v S sl sc) 49) := ⟨_, rfl⟩
          rw [← hwo] at hst0 hob ⊢
          clear hwo hoB hst d0 d1 d2 d3
          go_cut [9, 13, 14, 15, 16, 17, 18, 19] (fun x good s14 s15 s16 s17 s18 s19 wx => Done w w.heap.size p wc.heap.size M K oB (opCells kind n v S sl sc) x good wx)
          case first =>
            obtain ⟨e0, e1, e2, e3⟩ := op_cells hob
            by_cases k1 : kind = 1
            · skip

              as_aux_lemma =>
              subst k1
              have hr := hst0.ring.fits
              obtain ⟨R, hR⟩ : ∃ R, M = ls.length + R := ⟨M - ls.length, by omega⟩
              have hRi : (M : Int) - (ls.length : Int) = (R : Int) := by omega
              have hM2 := hst0.ring.most
              have hz0s := hzs.below hst0.below
              have Hzl : Hid (zs.length = sl) := hide (by simpa using hzs.1)
              have HR := hide hR
              clear hR
              go_wp2_with fail
              refine (lent_ints _ _ sl sc S zs hz0s (by omega)).mono ?_
              rintro e w1 ⟨Y, cy, rfl, hY, hc1⟩
              have hst1 := hst0.quiet hc1
              have hob1 := hob.chg hc1 (fun t => t)
              have hls1 := lent_sees hY Hzl.out
              have hYf : ∀ j, blkOf Y = some j → ¬ Foot p A j := fun j hj hf => by have := (own_lt hY hj).1; have := hst0.ring.foot_lt j hf; omega
              have hYm := own_cap hY
              clear e0 e1 e2 e3 hst0 hob hz0s
              obtain ⟨e0, e1, e2, e3⟩ := op_cells hob1
              rcases Nat.lt_or_ge R sl with hv | hv
              · have hlk : (ls ++ zs.take R).length = ls.length + R := by have := Hzl.out; simp; omega
                have hkk : R = min sl (M - ls.length) := by have := HR.out; omega
                have hv1 : (R : Int) < sl := by omega
                have hks : (R : Int) ≤ sc := by omega
                have hkn : R ≤ sl := by omega
                have Hlk := hide hlk
                have Hkk := hide hkk
                clear hlk hkk
                go_wp2_with fail
                refine (ri_push_min _ _ _ _ _ _ _ _ hst1.ring Y sl cy (nums zs) hls1 ints_one (by omega) hst1.base R Hkk.out).mono ?_
                rintro e w2 ⟨rfl, hmv⟩
                obtain ⟨A2, c2, hst2, hc2⟩ := hst1.turn (lr' := ls ++ zs.take R) hmv Hlk.out.symm (by simp [nums, List.map_take])
                have hob2 := hob1.chg hc2 (hst1.notFoot hob1 (by decide) (by decide))
                have hY2 := own_chg hY hc2 (fun j hj => hYf j (by rw [ownBlock_slice] at hj; exact hj))
                have hz2s := hzs.below hst2.below
                clear e0 e1 e2 e3 hst1 hob1 hY hYf hls1 hc2 hc1
                obtain ⟨e0, e1, e2, e3⟩ := op_cells hob2
                go_wp2_with fail
                refine (stays_ints _ _ _ sl cy sc Y S zs hY2 hz2s (by omega)).mono ?_
                rintro e w3 ⟨rfl, q, rfl⟩
                clear hY2
                go_wp2_with fail
                go_region_law (first
                  | (refine step_append_sees _ rfl (.const (.slice none 0 0)) (.tmp 79) 27 rfl w2.heap.size 3 i0 (.int .i64 0) 1 8 Tryz.underlying27 hi0 hz0 hz1 hz2 rfl (by decide) none 0 0 [] rfl (World.ownsRow_nil _ _ _ _) _ X ls.length d (nums ls) rfl (show Sees (w2.drewN (q + 1)) w2.heap.size 1 X ls.length (nums ls) from Sees.of_own hst2.x) ints_one (by unfold maxLen; omega) (by omega) (Nat.le_refl _) ?_; intro X4 d4 w4 hg1; rw [Nat.zero_add, List.nil_append] at hg1; have h4c : Chg No w2 w4 := ⟨hg1.by_.os, hg1.by_.tape, hg1.by_.output, hg1.by_.size, fun k hk _ => hg1.by_.block k hk (by simp [blkOf])⟩; obtain ⟨f0, f1, f2, f3⟩ := op_cells (hob2.chg h4c (fun t => t)); have hz4 := ((hz2s.below (h4c.below (B := w.heap.size) hst2.base (fun _ t => t.elim))).take (k := R) hkn))
                  | (refine step_append_sees _ rfl (.tmp 80) (.tmp 84) 27 rfl w2.heap.size 3 i0 (.int .i64 0) 1 8 Tryz.underlying27 hi0 hz0 hz1 hz2 rfl (by decide) X4 ls.length d4 (nums ls) rfl hg1.own _ S R sc _ rfl hz4 (by intro u hu; exact ints_one u (List.mem_of_mem_take hu)) (by unfold maxLen; omega) (by omega) (by have := h4c.size; omega) ?_; intro X5 d5 w5 hg2; rw [Nat.mul_one] at hg2))
                all_goals
                  go_wp2_with fail
                  have h6 := fresh2 hg1 hg2
                  have h6c : Chg No w2 w5 := ⟨h6.os, h6.tape, h6.output, h6.size, h6.block⟩
                  have hst6 := hst2.newX (lx' := ls ++ zs.take R) h6c hg2.own (Nat.le_refl _) Hlk.out.symm (by simp [nums, List.map_take])
                  rw [← Hlk.out]
                  go_meet
                  case rel => exact ⟨F, A2, c2, X5, d5, ls ++ zs.take R, rfl, rfl, hst6, hob2.chg h6c (fun t => t)⟩
              · have hlk : (ls ++ zs.take sl).length = ls.length + sl := by have := Hzl.out; simp; omega
                have hkk : sl = min sl (M - ls.length) := by have := HR.out; omega
                have hv1 : (sl : Int) ≤ R := by omega
                have hks : (sl : Int) ≤ sc := by omega
                have hkn : sl ≤ sl := by omega
                have Hlk := hide hlk
                have Hkk := hide hkk
                clear hlk hkk
                go_wp2_with fail
                refine (ri_push_min _ _ _ _ _ _ _ _ hst1.ring Y sl cy (nums zs) hls1 ints_one (by omega) hst1.base sl Hkk.out).mono ?_
                rintro e w2 ⟨rfl, hmv⟩
                obtain ⟨A2, c2, hst2, hc2⟩ := hst1.turn (lr' := ls ++ zs.take sl) hmv Hlk.out.symm (by simp [nums, List.map_take])
                have hob2 := hob1.chg hc2 (hst1.notFoot hob1 (by decide) (by decide))
                have hY2 := own_chg hY hc2 (fun j hj => hYf j (by rw [ownBlock_slice] at hj; exact hj))
                have hz2s := hzs.below hst2.below
                clear e0 e1 e2 e3 hst1 hob1 hY hYf hls1 hc2 hc1
                obtain ⟨e0, e1, e2, e3⟩ := op_cells hob2
                go_wp2_with fail
                refine (stays_ints _ _ _ sl cy sc Y S zs hY2 hz2s (by omega)).mono ?_
                rintro e w3 ⟨rfl, q, rfl⟩
                clear hY2
                go_wp2_with fail
                go_region_law (first
                  | (refine step_append_sees _ rfl (.const (.slice none 0 0)) (.tmp 79) 27 rfl w2.heap.size 3 i0 (.int .i64 0) 1 8 Tryz.underlying27 hi0 hz0 hz1 hz2 rfl (by decide) none 0 0 [] rfl (World.ownsRow_nil _ _ _ _) _ X ls.length d (nums ls) rfl (show Sees (w2.drewN (q + 1)) w2.heap.size 1 X ls.length (nums ls) from Sees.of_own hst2.x) ints_one (by unfold maxLen; omega) (by omega) (Nat.le_refl _) ?_; intro X4 d4 w4 hg1; rw [Nat.zero_add, List.nil_append] at hg1; have h4c : Chg No w2 w4 := ⟨hg1.by_.os, hg1.by_.tape, hg1.by_.output, hg1.by_.size, fun k hk _ => hg1.by_.block k hk (by simp [blkOf])⟩; obtain ⟨f0, f1, f2, f3⟩ := op_cells (hob2.chg h4c (fun t => t)); have hz4 := ((hz2s.below (h4c.below (B := w.heap.size) hst2.base (fun _ t => t.elim))).take (k := sl) hkn))
                  | (refine step_append_sees _ rfl (.tmp 80) (.tmp 84) 27 rfl w2.heap.size 3 i0 (.int .i64 0) 1 8 Tryz.underlying27 hi0 hz0 hz1 hz2 rfl (by decide) X4 ls.length d4 (nums ls) rfl hg1.own _ S sl sc _ rfl hz4 (by intro u hu; exact ints_one u (List.mem_of_mem_take hu)) (by unfold maxLen; omega) (by omega) (by have := h4c.size; omega) ?_; intro X5 d5 w5 hg2; rw [Nat.mul_one] at hg2))
                all_goals
                  go_wp2_with fail
                  have h6 := fresh2 hg1 hg2
                  have h6c : Chg No w2 w5 := ⟨h6.os, h6.tape, h6.output, h6.size, h6.block⟩
                  have hst6 := hst2.newX (lx' := ls ++ zs.take sl) h6c hg2.own (Nat.le_refl _) Hlk.out.symm (by simp [nums, List.map_take])
                  rw [← Hlk.out]
                  go_meet
                  case rel => exact ⟨F, A2, c2, X5, d5, ls ++ zs.take sl, rfl, rfl, hst6, hob2.chg h6c (fun t => t)⟩

            · have q1 : (kind == 1) = false := by simp [k1]
              by_cases k2 : kind = 2
              · skip

                as_aux_lemma =>
                subst k2
                clear q1
                rcases Nat.eq_zero_or_pos ls.length with hz | hp
                · obtain rfl : ls = [] := List.eq_nil_of_length_eq_zero hz
                  clear hz
                  go_wp2_with fail
                  refine (ri_pop_none _ _ _ _ _ _ _ hst0.ring).mono ?_
                  rintro e w1 ⟨rfl, hmv⟩
                  obtain ⟨A1, c1, hst1, hc1⟩ := hst0.turn (lr' := []) hmv rfl rfl
                  have hob1 := hob.chg hc1 (hst0.notFoot hob (by decide) (by decide))
                  go_wp2_with fail
                  go_meet
                  case rel => exact ⟨F, A1, c1, X, d, [], rfl, rfl, hst1, hob1⟩
                · obtain ⟨z, hz⟩ : ∃ z, ls[0]? = some z := ⟨_, List.getElem?_eq_getElem hp⟩
                  have hpi : (0 : Int) < ls.length := by omega
                  have hl1 : ls.length - 1 = (ls.drop 1).length := by simp
                  have Hl1 := hide hl1
                  have hf := hst0.ring.fits
                  have hm2 := hst0.ring.most
                  clear hl1
                  go_wp2_with fail
                  refine (ri_pop_some _ _ _ _ _ _ _ _ hst0.ring ints_one (.int .i64 z) (by simp [nums, hz]) hp hst0.base).mono ?_
                  rintro e w1 ⟨rfl, hmv⟩
                  obtain ⟨A1, c1, hst1, hc1⟩ := hst0.turn (lr' := ls.drop 1) hmv Hl1.out (by simp [nums])
                  have hob1 := hob.chg hc1 (hst0.notFoot hob (by decide) (by decide))
                  obtain ⟨g, rfl, _, _⟩ := own_addr hst1.x hp
                  have hx0 := own_cells hst1.x rfl 0 (.int .i64 z) (by simp [nums, hz])
                  rw [add_flat] at hx0
                  have hcx := own_cap hst1.x
                  have hxs := (Sees.of_own hst1.x).tail (k := 1) hp hcx
                  have hsl := run_tail (P := Tryz.prog) 27 3 1 Tryz.underlying27 i0 hi0 hz1 (some ⟨g, 0, none⟩) ls.length d 1 hp
                  rw [show ((1 : Nat) : Int) = 1 from rfl] at hsl
                  obtain ⟨X5, hX5⟩ : ∃ X5, X5 = cutAt (some ⟨g, 0, none⟩) d 1 1 := ⟨_, rfl⟩
                  rw [← hX5] at hsl hxs
                  have e5 : (nums ls).drop (1 * 1) = nums (ls.drop 1) := by simp [nums]
                  rw [e5] at hxs
                  clear hX5 hz e5 e0 e1 e2 e3 hcx hst0 hob
                  go_wp2_with (at_builtin; refine wpList_append_sees _ rfl (.const (.slice none 0 0)) (.tmp 117) 27 rfl w1.heap.size 3 i0 (.int .i64 0) 1 8 Tryz.underlying27 hi0 hz0 hz1 hz2 rfl (by decide) none 0 0 [] rfl (World.ownsRow_nil _ _ _ _) _ X5 (ls.length - 1) (d - 1) (nums (ls.drop 1)) rfl hxs ints_one (by unfold maxLen; omega) (by omega) (Nat.le_refl _) ?_; intro X2 d2 w3 hg2; rw [Nat.zero_add, List.nil_append] at hg2)
                  have h2c : Chg No w1 w3 := hg2.chg.mono (by simp [blkOf])
                  have hst2 := hst1.newX (lx' := ls.drop 1) h2c hg2.own (Nat.le_refl _) Hl1.out rfl
                  rw [Hl1.out]
                  go_meet
                  case rel => exact ⟨F, A1, c1, X2, d2, ls.drop 1, rfl, rfl, hst2, hob1.chg h2c (fun t => t)⟩

              · have q2 : (kind == 2) = false := by simp [k2]
                by_cases k4 : kind = 4
                · skip

                  as_aux_lemma =>
                  subst k4
                  clear q1 q2
                  have hf := hst0.ring.fits
                  have hm2 := hst0.ring.most
                  by_cases hin : 0 ≤ n ∧ n < ls.length
                  · obtain ⟨j, rfl⟩ : ∃ j : Nat, n = j := ⟨n.toNat, by omega⟩
                    obtain ⟨hn0, hn1⟩ := hin
                    have hj : j < ls.length := by omega
                    go_wp2_with fail
                    refine (ri_set_in _ _ _ _ _ _ _ _ hst0.ring j hj v).mono ?_
                    rintro e w1 ⟨rfl, hmv⟩
                    obtain ⟨A1, c1, hst1, hc1⟩ := hst0.turn (lr' := ls.set j v) hmv (by simp) (by simp [nums, List.map_set])
                    have hob1 := hob.chg hc1 (hst0.notFoot hob (by decide) (by decide))
                    clear e0 e1 e2 e3 hst0 hob hc1
                    go_wp2_with (at_builtin; refine wpList_append_sees _ rfl (.const (.slice none 0 0)) (.tmp 140) 27 rfl w1.heap.size 3 i0 (.int .i64 0) 1 8 Tryz.underlying27 hi0 hz0 hz1 hz2 rfl (by decide) none 0 0 [] rfl (World.ownsRow_nil _ _ _ _) _ X ls.length d (nums ls) rfl (Sees.of_own hst1.x) ints_one (by unfold maxLen; omega) (by omega) (Nat.le_refl _) ?_; intro X2 d2 w3 hg2; rw [Nat.zero_add, List.nil_append] at hg2; have h2c : Chg No w1 w3 := hg2.chg.mono (by simp [blkOf]); have hob2 := hob1.chg h2c (fun t => t); obtain ⟨f0, f1, f2, f3⟩ := op_cells hob2; have hst2 := hst1.newX (lx := ls) (lx' := ls) h2c hg2.own (Nat.le_refl _) rfl rfl; obtain ⟨g, rfl, _, _⟩ := own_addr hg2.own (by omega); have hgf : w3.frozen? ⟨g, j, none⟩ = false := hg2.own.frozenAt j; have hgc := own_cells hg2.own rfl j _ (List.getElem?_eq_getElem (by simpa [nums] using hj)); rw [add_flat, Nat.zero_add] at hgc)
                    have hob3 := hob2.far (p := ⟨g, j, none⟩) (fun e => own_ne hg2.own hob2 (by decide) (by rw [e]; rfl)) (.int .i64 v)
                    have hst3 := hst2.storeX j v
                    have hln : (ls.set j v).length = ls.length := by simp
                    rw [← hln]
                    go_meet
                    case rel => exact ⟨F, A1, c1, _, d2, ls.set j v, rfl, rfl, hst3, hob3⟩
                  · have hin' : n < 0 ∨ (ls.length : Int) ≤ n := by omega
                    clear hin
                    rcases hin' with hin' | hin'
                    · go_wp2_with fail
                      refine (ri_set_out _ _ _ _ _ _ _ _ hst0.ring n (.inl hin') v).mono ?_
                      rintro e w1 ⟨rfl, hmv⟩
                      obtain ⟨A1, c1, hst1, hc1⟩ := hst0.turn (lr' := ls) hmv rfl rfl
                      have hob1 := hob.chg hc1 (hst0.notFoot hob (by decide) (by decide))
                      go_wp2_with fail
                      go_meet
                      case rel => exact ⟨F, A1, c1, X, d, ls, rfl, rfl, hst1, hob1⟩
                    · have hn0 : 0 ≤ n := by omega
                      go_wp2_with fail
                      refine (ri_set_out _ _ _ _ _ _ _ _ hst0.ring n (.inr hin') v).mono ?_
                      rintro e w1 ⟨rfl, hmv⟩
                      obtain ⟨A1, c1, hst1, hc1⟩ := hst0.turn (lr' := ls) hmv rfl rfl
                      have hob1 := hob.chg hc1 (hst0.notFoot hob (by decide) (by decide))
                      go_wp2_with fail
                      go_meet
                      case rel => exact ⟨F, A1, c1, X, d, ls, rfl, (by first | rfl | (simp; omega)), hst1, hob1⟩

                · have q4 : (kind == 4) = false := by simp [k4]
                  by_cases k5 : kind = 5
                  · skip

                    as_aux_lemma =>
                    subst k5
                    clear q1 q2 q4
                    have hf := hst0.ring.fits
                    have hm2 := hst0.ring.most
                    rcases (show n < 0 ∨ (0 ≤ n ∧ n ≤ ls.length) ∨ (ls.length : Int) < n by omega) with hn | ⟨hn0, hn1⟩ | hn
                    · skip
                      have hD : dropped n ls.length = 0 := by unfold dropped; omega
                      have hDl : 0 ≤ ls.length := by omega
                      have HD := hide hD
                      have Hl := hide (show ls.length - (0) = (ls.drop (0)).length by simp)
                      clear hD
                      go_wp2_with fail
                      refine (ri_drop_any _ _ _ _ _ _ _ _ hst0.ring ints_one _ hst0.base).mono ?_
                      rintro e w1 ⟨rfl, hmv⟩
                      rw [HD.out] at hmv ⊢
                      rw [show ((0 : Nat) : Int) = 0 from rfl]
                      obtain ⟨A1, c1, hst1, hc1⟩ := hst0.turn (lr' := ls.drop (0)) hmv (by simp) (by simp [nums])
                      have hob1 := hob.chg hc1 (hst0.notFoot hob (by decide) (by decide))
                      have hcx := own_cap hst1.x
                      have hxs := (Sees.of_own hst1.x).tail (k := 0) hDl hcx
                      have hsl := run_tail (P := Tryz.prog) 27 3 1 Tryz.underlying27 i0 hi0 hz1 X ls.length d (0) hDl
                      rw [show ((0 : Nat) : Int) = 0 from rfl] at hsl
                      skip
                      have e5 : (nums ls).drop ((0) * 1) = nums (ls.drop (0)) := by simp [nums]
                      rw [e5] at hxs
                      clear e5 e0 e1 e2 e3 hcx hst0 hob
                      go_wp2_with (at_builtin; refine wpList_append_sees _ rfl (.const (.slice none 0 0)) (.tmp 164) 27 rfl w1.heap.size 3 i0 (.int .i64 0) 1 8 Tryz.underlying27 hi0 hz0 hz1 hz2 rfl (by decide) none 0 0 [] rfl (World.ownsRow_nil _ _ _ _) _ _ (ls.length - (0)) _ (nums (ls.drop (0))) rfl hxs ints_one (by unfold maxLen; omega) (by omega) (Nat.le_refl _) ?_; intro X2 d2 w3 hg2; rw [Nat.zero_add, List.nil_append] at hg2)
                      have h2c : Chg No w1 w3 := hg2.chg.mono (by simp [blkOf])
                      have hst2 := hst1.newX (lx' := ls.drop (0)) h2c hg2.own (Nat.le_refl _) Hl.out rfl
                      skip
                      go_meet
                      case rel => exact ⟨F, A1, c1, X2, d2, ls.drop (0), rfl, rfl, hst2, hob1.chg h2c (fun t => t)⟩
                    · obtain ⟨D, rfl⟩ : ∃ D : Nat, n = D := ⟨n.toNat, by omega⟩
                      have hD : dropped (D : Int) ls.length = D := by unfold dropped; omega
                      have hDl : D ≤ ls.length := by omega
                      have HD := hide hD
                      have Hl := hide (show ls.length - (D) = (ls.drop (D)).length by simp)
                      clear hD
                      go_wp2_with fail
                      refine (ri_drop_any _ _ _ _ _ _ _ _ hst0.ring ints_one _ hst0.base).mono ?_
                      rintro e w1 ⟨rfl, hmv⟩
                      rw [HD.out] at hmv ⊢
                      skip
                      obtain ⟨A1, c1, hst1, hc1⟩ := hst0.turn (lr' := ls.drop (D)) hmv (by simp) (by simp [nums])
                      have hob1 := hob.chg hc1 (hst0.notFoot hob (by decide) (by decide))
                      have hcx := own_cap hst1.x
                      have hxs := (Sees.of_own hst1.x).tail (k := D) hDl hcx
                      have hsl := run_tail (P := Tryz.prog) 27 3 1 Tryz.underlying27 i0 hi0 hz1 X ls.length d (D) hDl
                      skip
                      skip
                      have e5 : (nums ls).drop ((D) * 1) = nums (ls.drop (D)) := by simp [nums]
                      rw [e5] at hxs
                      clear e5 e0 e1 e2 e3 hcx hst0 hob
                      go_wp2_with (at_builtin; refine wpList_append_sees _ rfl (.const (.slice none 0 0)) (.tmp 164) 27 rfl w1.heap.size 3 i0 (.int .i64 0) 1 8 Tryz.underlying27 hi0 hz0 hz1 hz2 rfl (by decide) none 0 0 [] rfl (World.ownsRow_nil _ _ _ _) _ _ (ls.length - (D)) _ (nums (ls.drop (D))) rfl hxs ints_one (by unfold maxLen; omega) (by omega) (Nat.le_refl _) ?_; intro X2 d2 w3 hg2; rw [Nat.zero_add, List.nil_append] at hg2)
                      have h2c : Chg No w1 w3 := hg2.chg.mono (by simp [blkOf])
                      have hst2 := hst1.newX (lx' := ls.drop (D)) h2c hg2.own (Nat.le_refl _) Hl.out rfl
                      rw [Hl.out]
                      go_meet
                      case rel => exact ⟨F, A1, c1, X2, d2, ls.drop (D), rfl, rfl, hst2, hob1.chg h2c (fun t => t)⟩
                    · have hn0 : 0 < n := by omega
                      have hD : dropped n ls.length = ls.length := by unfold dropped; omega
                      have hDl : ls.length ≤ ls.length := by omega
                      have HD := hide hD
                      have Hl := hide (show 0 = (([] : List Int)).length by simp)
                      clear hD
                      go_wp2_with fail
                      refine (ri_drop_any _ _ _ _ _ _ _ _ hst0.ring ints_one _ hst0.base).mono ?_
                      rintro e w1 ⟨rfl, hmv⟩
                      rw [HD.out] at hmv ⊢
                      skip
                      obtain ⟨A1, c1, hst1, hc1⟩ := hst0.turn (lr' := ([] : List Int)) hmv (by simp) (by simp [nums])
                      have hob1 := hob.chg hc1 (hst0.notFoot hob (by decide) (by decide))
                      have hcx := own_cap hst1.x
                      have hxs := (Sees.of_own hst1.x).tail (k := ls.length) hDl hcx
                      have hsl := run_tail (P := Tryz.prog) 27 3 1 Tryz.underlying27 i0 hi0 hz1 X ls.length d (ls.length) hDl
                      skip
                      rw [Nat.sub_self] at hsl hxs
                      have e5 : (nums ls).drop ((ls.length) * 1) = nums (([] : List Int)) := by simp [nums]
                      rw [e5] at hxs
                      clear e5 e0 e1 e2 e3 hcx hst0 hob
                      go_wp2_with (at_builtin; refine wpList_append_sees _ rfl (.const (.slice none 0 0)) (.tmp 164) 27 rfl w1.heap.size 3 i0 (.int .i64 0) 1 8 Tryz.underlying27 hi0 hz0 hz1 hz2 rfl (by decide) none 0 0 [] rfl (World.ownsRow_nil _ _ _ _) _ _ (0) _ (nums (([] : List Int))) rfl hxs ints_one (by unfold maxLen; omega) (by omega) (Nat.le_refl _) ?_; intro X2 d2 w3 hg2; rw [Nat.zero_add, List.nil_append] at hg2)
                      have h2c : Chg No w1 w3 := hg2.chg.mono (by simp [blkOf])
                      have hst2 := hst1.newX (lx' := ([] : List Int)) h2c hg2.own (Nat.le_refl _) Hl.out rfl
                      skip
                      go_meet
                      case rel => exact ⟨F, A1, c1, X2, d2, ([] : List Int), rfl, rfl, hst2, hob1.chg h2c (fun t => t)⟩

                  · have q5 : (kind == 5) = false := by simp [k5]
                    by_cases k6 : kind = 6
                    · skip

                      subst k6
                      go_wp2_with fail
                      refine (ri_clear_any _ _ _ _ _ _ _ _ hst0.ring ints_one hst0.base).mono ?_
                      rintro e w1 ⟨rfl, hmv⟩
                      obtain ⟨A1, c1, hst1, hc1⟩ := hst0.turn (lr' := []) hmv rfl rfl
                      have hob1 := hob.chg hc1 (hst0.notFoot hob (by decide) (by decide))
                      go_wp2_with fail
                      go_meet
                      case rel => exact ⟨F, A1, c1, none, 0, [], rfl, rfl, hst1.noX, hob1⟩

                    · have q6 : (kind == 6) = false := by simp [k6]
                      clear k1 k2 k4 k5 k6

                      go_wp2_with fail
                      go_meet
                      case rel => exact ⟨F, A, c, X, d, ls, rfl, rfl, hst0, hob⟩

          case rest =>
            as_aux_lemma =>
            clear hst0 hob
            obtain ⟨F1, A1, c1, X1, d1', ls1, rfl, rfl, hst1, hob1⟩ := hcut
            have hf1 := hst1.ring.fits
            obtain ⟨e0, e1, e2, e3⟩ := op_cells hob1
            go_wp2_with fail

            by_cases hin : 0 ≤ n ∧ n < ls1.length
            · obtain ⟨j, rfl⟩ : ∃ j : Nat, n = j := ⟨n.toNat, by omega⟩
              obtain ⟨hn0, hn1⟩ := hin
              have hjl : j < ls1.length := by omega
              obtain ⟨u, hu⟩ : ∃ u, ls1[j]? = some u := ⟨_, List.getElem?_eq_getElem hjl⟩
              obtain ⟨g, rfl, _, _⟩ := own_addr hst1.x (by omega)
              have hxc := own_cells hst1.x rfl j (.int .i64 u) (by simp [nums, hu])
              rw [add_flat, Nat.zero_add] at hxc
              refine (ri_peek_in _ _ _ _ _ _ _ _ hst1.ring j hjl (by omega) (.int .i64 u) (by simp [nums, hu])).mono ?_
              rintro e w2 ⟨rfl, rfl⟩
              obtain ⟨X1, hX1⟩ : ∃ X1 : Option Addr, X1 = some ⟨g, 0, none⟩ := ⟨_, rfl⟩
              go_wp2_with fail
              rw [← hX1] at hst1 ⊢
              clear hX1 hxc hu

              refine (ri_list_any _ _ _ _ _ _ _ _ hst1.ring ints_one).mono ?_
              rintro e w2 ⟨Y, dy, rfl, hY, hcY⟩
              have hst2 := hst1.quiet hcY
              have hYb : ∀ k, blkOf Y = some k → ¬ F1 k := fun k hk hf => by have := (own_lt hY hk).1; have := hst1.book.lt k hf; omega
              have hYf : ∀ k, blkOf Y = some k → ¬ Foot p A1 k ∧ blkOf X1 ≠ some k := fun k hk => by
                have h1 := (own_lt hY hk).1
                exact ⟨fun hf => by have := hst1.ring.foot_lt k hf; omega, fun hf => by have := (own_lt hst1.x hf).2; omega⟩
              clear e0 e1 e2 e3 hob1
              go_wp2_with fail
              refine (book_ints _ _ _ K ls1.length dy F1 Y ls1 hst2.book (by omega) (own_lower hY hst1.base) (by omega) hYb hst2.base).mono ?_
              rintro e w3 ⟨rfl, F2, hbk, hc3, hF2⟩
              have hst3 := hst2.kept hc3 hbk hF2 hYf
              have hY3 := own_chg hY hc3 (fun k hk => hYb k (by rw [ownBlock_slice] at hk; exact hk))
              go_wp2_with fail
              refine (i_same _ _ _ _ _ _ _ _ _ (Sees.of_own hY3) (Sees.of_own hst3.x) (by omega)).mono ?_
              rintro e w4 ⟨rfl, q, rfl⟩
              go_wp2_with fail
              refine (ri_len_any _ _ _ _ _ _ _ _ (hst3.ring.drewN q)).mono ?_
              rintro e w5 ⟨rfl, rfl⟩
              go_wp2_with fail
              refine (ri_room_any _ _ _ _ _ _ _ _ (hst3.ring.drewN q)).mono ?_
              rintro e w6 ⟨rfl, q2, rfl⟩
              go_wp2_with fail
              go_roundg (len - (K + 1))
              case measure => have := Hk.out; omega
              case rel => exact ⟨K + 1, F2, A1, c1, X1, d1', ls1, rfl, by go_num, by omega, hst3.quiet ((Chg.refl No w3).drewN (q + q2))⟩
            · refine (ri_peek_out _ _ _ _ _ _ _ _ hst1.ring n (by omega)).mono ?_
              rintro e w2 ⟨rfl, rfl⟩
              have hin' : n < 0 ∨ (ls1.length : Int) ≤ n := by omega
              clear hin
              rcases hin' with hin' | hin'
              · go_wp2_with fail

                refine (ri_list_any _ _ _ _ _ _ _ _ hst1.ring ints_one).mono ?_
                rintro e w2 ⟨Y, dy, rfl, hY, hcY⟩
                have hst2 := hst1.quiet hcY
                have hYb : ∀ k, blkOf Y = some k → ¬ F1 k := fun k hk hf => by have := (own_lt hY hk).1; have := hst1.book.lt k hf; omega
                have hYf : ∀ k, blkOf Y = some k → ¬ Foot p A1 k ∧ blkOf X1 ≠ some k := fun k hk => by
                  have h1 := (own_lt hY hk).1
                  exact ⟨fun hf => by have := hst1.ring.foot_lt k hf; omega, fun hf => by have := (own_lt hst1.x hf).2; omega⟩
                clear e0 e1 e2 e3 hob1
                go_wp2_with fail
                refine (book_ints _ _ _ K ls1.length dy F1 Y ls1 hst2.book (by omega) (own_lower hY hst1.base) (by omega) hYb hst2.base).mono ?_
                rintro e w3 ⟨rfl, F2, hbk, hc3, hF2⟩
                have hst3 := hst2.kept hc3 hbk hF2 hYf
                have hY3 := own_chg hY hc3 (fun k hk => hYb k (by rw [ownBlock_slice] at hk; exact hk))
                go_wp2_with fail
                refine (i_same _ _ _ _ _ _ _ _ _ (Sees.of_own hY3) (Sees.of_own hst3.x) (by omega)).mono ?_
                rintro e w4 ⟨rfl, q, rfl⟩
                go_wp2_with fail
                refine (ri_len_any _ _ _ _ _ _ _ _ (hst3.ring.drewN q)).mono ?_
                rintro e w5 ⟨rfl, rfl⟩
                go_wp2_with fail
                refine (ri_room_any _ _ _ _ _ _ _ _ (hst3.ring.drewN q)).mono ?_
                rintro e w6 ⟨rfl, q2, rfl⟩
                go_wp2_with fail
                go_roundg (len - (K + 1))
                case measure => have := Hk.out; omega
                case rel => exact ⟨K + 1, F2, A1, c1, X1, d1', ls1, rfl, by go_num, by omega, hst3.quiet ((Chg.refl No w3).drewN (q + q2))⟩
              · have hn0 : 0 ≤ n := by omega
                go_wp2_with fail

                refine (ri_list_any _ _ _ _ _ _ _ _ hst1.ring ints_one).mono ?_
                rintro e w2 ⟨Y, dy, rfl, hY, hcY⟩
                have hst2 := hst1.quiet hcY
                have hYb : ∀ k, blkOf Y = some k → ¬ F1 k := fun k hk hf => by have := (own_lt hY hk).1; have := hst1.book.lt k hf; omega
                have hYf : ∀ k, blkOf Y = some k → ¬ Foot p A1 k ∧ blkOf X1 ≠ some k := fun k hk => by
                  have h1 := (own_lt hY hk).1
                  exact ⟨fun hf => by have := hst1.ring.foot_lt k hf; omega, fun hf => by have := (own_lt hst1.x hf).2; omega⟩
                clear e0 e1 e2 e3 hob1
                go_wp2_with fail
                refine (book_ints _ _ _ K ls1.length dy F1 Y ls1 hst2.book (by omega) (own_lower hY hst1.base) (by omega) hYb hst2.base).mono ?_
                rintro e w3 ⟨rfl, F2, hbk, hc3, hF2⟩
                have hst3 := hst2.kept hc3 hbk hF2 hYf
                have hY3 := own_chg hY hc3 (fun k hk => hYb k (by rw [ownBlock_slice] at hk; exact hk))
                go_wp2_with fail
                refine (i_same _ _ _ _ _ _ _ _ _ (Sees.of_own hY3) (Sees.of_own hst3.x) (by omega)).mono ?_
                rintro e w4 ⟨rfl, q, rfl⟩
                go_wp2_with fail
                refine (ri_len_any _ _ _ _ _ _ _ _ (hst3.ring.drewN q)).mono ?_
                rintro e w5 ⟨rfl, rfl⟩
                go_wp2_with fail
                refine (ri_room_any _ _ _ _ _ _ _ _ (hst3.ring.drewN q)).mono ?_
                rintro e w6 ⟨rfl, q2, rfl⟩
                go_wp2_with fail
                go_roundg (len - (K + 1))
                case measure => have := Hk.out; omega
                case rel => exact ⟨K + 1, F2, A1, c1, X1, d1', ls1, rfl, by go_num, by omega, hst3.quiet ((Chg.refl No w3).drewN (q + q2))⟩

        · have h6 : (60 : Int) < sl := by omega
          go_wp2_with fail
          go_ret
          exact ⟨rfl, hst.below.trans (((Chg.refl No wr).alloc _).below hst.base (fun _ t => t.elim))⟩
      · obtain rfl : K = len := by have := Hk.out; omega
        go_wp2_with fail

        refine (alive_true _).mono ?_
        rintro e w2 ⟨rfl, hb2⟩
        have hbel2 := hst.below.trans (hb2.mono hst.base)
        have hbk := hst.book.chg (Chg.of_below hb2) (fun j hj h => by have := hst.book.lt j hj; omega)
        have hs2 := hbel2.size
        go_wp2_with fail
        refine (book_apart _ _ _ _ _ hbk (by omega) hs2).mono ?_
        rintro e w3 ⟨rfl, hc3⟩
        go_wp2_with fail
        go_ret
        exact ⟨rfl, hbel2.trans (hc3.below hs2 hbk.ge)⟩

end Go.Proofs.YtinklonbkhmpdaaGreat.ringPlays
