/-
  The walk of NetOrders.
-/
import Derived.Test.YtipdeacaehbbfaaOrdersSt
import Derived.Deep.LoopGhost
import Derived.Deep.DeepCutAuto
import Derived.Deep.CutBlock
import Derived.Deep.RegionLaw
import Derived.BigRegion
namespace Go.Proofs.Ytipdeacaehbbfaa.netOrders
open Go.RowKit
set_option linter.unusedSimpArgs false

theorem Try.info3 : (Try.prog.info? 3).map (fun i => (i.zero, i.size, i.bytes)) = some (some (.int .i64 0), 1, 8) := by kernel_rfl
theorem wf_nat {k : Nat} (h : k ≤ 40) : (Lit.int .i64 (k : Int)).wf = true := by
  simp [Lit.wf, IntKind.min, IntKind.max, IntKind.signed, IntKind.bits]; omega

/-- So many have been sent. -/
def Sent (w : World) (n k : Nat) (x i : Value) (wr : World) : Prop :=
  ∃ K F I c, x = .slice I K c ∧ i = .int .i64 (K : Int) ∧ K + k = n ∧ OSt w F ((rng K).map pk) (rng K) I K c wr
/-- So many have been taken. -/
def Took (w : World) (n : Nat) (l : List Int) (I : Option Addr) (c : Nat) (k : Nat) (i : Value) (wr : World) : Prop :=
  ∃ K, i = .int .i64 ((K : Nat) : Int) ∧ K + k = n ∧ ∃ F, OSt w F ((l.drop K).map pk) l I n c wr

set_option maxHeartbeats 2000000 in
set_option maxRecDepth 100000 in
theorem main (n k j a b : Nat) (w : World) (h1 : 1 ≤ n) (hn : n ≤ 40) (hk : k < n) (hj : j ≤ n) (ha : a < n) (hb : b < n) :
    Calls Try.prog 5 #[.int .i64 (n : Int), .int .i64 (k : Int), .int .i64 (j : Int), .int .i64 (a : Int), .int .i64 (b : Int)] w fun e w' => e = .returned (.bool true) ∧ Below w.heap.size w w' := by
  obtain ⟨i0, hi0, hz0, hz1, hz2⟩ := info_parts Try.info3
  have H : Hid (1 ≤ n ∧ n ≤ 40 ∧ k < n ∧ j ≤ n ∧ a < n ∧ b < n) := hide ⟨h1, hn, hk, hj, ha, hb⟩
  have d1 : decide ((n : Int) < 1) = false := by rw [decide_eq_false]; omega
  have d2 : decide ((40 : Int) < n) = false := by rw [decide_eq_false]; omega
  have d3 : decide ((k : Int) < 0) = false := by rw [decide_eq_false]; omega
  have d4 : decide ((n : Int) ≤ k) = false := by rw [decide_eq_false]; omega
  have d5 : decide ((j : Int) < 0) = false := by rw [decide_eq_false]; omega
  have d6 : decide ((n : Int) < j) = false := by rw [decide_eq_false]; omega
  have d7 : decide ((a : Int) < 0) = false := by rw [decide_eq_false]; omega
  have d8 : decide ((n : Int) ≤ a) = false := by rw [decide_eq_false]; omega
  have d9 : decide ((b : Int) < 0) = false := by rw [decide_eq_false]; omega
  have d10 : decide ((n : Int) ≤ b) = false := by rw [decide_eq_false]; omega
  have e1 : decide (n < 1) = false := by rw [decide_eq_false]; omega
  have e2 : decide (40 < n) = false := by rw [decide_eq_false]; omega
  have e4 : decide (n ≤ k) = false := by rw [decide_eq_false]; omega
  have e6 : decide (n < j) = false := by rw [decide_eq_false]; omega
  have e8 : decide (n ≤ a) = false := by rw [decide_eq_false]; omega
  have e10 : decide (n ≤ b) = false := by rw [decide_eq_false]; omega
  clear h1 hn hk hj ha hb
  go_enter Try.func5, Try.ntmps5
  go_wp2_with fail
  refine (net_new _).mono ?_
  rintro e w1 ⟨rfl, hw1⟩
  have hn1 := NetAt.made w
  have hb1 := ((Chg.refl No w).alloc (.cells (netCells none none) 34)).below (B := w.heap.size) (Nat.le_refl _) (fun _ t => t.elim)
  rw [hw1] at hn1 hb1
  have hst : OSt w _ ((rng 0).map pk) (rng 0) none 0 0 w1 := ⟨hn1, World.ownsRow_nil _ _ _ _, by simp [blkOf], hb1⟩
  clear d1 d2 d3 d4 d5 d6 d7 d8 d9 d10 e1 e2 e4 e6 e8 e10 hw1 hn1 hb1
  go_wp2_with fail
  go_loopg [12, 13] n (fun k x i wr => Sent w n k x i wr)
  case atStart => exact ⟨0, _, none, 0, rfl, rfl, by omega, hst⟩
  case round =>
    clear hst
    obtain ⟨K, F, I, c, rfl, rfl, hk, hst⟩ := hrel
    have Hk := hide hk
    clear hk
    by_cases hK : K < n
    · have hKi : (K : Int) < n := by omega
      have hKm : K < 40 := by have := H.out; omega
      obtain ⟨wa, hwa⟩ : ∃ wa, wa = wr.alloc (.cells #[Value.int .i64 0, .int .i64 (K : Int), .string ⟨#[]⟩] 45) := ⟨_, rfl⟩
      have hca : Chg No wr wa := by rw [hwa]; exact (Chg.refl No wr).alloc _
      have hsta := hst.quiet hca
      have hsee : Sees wa wa.heap.size 3 (some ⟨wr.heap.size, 0, none⟩) [pk (K : Int)].length (flat [pk (K : Int)]) := by
        have hb : Blk wa wr.heap.size 45 #[Value.int .i64 0, .int .i64 (K : Int), .string ⟨#[]⟩] := by rw [hwa]; exact Blk.new _ _ _
        exact Sees.of_blk hb rfl
      have hXF : ∀ j, blkOf (some (⟨wr.heap.size, 0, none⟩ : Addr)) = some j → ¬ F j := by
        intro j hj t
        have h1 : wr.heap.size = j := by simpa [blkOf] using hj
        have := hst.net.lt j t
        omega
      have hsend := net_send wa _ _ _ _ [] hsta.net hsta.base _ 1 [pk (K : Int)] hsee hXF (fun y hy => by simp only [List.mem_cons, List.not_mem_nil, or_false] at hy; rw [hy]; exact ⟨show (Lit.int .i64 0).wf = true by decide, wf_nat (by omega), show (ByteArray.mk #[]).size ≤ _ by decide⟩) (by simp)
      rw [send_one _ _ (by rw [rng_length]; omega), ← rng_succ] at hsend
      have Hsend := hide hsend
      clear hsend hsee hXF hst hca
      go_wp2_with fail
      rw [← hwa]
      refine Hsend.out.mono ?_
      rintro e w2 ⟨rfl, F2, hn2, hw2⟩
      have hst2 := hsta.turn hn2 hw2
      clear Hsend hn2 hw2 hsta hwa
      go_wp2_with (at_builtin; refine wpList_append_sees _ rfl (.tmp 73) (.tmp 75) 57 rfl w.heap.size 3 i0 (.int .i64 0) 1 8 Try.underlying57 hi0 hz0 hz1 hz2 rfl (by decide) I K c (nums (rng K)) rfl (own_chg hst2.own ((Chg.refl No w2).alloc _) (fun _ _ t => t)) _ (some ⟨w2.heap.size, 0, none⟩) 1 1 [.int .i64 (K : Int)] rfl (Sees.of_blk (cs := #[.int .i64 (K : Int)]) (Blk.new _ _ _) rfl) (by simp [Value.oneCell']) (by unfold maxLen; omega) (by omega) (by have := hst2.base; simp; omega) ?_; intro I3 c3 w3 hg3)
      have e : nums (rng K) ++ [.int .i64 (K : Int)] = nums (rng (K + 1)) := by rw [rng_succ]; simp [nums]
      rw [e] at hg3
      have hst3 := (hst2.quiet ((Chg.refl No w2).alloc _)).grew hg3
      go_roundg (n - (K + 1))
      case measure => have := Hk.out; omega
      case rel => exact ⟨K + 1, F2, I3, c3, rfl, by go_num, by omega, hst3⟩
    · obtain rfl : K = n := by have := Hk.out; omega
      have hKm : K ≤ 40 := H.out.2.1
      have hcap := own_cap hst.own
      go_wp2_with (at_builtin; refine wpList_append_sees _ rfl (.tmp 77) (.tmp 79) 57 rfl w.heap.size 3 i0 (.int .i64 0) 1 8 Try.underlying57 hi0 hz0 hz1 hz2 rfl (by decide) I K c (nums (rng K)) rfl (own_chg hst.own ((Chg.refl No wr).alloc _) (fun _ _ t => t)) _ (some ⟨wr.heap.size, 0, none⟩) 1 1 [.int .i64 (k : Int)] rfl (Sees.of_blk (cs := #[.int .i64 (k : Int)]) (Blk.new _ _ _) rfl) (by simp [Value.oneCell']) (by unfold maxLen; omega) (by omega) (by have := hst.base; simp; omega) ?_; intro I3 c3 w3 hg3)
      obtain ⟨l1, hl1⟩ : ∃ l1, l1 = rng K ++ [(k : Int)] := ⟨_, rfl⟩
      have e : nums (rng K) ++ [.int .i64 (k : Int)] = nums l1 := by rw [hl1]; simp [nums]
      rw [e] at hg3
      have hst3 := (hst.quiet ((Chg.refl No wr).alloc _)).grew hg3
      have Hl1 := hide hl1
      have hjK : j ≤ K := H.out.2.2.2.1
      have hc3 := own_cap hg3.own
      clear e hg3 hl1 hcap
      have hs1 := (Sees.of_own hst3.own).take (k := j) (by omega)
      rw [Nat.mul_one, ← List.map_take] at hs1
      have hsl := run_tail (P := Try.prog) 57 3 1 Try.underlying57 i0 hi0 hz1 I3 (K + 1) c3 (j + 1) (by omega)
      have hs4 := (Sees.of_own hst3.own).tail (k := j + 1) (by omega) hc3
      obtain ⟨m2, hm2⟩ : ∃ m2, m2 = K + 1 - (j + 1) := ⟨_, rfl⟩
      obtain ⟨X2, hX2⟩ : ∃ X2, X2 = cutAt I3 c3 (j + 1) 1 := ⟨_, rfl⟩
      obtain ⟨d2, hd2⟩ : ∃ d2, d2 = c3 - (j + 1) := ⟨_, rfl⟩
      rw [Nat.mul_one, ← List.map_drop, ← hm2, ← hX2] at hs4
      rw [← hm2, ← hX2, ← hd2, show ((j + 1 : Nat) : Int) = (j : Int) + 1 by omega] at hsl
      have Hjm : Hid (j + m2 = K) := hide (by omega)
      have hm40 : m2 ≤ 40 := by omega
      have hjc : (j : Int) ≤ c3 := by omega
      clear hm2 hX2 hd2
      have hwr : IntKind.i64.wrap ((j : Int) + 1) = (j : Int) + 1 := IntWalk.i64_in _ (by omega)
      go_wp2_with fail
      go_region_held3 (fun _ => True) (trivial) (first
        | (refine step_append_sees _ rfl (.const (.slice none 0 0)) (.tmp 83) 57 rfl w3.heap.size 3 i0 (.int .i64 0) 1 8 Try.underlying57 hi0 hz0 hz1 hz2 rfl (by decide) none 0 0 [] rfl (World.ownsRow_nil _ _ _ _) _ I3 j c3 (nums (l1.take j)) rfl (show Sees w3.drew w3.heap.size 1 I3 j _ from hs1) ints_one (by unfold maxLen; omega) (by omega) (Nat.le_refl _) ?_; intro X4 d4 w4 hg1; rw [List.nil_append] at hg1; have h4c : Chg No w3 w4 := ⟨hg1.by_.os, hg1.by_.tape, hg1.by_.output, hg1.by_.size, fun k hk _ => hg1.by_.block k hk (by simp [blkOf])⟩)
        | (refine step_append_sees _ rfl (.tmp 84) (.tmp 88) 57 rfl w3.heap.size 3 i0 (.int .i64 0) 1 8 Try.underlying57 hi0 hz0 hz1 hz2 rfl (by decide) X4 _ d4 (nums (l1.take j)) rfl hg1.own _ X2 m2 d2 (nums (l1.drop (j + 1))) rfl (hs4.chg h4c (Nat.le_refl _) (fun _ _ _ t => t)) ints_one (by unfold maxLen; omega) (by omega) h4c.size ?_; intro X5 d5 w5 hg2))
      all_goals
        rw [Nat.zero_add] at hg2
        have hst5 := hst3.newI (l' := l1.take j ++ l1.drop (j + 1)) (m' := j + m2) (h4c.trans hg2.chg (fun i hi hs => by have := (own_lt hg1.own hs).1; omega)) (by rw [nums_append]; exact hg2.own)
        rw [Hjm.out] at hst5
        try rw [Nat.zero_add]
        rw [Hjm.out]
        have hl5 := hst5.own.1
        rw [Nat.mul_one, List.length_map] at hl5
        clear hg1 hg2 h4c hs1 hs4 hsl hst3
        have hd := ord_double w5 _ _ _ (rng K) hst5.net hst5.base (k := k) (by rw [rng_length]; exact H.out.2.2.1) (by rw [rng_length]; omega)
        rw [rng_get H.out.2.2.1, ← Hl1.out] at hd
        go_wp2_with fail
        refine hd.mono ?_
        rintro e w6 ⟨rfl, F6, hn6, hw6⟩
        have hst6 := hst5.turn hn6 hw6
        clear hd hn6 hw6 hst5
        go_wp2_with fail
        refine (ord_drop w6 _ _ F6 l1 hst6.net hst6.base (k := j) (by rw [Hl1.out, List.length_append, rng_length, List.length_singleton]; omega)).mono ?_
        rintro e w7 ⟨rfl, F7, hn7, hw7⟩
        have hst7 := hst6.turn hn7 hw7
        clear hn7 hw7 hst6
        obtain ⟨l2, hl2⟩ : ∃ l2, l2 = l1.take j ++ l1.drop (j + 1) := ⟨_, rfl⟩
        rw [← hl2] at hst7 hl5
        go_wp2_with fail
        refine (ord_swap w7 _ _ F7 l2 hst7.net hst7.base (a := a) (b := b) (by rw [hl5]; exact H.out.2.2.2.2.1) (by rw [hl5]; exact H.out.2.2.2.2.2)).mono ?_
        rintro e w8 ⟨rfl, F8, hn8, hw8⟩
        have hst8 := hst7.turn hn8 hw8
        clear hn8 hw8 hst7
        obtain ⟨g, rfl, hsp⟩ := hst8.spot (by have := H.out.1; omega)
        obtain ⟨ka, fa⟩ := hsp a H.out.2.2.2.2.1
        obtain ⟨kb, fb⟩ := hsp b H.out.2.2.2.2.2
        obtain ⟨xa, hxa⟩ : ∃ xa, xa = l2.getD a 0 := ⟨_, rfl⟩
        obtain ⟨xb, hxb⟩ : ∃ xb, xb = l2.getD b 0 := ⟨_, rfl⟩
        rw [← hxa, ← hxb] at hst8
        rw [← hxa] at ka
        rw [← hxb] at kb
        obtain ⟨v8, hv8⟩ := cell?_setCell_some (p := ⟨g, a, none⟩) (x := .int .i64 xb) kb
        have Hl2 := hide hl2
        have Hxa := hide hxa
        have Hxb := hide hxb
        clear hsp hl2 hxa hxb
        have haK : (a : Int) < K := by have := H.out.2.2.2.2.1; omega
        have hbK : (b : Int) < K := by have := H.out.2.2.2.2.2; omega
        go_wp2_with fail
        go_region
        have hst9 := ((hst8.put a xb).put b xa).quiet ((Chg.refl No _).drew)
        obtain ⟨w9, hw9⟩ : ∃ w9, w9 = ((w8.setCell ⟨g, a, none⟩ (.int .i64 xb)).setCell ⟨g, b, none⟩ (.int .i64 xa)).drew := ⟨_, rfl⟩
        rw [← hw9] at hst9 ⊢
        obtain ⟨l3, hl3⟩ : ∃ l3, l3 = (l2.set a xb).set b xa := ⟨_, rfl⟩
        rw [← hl3] at hst9
        have hlen : l3.length = K := by rw [hl3, List.length_set, List.length_set]; exact hl5
        have Hlen := hide hlen
        clear hlen hl3 hw9 hv8 ka kb fa fb hst8 haK hbK Hxa Hxb Hl2 Hl1 hl5 Hjm hwr hjc hm40 hjK hc3
        go_wp2_with fail
        go_loopg [14] K (fun k i wr => Took w K l3 (some ⟨g, 0, none⟩) d5 k i wr)
        case atStart => exact ⟨0, rfl, by omega, F8, hst9⟩
        case round =>
          clear hst9
          obtain ⟨T, rfl, hT, F9, hst9⟩ := hrel
          have HT := hide hT
          clear hT
          by_cases hTK : T < K
          · have hTi : (T : Int) < K := by omega
            obtain ⟨x, hx⟩ : ∃ x, x = l3.getD T 0 := ⟨_, rfl⟩
            have hdr : l3.drop T = x :: l3.drop (T + 1) := by
              have hlt : T < l3.length := by have := Hlen.out; omega
              rw [List.drop_eq_getElem_cons hlt, hx]
              simp [hlt]
            rw [hdr] at hst9
            have Hx := hide hx
            clear hx hdr
            go_wp2_with fail
            refine (ord_take _ _ _ _ _ x hst9.net hst9.base).mono ?_
            rintro e w2 ⟨rfl, F2, hn2, hw2⟩
            have hst2 := hst9.turn hn2 hw2
            clear hn2 hw2
            obtain ⟨w3, hw3⟩ : ∃ w3, w3 = w2.alloc (.cells #[Value.int .i64 0, .int .i64 x, .string ⟨#[]⟩] 45) := ⟨_, rfl⟩
            have hst3 : OSt w F2 ((l3.drop (T + 1)).map pk) l3 (some ⟨g, 0, none⟩) K d5 w3 := by rw [hw3]; exact hst2.quiet ((Chg.refl No w2).alloc _)
            have kp : w3.cell? ⟨w2.heap.size, 1, none⟩ = some (.int .i64 x) := by rw [hw3]; exact (Blk.new w2 _ _).cell 1
            obtain ⟨g', hg', hsp⟩ := hst3.spot (by omega)
            obtain ⟨kx, _⟩ := hsp T hTK
            simp only [Option.some.injEq, Addr.mk.injEq, and_true] at hg'
            subst hg'
            rw [← Hx.out] at kx
            clear hsp hst2 hst9
            go_wp2_with fail
            rw [← hw3]
            clear hw3
            go_quiet (fail)
            go_wp2_with fail
            go_roundg (K - (T + 1))
            case measure => have := HT.out; omega
            case rel => exact ⟨T + 1, by go_num, by omega, F2, hst3.quiet ((Chg.refl No w3).drewN _)⟩
          · obtain rfl : T = K := by have := HT.out; omega
            have hK1 : 1 ≤ T := H.out.1
            rw [List.drop_eq_nil_of_le (by rw [Hlen.out]; exact Nat.le_refl _), List.map_nil] at hst9
            go_wp2_with fail
            refine (alive_true _).mono ?_
            rintro e w10 ⟨rfl, hc10⟩
            have hst10 := hst9.quiet hc10
            clear hc10 hst9
            go_wp2_with fail
            refine (end_len _ _ _ _ hst10.net hst10.base).mono ?_
            rintro e w11 ⟨rfl, F11, hn11, hw11⟩
            have hst11 := hst10.turn hn11 hw11
            clear hn11 hw11 hst10
            go_wp2_with fail
            refine (end_drop _ _ _ _ hst11.net hst11.base).mono ?_
            rintro e w12 ⟨rfl, F12, hn12, hw12⟩
            have hst12 := hst11.turn hn12 hw12
            clear hn12 hw12 hst11
            go_wp2_with fail
            refine (end_double _ _ _ _ hst12.net hst12.base).mono ?_
            rintro e w13 ⟨rfl, F13, hn13, hw13⟩
            have hst13 := hst12.turn hn13 hw13
            clear hn13 hw13 hst12
            go_wp2_with fail
            refine (end_swap _ _ _ _ hst13.net hst13.base).mono ?_
            rintro e w14 ⟨rfl, F14, hn14, hw14⟩
            have hst14 := hst13.turn hn14 hw14
            clear hn14 hw14 hst13
            go_wp2_with fail
            go_ret
            exact ⟨rfl, hst14.below⟩

theorem out0 (n k j a b : Int) (w : World)  (h0 : n < 1) :
    Calls Try.prog 5 #[.int .i64 n, .int .i64 k, .int .i64 j, .int .i64 a, .int .i64 b] w fun e w' => e = .returned (.bool true) ∧ Below w.heap.size w w' := by
  have d0 : decide (n < 1) = true := decide_eq_true h0
  clear h0
  go_enter Try.func5, Try.ntmps5
  go_wp2_with fail
  refine (alive_true _).mono ?_
  rintro e w2 ⟨rfl, hc⟩
  go_wp2_with fail
  go_ret
  exact ⟨rfl, hc.below (Nat.le_refl _) (fun _ t => t.elim)⟩

theorem out1 (n k j a b : Int) (w : World) (h0 : ¬ n < 1) (h1 : 40 < n) :
    Calls Try.prog 5 #[.int .i64 n, .int .i64 k, .int .i64 j, .int .i64 a, .int .i64 b] w fun e w' => e = .returned (.bool true) ∧ Below w.heap.size w w' := by
  have d0 : decide (n < 1) = false := decide_eq_false h0
  have d1 : decide (40 < n) = true := decide_eq_true h1
  clear h0 h1
  go_enter Try.func5, Try.ntmps5
  go_wp2_with fail
  refine (alive_true _).mono ?_
  rintro e w2 ⟨rfl, hc⟩
  go_wp2_with fail
  go_ret
  exact ⟨rfl, hc.below (Nat.le_refl _) (fun _ t => t.elim)⟩

theorem out2 (n k j a b : Int) (w : World) (h0 : ¬ n < 1) (h1 : ¬ 40 < n) (h2 : k < 0) :
    Calls Try.prog 5 #[.int .i64 n, .int .i64 k, .int .i64 j, .int .i64 a, .int .i64 b] w fun e w' => e = .returned (.bool true) ∧ Below w.heap.size w w' := by
  have d0 : decide (n < 1) = false := decide_eq_false h0
  have d1 : decide (40 < n) = false := decide_eq_false h1
  have d2 : decide (k < 0) = true := decide_eq_true h2
  clear h0 h1 h2
  go_enter Try.func5, Try.ntmps5
  go_wp2_with fail
  refine (alive_true _).mono ?_
  rintro e w2 ⟨rfl, hc⟩
  go_wp2_with fail
  go_ret
  exact ⟨rfl, hc.below (Nat.le_refl _) (fun _ t => t.elim)⟩

theorem out3 (n k j a b : Int) (w : World) (h0 : ¬ n < 1) (h1 : ¬ 40 < n) (h2 : ¬ k < 0) (h3 : n ≤ k) :
    Calls Try.prog 5 #[.int .i64 n, .int .i64 k, .int .i64 j, .int .i64 a, .int .i64 b] w fun e w' => e = .returned (.bool true) ∧ Below w.heap.size w w' := by
  have d0 : decide (n < 1) = false := decide_eq_false h0
  have d1 : decide (40 < n) = false := decide_eq_false h1
  have d2 : decide (k < 0) = false := decide_eq_false h2
  have d3 : decide (n ≤ k) = true := decide_eq_true h3
  clear h0 h1 h2 h3
  go_enter Try.func5, Try.ntmps5
  go_wp2_with fail
  refine (alive_true _).mono ?_
  rintro e w2 ⟨rfl, hc⟩
  go_wp2_with fail
  go_ret
  exact ⟨rfl, hc.below (Nat.le_refl _) (fun _ t => t.elim)⟩

theorem out4 (n k j a b : Int) (w : World) (h0 : ¬ n < 1) (h1 : ¬ 40 < n) (h2 : ¬ k < 0) (h3 : ¬ n ≤ k) (h4 : j < 0) :
    Calls Try.prog 5 #[.int .i64 n, .int .i64 k, .int .i64 j, .int .i64 a, .int .i64 b] w fun e w' => e = .returned (.bool true) ∧ Below w.heap.size w w' := by
  have d0 : decide (n < 1) = false := decide_eq_false h0
  have d1 : decide (40 < n) = false := decide_eq_false h1
  have d2 : decide (k < 0) = false := decide_eq_false h2
  have d3 : decide (n ≤ k) = false := decide_eq_false h3
  have d4 : decide (j < 0) = true := decide_eq_true h4
  clear h0 h1 h2 h3 h4
  go_enter Try.func5, Try.ntmps5
  go_wp2_with fail
  refine (alive_true _).mono ?_
  rintro e w2 ⟨rfl, hc⟩
  go_wp2_with fail
  go_ret
  exact ⟨rfl, hc.below (Nat.le_refl _) (fun _ t => t.elim)⟩

theorem out5 (n k j a b : Int) (w : World) (h0 : ¬ n < 1) (h1 : ¬ 40 < n) (h2 : ¬ k < 0) (h3 : ¬ n ≤ k) (h4 : ¬ j < 0) (h5 : n < j) :
    Calls Try.prog 5 #[.int .i64 n, .int .i64 k, .int .i64 j, .int .i64 a, .int .i64 b] w fun e w' => e = .returned (.bool true) ∧ Below w.heap.size w w' := by
  have d0 : decide (n < 1) = false := decide_eq_false h0
  have d1 : decide (40 < n) = false := decide_eq_false h1
  have d2 : decide (k < 0) = false := decide_eq_false h2
  have d3 : decide (n ≤ k) = false := decide_eq_false h3
  have d4 : decide (j < 0) = false := decide_eq_false h4
  have d5 : decide (n < j) = true := decide_eq_true h5
  clear h0 h1 h2 h3 h4 h5
  go_enter Try.func5, Try.ntmps5
  go_wp2_with fail
  refine (alive_true _).mono ?_
  rintro e w2 ⟨rfl, hc⟩
  go_wp2_with fail
  go_ret
  exact ⟨rfl, hc.below (Nat.le_refl _) (fun _ t => t.elim)⟩

theorem out6 (n k j a b : Int) (w : World) (h0 : ¬ n < 1) (h1 : ¬ 40 < n) (h2 : ¬ k < 0) (h3 : ¬ n ≤ k) (h4 : ¬ j < 0) (h5 : ¬ n < j) (h6 : a < 0) :
    Calls Try.prog 5 #[.int .i64 n, .int .i64 k, .int .i64 j, .int .i64 a, .int .i64 b] w fun e w' => e = .returned (.bool true) ∧ Below w.heap.size w w' := by
  have d0 : decide (n < 1) = false := decide_eq_false h0
  have d1 : decide (40 < n) = false := decide_eq_false h1
  have d2 : decide (k < 0) = false := decide_eq_false h2
  have d3 : decide (n ≤ k) = false := decide_eq_false h3
  have d4 : decide (j < 0) = false := decide_eq_false h4
  have d5 : decide (n < j) = false := decide_eq_false h5
  have d6 : decide (a < 0) = true := decide_eq_true h6
  clear h0 h1 h2 h3 h4 h5 h6
  go_enter Try.func5, Try.ntmps5
  go_wp2_with fail
  refine (alive_true _).mono ?_
  rintro e w2 ⟨rfl, hc⟩
  go_wp2_with fail
  go_ret
  exact ⟨rfl, hc.below (Nat.le_refl _) (fun _ t => t.elim)⟩

theorem out7 (n k j a b : Int) (w : World) (h0 : ¬ n < 1) (h1 : ¬ 40 < n) (h2 : ¬ k < 0) (h3 : ¬ n ≤ k) (h4 : ¬ j < 0) (h5 : ¬ n < j) (h6 : ¬ a < 0) (h7 : n ≤ a) :
    Calls Try.prog 5 #[.int .i64 n, .int .i64 k, .int .i64 j, .int .i64 a, .int .i64 b] w fun e w' => e = .returned (.bool true) ∧ Below w.heap.size w w' := by
  have d0 : decide (n < 1) = false := decide_eq_false h0
  have d1 : decide (40 < n) = false := decide_eq_false h1
  have d2 : decide (k < 0) = false := decide_eq_false h2
  have d3 : decide (n ≤ k) = false := decide_eq_false h3
  have d4 : decide (j < 0) = false := decide_eq_false h4
  have d5 : decide (n < j) = false := decide_eq_false h5
  have d6 : decide (a < 0) = false := decide_eq_false h6
  have d7 : decide (n ≤ a) = true := decide_eq_true h7
  clear h0 h1 h2 h3 h4 h5 h6 h7
  go_enter Try.func5, Try.ntmps5
  go_wp2_with fail
  refine (alive_true _).mono ?_
  rintro e w2 ⟨rfl, hc⟩
  go_wp2_with fail
  go_ret
  exact ⟨rfl, hc.below (Nat.le_refl _) (fun _ t => t.elim)⟩

theorem out8 (n k j a b : Int) (w : World) (h0 : ¬ n < 1) (h1 : ¬ 40 < n) (h2 : ¬ k < 0) (h3 : ¬ n ≤ k) (h4 : ¬ j < 0) (h5 : ¬ n < j) (h6 : ¬ a < 0) (h7 : ¬ n ≤ a) (h8 : b < 0) :
    Calls Try.prog 5 #[.int .i64 n, .int .i64 k, .int .i64 j, .int .i64 a, .int .i64 b] w fun e w' => e = .returned (.bool true) ∧ Below w.heap.size w w' := by
  have d0 : decide (n < 1) = false := decide_eq_false h0
  have d1 : decide (40 < n) = false := decide_eq_false h1
  have d2 : decide (k < 0) = false := decide_eq_false h2
  have d3 : decide (n ≤ k) = false := decide_eq_false h3
  have d4 : decide (j < 0) = false := decide_eq_false h4
  have d5 : decide (n < j) = false := decide_eq_false h5
  have d6 : decide (a < 0) = false := decide_eq_false h6
  have d7 : decide (n ≤ a) = false := decide_eq_false h7
  have d8 : decide (b < 0) = true := decide_eq_true h8
  clear h0 h1 h2 h3 h4 h5 h6 h7 h8
  go_enter Try.func5, Try.ntmps5
  go_wp2_with fail
  refine (alive_true _).mono ?_
  rintro e w2 ⟨rfl, hc⟩
  go_wp2_with fail
  go_ret
  exact ⟨rfl, hc.below (Nat.le_refl _) (fun _ t => t.elim)⟩

theorem out9 (n k j a b : Int) (w : World) (h0 : ¬ n < 1) (h1 : ¬ 40 < n) (h2 : ¬ k < 0) (h3 : ¬ n ≤ k) (h4 : ¬ j < 0) (h5 : ¬ n < j) (h6 : ¬ a < 0) (h7 : ¬ n ≤ a) (h8 : ¬ b < 0) (h9 : n ≤ b) :
    Calls Try.prog 5 #[.int .i64 n, .int .i64 k, .int .i64 j, .int .i64 a, .int .i64 b] w fun e w' => e = .returned (.bool true) ∧ Below w.heap.size w w' := by
  have d0 : decide (n < 1) = false := decide_eq_false h0
  have d1 : decide (40 < n) = false := decide_eq_false h1
  have d2 : decide (k < 0) = false := decide_eq_false h2
  have d3 : decide (n ≤ k) = false := decide_eq_false h3
  have d4 : decide (j < 0) = false := decide_eq_false h4
  have d5 : decide (n < j) = false := decide_eq_false h5
  have d6 : decide (a < 0) = false := decide_eq_false h6
  have d7 : decide (n ≤ a) = false := decide_eq_false h7
  have d8 : decide (b < 0) = false := decide_eq_false h8
  have d9 : decide (n ≤ b) = true := decide_eq_true h9
  clear h0 h1 h2 h3 h4 h5 h6 h7 h8 h9
  go_enter Try.func5, Try.ntmps5
  go_wp2_with fail
  refine (alive_true _).mono ?_
  rintro e w2 ⟨rfl, hc⟩
  go_wp2_with fail
  go_ret
  exact ⟨rfl, hc.below (Nat.le_refl _) (fun _ t => t.elim)⟩
end Go.Proofs.Ytipdeacaehbbfaa.netOrders
