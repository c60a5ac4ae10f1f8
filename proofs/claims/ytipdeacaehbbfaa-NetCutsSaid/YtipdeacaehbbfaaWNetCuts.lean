/-
  The walk of NetCuts.
-/
import Derived.Test.YtipdeacaehbbfaaNetNil
namespace Go.Proofs.Ytipdeacaehbbfaa.netCuts
open Go.RowKit
set_option linter.unusedSimpArgs false

theorem made_flat (n : Nat) : (madeCells (Value.agg #[.int .i64 0, .int .i64 0, .string ⟨#[]⟩]).cells (n * 3)).toList = flat (List.replicate n Pk.zero) := by
  refine List.ext_getElem? (fun j => ?_)
  have hl : (flat (List.replicate n Pk.zero)).length = n * 3 := by rw [flat_length, List.length_replicate]
  by_cases hj : j < n * 3
  · have hk : (List.replicate n Pk.zero)[j / 3]? = some Pk.zero := by rw [List.getElem?_replicate, if_pos (by omega)]
    obtain ⟨e0, e1, e2⟩ := flat_get hk
    have hr : j = j / 3 * 3 + 0 ∨ j = j / 3 * 3 + 1 ∨ j = j / 3 * 3 + 2 := by omega
    have hm : (madeCells (Value.agg #[.int .i64 0, .int .i64 0, .string ⟨#[]⟩]).cells (n * 3)).toList[j]? = some ((Value.agg #[.int .i64 0, .int .i64 0, .string ⟨#[]⟩]).cells[j % 3]!) := by
      unfold madeCells
      rw [Array.getElem?_toList, Array.getElem?_map, Array.getElem?_range, if_pos hj]
      rfl
    rw [hm]
    rcases hr with h | h | h
    · rw [show j % 3 = 0 by omega, h, Nat.add_zero, e0]; rfl
    · rw [show j % 3 = 1 by omega, h, e1]; rfl
    · rw [show j % 3 = 2 by omega, h, e2]; rfl
  · rw [List.getElem?_eq_none (by rw [Array.length_toList, size_madeCells]; omega), List.getElem?_eq_none (by omega)]

theorem sendAll_zeros (n : Nat) : ∀ L : List Pk, L.length ≤ 900 → sendAll [] L (List.replicate n Pk.zero) = L ++ List.replicate (min n (900 - L.length)) Pk.zero := by
  induction n with
  | zero => intro L _; simp [sendAll]
  | succ n ih =>
    intro L hL
    have e : sendAll [] L (List.replicate (n + 1) Pk.zero) = sendAll [] (sendOne [] L Pk.zero) (List.replicate n Pk.zero) := rfl
    rw [e]
    by_cases hl : L.length < 900
    · have e1 : sendOne [] L Pk.zero = L ++ [Pk.zero] := by unfold sendOne; rw [if_neg (by simp), if_pos hl]
      rw [e1, ih _ (by simp; omega), List.append_assoc]
      congr 1
      rw [List.length_append, List.length_singleton, show min (n + 1) (900 - L.length) = min n (900 - (L.length + 1)) + 1 by omega]
      rfl
    · have e1 : sendOne [] L Pk.zero = L := by unfold sendOne; rw [if_neg (by simp), if_neg hl]
      rw [e1, ih _ hL]
      congr 2
      omega

/-- What was made ahead of a call, and a net that was there. -/
theorem below_went {w w1 w2 : World} {B : Nat} {F F' : Nat → Prop} (hb : Below B w w1) (hF : ∀ k, F k → B ≤ k) (hB : B ≤ w.heap.size) (hw : Went F F' w1 w2) : Below B w w2 ∧ ∀ k, F' k → B ≤ k :=
  ⟨hb.trans (hw.below hF (Nat.le_trans hB hb.size)), hw.ge hF (Nat.le_trans hB hb.size)⟩

set_option maxHeartbeats 2000000 in
set_option maxRecDepth 100000 in
theorem main (a b c : Int) (n : Nat) (w : World) (hn : n ≤ 1000) (hab : a ≠ b) (hac : a ≠ c) (hbc : b ≠ c) (wa : (Lit.int .i64 a).wf = true) (wb : (Lit.int .i64 b).wf = true) (wc : (Lit.int .i64 c).wf = true) :
    Calls Try.prog 6 #[.int .i64 a, .int .i64 b, .int .i64 c, .int .i64 (n : Int)] w fun e w' => e = .returned (.bool true) ∧ Below w.heap.size w w' := by
  have q1 : (a == b) = false := by simp [hab]
  have q2 : (a == c) = false := by simp [hac]
  have q3 : (b == c) = false := by simp [hbc]
  have hni : (n : Int) ≤ 1000 := by omega
  have hE1 : endsOf b a = endsOf a b := by unfold endsOf; rw [Int.min_comm, Int.max_comm]
  have hE2 : endsOf a c ≠ endsOf a b := by unfold endsOf; intro e; rw [Prod.mk.injEq] at e; omega
  have hk1 : cutsAt [] a b true = [endsOf a b] := by simp [cutsAt]
  have hk2 : cutsAt [endsOf a b] b a false = [] := by simp [cutsAt, hE1]
  obtain ⟨pa, hpa⟩ : ∃ pa : Pk, pa = ⟨a, b, ⟨#[]⟩⟩ := ⟨_, rfl⟩
  obtain ⟨pb, hpb⟩ : ∃ pb : Pk, pb = ⟨b, a, ⟨#[]⟩⟩ := ⟨_, rfl⟩
  obtain ⟨pc, hpc⟩ : ∃ pc : Pk, pc = ⟨a, c, ⟨#[]⟩⟩ := ⟨_, rfl⟩
  have hs1 : sendAll [endsOf a b] [] [pa, pb, pc] = [pc] := by rw [hpa, hpb, hpc]; simp [sendAll, sendOne, hE1, hE2]
  have hs2 : sendAll [] [pc] [pb] = [pc, pb] := by simp [sendAll, sendOne]
  have hs3 : sendAll [] [pc, pb] (List.replicate n Pk.zero) = [pc, pb] ++ List.replicate (min n 898) Pk.zero := by rw [sendAll_zeros n _ (by simp)]; rfl
  have hz0b : (⟨#[]⟩ : ByteArray).size ≤ 281474976710656 := by decide
  have wpa : wfPk pa := by rw [hpa]; exact ⟨wa, wb, hz0b⟩
  have wpb : wfPk pb := by rw [hpb]; exact ⟨wb, wa, hz0b⟩
  have wpc : wfPk pc := by rw [hpc]; exact ⟨wa, wc, hz0b⟩
  obtain ⟨i0, hi, hz0, hz1, hz2⟩ := info_parts Try.info45
  obtain ⟨M, hM⟩ : ∃ M, M = madeCells (Value.agg #[.int .i64 0, .int .i64 0, .string ⟨#[]⟩]).cells (n * 3) := ⟨_, rfl⟩
  have hMl : M.toList = flat (List.replicate n Pk.zero) := by rw [hM]; exact made_flat n
  have hMs : M.size = n * 3 := by rw [hM, size_madeCells]
  have hmk : ∀ W : World, (Instr.makeSlice 35 (.int .i64 (n : Int)) (.int .i64 (n : Int))).run Try.prog W = .ok (.slice (some ⟨W.heap.size, 0, none⟩) n n) (W.alloc (.cells M 45)) := fun W => by
    have h := run_make (P := Try.prog) W 35 45 i0 (.agg #[.int .i64 0, .int .i64 0, .string ⟨#[]⟩]) Try.underlying35 hi hz0 .i64 .i64 (n : Int) (n : Int) (by omega) (by omega) (by rw [hz2]; omega) (by omega)
    rw [hz1, Int.toNat_natCast, ← hM] at h
    exact h
  have Hk1 := hide hk1
  have Hk2 := hide hk2
  have Hs1 := hide hs1
  have Hs2 := hide hs2
  have Hs3 := hide hs3
  have Hpa := hide hpa
  have Hpb := hide hpb
  have Hpc := hide hpc
  have HMl := hide hMl
  have HMs := hide hMs
  clear hk1 hk2 hs1 hs2 hs3 hpa hpb hpc hE1 hE2 hab hac hbc hM hMl hMs
  go_enter Try.func6, Try.ntmps6
  go_wp2_with fail
  refine (net_new _).mono ?_
  rintro e w1 ⟨rfl, hw1⟩
  have hn1 := NetAt.made w
  have hb1 := ((Chg.refl No w).alloc (.cells (netCells none none) 34)).below (B := w.heap.size) (Nat.le_refl _) (fun _ t => t.elim)
  rw [hw1] at hn1 hb1
  have hF1 : ∀ k, (fun k => k = w.heap.size) k → w.heap.size ≤ k := fun k e => by have e' : k = w.heap.size := e; omega
  clear hw1
  go_wp2_with fail
  refine (net_cut _ _ _ _ _ _ hn1 hb1.size a b true wa wb).mono ?_
  rintro e w2 ⟨rfl, F2, hn2, hw2⟩
  obtain ⟨hb2, hF2⟩ := below_went hb1 hF1 (Nat.le_refl _) hw2
  rw [Hk1.out] at hn2
  clear hn1 hb1 hF1 hw2
  obtain ⟨w3, hw3⟩ : ∃ w3, w3 = w2.alloc (.cells #[Value.int .i64 a, .int .i64 b, .string ⟨#[]⟩, .int .i64 b, .int .i64 a, .string ⟨#[]⟩, .int .i64 a, .int .i64 c, .string ⟨#[]⟩] 45) := ⟨_, rfl⟩
  have hc3 : Chg No w2 w3 := by rw [hw3]; exact (Chg.refl No w2).alloc _
  have hsee : Sees w3 w3.heap.size 3 (some ⟨w2.heap.size, 0, none⟩) [pa, pb, pc].length (flat [pa, pb, pc]) := by
    have hb : Blk w3 w2.heap.size 45 #[Value.int .i64 a, .int .i64 b, .string ⟨#[]⟩, .int .i64 b, .int .i64 a, .string ⟨#[]⟩, .int .i64 a, .int .i64 c, .string ⟨#[]⟩] := by rw [hw3]; exact Blk.new _ _ _
    have e : flat [pa, pb, pc] = [Value.int .i64 a, .int .i64 b, .string ⟨#[]⟩, .int .i64 b, .int .i64 a, .string ⟨#[]⟩, .int .i64 a, .int .i64 c, .string ⟨#[]⟩] := by rw [Hpa.out, Hpb.out, Hpc.out]; rfl
    rw [e]
    exact Sees.of_blk hb rfl
  have hXF : ∀ j, blkOf (some (⟨w2.heap.size, 0, none⟩ : Addr)) = some j → ¬ F2 j := by
    intro j hj t
    have h1 : w2.heap.size = j := by simpa [blkOf] using hj
    have := hn2.lt j t
    omega
  have hn3 := hn2.chg hc3 (fun _ _ t => t)
  have hb3 := hb2.trans (hc3.below hb2.size (fun _ t => t.elim))
  have hwf3 : ∀ y ∈ [pa, pb, pc], wfPk y := by
    intro y hy
    simp only [List.mem_cons, List.not_mem_nil, or_false] at hy
    rcases hy with rfl | rfl | rfl
    · exact wpa
    · exact wpb
    · exact wpc
  go_wp2_with fail
  rw [← hw3]
  refine (net_send w3 _ _ _ [] _ hn3 hb3.size _ 3 [pa, pb, pc] hsee hXF hwf3 (by simp)).mono ?_
  rintro e w4 ⟨rfl, F4, hn4, hw4⟩
  obtain ⟨hb4, hF4⟩ := below_went hb3 hF2 (Nat.le_refl _) hw4
  rw [Hs1.out] at hn4 ⊢
  rw [show ((([pc] : List Pk).length : Int) - (([] : List Pk).length : Int)) = 1 from rfl]
  clear hn2 hb2 hF2 hw3 hc3 hsee hXF hn3 hb3 hwf3 hw4
  go_wp2_with fail
  refine (net_cut _ _ _ _ _ _ hn4 hb4.size b a false wb wa).mono ?_
  rintro e w5 ⟨rfl, F5, hn5, hw5⟩
  obtain ⟨hb5, hF5⟩ := below_went hb4 hF4 (Nat.le_refl _) hw5
  rw [Hk2.out] at hn5
  clear hn4 hb4 hF4 hw5
  obtain ⟨w6, hw6⟩ : ∃ w6, w6 = w5.alloc (.cells #[Value.int .i64 b, .int .i64 a, .string ⟨#[]⟩] 45) := ⟨_, rfl⟩
  have hc6 : Chg No w5 w6 := by rw [hw6]; exact (Chg.refl No w5).alloc _
  have hsee : Sees w6 w6.heap.size 3 (some ⟨w5.heap.size, 0, none⟩) [pb].length (flat [pb]) := by
    have hb : Blk w6 w5.heap.size 45 #[Value.int .i64 b, .int .i64 a, .string ⟨#[]⟩] := by rw [hw6]; exact Blk.new _ _ _
    have e : flat [pb] = [Value.int .i64 b, .int .i64 a, .string ⟨#[]⟩] := by rw [Hpb.out]; rfl
    rw [e]
    exact Sees.of_blk hb rfl
  have hXF : ∀ j, blkOf (some (⟨w5.heap.size, 0, none⟩ : Addr)) = some j → ¬ F5 j := by
    intro j hj t
    have h1 : w5.heap.size = j := by simpa [blkOf] using hj
    have := hn5.lt j t
    omega
  have hn6 := hn5.chg hc6 (fun _ _ t => t)
  have hb6 := hb5.trans (hc6.below hb5.size (fun _ t => t.elim))
  go_wp2_with fail
  rw [← hw6]
  refine (net_send w6 _ _ _ [pc] _ hn6 hb6.size _ 1 [pb] hsee hXF (fun y hy => by simp only [List.mem_cons, List.not_mem_nil, or_false] at hy; rw [hy]; exact wpb) (by simp)).mono ?_
  rintro e w7 ⟨rfl, F7, hn7, hw7⟩
  obtain ⟨hb7, hF7⟩ := below_went hb6 hF5 (Nat.le_refl _) hw7
  rw [Hs2.out] at hn7 ⊢
  rw [show ((([pc, pb] : List Pk).length : Int) - (([pc] : List Pk).length : Int)) = 1 from rfl]
  clear hn5 hb5 hF5 hw6 hc6 hsee hXF hn6 hb6 hw7
  obtain ⟨w8, hw8⟩ : ∃ w8, w8 = w7.alloc (.cells M 45) := ⟨_, rfl⟩
  have hc8 : Chg No w7 w8 := by rw [hw8]; exact (Chg.refl No w7).alloc _
  have hlen : (List.replicate n Pk.zero).length = n := List.length_replicate
  have hsee : Sees w8 w8.heap.size 3 (some ⟨w7.heap.size, 0, none⟩) (List.replicate n Pk.zero).length (flat (List.replicate n Pk.zero)) := by
    have hb : Blk w8 w7.heap.size 45 M := by rw [hw8]; exact Blk.new _ _ _
    rw [hlen, ← HMl.out]
    exact Sees.of_blk hb HMs.out
  have hXF : ∀ j, blkOf (some (⟨w7.heap.size, 0, none⟩ : Addr)) = some j → ¬ F7 j := by
    intro j hj t
    have h1 : w7.heap.size = j := by simpa [blkOf] using hj
    have := hn7.lt j t
    omega
  have hn8 := hn7.chg hc8 (fun _ _ t => t)
  have hb8 := hb7.trans (hc8.below hb7.size (fun _ t => t.elim))
  have hsend := net_send w8 _ _ _ [pc, pb] _ hn8 hb8.size _ n (List.replicate n Pk.zero) hsee hXF (fun y hy => by rw [List.mem_replicate] at hy; rw [hy.2]; exact ⟨by decide, by decide, by decide⟩) (by rw [hlen]; omega)
  rw [hlen, Hs3.out] at hsend
  obtain ⟨r, hr⟩ : ∃ r, r = min n 898 := ⟨_, rfl⟩
  rw [← hr] at hsend
  have hrl : ((([pc, pb] ++ List.replicate r Pk.zero : List Pk).length : Int) - (([pc, pb] : List Pk).length : Int)) = r := by simp; omega
  have hrl2 : ((([pc, pb] ++ List.replicate r Pk.zero : List Pk).length : Int)) = 2 + (r : Int) := by simp; omega
  rw [hrl] at hsend
  have Hr := hide hr
  have Hrl2 := hide hrl2
  have Hsend := hide hsend
  clear hr hrl hrl2 hsend hlen hsee hXF hn8 hn7 hb7 hc8
  go_wp2_with fail
  rw [← hw8]
  refine Hsend.out.mono ?_
  rintro e w9 ⟨rfl, F9, hn9, hw9⟩
  obtain ⟨hb9, hF9⟩ := below_went hb8 hF7 (Nat.le_refl _) hw9
  clear hw8 hb8 hF7 hw9 Hsend
  go_wp2_with fail
  refine (alive_true _).mono ?_
  rintro e w10 ⟨rfl, hc10⟩
  have hn10 := hn9.chg hc10 (fun _ _ t => t)
  have hb10 := hb9.trans (hc10.below hb9.size (fun _ t => t.elim))
  have hr0 : (r : Int) ≤ 898 := by have := Hr.out; omega
  have hmin : min (n : Int) 898 = (r : Int) := by have := Hr.out; omega
  have Hmin := hide hmin
  clear hmin
  go_wp2_with fail
  rotate_left
  · rename_i hne; exact absurd Hmin.out.symm hne
  refine (net_clear _ _ _ _ _ _ hn10 hb10.size).mono ?_
  rintro e w11 ⟨rfl, F11, hn11, hw11⟩
  obtain ⟨hb11, hF11⟩ := below_went hb10 hF9 (Nat.le_refl _) hw11
  rw [Hrl2.out]
  clear hn10 hb10 hF9 hw11
  go_wp2_with fail
  refine (net_len _ _ _ _ _ _ hn11 hb11.size).mono ?_
  rintro e w12 ⟨rfl, F12, hn12, hw12⟩
  obtain ⟨hb12, hF12⟩ := below_went hb11 hF11 (Nat.le_refl _) hw12
  rw [show ((([] : List Pk).length : Int)) = 0 from rfl]
  go_wp2_with fail
  go_ret
  exact ⟨rfl, hb12⟩

set_option maxHeartbeats 1000000 in
theorem out1 (a b c n : Int) (w : World) (h : n < 0) :
    Calls Try.prog 6 #[.int .i64 a, .int .i64 b, .int .i64 c, .int .i64 n] w fun e w' => e = .returned (.bool true) ∧ Below w.heap.size w w' := by
  go_enter Try.func6, Try.ntmps6
  go_wp2_with fail
  refine (alive_true _).mono ?_
  rintro e w2 ⟨rfl, hc⟩
  go_wp2_with fail
  go_ret
  exact ⟨rfl, hc.below (Nat.le_refl _) (fun _ t => t.elim)⟩

set_option maxHeartbeats 1000000 in
theorem out2 (a b c n : Int) (w : World) (h0 : 0 ≤ n) (h : 1000 < n) :
    Calls Try.prog 6 #[.int .i64 a, .int .i64 b, .int .i64 c, .int .i64 n] w fun e w' => e = .returned (.bool true) ∧ Below w.heap.size w w' := by
  go_enter Try.func6, Try.ntmps6
  go_wp2_with fail
  refine (alive_true _).mono ?_
  rintro e w2 ⟨rfl, hc⟩
  go_wp2_with fail
  go_ret
  exact ⟨rfl, hc.below (Nat.le_refl _) (fun _ t => t.elim)⟩

set_option maxHeartbeats 1000000 in
theorem out3 (a b c n : Int) (w : World) (h0 : 0 ≤ n) (h1 : n ≤ 1000) (h : a = b) :
    Calls Try.prog 6 #[.int .i64 a, .int .i64 b, .int .i64 c, .int .i64 n] w fun e w' => e = .returned (.bool true) ∧ Below w.heap.size w w' := by
  have q1 : (a == b) = true := by simp [h]
  go_enter Try.func6, Try.ntmps6
  go_wp2_with fail
  refine (alive_true _).mono ?_
  rintro e w2 ⟨rfl, hc⟩
  go_wp2_with fail
  go_ret
  exact ⟨rfl, hc.below (Nat.le_refl _) (fun _ t => t.elim)⟩

set_option maxHeartbeats 1000000 in
theorem out4 (a b c n : Int) (w : World) (h0 : 0 ≤ n) (h1 : n ≤ 1000) (h2 : a ≠ b) (h : a = c) :
    Calls Try.prog 6 #[.int .i64 a, .int .i64 b, .int .i64 c, .int .i64 n] w fun e w' => e = .returned (.bool true) ∧ Below w.heap.size w w' := by
  have q1 : (a == b) = false := by simp [h2]
  have q2 : (a == c) = true := by simp [h]
  go_enter Try.func6, Try.ntmps6
  go_wp2_with fail
  refine (alive_true _).mono ?_
  rintro e w2 ⟨rfl, hc⟩
  go_wp2_with fail
  go_ret
  exact ⟨rfl, hc.below (Nat.le_refl _) (fun _ t => t.elim)⟩

set_option maxHeartbeats 1000000 in
theorem out5 (a b c n : Int) (w : World) (h0 : 0 ≤ n) (h1 : n ≤ 1000) (h2 : a ≠ b) (h3 : a ≠ c) (h : b = c) :
    Calls Try.prog 6 #[.int .i64 a, .int .i64 b, .int .i64 c, .int .i64 n] w fun e w' => e = .returned (.bool true) ∧ Below w.heap.size w w' := by
  have q1 : (a == b) = false := by simp [h2]
  have q2 : (a == c) = false := by simp [h3]
  have q3 : (b == c) = true := by simp [h]
  go_enter Try.func6, Try.ntmps6
  go_wp2_with fail
  refine (alive_true _).mono ?_
  rintro e w2 ⟨rfl, hc⟩
  go_wp2_with fail
  go_ret
  exact ⟨rfl, hc.below (Nat.le_refl _) (fun _ t => t.elim)⟩
end Go.Proofs.Ytipdeacaehbbfaa.netCuts
