/-
  The reference's net: Take, Double.
-/
import Derived.Test.YtipdeacaehbbfaaRefNet
namespace Go.Proofs.Ytipdeacaehbbfaa
open Go.RowKit
set_option linter.unusedSimpArgs false

theorem Try.info48 : (Try.prog.info? 48).map (fun i => (i.zero, i.size, i.bytes)) = some (some (.agg #[.int .i64 0, .int .i64 0, .string ⟨#[]⟩]), 3, 32) := by kernel_rfl

theorem rf_put {t : TypeId} {w : World} {g : Nat} {cs : Array Value} (hb : Blk w g t cs) (hs : cs.size = 3) (p : Pk) :
    Blk (((w.setCell ⟨g, 0, none⟩ (.int .i64 p.fr)).setCell ⟨g, 1, none⟩ (.int .i64 p.to)).setCell ⟨g, 2, none⟩ (.string p.data)) g t #[.int .i64 p.fr, .int .i64 p.to, .string p.data] ∧
    Chg (fun k => k = g) w (((w.setCell ⟨g, 0, none⟩ (.int .i64 p.fr)).setCell ⟨g, 1, none⟩ (.int .i64 p.to)).setCell ⟨g, 2, none⟩ (.string p.data)) := by
  have h := ((hb.store 0 (.int .i64 p.fr)).store 1 (.int .i64 p.to)).store 2 (.string p.data)
  refine ⟨?_, (((Chg.refl (fun k => k = g) w).setCell (p := ⟨g, 0, none⟩) (fun _ => rfl) _).setCell (p := ⟨g, 1, none⟩) (fun _ => rfl) _).setCell (p := ⟨g, 2, none⟩) (fun _ => rfl) _⟩
  have e : ((cs.setIfInBounds 0 (.int .i64 p.fr)).setIfInBounds 1 (.int .i64 p.to)).setIfInBounds 2 (.string p.data) = #[.int .i64 p.fr, .int .i64 p.to, .string p.data] := by
    obtain ⟨l⟩ := cs
    match l, hs with
    | [a, b, c], _ => rfl
  rw [e] at h
  exact h
theorem rf_there {t : TypeId} {w : World} {g : Nat} {p : Pk} (hb : Blk w g t #[.int .i64 p.fr, .int .i64 p.to, .string p.data]) :
    w.cell? ⟨g, 0, none⟩ = some (.int .i64 p.fr) ∧ w.cell? ⟨g, 1, none⟩ = some (.int .i64 p.to) ∧ w.cell? ⟨g, 2, none⟩ = some (.string p.data) ∧ w.frozen? ⟨g, 0, none⟩ = false ∧ w.frozen? ⟨g, 1, none⟩ = false ∧ w.frozen? ⟨g, 2, none⟩ = false :=
  ⟨hb.cell 0, hb.cell 1, hb.cell 2, hb.frozen 0, hb.frozen 1, hb.frozen 2⟩

theorem th_in {k n : Nat} (h : k < n) : There (k : Int) n = true := decide_eq_true ⟨by omega, by omega⟩

section
variable (w : World) (B r c d : Nat) (A D : Option Addr) (L : List Pk) (ks : List (Int × Int))

set_option maxHeartbeats 4000000 in
theorem ref_take_in (h : RefAt w B r A c L D d ks) (hB : B ≤ w.heap.size) (hn : L.length ≤ 900) (k : Nat) (pk : Pk) (hk : L[k]? = some pk) :
    Calls Try.prog 16 #[.pointer (some ⟨r, 0, none⟩), .int .i64 (k : Int)] w fun e w' => e = .returned (.tuple #[pk.val, .bool true]) ∧ ∃ A' c', RefAt w' B r A' c' (L.take k ++ L.drop (k + 1)) D d ks ∧ Went (RFoot r A D) (RFoot r A' D) w w' := by
  obtain ⟨i0, hi, hz0, hz1, hz2⟩ := info_parts Try.info48
  have hkl : k < L.length := (List.getElem?_eq_some_iff.1 hk).1
  obtain ⟨g, rfl, _, hgl⟩ := own_addr h.list (by omega)
  obtain ⟨e0, e1, e2⟩ := flat_get hk
  have d0 := own_cells h.list rfl (k * 3) _ e0
  have d1 := own_cells h.list rfl (k * 3 + 1) _ e1
  have d2 := own_cells h.list rfl (k * 3 + 2) _ e2
  rw [add_flat, Nat.zero_add] at d0 d1 d2
  have hca := (Chg.refl No w).alloc (.cells #[.int .i64 0, .int .i64 0, .string ⟨#[]⟩] 48)
  have hb1 : Blk (w.alloc (.cells #[.int .i64 0, .int .i64 0, .string ⟨#[]⟩] 48)) w.heap.size 48 #[.int .i64 0, .int .i64 0, .string ⟨#[]⟩] := Blk.new _ _ _
  obtain ⟨w1, hw1⟩ : ∃ w1, w1 = w.alloc (.cells #[.int .i64 0, .int .i64 0, .string ⟨#[]⟩] 48) := ⟨_, rfl⟩
  rw [← hw1] at hca hb1
  have h1 := h.quiet hca
  have f0 := (hca.cell (p := ⟨g, k * 3, none⟩) hgl (fun t => t)).trans d0
  have f1 := (hca.cell (p := ⟨g, k * 3 + 1, none⟩) hgl (fun t => t)).trans d1
  have f2 := (hca.cell (p := ⟨g, k * 3 + 2, none⟩) hgl (fun t => t)).trans d2
  have hk' : (k : Int) < L.length := by omega
  have k0 := h1.k0
  have ht := th_in hkl
  have Hw1 := hide hw1
  obtain ⟨g4, hg4⟩ : ∃ g4, g4 = w.heap.size := ⟨_, rfl⟩
  rw [← hg4] at hb1
  have Hg4 := hide hg4
  clear e0 e1 e2 hk d0 d1 d2 hw1 hg4
  go_enter Try.func16, Try.ntmps16
  go_wp2_with fail
  rw [← Hw1.out]
  refine (ref_there _ B r c d _ D L ks h1 (k : Int)).mono ?_
  rintro e w' ⟨rfl, rfl⟩
  rw [ht]
  clear ht
  go_wp2_with fail
  obtain ⟨w2, hw2⟩ : ∃ w2, w2 = w1.alloc (.cells #[.int .i64 pk.fr, .int .i64 pk.to, .string pk.data] 48) := ⟨_, rfl⟩
  obtain ⟨g6, hg6⟩ : ∃ g6, g6 = w1.heap.size := ⟨_, rfl⟩
  have hc12 : Chg No w1 w2 := by rw [hw2]; exact (Chg.refl No w1).alloc _
  have hb6 : Blk w2 w1.heap.size 48 #[.int .i64 pk.fr, .int .i64 pk.to, .string pk.data] := by rw [hw2]; exact Blk.new _ _ _
  rw [← hw2, ← hg6, ← Hg4.out]
  rw [← hg6] at hb6
  have h2 := h1.quiet hc12
  have hb4 := hb1.chg hc12 (fun t => t)
  have h02 := hca.trans hc12 (fun _ _ t => t)
  have hr4 : r ≠ g4 := h2.blk.ne_of_type hb4 (by decide)
  have hr6 : r ≠ g6 := h2.blk.ne_of_type hb6 (by decide)
  have h46 : g4 ≠ g6 := by have := hb1.lt; omega
  clear hg6 hw2 hc12 hb1 h1 f0 f1 f2 k0 hca
  have k0 := h2.k0
  have hc3 := own_cap h2.list
  have hs1 := (Sees.of_own h2.list).take (k := k) (by omega)
  rw [flat_take] at hs1
  have hsl := run_tail (P := Try.prog) 27 48 3 Try.underlying27 i0 hi hz1 (some ⟨g, 0, none⟩) L.length c (k + 1) (by omega)
  have hs4 := (Sees.of_own h2.list).tail (k := k + 1) (by omega) hc3
  obtain ⟨m2, hm2⟩ : ∃ m2, m2 = L.length - (k + 1) := ⟨_, rfl⟩
  obtain ⟨X2, hX2⟩ : ∃ X2, X2 = cutAt (some ⟨g, 0, none⟩) c (k + 1) 3 := ⟨_, rfl⟩
  obtain ⟨d2, hd2⟩ : ∃ d2, d2 = c - (k + 1) := ⟨_, rfl⟩
  rw [flat_drop, ← hm2, ← hX2] at hs4
  rw [← hm2, ← hX2, ← hd2, show ((k + 1 : Nat) : Int) = (k : Int) + 1 by omega] at hsl
  have Hjm : Hid (k + m2 = (L.take k ++ L.drop (k + 1)).length) := hide (by simp; omega)
  have hm40 : m2 ≤ 900 := by omega
  have hk40 : k ≤ 900 := by omega
  have hkc : (k : Int) ≤ c := by omega
  clear hm2 hX2 hd2
  have hwr : IntKind.i64.wrap ((k : Int) + 1) = (k : Int) + 1 := IntWalk.i64_in _ (by omega)
  go_region_law (first
    | (refine step_append_sees _ rfl (.const (.slice none 0 0)) (.tmp 25) 27 rfl w2.heap.size 48 i0 (.agg #[.int .i64 0, .int .i64 0, .string ⟨#[]⟩]) 3 32 Try.underlying27 hi hz0 hz1 hz2 rfl (by decide) none 0 0 [] rfl (World.ownsRow_nil _ _ _ _) _ (some ⟨g, 0, none⟩) k c (flat (L.take k)) rfl (show Sees w2.drew w2.heap.size 3 _ k _ from hs1) (flat_one_cell _) (by unfold maxLen; omega) (by omega) (Nat.le_refl _) ?_; intro X4 d4 w4 hg1; rw [Nat.zero_add, List.nil_append] at hg1; have h4c : Chg No w2 w4 := ⟨hg1.by_.os, hg1.by_.tape, hg1.by_.output, hg1.by_.size, fun k hk _ => hg1.by_.block k hk (by simp [blkOf])⟩; have k04 := (h2.quiet h4c).k0)
    | (refine step_append_sees _ rfl (.tmp 26) (.tmp 33) 27 rfl w2.heap.size 48 i0 (.agg #[.int .i64 0, .int .i64 0, .string ⟨#[]⟩]) 3 32 Try.underlying27 hi hz0 hz1 hz2 rfl (by decide) X4 k d4 (flat (L.take k)) rfl hg1.own _ X2 m2 d2 (flat (L.drop (k + 1))) rfl (hs4.chg h4c (Nat.le_refl _) (fun _ _ _ t => t)) (flat_one_cell _) (by unfold maxLen; omega) (by omega) h4c.size ?_; intro X5 d5 w5 hg2; have h5c : Chg No w2 w5 := h4c.trans hg2.chg (fun i hi hs => by have := (own_lt hg1.own hs).1; omega); have k05 := (h2.quiet h5c).k0; have f05 := (h2.quiet h5c).blk.frozen 0))
  all_goals
    obtain ⟨hR6, hw6⟩ := h2.setL (L' := L.take k ++ L.drop (k + 1)) (Nat.le_trans hB h02.size) h5c hg2.own Hjm.out (flat_append _ _).symm
    have hb46 := (hb4.chg h5c (fun t => t)).far (p := ⟨r, 0, none⟩) (Ne.symm hr4) (.slice X5 (k + m2) d5)
    have hb66 := (hb6.chg h5c (fun t => t)).far (p := ⟨r, 0, none⟩) (Ne.symm hr6) (.slice X5 (k + m2) d5)
    obtain ⟨w6, hw6e⟩ : ∃ w6, w6 = w5.setCell ⟨r, 0, none⟩ (.slice X5 (k + m2) d5) := ⟨_, rfl⟩
    rw [← hw6e] at hR6 hw6 hb46 hb66 ⊢
    have hW := (Went.no (F := RFoot r (some ⟨g, 0, none⟩) D) h02).trans hw6
    have hn4 : ¬ RFoot r X5 D g4 := by
      rintro (e | e | e)
      · exact hr4 e.symm
      · have := (own_lt hg2.own e).1; have := hb4.lt; omega
      · have := (own_lt h.cuts e).2; have := Hg4.out; omega
    clear hw6e hg1 hg2 h4c h5c k04 k05 f05 k0 hsl hs1 hs4 hwr hw6 hb4 hb6 h2 h02
    have c0 : w6.cell? ⟨g4, 0, none⟩ = some (.int .i64 0) := hb46.cell 0
    have c1 : w6.cell? ⟨g4, 1, none⟩ = some (.int .i64 0) := hb46.cell 1
    have c2 : w6.cell? ⟨g4, 2, none⟩ = some (.string ⟨#[]⟩) := hb46.cell 2
    have f0 := hb46.frozen 0
    have f1 := hb46.frozen 1
    have f2 := hb46.frozen 2
    obtain ⟨d0, d1, d2, _, _, _⟩ := rf_there hb66
    obtain ⟨hb7, hc7⟩ := rf_put hb46 rfl pk
    have Hb7 := hide hb7
    have Hc7 := hide hc7
    clear hb7 hc7
    go_wp2_with fail
    obtain ⟨w7, hw7⟩ : ∃ w7, w7 = ((w6.setCell ⟨g4, 0, none⟩ (.int .i64 pk.fr)).setCell ⟨g4, 1, none⟩ (.int .i64 pk.to)).setCell ⟨g4, 2, none⟩ (.string pk.data) := ⟨_, rfl⟩
    rw [← hw7] at Hb7 Hc7 ⊢
    obtain ⟨d0, d1, d2, _, _, _⟩ := rf_there Hb7.out
    refine bodyPost_ret (v := .tuple #[pk.val, .bool true]) (by simp [results, Try.results16, go_sem, d0, d1, d2]) rfl ⟨rfl, X5, d5, hR6.chg Hc7.out (fun k hk e => by subst e; exact hn4 hk), ?_⟩
    exact hW.new Hc7.out (fun k e => by have := Hg4.out; omega)

theorem ref_take_out (h : RefAt w B r A c L D d ks) (k : Int) (hk : There k L.length = false) :
    Calls Try.prog 16 #[.pointer (some ⟨r, 0, none⟩), .int .i64 k] w fun e w' => e = .returned (.tuple #[Pk.zero.val, .bool false]) ∧ ∃ A' c', RefAt w' B r A' c' L D d ks ∧ Went (RFoot r A D) (RFoot r A' D) w w' := by
  have hca := (Chg.refl No w).alloc (.cells #[.int .i64 0, .int .i64 0, .string ⟨#[]⟩] 48)
  have h1 := h.quiet hca
  go_enter Try.func16, Try.ntmps16
  go_wp2_with fail
  refine (ref_there _ B r c d _ D L ks h1 k).mono ?_
  rintro e w' ⟨rfl, rfl⟩
  rw [hk]
  go_wp2_with fail
  exact bodyPost_ret (v := .tuple #[Pk.zero.val, .bool false]) (by simp [results, Try.results16, go_sem, Pk.zero]) rfl ⟨rfl, A, c, h1, Went.no hca⟩

theorem ref_take (h : RefAt w B r A c L D d ks) (hB : B ≤ w.heap.size) (hn : L.length ≤ 900) (k : Int) :
    Calls Try.prog 16 #[.pointer (some ⟨r, 0, none⟩), .int .i64 k] w fun e w' => e = .returned (.tuple #[(at? L k).val, .bool (There k L.length)]) ∧ ∃ A' c', RefAt w' B r A' c' (lessAt L k) D d ks ∧ Went (RFoot r A D) (RFoot r A' D) w w' := by
  cases e : There k L.length with
  | true =>
    have hk : 0 ≤ k ∧ k < L.length := of_decide_eq_true e
    obtain ⟨m, rfl⟩ : ∃ m : Nat, k = m := ⟨k.toNat, by omega⟩
    have hm : L[m]? = some (at? L m) := by
      unfold at?
      rw [if_pos e, Int.toNat_natCast, List.getD_eq_getElem?_getD, List.getElem?_eq_getElem (by omega)]
      rfl
    have el : lessAt L (m : Int) = L.take m ++ L.drop (m + 1) := by unfold lessAt; rw [if_pos e, Int.toNat_natCast]
    rw [el]
    exact ref_take_in w B r c d A D L ks h hB hn m _ hm
  | false =>
    have hz : at? L k = Pk.zero := by unfold at?; rw [if_neg (by rw [e]; decide)]
    have el : lessAt L k = L := by unfold lessAt; rw [e]; rfl
    rw [hz, el]
    exact ref_take_out w B r c d A D L ks h k e
end
end Go.Proofs.Ytipdeacaehbbfaa
