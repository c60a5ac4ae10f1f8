/-
  A nil net; and 'alive' of the statements on nets returns true, and turns nothing that was there.
-/
import Derived.Test.YtipdeacaehbbfaaNetSend
namespace Go.Proofs.Ytipdeacaehbbfaa
open Go.RowKit
set_option linter.unusedSimpArgs false

theorem nil_list (w : World) : Calls Try.prog 30 #[.pointer none] w fun e w' => e = .returned (.pointer none) ∧ w = w' := by
  go_enter Try.func30, Try.ntmps30
  go_wp2
  go_ret
  exact ⟨rfl, rfl⟩
theorem nil_len (w : World) : Calls Try.prog 27 #[.pointer none] w fun e w' => e = .returned (.int .i64 0) ∧ w = w' := by
  go_enter Try.func27, Try.ntmps27
  go_wp2_with fail
  refine (nil_list _).mono ?_
  rintro e w' ⟨rfl, rfl⟩
  go_wp2_with fail
  refine (pk_nil_len _).mono ?_
  rintro e w' ⟨rfl, rfl⟩
  go_wp2_with fail
  go_ret
  exact ⟨rfl, rfl⟩
theorem nil_clear (w : World) : Calls Try.prog 25 #[.pointer none] w fun e w' => e = .returned (.int .i64 0) ∧ w = w' := by
  go_enter Try.func25, Try.ntmps25
  go_wp2_with fail
  refine (nil_list _).mono ?_
  rintro e w' ⟨rfl, rfl⟩
  go_wp2_with fail
  refine (pk_nil_clear _).mono ?_
  rintro e w' ⟨rfl, rfl⟩
  go_wp2_with fail
  go_ret
  exact ⟨rfl, rfl⟩
theorem nil_send (X : Option Addr) (m d : Nat) (w : World) : Calls Try.prog 11 #[.pointer none, .slice X m d] w fun e w' => e = .returned (.int .i64 0) ∧ w = w' := by
  go_enter Try.func11, Try.ntmps11
  go_wp2_with fail
  refine (nil_list _).mono ?_
  rintro e w' ⟨rfl, rfl⟩
  go_wp2_with fail
  go_ret
  exact ⟨rfl, rfl⟩
theorem nil_cut (a b : Int) (on : Bool) (w : World) : Calls Try.prog 23 #[.pointer none, .int .i64 a, .int .i64 b, .bool on] w fun e w' => e = .returned (.tuple #[]) ∧ w = w' := by
  go_enter Try.func23, Try.ntmps23
  go_wp2_with fail
  exact bodyPost_ret (results_none rfl _ _ _) rfl ⟨rfl, rfl⟩
theorem nil_peek (k : Int) (w : World) : Calls Try.prog 26 #[.pointer none, .int .i64 k] w fun e w' => e = .returned (.tuple #[Pk.zero.val, .bool false]) ∧ Chg No w w' := by
  have hbz : Blk (w.alloc (.cells #[.int .i64 0, .int .i64 0, .string ⟨#[]⟩] 45)) w.heap.size 45 #[.int .i64 0, .int .i64 0, .string ⟨#[]⟩] := Blk.new _ _ _
  have hca := (Chg.refl No w).alloc (.cells #[.int .i64 0, .int .i64 0, .string ⟨#[]⟩] 45)
  obtain ⟨g, hg⟩ : ∃ g, g = w.heap.size := ⟨_, rfl⟩
  rw [← hg] at hbz
  have Hg := hide hg
  clear hg
  go_enter Try.func26, Try.ntmps26
  go_wp2_with fail
  refine (nil_list _).mono ?_
  rintro e w1 ⟨rfl, rfl⟩
  go_wp2_with fail
  refine (pk_nil_peek k _).mono ?_
  rintro e w2 ⟨rfl, hc2⟩
  have hb2 := hbz.chg hc2 (fun t => t)
  have c0 : w2.cell? ⟨g, 0, none⟩ = some (.int .i64 0) := hb2.cell 0
  have c1 : w2.cell? ⟨g, 1, none⟩ = some (.int .i64 0) := hb2.cell 1
  have c2 : w2.cell? ⟨g, 2, none⟩ = some (.string ⟨#[]⟩) := hb2.cell 2
  have f0 := hb2.frozen 0
  have f1 := hb2.frozen 1
  have f2 := hb2.frozen 2
  obtain ⟨hb3, hc3⟩ := pk_put hb2 rfl Pk.zero
  have Hb3 := hide hb3
  have Hc3 := hide hc3
  clear hb3 hc3
  obtain ⟨pz, hpz⟩ : ∃ pz, pz = Pk.zero := ⟨_, rfl⟩
  rw [← hpz] at Hb3 Hc3 ⊢
  have Hpz := hide hpz
  clear hpz
  rw [← Hg.out]
  go_wp2_with fail
  obtain ⟨w3, hw3⟩ : ∃ w3, w3 = ((w2.setCell ⟨g, 0, none⟩ (.int .i64 pz.fr)).setCell ⟨g, 1, none⟩ (.int .i64 pz.to)).setCell ⟨g, 2, none⟩ (.string pz.data) := ⟨_, rfl⟩
  rw [← hw3] at Hb3 Hc3 ⊢
  obtain ⟨d0, d1, d2, _, _, _⟩ := pk_there Hb3.out
  refine bodyPost_ret (v := .tuple #[pz.val, .bool false]) (by simp [results, Try.results26, go_sem, d0, d1, d2]) rfl ⟨by rw [Hpz.out], ?_⟩
  exact (hca.trans hc2 (fun _ _ t => t)).trans Hc3.out (fun k hk e => by subst e; have := Hg.out; omega)
theorem nil_take (k : Int) (w : World) : Calls Try.prog 15 #[.pointer none, .int .i64 k] w fun e w' => e = .returned (.tuple #[Pk.zero.val, .bool false]) ∧ Chg No w w' := by
  have hbz : Blk (w.alloc (.cells #[.int .i64 0, .int .i64 0, .string ⟨#[]⟩] 45)) w.heap.size 45 #[.int .i64 0, .int .i64 0, .string ⟨#[]⟩] := Blk.new _ _ _
  have hca := (Chg.refl No w).alloc (.cells #[.int .i64 0, .int .i64 0, .string ⟨#[]⟩] 45)
  obtain ⟨g, hg⟩ : ∃ g, g = w.heap.size := ⟨_, rfl⟩
  rw [← hg] at hbz
  have Hg := hide hg
  clear hg
  go_enter Try.func15, Try.ntmps15
  go_wp2_with fail
  refine (nil_peek k _).mono ?_
  rintro e w1 ⟨rfl, hc1⟩
  have hb1 := hbz.chg hc1 (fun t => t)
  obtain ⟨pz, hpz⟩ : ∃ pz, pz = Pk.zero := ⟨_, rfl⟩
  rw [← hpz]
  have Hpz := hide hpz
  clear hpz
  obtain ⟨w2, hw2⟩ : ∃ w2, w2 = w1.alloc (.cells #[.int .i64 pz.fr, .int .i64 pz.to, .string pz.data] 45) := ⟨_, rfl⟩
  have hc12 : Chg No w1 w2 := by rw [hw2]; exact (Chg.refl No w1).alloc _
  have hb6 : Blk w2 w1.heap.size 45 #[.int .i64 pz.fr, .int .i64 pz.to, .string pz.data] := by rw [hw2]; exact Blk.new _ _ _
  obtain ⟨g6, hg6⟩ : ∃ g6, g6 = w1.heap.size := ⟨_, rfl⟩
  rw [← hg6] at hb6
  have hb2 := hb1.chg hc12 (fun t => t)
  have Hw2 := hide hw2
  have Hg6 := hide hg6
  clear hw2 hg6 hb1
  have c0 : w2.cell? ⟨g, 0, none⟩ = some (.int .i64 0) := hb2.cell 0
  have c1 : w2.cell? ⟨g, 1, none⟩ = some (.int .i64 0) := hb2.cell 1
  have c2 : w2.cell? ⟨g, 2, none⟩ = some (.string ⟨#[]⟩) := hb2.cell 2
  have f0 := hb2.frozen 0
  have f1 := hb2.frozen 1
  have f2 := hb2.frozen 2
  obtain ⟨d0, d1, d2, _, _, _⟩ := pk_there hb6
  obtain ⟨hb3, hc3⟩ := pk_put hb2 rfl pz
  have Hb3 := hide hb3
  have Hc3 := hide hc3
  clear hb3 hc3
  go_upto_region 4 with fail
  rw [← Hw2.out, ← Hg6.out, ← Hg.out]
  go_wp2_with fail
  obtain ⟨w3, hw3⟩ : ∃ w3, w3 = ((w2.setCell ⟨g, 0, none⟩ (.int .i64 pz.fr)).setCell ⟨g, 1, none⟩ (.int .i64 pz.to)).setCell ⟨g, 2, none⟩ (.string pz.data) := ⟨_, rfl⟩
  rw [← hw3] at Hb3 Hc3 ⊢
  obtain ⟨d0, d1, d2, _, _, _⟩ := pk_there Hb3.out
  refine bodyPost_ret (v := .tuple #[pz.val, .bool false]) (by simp [results, Try.results15, go_sem, d0, d1, d2]) rfl ⟨by rw [Hpz.out], ?_⟩
  exact ((hca.trans hc1 (fun _ _ t => t)).trans hc12 (fun _ _ t => t)).trans Hc3.out (fun k hk e => by subst e; have := Hg.out; omega)
theorem nil_drop (k : Int) (w : World) : Calls Try.prog 18 #[.pointer none, .int .i64 k] w fun e w' => e = .returned (.bool false) ∧ Chg No w w' := by
  go_enter Try.func18, Try.ntmps18
  go_wp2_with fail
  refine (nil_take k _).mono ?_
  rintro e w1 ⟨rfl, hc1⟩
  go_wp2_with fail
  go_ret
  exact ⟨rfl, hc1.alloc _⟩
theorem nil_double (k : Int) (w : World) : Calls Try.prog 19 #[.pointer none, .int .i64 k] w fun e w' => e = .returned (.bool false) ∧ Chg No w w' := by
  go_enter Try.func19, Try.ntmps19
  go_wp2_with fail
  refine (nil_peek k _).mono ?_
  rintro e w1 ⟨rfl, hc1⟩
  go_wp2_with fail
  go_region
  all_goals
    go_wp2_with fail
    go_ret
    exact ⟨rfl, (hc1.alloc _).drew⟩
theorem nil_swap (k j : Int) (w : World) : Calls Try.prog 21 #[.pointer none, .int .i64 k, .int .i64 j] w fun e w' => e = .returned (.bool false) ∧ Chg No w w' := by
  go_enter Try.func21, Try.ntmps21
  go_wp2_with fail
  refine (nil_peek k _).mono ?_
  rintro e w1 ⟨rfl, hc1⟩
  go_wp2_with fail
  refine (nil_peek j _).mono ?_
  rintro e w2 ⟨rfl, hc2⟩
  go_wp2_with fail
  go_ret
  exact ⟨rfl, ((hc1.alloc _).trans hc2 (fun _ _ t => t)).alloc _⟩

theorem alive_true (w : World) : Calls Try.prog 7 #[] w fun e w' => e = .returned (.bool true) ∧ Chg No w w' := by
  have hX : ∃ px py : Pk, px = ⟨0, 0, ⟨#[120]⟩⟩ ∧ py = ⟨0, 0, ⟨#[121]⟩⟩ := ⟨_, _, rfl, rfl⟩
  obtain ⟨px, py, hpx, hpy⟩ := hX
  have hall : sendAll [] [] [px, py] = [px, py] := by simp [sendAll, sendOne]
  have hsw : swapAt [px, py] 0 1 = [py, px] := by
    have e0 : There 0 ([px, py] : List Pk).length = true := rfl
    have e1 : There 1 ([px, py] : List Pk).length = true := rfl
    unfold swapAt at?
    rw [e0, e1]
    rfl
  have hat : at? [py, px] 0 = py := by
    have e0 : There 0 ([py, px] : List Pk).length = true := rfl
    unfold at?
    rw [e0]
    rfl
  have hls : lessAt [py, px] 0 = [px] := by
    have e0 : There 0 ([py, px] : List Pk).length = true := rfl
    unfold lessAt
    rw [e0]
    rfl
  have Hpx := hide hpx
  have Hpy := hide hpy
  have Hall := hide hall
  have Hsw := hide hsw
  have Hat := hide hat
  have Hls := hide hls
  clear hpx hpy hall hsw hat hls
  go_enter Try.func7, Try.ntmps7
  go_wp2_with fail
  refine (net_new _).mono ?_
  rintro e w1 ⟨rfl, hw1⟩
  have hn1 := NetAt.made w
  have hc1 := (Chg.refl No w).alloc (.cells (netCells none none) 34)
  rw [hw1] at hn1 hc1
  clear hw1
  go_wp2_with fail
  have hwf : ∀ y ∈ [px, py], wfPk y := by
    intro y hy
    simp only [List.mem_cons, List.not_mem_nil, or_false] at hy
    rcases hy with rfl | rfl
    · rw [Hpx.out]; exact ⟨by decide, by decide, by decide⟩
    · rw [Hpy.out]; exact ⟨by decide, by decide, by decide⟩
  obtain ⟨w2, hw2⟩ : ∃ w2, w2 = w1.alloc (.cells #[Value.int .i64 0, .int .i64 0, .string ⟨#[120]⟩, .int .i64 0, .int .i64 0, .string ⟨#[121]⟩] 45) := ⟨_, rfl⟩
  have hc12 : Chg No w1 w2 := by rw [hw2]; exact (Chg.refl No w1).alloc _
  have hsee : Sees w2 w2.heap.size 3 (some ⟨w1.heap.size, 0, none⟩) [px, py].length (flat [px, py]) := by
    have hb : Blk w2 w1.heap.size 45 #[Value.int .i64 0, .int .i64 0, .string ⟨#[120]⟩, .int .i64 0, .int .i64 0, .string ⟨#[121]⟩] := by rw [hw2]; exact Blk.new _ _ _
    have e : flat [px, py] = [Value.int .i64 0, .int .i64 0, .string ⟨#[120]⟩, .int .i64 0, .int .i64 0, .string ⟨#[121]⟩] := by rw [Hpx.out, Hpy.out]; rfl
    rw [e]
    exact Sees.of_blk hb rfl
  have hn2 := hn1.chg hc12 (fun _ _ t => t)
  have hB2 : w.heap.size ≤ w2.heap.size := Nat.le_trans hc1.size hc12.size
  have hXF : ∀ j, blkOf (some (⟨w1.heap.size, 0, none⟩ : Addr)) = some j → ¬ (fun k => k = w.heap.size) j := by
    intro j hj e
    have h1 : w1.heap.size = j := by simpa [blkOf] using hj
    have e' : j = w.heap.size := e
    have := hn1.lt j e
    omega
  rw [← hw2]
  refine (net_send w2 _ _ _ [] [] hn2 hB2 _ 2 [px, py] hsee hXF hwf (by simp)).mono ?_
  rintro e w3 ⟨rfl, F3, hn3, hw3⟩
  have hg : Went (fun k => k = w.heap.size) F3 w1 w3 := (Went.no hc12).trans hw3
  have hc3 : Chg No w w3 := hc1.trans hg.chg (fun k hk e => by have e' : k = w.heap.size := e; omega)
  have hF3 : ∀ k, F3 k → w.heap.size ≤ k := hg.ge (fun k e => by have e' : k = w.heap.size := e; omega) hc1.size
  rw [Hall.out] at hn3 ⊢
  clear hn1 hc1 hwf hw2 hc12 hsee hn2 hXF hw3 hg
  rw [show ((([px, py] : List Pk).length : Int) - (([] : List Pk).length : Int)) = 2 from rfl]
  go_wp2_with fail
  refine (net_swap _ _ _ _ _ _ hn3 hc3.size 0 1).mono ?_
  rintro e w4 ⟨rfl, F4, hn4, hw4⟩
  have hc4 : Chg No w w4 := hc3.trans hw4.chg (fun k hk t => by have := hF3 k t; omega)
  have hF4 := hw4.ge hF3 hc3.size
  rw [Hsw.out] at hn4
  rw [show (There 0 ([px, py] : List Pk).length && There 1 ([px, py] : List Pk).length) = true from rfl]
  clear hn3 hw4
  go_wp2_with fail
  refine (net_take _ _ _ _ _ _ hn4 hc4.size 0).mono ?_
  rintro e w5 ⟨rfl, F5, hn5, hw5⟩
  have hc5 : Chg No w w5 := hc4.trans hw5.chg (fun k hk t => by have := hF4 k t; omega)
  have hF5 := hw5.ge hF4 hc4.size
  rw [Hls.out] at hn5
  rw [Hat.out, show There 0 ([py, px] : List Pk).length = true from rfl]
  clear hn4 hw5
  rw [Hpy.out]
  have hn6 := hn5.chg ((Chg.refl No w5).alloc (.cells #[Value.int .i64 0, .int .i64 0, .string ⟨#[121]⟩] 45)) (fun _ _ t => t)
  go_wp2_with fail
  refine (net_len _ _ _ _ _ _ hn6 (by simp; have := hc5.size; omega)).mono ?_
  rintro e w7 ⟨rfl, F7, hn7, hw7⟩
  have hc7 : Chg No w w7 := (hc5.alloc _).trans hw7.chg (fun k hk t => by have := hF5 k t; omega)
  rw [show ((([px] : List Pk).length : Int)) = 1 from rfl]
  go_wp2_with fail
  go_ret
  exact ⟨rfl, hc7⟩
end Go.Proofs.Ytipdeacaehbbfaa
