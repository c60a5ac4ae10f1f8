/-
  The calls of package net: what each returns, what the net holds behind it, and that all else in memory is as it was. No condition but that texts fit into memory.
-/
import Derived.Test.YtipdeacaehbbfaaCutMap
import Derived.Deep.LoopGhost
import Derived.Deep.DeepCutAuto
import Derived.Deep.RegionHeld3
import Derived.IntWalk
import Derived.Outline
namespace Go.Proofs.Ytipdeacaehbbfaa
open Go.RowKit
set_option linter.unusedSimpArgs false

/-- The net's struct: its ring, its cuts. -/
def netCells (R : Option Addr) (C : Option Nat) : Array Value := #[.pointer R, .map C]

/-- A net that has its ring. -/
structure NetR (w : World) (B q p : Nat) (A : Option Addr) (c : Nat) (L : List Pk) (C : Option Nat) (ks : List (Int × Int)) : Prop where
  blk : Blk w q 34 (netCells (some ⟨p, 0, none⟩) C)
  base : B ≤ q
  ring : pkAt w B p A c L 900
  cuts : CutsAt w B C ks
def NFoot (q p : Nat) (A : Option Addr) (C : Option Nat) : Nat → Prop := fun k => k = q ∨ Foot p A k ∨ C = some k

/-- The net in block q: its packets, its cuts; F: the blocks that are its own. -/
def NetAt (w : World) (B q : Nat) (F : Nat → Prop) (L : List Pk) (ks : List (Int × Int)) : Prop :=
  (∃ C, L = [] ∧ Blk w q 34 (netCells none C) ∧ B ≤ q ∧ CutsAt w B C ks ∧ ∀ k, F k ↔ (k = q ∨ C = some k)) ∨
  ∃ p A c C, NetR w B q p A c L C ks ∧ ∀ k, F k ↔ NFoot q p A C k

/-- Of what there was only F may have turned; what is the net's own now was its own, or is new. -/
structure Went (F F' : Nat → Prop) (w w' : World) : Prop where
  chg : Chg F w w'
  foot : ∀ k, F' k → F k ∨ w.heap.size ≤ k

section
variable {S F F' F'' : Nat → Prop} {w w' w1 w2 : World} {B q p c : Nat} {A : Option Addr} {C : Option Nat} {L L' : List Pk} {ks : List (Int × Int)}
theorem Went.refl (F : Nat → Prop) (w : World) : Went F F w w := ⟨Chg.refl _ _, fun _ h => .inl h⟩
theorem Went.trans (h : Went F F' w w1) (k : Went F' F'' w1 w2) : Went F F'' w w2 :=
  ⟨h.chg.trans k.chg (fun i hi t => (h.foot i t).resolve_right (by omega)), fun i t => by
    rcases k.foot i t with e | e
    · exact h.foot i e
    · exact .inr (Nat.le_trans h.chg.size e)⟩
theorem Went.no (h : Chg No w w1) : Went F F w w1 := ⟨h.mono (fun _ _ t => t.elim), fun _ t => .inl t⟩
theorem Went.new (h : Went F F' w w1) (hc : Chg S w1 w2) (hS : ∀ k, S k → w.heap.size ≤ k) : Went F F' w w2 := ⟨h.chg.trans hc (fun i hi t => by have := hS i t; omega), h.foot⟩
theorem Went.of_drew (h : Went F F' w.drew w1) : Went F F' w w1 := ⟨⟨h.chg.os, h.chg.tape, h.chg.output, h.chg.size, h.chg.block⟩, h.foot⟩
theorem Went.iff (h : Went F F' w w1) (hi : ∀ k, F'' k ↔ F k) : Went F'' F' w w1 := ⟨h.chg.mono (fun k _ t => (hi k).2 t), fun k t => (h.foot k t).imp (hi k).2 id⟩
theorem Went.below (h : Went F F' w w1) (hF : ∀ k, F k → B ≤ k) (hB : B ≤ w.heap.size) : Below B w w1 := h.chg.below hB hF
theorem Went.ge (h : Went F F' w w1) (hF : ∀ k, F k → B ≤ k) (hB : B ≤ w.heap.size) : ∀ k, F' k → B ≤ k := fun k t => by
  rcases h.foot k t with e | e
  · exact hF k e
  · omega

theorem NetR.np (h : NetR w B q p A c L C ks) : ¬ Foot p A q := by
  rintro (e | e)
  · exact h.blk.ne_of_type h.ring.blk (by decide) e
  · exact own_ne h.ring.own h.blk (by decide) e
theorem NetR.nC (h : NetR w B q p A c L C ks) : C ≠ some q := h.cuts.ne_blk h.blk
theorem NetR.nCp (h : NetR w B q p A c L C ks) : ∀ k, C = some k → ¬ Foot p A k := by
  rintro k hC (rfl | hk)
  · exact h.cuts.ne_blk h.ring.blk hC
  · obtain ⟨cur, hb⟩ := own_blk h.ring.own hk
    exact h.cuts.ne_blk hb hC
theorem NetR.chg (h : NetR w B q p A c L C ks) (hc : Chg S w w') (hn : ∀ k, NFoot q p A C k → ¬ S k) : NetR w' B q p A c L C ks :=
  ⟨h.blk.chg hc (hn q (.inl rfl)), h.base, h.ring.chg hc (fun k hk => hn k (.inr (.inl hk))), h.cuts.chg hc (fun k hk => hn k (.inr (.inr hk)))⟩
theorem NetR.lt (h : NetR w B q p A c L C ks) : ∀ k, NFoot q p A C k → k < w.heap.size := by
  rintro k (rfl | hk | hk)
  · exact h.blk.lt
  · exact h.ring.foot_lt k hk
  · exact (h.cuts.lt hk).2
theorem NetR.ge (h : NetR w B q p A c L C ks) : ∀ k, NFoot q p A C k → B ≤ k := by
  rintro k (rfl | hk | hk)
  · exact h.base
  · exact h.ring.foot_ge k hk
  · exact (h.cuts.lt hk).1
/-- The ring has turned. -/
theorem NetR.turn (h : NetR w B q p A c L C ks) (hm : Moved 71 45 3 w w1 B p A L'.length (flat L') 900) :
    ∃ A' c', NetR w1 B q p A' c' L' C ks ∧ Went (NFoot q p A C) (NFoot q p A' C) w w1 := by
  obtain ⟨A', c', hr, hc, hf⟩ := hm
  refine ⟨A', c', ⟨h.blk.chg hc h.np, h.base, hr, h.cuts.chg hc h.nCp⟩, hc.mono (fun k _ t => .inr (.inl t)), ?_⟩
  rintro k (rfl | (rfl | hk) | hk)
  · exact .inl (.inl rfl)
  · exact .inl (.inr (.inl (.inl rfl)))
  · exact (hf k hk).imp (fun e => .inr (.inl (.inr e))) id
  · exact .inl (.inr (.inr hk))
theorem NetR.at_ (h : NetR w B q p A c L C ks) : NetAt w B q (NFoot q p A C) L ks := .inr ⟨p, A, c, C, h, fun _ => Iff.rfl⟩
theorem NetAt.lt (h : NetAt w B q F L ks) : ∀ k, F k → k < w.heap.size := by
  intro k hk
  rcases h with ⟨C, _, hb, _, hc, hF⟩ | ⟨p, A, c, C, hr, hF⟩
  · rcases (hF k).1 hk with rfl | e
    · exact hb.lt
    · exact (hc.lt e).2
  · exact hr.lt k ((hF k).1 hk)
theorem NetAt.ge (h : NetAt w B q F L ks) : ∀ k, F k → B ≤ k := by
  intro k hk
  rcases h with ⟨C, _, hb, hq, hc, hF⟩ | ⟨p, A, c, C, hr, hF⟩
  · rcases (hF k).1 hk with rfl | e
    · exact hq
    · exact (hc.lt e).1
  · exact hr.ge k ((hF k).1 hk)
theorem NetAt.chg (h : NetAt w B q F L ks) (hc : Chg S w w') (hn : ∀ k, F k → ¬ S k) : NetAt w' B q F L ks := by
  rcases h with ⟨C, hL, hb, hq, hcu, hF⟩ | ⟨p, A, c, C, hr, hF⟩
  · exact .inl ⟨C, hL, hb.chg hc (hn q ((hF q).2 (.inl rfl))), hq, hcu.chg hc (fun k hk => hn k ((hF k).2 (.inr hk))), hF⟩
  · exact .inr ⟨p, A, c, C, hr.chg hc (fun k hk => hn k ((hF k).2 hk)), hF⟩
end

theorem net_cells {w : World} {q : Nat} {R : Option Addr} {C : Option Nat} (h : Blk w q 34 (netCells R C)) : w.cell? ⟨q, 0, none⟩ = some (.pointer R) ∧ w.cell? ⟨q, 1, none⟩ = some (.map C) := ⟨h.cell 0, h.cell 1⟩

theorem net_new (w : World) : Calls Try.prog 8 #[] w fun e w' => e = .returned (.pointer (some ⟨w.heap.size, 0, none⟩)) ∧ w.alloc (.cells (netCells none none) 34) = w' := by
  go_enter Try.func8, Try.ntmps8
  go_wp2
  go_ret
  exact ⟨rfl, rfl⟩
theorem NetAt.made (w : World) : NetAt (w.alloc (.cells (netCells none none) 34)) w.heap.size w.heap.size (fun k => k = w.heap.size) [] [] :=
  .inl ⟨none, rfl, Blk.new _ _ _, Nat.le_refl _, ⟨by simp, by simp, .inl ⟨rfl, rfl⟩⟩, fun k => by simp⟩

/-- What 'list' leaves: a net that has its ring. -/
def ListedPost (w : World) (B q : Nat) (F : Nat → Prop) (L : List Pk) (ks : List (Int × Int)) (e : Ending) (w' : World) : Prop :=
  ∃ p A c C, e = .returned (.pointer (some ⟨p, 0, none⟩)) ∧ NetR w' B q p A c L C ks ∧ Went F (NFoot q p A C) w w'

section
variable (w : World) (B q : Nat) (F : Nat → Prop) (L : List Pk) (ks : List (Int × Int))
theorem net_list (h : NetAt w B q F L ks) (hB : B ≤ w.heap.size) : Calls Try.prog 30 #[.pointer (some ⟨q, 0, none⟩)] w (ListedPost w B q F L ks) := by
  have e9 : roomOf 900 = 900 := rfl
  rcases h with ⟨C, rfl, hb, hq, hcu, hF⟩ | ⟨p, A, c, C, hr, hF⟩
  · obtain ⟨k0, k1⟩ := net_cells hb
    have E9 := hide e9
    clear e9
    go_enter Try.func30, Try.ntmps30
    go_wp2_with fail
    refine (pk_new _ _).mono ?_
    rintro e w1 ⟨rfl, hr1, hc1, hs1⟩
    rw [E9.out] at hr1
    have hb1 := hb.chg hc1 (fun t => t)
    have hf1 := hb1.frozen 0
    have hlt := hb.lt
    clear k0 k1
    obtain ⟨k0, k1⟩ := net_cells hb1
    go_wp2_with fail
    go_ret
    have hcq : Chg (fun k => k = q) w1 (w1.setCell ⟨q, 0, none⟩ (.pointer (some ⟨w.heap.size, 0, none⟩))) := (Chg.refl (fun k => k = q) w1).setCell (p := ⟨q, 0, none⟩) (fun _ => rfl) _
    refine ⟨w.heap.size, none, 0, C, rfl, ⟨hb1.store 0 _, hq, (hr1.lower hB).chg hcq ?_, (hcu.chg hc1 (fun _ _ t => t)).chg hcq ?_⟩, hc1.mono (T := F) (fun _ _ t => t.elim) |>.setCell (p := ⟨q, 0, none⟩) (fun _ => (hF q).2 (.inl rfl)) _, ?_⟩
    · rintro k (rfl | hk) rfl
      · omega
      · simp [blkOf] at hk
    · rintro m hm rfl
      exact hcu.ne_blk hb hm
    · rintro k (rfl | (rfl | hk) | hk)
      · exact .inl ((hF _).2 (.inl rfl))
      · exact .inr (Nat.le_refl _)
      · simp [blkOf] at hk
      · exact .inl ((hF k).2 (.inr hk))
  · obtain ⟨k0, k1⟩ := net_cells hr.blk
    clear e9
    go_enter Try.func30, Try.ntmps30
    go_wp2_with fail
    go_ret
    exact ⟨p, A, c, C, rfl, hr, (Went.refl _ _).iff hF⟩

theorem net_len (h : NetAt w B q F L ks) (hB : B ≤ w.heap.size) :
    Calls Try.prog 27 #[.pointer (some ⟨q, 0, none⟩)] w fun e w' => e = .returned (.int .i64 (L.length : Int)) ∧ ∃ F', NetAt w' B q F' L ks ∧ Went F F' w w' := by
  go_enter Try.func27, Try.ntmps27
  go_wp2_with fail
  refine (net_list w B q F L ks h hB).mono ?_
  rintro e w1 ⟨p, A, c, C, rfl, hr, hw⟩
  go_wp2_with fail
  refine (pk_len _ _ _ _ _ _ _ hr.ring).mono ?_
  rintro e w2 ⟨rfl, rfl⟩
  go_wp2_with fail
  go_ret
  exact ⟨rfl, _, hr.at_, hw⟩

theorem net_clear (h : NetAt w B q F L ks) (hB : B ≤ w.heap.size) :
    Calls Try.prog 25 #[.pointer (some ⟨q, 0, none⟩)] w fun e w' => e = .returned (.int .i64 (L.length : Int)) ∧ ∃ F', NetAt w' B q F' [] ks ∧ Went F F' w w' := by
  go_enter Try.func25, Try.ntmps25
  go_wp2_with fail
  refine (net_list w B q F L ks h hB).mono ?_
  rintro e w1 ⟨p, A, c, C, rfl, hr, hw⟩
  go_wp2_with fail
  refine (pk_clear _ _ _ _ _ _ _ hr.ring (Nat.le_trans hB hw.chg.size) (by omega)).mono ?_
  rintro e w2 ⟨rfl, hm⟩
  obtain ⟨A', c', hr2, hw2⟩ := hr.turn (L' := []) hm
  go_wp2_with fail
  go_ret
  exact ⟨rfl, _, hr2.at_, hw.trans hw2⟩

/-- A packet's own block, written. -/
theorem pk_put {w : World} {g : Nat} {cs : Array Value} (hb : Blk w g 45 cs) (hs : cs.size = 3) (p : Pk) :
    Blk (((w.setCell ⟨g, 0, none⟩ (.int .i64 p.fr)).setCell ⟨g, 1, none⟩ (.int .i64 p.to)).setCell ⟨g, 2, none⟩ (.string p.data)) g 45 #[.int .i64 p.fr, .int .i64 p.to, .string p.data] ∧
    Chg (fun k => k = g) w (((w.setCell ⟨g, 0, none⟩ (.int .i64 p.fr)).setCell ⟨g, 1, none⟩ (.int .i64 p.to)).setCell ⟨g, 2, none⟩ (.string p.data)) := by
  have h := ((hb.store 0 (.int .i64 p.fr)).store 1 (.int .i64 p.to)).store 2 (.string p.data)
  refine ⟨?_, (((Chg.refl (fun k => k = g) w).setCell (p := ⟨g, 0, none⟩) (fun _ => rfl) _).setCell (p := ⟨g, 1, none⟩) (fun _ => rfl) _).setCell (p := ⟨g, 2, none⟩) (fun _ => rfl) _⟩
  have e : ((cs.setIfInBounds 0 (.int .i64 p.fr)).setIfInBounds 1 (.int .i64 p.to)).setIfInBounds 2 (.string p.data) = #[.int .i64 p.fr, .int .i64 p.to, .string p.data] := by
    obtain ⟨l⟩ := cs
    match l, hs with
    | [a, b, c], _ => rfl
  rw [e] at h
  exact h
theorem pk_there {w : World} {g : Nat} {p : Pk} (hb : Blk w g 45 #[.int .i64 p.fr, .int .i64 p.to, .string p.data]) :
    w.cell? ⟨g, 0, none⟩ = some (.int .i64 p.fr) ∧ w.cell? ⟨g, 1, none⟩ = some (.int .i64 p.to) ∧ w.cell? ⟨g, 2, none⟩ = some (.string p.data) ∧ w.frozen? ⟨g, 0, none⟩ = false ∧ w.frozen? ⟨g, 1, none⟩ = false ∧ w.frozen? ⟨g, 2, none⟩ = false :=
  ⟨hb.cell 0, hb.cell 1, hb.cell 2, hb.frozen 0, hb.frozen 1, hb.frozen 2⟩

theorem net_peek (h : NetAt w B q F L ks) (hB : B ≤ w.heap.size) (k : Int) :
    Calls Try.prog 26 #[.pointer (some ⟨q, 0, none⟩), .int .i64 k] w fun e w' => e = .returned (.tuple #[(at? L k).val, .bool (There k L.length)]) ∧ ∃ F', NetAt w' B q F' L ks ∧ Went F F' w w' := by
  have hca := (Chg.refl No w).alloc (.cells #[.int .i64 0, .int .i64 0, .string ⟨#[]⟩] 45)
  have hwa : Went F F w (w.alloc (.cells #[.int .i64 0, .int .i64 0, .string ⟨#[]⟩] 45)) := Went.no hca
  have h' := h.chg hca (fun _ _ t => t)
  have hbz : Blk (w.alloc (.cells #[.int .i64 0, .int .i64 0, .string ⟨#[]⟩] 45)) w.heap.size 45 #[.int .i64 0, .int .i64 0, .string ⟨#[]⟩] := Blk.new _ _ _
  obtain ⟨g, hg⟩ : ∃ g, g = w.heap.size := ⟨_, rfl⟩
  have hFg : ¬ F g := fun t => by have := h.lt g t; omega
  rw [← hg] at hbz
  have Hg := hide hg
  clear hg
  go_enter Try.func26, Try.ntmps26
  go_wp2_with fail
  refine (net_list _ B q F L ks h' (by simp; omega)).mono ?_
  rintro e w1 ⟨p, A, c, C, rfl, hr, hw⟩
  have hb1 := hbz.chg hw.chg hFg
  have hng : ¬ NFoot q p A C g := fun t => by
    rcases hw.foot g t with e | e
    · exact hFg e
    · have := Hg.out; simp at e; omega
  go_wp2_with fail
  refine (pk_peek _ _ _ _ _ _ _ hr.ring k (by have := hr.ring.fits; omega)).mono ?_
  rintro e w2 ⟨rfl, hc2⟩
  have hb2 := hb1.chg hc2 (fun t => t)
  have hr2 := hr.chg hc2 (fun _ _ t => t)
  have hw2 := (hwa.trans hw).trans (Went.no hc2)
  obtain ⟨pk, hpk⟩ : ∃ pk, pk = at? L k := ⟨_, rfl⟩
  rw [← hpk]
  have Hpk := hide hpk
  clear hpk hwa h' hbz hca hb1 hw
  have c0 : w2.cell? ⟨g, 0, none⟩ = some (.int .i64 0) := hb2.cell 0
  have c1 : w2.cell? ⟨g, 1, none⟩ = some (.int .i64 0) := hb2.cell 1
  have c2 : w2.cell? ⟨g, 2, none⟩ = some (.string ⟨#[]⟩) := hb2.cell 2
  have f0 := hb2.frozen 0
  have f1 := hb2.frozen 1
  have f2 := hb2.frozen 2
  rw [← Hg.out]
  go_wp2_with fail
  obtain ⟨hb3, hc3⟩ := pk_put hb2 rfl pk
  obtain ⟨w3, hw3⟩ : ∃ w3, w3 = ((w2.setCell ⟨g, 0, none⟩ (.int .i64 pk.fr)).setCell ⟨g, 1, none⟩ (.int .i64 pk.to)).setCell ⟨g, 2, none⟩ (.string pk.data) := ⟨_, rfl⟩
  rw [← hw3] at hb3 hc3 ⊢
  obtain ⟨d0, d1, d2, _, _, _⟩ := pk_there hb3
  refine bodyPost_ret (v := .tuple #[pk.val, .bool (There k L.length)]) (by simp [results, Try.results26, go_sem, d0, d1, d2]) rfl ⟨by rw [Hpk.out], _, (hr2.chg hc3 (fun k hk e => by subst e; exact hng hk)).at_, ?_⟩
  exact hw2.new hc3 (fun k e => by have := Hg.out; omega)

/-- What 'without' leaves: the packets but the one at place k. -/
theorem net_without (h : NetAt w B q F L ks) (hB : B ≤ w.heap.size) (k : Nat) (hk : k < L.length) :
    Calls Try.prog 36 #[.pointer (some ⟨q, 0, none⟩), .int .i64 (k : Int)] w fun e w' => e = .returned (.tuple #[]) ∧ ∃ F', NetAt w' B q F' (L.take k ++ L.drop (k + 1)) ks ∧ Went F F' w w' := by
  obtain ⟨i0, hi, hz0, hz1, hz2⟩ := info_parts Try.info45
  have hki : (k : Int) < L.length := by omega
  go_enter Try.func36, Try.ntmps36
  go_wp2_with fail
  refine (net_list _ B q F L ks h hB).mono ?_
  rintro e w1 ⟨p, A, c, C, rfl, hr, hw⟩
  have hfit := hr.ring.fits
  go_wp2_with fail
  refine (pk_list _ _ _ _ _ _ _ hr.ring (by omega)).mono ?_
  rintro e w2 ⟨Y, cy, rfl, hY, hc2⟩
  have hr2 := hr.chg hc2 (fun _ _ t => t)
  have hw2 := hw.trans (Went.no hc2)
  have hYd : ∀ j, blkOf Y = some j → ¬ NFoot q p A C j := fun j hj t => by have := (own_lt hY hj).1; have := hr.lt j t; omega
  have hcy := own_cap hY
  obtain ⟨k0, k1⟩ := net_cells hr2.blk
  clear hr hw hc2
  go_wp2_with fail
  refine (pk_clear _ _ _ _ _ _ _ hr2.ring (Nat.le_trans hB hw2.chg.size) (by omega)).mono ?_
  rintro e w3 ⟨rfl, hm⟩
  obtain ⟨A3, c3, hr3, hw3⟩ := hr2.turn (L' := []) hm
  have hY3 := own_chg hY hw3.chg (fun j hj => by rw [ownBlock_slice] at hj; exact hYd j hj)
  have hYd3 : ∀ j, blkOf Y = some j → ¬ NFoot q p A3 C j := fun j hj t => by
    rcases hw3.foot j t with e | e
    · exact hYd j hj e
    · have := (own_lt hY hj).2; omega
  have hw23 := hw2.trans hw3
  clear hm k0 k1
  obtain ⟨k0, k1⟩ := net_cells hr3.blk
  have hsees := Sees.of_own hY3
  have hs1 := hsees.take (k := k) (by omega)
  rw [flat_take] at hs1
  have hkc : (k : Int) ≤ cy := by omega
  have hlk : (L.take k).length = k := by simp; omega
  have htk : ([] ++ (L.take k).take k : List Pk) = L.take k := by rw [List.nil_append, List.take_of_length_le (by omega)]
  have hB3 := Nat.le_trans hB hw23.chg.size
  have hpush := fun W (h : pkAt W B p A3 c3 [] 900) (hs : Sees W W.heap.size 3 Y k (flat (L.take k))) (hBW : B ≤ W.heap.size) => pk_push W B p c3 A3 [] 900 h Y cy (L.take k) (by rw [hlk]; exact hs) (by omega) hBW (by omega) (by omega) k (by simp; omega)
  rw [htk, hlk] at hpush
  have Hpush := hide hpush
  have Hlk := hide hlk
  clear hpush hlk htk
  go_wp2_with fail
  go_region_held3 (fun w' => w'.cell? ⟨q, 0, none⟩ = some (.pointer (some ⟨p, 0, none⟩))) (first | exact e4 | exact k0) (first | (go_at_call 33; refine (Hpush.out _ (hr3.ring.chg ((Chg.refl No w3).drew) (fun _ _ t => t)) hs1 hB3).mono ?_; rintro e w4 ⟨rfl, hm4'⟩; have hm4 : Moved 71 45 3 w3 w4 B p A3 (L.take k).length (flat (L.take k)) 900 := hm4'.of_drewN (q := 1); obtain ⟨A4, c4, hr4, hw4⟩ := hr3.turn hm4; obtain ⟨e4, e5⟩ := net_cells hr4.blk))
  have hY4 := own_chg hY3 hw4.chg (fun j hj => by rw [ownBlock_slice] at hj; exact hYd3 j hj)
  have hsl := run_tail (P := Try.prog) 35 45 3 Try.underlying35 i0 hi hz1 Y L.length cy (k + 1) (by omega)
  have hs4 := (Sees.of_own hY4).tail (k := k + 1) (by omega) hcy
  obtain ⟨ml, hml⟩ : ∃ ml, ml = L.length - (k + 1) := ⟨_, rfl⟩
  rw [flat_drop, ← hml] at hs4
  rw [← hml, show ((k + 1 : Nat) : Int) = (k : Int) + 1 by omega] at hsl
  have hdl : (L.drop (k + 1)).length = ml := by simp; omega
  have hB4 := Nat.le_trans hB3 hw4.chg.size
  have htk : (L.take k ++ (L.drop (k + 1)).take ml : List Pk) = L.take k ++ L.drop (k + 1) := by rw [List.take_of_length_le (l := L.drop (k + 1)) (by omega)]
  have hpush := fun W (h : pkAt W B p A4 c4 (L.take k) 900) (hs : Sees W W.heap.size 3 (cutAt Y cy (k + 1) 3) ml (flat (L.drop (k + 1)))) (hBW : B ≤ W.heap.size) => pk_push W B p c4 A4 (L.take k) 900 h (cutAt Y cy (k + 1) 3) (cy - (k + 1)) (L.drop (k + 1)) (by rw [hdl]; exact hs) (by omega) hBW (by omega) (by omega) ml (by rw [Hlk.out]; omega)
  rw [htk, hdl] at hpush
  have Hp4 := hide hpush
  have hw24 := hw23.trans hw4
  clear hpush hdl htk hml Hpush Hlk hs1 hsees hY3 hYd3 hw3 hm4' hm4 hw4 hr3 k0 k1 hB3 hkc hr2 hw2 hYd hY
  go_wp2_with fail
  have hwr : IntKind.i64.wrap ((k : Int) + 1) = (k : Int) + 1 := IntWalk.i64_in _ (by omega)
  have hk0 : (0 : Int) ≤ (k : Int) + 1 := by omega
  have hk1 : (k : Int) + 1 ≤ L.length := by omega
  have hk2 : ((k : Int) + 1).toNat = k + 1 := by omega
  go_region_held3 (fun w' => w'.cell? ⟨q, 0, none⟩ = some (.pointer (some ⟨p, 0, none⟩))) (first | exact e7 | exact e4) (first | (go_at_call 33; refine (Hp4.out _ (hr4.ring.chg ((Chg.refl No w4).drew) (fun _ _ t => t)) hs4 hB4).mono ?_; rintro e w5 ⟨rfl, hm5'⟩; have hm5 : Moved 71 45 3 w4 w5 B p A4 (L.take k ++ L.drop (k + 1)).length (flat (L.take k ++ L.drop (k + 1))) 900 := hm5'.of_drewN (q := 1); obtain ⟨A5, c5, hr5, hw5⟩ := hr4.turn hm5; obtain ⟨e7, e8⟩ := net_cells hr5.blk))
  go_wp2_with fail
  go_end0
  exact ⟨rfl, _, hr5.at_, hw24.trans hw5⟩

/-- The packets but the one at a place. -/
def lessAt (L : List Pk) (k : Int) : List Pk := if There k L.length = true then L.take k.toNat ++ L.drop (k.toNat + 1) else L

theorem net_take (h : NetAt w B q F L ks) (hB : B ≤ w.heap.size) (k : Int) :
    Calls Try.prog 15 #[.pointer (some ⟨q, 0, none⟩), .int .i64 k] w fun e w' => e = .returned (.tuple #[(at? L k).val, .bool (There k L.length)]) ∧ ∃ F', NetAt w' B q F' (lessAt L k) ks ∧ Went F F' w w' := by
  have hca := (Chg.refl No w).alloc (.cells #[.int .i64 0, .int .i64 0, .string ⟨#[]⟩] 45)
  have hwa : Went F F w (w.alloc (.cells #[.int .i64 0, .int .i64 0, .string ⟨#[]⟩] 45)) := Went.no hca
  have h' := h.chg hca (fun _ _ t => t)
  have hbz : Blk (w.alloc (.cells #[.int .i64 0, .int .i64 0, .string ⟨#[]⟩] 45)) w.heap.size 45 #[.int .i64 0, .int .i64 0, .string ⟨#[]⟩] := Blk.new _ _ _
  obtain ⟨g, hg⟩ : ∃ g, g = w.heap.size := ⟨_, rfl⟩
  have hFg : ¬ F g := fun t => by have := h.lt g t; omega
  rw [← hg] at hbz
  have Hg := hide hg
  clear hg
  go_enter Try.func15, Try.ntmps15
  go_wp2_with fail
  refine (net_peek _ B q F L ks h' (by simp; omega) k).mono ?_
  rintro e w1 ⟨rfl, F1, hn1, hw1⟩
  have hb1 := hbz.chg hw1.chg hFg
  have hng : ¬ F1 g := fun t => by
    rcases hw1.foot g t with e | e
    · exact hFg e
    · have := Hg.out; simp at e; omega
  obtain ⟨pk, hpk⟩ : ∃ pk, pk = at? L k := ⟨_, rfl⟩
  obtain ⟨tb, htb⟩ : ∃ tb, tb = There k L.length := ⟨_, rfl⟩
  rw [← hpk, ← htb]
  have Hpk := hide hpk
  have Htb := hide htb
  clear htb
  have hw01 := hwa.trans hw1
  clear hpk hwa h' hbz hca hw1
  obtain ⟨w2, hw2⟩ : ∃ w2, w2 = w1.alloc (.cells #[.int .i64 pk.fr, .int .i64 pk.to, .string pk.data] 45) := ⟨_, rfl⟩
  have hc12 : Chg No w1 w2 := by rw [hw2]; exact (Chg.refl No w1).alloc _
  have hb6 : Blk w2 w1.heap.size 45 #[.int .i64 pk.fr, .int .i64 pk.to, .string pk.data] := by rw [hw2]; exact Blk.new _ _ _
  have hs1 : g < w1.heap.size := hb1.lt
  have hF1 : ¬ F1 w1.heap.size := fun t => by have := hn1.lt _ t; omega
  obtain ⟨g6, hg6⟩ : ∃ g6, g6 = w1.heap.size := ⟨_, rfl⟩
  rw [← hg6] at hb6 hF1 hs1
  have hn2 := hn1.chg hc12 (fun _ _ t => t)
  have hb2 := hb1.chg hc12 (fun t => t)
  have hw02 := hw01.trans (Went.no hc12)
  have hgw : w.heap.size ≤ g6 := by have := Hg.out; omega
  have Hw2 := hide hw2
  have Hg6 := hide hg6
  clear hw2 hg6 hb1 hn1 hw01 hc12
  cases tb with
  | true =>
    have hk : 0 ≤ k ∧ k < L.length := of_decide_eq_true (show There k L.length = true from Htb.out.symm)
    obtain ⟨m, hm⟩ : ∃ m : Nat, k = m := ⟨k.toNat, by omega⟩
    have Hm := hide hm
    have hml : m < L.length := by omega
    have el : lessAt L k = L.take m ++ L.drop (m + 1) := by unfold lessAt; rw [if_pos Htb.out.symm, hm, Int.toNat_natCast]
    have El := hide el
    clear el hm hk
    go_wp2_with fail
    rw [← Hw2.out, ← Hg6.out, Hm.out]
    refine (net_without _ B q F1 L ks hn2 (Nat.le_trans hB hw02.chg.size) m hml).mono ?_
    rintro e wc ⟨rfl, F2, hn2', hw3⟩
    have hb2' := hb2.chg hw3.chg hng
    have hb6' := hb6.chg hw3.chg hF1
    have hg2 : ¬ F2 g := fun t => by
      rcases hw3.foot g t with e | e
      · exact hng e
      · have := hb2.lt; omega
    have hw2 := hw02.trans hw3
    rw [← El.out] at hn2'
    clear hb2 hb6 hn2 hw02 Hw2 Hg6 hw3 El
    have hn2 := hn2'
    have hb2 := hb2'
    have hb6 := hb6'
    clear hn2' hb2' hb6'
    rw [← Hm.out]
    have c0 : wc.cell? ⟨g, 0, none⟩ = some (.int .i64 0) := hb2.cell 0
    have c1 : wc.cell? ⟨g, 1, none⟩ = some (.int .i64 0) := hb2.cell 1
    have c2 : wc.cell? ⟨g, 2, none⟩ = some (.string ⟨#[]⟩) := hb2.cell 2
    have f0 := hb2.frozen 0
    have f1 := hb2.frozen 1
    have f2 := hb2.frozen 2
    obtain ⟨d0, d1, d2, _, _, _⟩ := pk_there hb6
    obtain ⟨hb3, hc3⟩ := pk_put hb2 rfl pk
    have Hb3 := hide hb3
    have Hc3 := hide hc3
    clear hb3 hc3
    rw [← Hg.out]
    go_wp2_with fail
    obtain ⟨w3, hw3⟩ : ∃ w3, w3 = ((wc.setCell ⟨g, 0, none⟩ (.int .i64 pk.fr)).setCell ⟨g, 1, none⟩ (.int .i64 pk.to)).setCell ⟨g, 2, none⟩ (.string pk.data) := ⟨_, rfl⟩
    rw [← hw3] at Hb3 Hc3 ⊢
    obtain ⟨d0, d1, d2, _, _, _⟩ := pk_there Hb3.out
    refine bodyPost_ret (v := .tuple #[pk.val, .bool true]) (by simp [results, Try.results15, go_sem, d0, d1, d2]) rfl ⟨by rw [Hpk.out, Htb.out], F2, hn2.chg Hc3.out (fun k hk e => by subst e; exact hg2 hk), ?_⟩
    exact hw2.new Hc3.out (fun k e => by have := Hg.out; omega)
  | false =>
    have el : lessAt L k = L := by unfold lessAt; rw [← Htb.out]; rfl
    rw [← el] at hn2
    have hw2 := hw02
    have hg2 := hng
    obtain ⟨wc, hwc⟩ : ∃ wc, wc = w2 := ⟨_, rfl⟩
    rw [← hwc] at hb2 hb6 hn2 hw2 Hw2
    clear el hw02 hwc
    have c0 : wc.cell? ⟨g, 0, none⟩ = some (.int .i64 0) := hb2.cell 0
    have c1 : wc.cell? ⟨g, 1, none⟩ = some (.int .i64 0) := hb2.cell 1
    have c2 : wc.cell? ⟨g, 2, none⟩ = some (.string ⟨#[]⟩) := hb2.cell 2
    have f0 := hb2.frozen 0
    have f1 := hb2.frozen 1
    have f2 := hb2.frozen 2
    obtain ⟨d0, d1, d2, _, _, _⟩ := pk_there hb6
    obtain ⟨hb3, hc3⟩ := pk_put hb2 rfl pk
    have Hb3 := hide hb3
    have Hc3 := hide hc3
    clear hb3 hc3
    go_upto_region 4 with fail
    rw [← Hw2.out, ← Hg6.out, ← Hg.out]
    go_wp2_with fail
    obtain ⟨w3, hw3⟩ : ∃ w3, w3 = ((wc.setCell ⟨g, 0, none⟩ (.int .i64 pk.fr)).setCell ⟨g, 1, none⟩ (.int .i64 pk.to)).setCell ⟨g, 2, none⟩ (.string pk.data) := ⟨_, rfl⟩
    rw [← hw3] at Hb3 Hc3 ⊢
    obtain ⟨d0, d1, d2, _, _, _⟩ := pk_there Hb3.out
    refine bodyPost_ret (v := .tuple #[pk.val, .bool false]) (by simp [results, Try.results15, go_sem, d0, d1, d2]) rfl ⟨by rw [Hpk.out, Htb.out], F1, hn2.chg Hc3.out (fun k hk e => by subst e; exact hg2 hk), ?_⟩
    exact hw2.new Hc3.out (fun k e => by have := Hg.out; omega)

theorem net_drop (h : NetAt w B q F L ks) (hB : B ≤ w.heap.size) (k : Int) :
    Calls Try.prog 18 #[.pointer (some ⟨q, 0, none⟩), .int .i64 k] w fun e w' => e = .returned (.bool (There k L.length)) ∧ ∃ F', NetAt w' B q F' (lessAt L k) ks ∧ Went F F' w w' := by
  go_enter Try.func18, Try.ntmps18
  go_wp2_with fail
  refine (net_take _ B q F L ks h hB k).mono ?_
  rintro e w1 ⟨rfl, F1, hn1, hw1⟩
  obtain ⟨pk, hpk⟩ : ∃ pk, pk = at? L k := ⟨_, rfl⟩
  rw [← hpk]
  clear hpk
  have hca := (Chg.refl No w1).alloc (.cells #[.int .i64 pk.fr, .int .i64 pk.to, .string pk.data] 45)
  go_wp2_with fail
  go_ret
  exact ⟨rfl, F1, hn1.chg hca (fun _ _ t => t), hw1.trans (Went.no hca)⟩

/-- One packet is pushed. -/
theorem push_one (w : World) (B p c : Nat) (A : Option Addr) (L : List Pk) (pk : Pk) (h : pkAt w B p A c L 900) (X : Option Addr) (hX : Sees w w.heap.size 3 X 1 pk.cells) (hB : B ≤ w.heap.size) (n1 : Nat) (hn : n1 = min 1 (900 - L.length)) :
    Calls Try.prog 33 #[.pointer (some ⟨p, 0, none⟩), .slice X 1 1] w (PkPost w B p A (.int .i64 (n1 : Int)) (L ++ [pk].take n1) 900) :=
  pk_push w B p c A L 900 h X 1 [pk] (by rw [flat_one]; exact hX) (Nat.le_refl _) hB (by omega) (by simp) n1 (by simpa using hn)

/-- The packets with the one at a place doubled, if there is room. -/
def dblAt (L : List Pk) (k : Int) : List Pk := if (There k L.length && decide (L.length < 900)) = true then L ++ [at? L k] else L

theorem net_double (h : NetAt w B q F L ks) (hB : B ≤ w.heap.size) (k : Int) :
    Calls Try.prog 19 #[.pointer (some ⟨q, 0, none⟩), .int .i64 k] w fun e w' => e = .returned (.bool (There k L.length && decide (L.length < 900))) ∧ ∃ F', NetAt w' B q F' (dblAt L k) ks ∧ Went F F' w w' := by
  go_enter Try.func19, Try.ntmps19
  go_wp2_with fail
  refine (net_peek _ B q F L ks h hB k).mono ?_
  rintro e w1 ⟨rfl, F1, hn1, hw1⟩
  obtain ⟨pk, hpk⟩ : ∃ pk, pk = at? L k := ⟨_, rfl⟩
  obtain ⟨tb, htb⟩ : ∃ tb, tb = There k L.length := ⟨_, rfl⟩
  rw [← hpk, ← htb]
  have Hpk := hide hpk
  have Htb := hide htb
  obtain ⟨w2, hw2⟩ : ∃ w2, w2 = w1.alloc (.cells #[.int .i64 pk.fr, .int .i64 pk.to, .string pk.data] 45) := ⟨_, rfl⟩
  have hc12 : Chg No w1 w2 := by rw [hw2]; exact (Chg.refl No w1).alloc _
  have hb6 : Blk w2 w1.heap.size 45 #[.int .i64 pk.fr, .int .i64 pk.to, .string pk.data] := by rw [hw2]; exact Blk.new _ _ _
  have hF1 : ¬ F1 w1.heap.size := fun t => by have := hn1.lt _ t; omega
  obtain ⟨g6, hg6⟩ : ∃ g6, g6 = w1.heap.size := ⟨_, rfl⟩
  rw [← hg6] at hb6 hF1
  have hn2 := hn1.chg hc12 (fun _ _ t => t)
  have hw02 := hw1.trans (Went.no hc12)
  have Hw2 := hide hw2
  have Hg6 := hide hg6
  clear hw2 hg6 hn1 hw1 hc12 hpk htb
  have hB2 := Nat.le_trans hB hw02.chg.size
  cases tb with
  | false =>
    have ed : dblAt L k = L := by unfold dblAt; rw [← Htb.out]; rfl
    rw [← ed] at hn2
    go_upto_region 2 with fail
    rw [← Hw2.out, ← Hg6.out]
    clear hb6 ed
    go_region
    all_goals
      go_wp2_with fail
      go_ret
      rw [← Htb.out]
      exact ⟨rfl, F1, hn2.chg ((Chg.refl No w2).drew) (fun _ _ t => t), hw02.trans (Went.no ((Chg.refl No w2).drew))⟩
  | true =>
    obtain ⟨n1, hn⟩ : ∃ n1, n1 = min 1 (900 - L.length) := ⟨_, rfl⟩
    have Hn := hide hn
    clear hn
    obtain ⟨d0, d1, d2, _, _, _⟩ := pk_there hb6
    go_upto_region 2 with fail
    rw [← Hw2.out, ← Hg6.out]
    have hf2 : ¬ F1 w2.heap.size := fun t => by have := hn2.lt _ t; omega
    go_region_held3 (fun w' => w'.cell? ⟨g6, 0, none⟩ = some (.int .i64 pk.fr) ∧ w'.cell? ⟨g6, 1, none⟩ = some (.int .i64 pk.to) ∧ w'.cell? ⟨g6, 2, none⟩ = some (.string pk.data)) (first | exact ⟨y0, y1, y2⟩ | exact ⟨x0, x1, x2⟩ | exact ⟨d0, d1, d2⟩ | go_keep) (first
      | (go_at_call 30; refine (net_list _ B q F1 L ks (by first | with_reducible exact hn2.chg ((Chg.refl No w2).drew) (fun _ _ t => t) | with_reducible exact hn2.chg (((Chg.refl No w2).alloc _).drew) (fun _ _ t => t)) (by first | exact hB2 | (simp; omega))).mono ?_; rintro e w3 ⟨p, A, c, C, rfl, hr3, hw3'⟩; have hw3 : Went F1 (NFoot q p A C) w2 w3 := (by first | with_reducible exact hw3'.of_drew | with_reducible exact (Went.no (((Chg.refl No w2).alloc _).drew)).trans hw3'); obtain ⟨x0, x1, x2, _, _, _⟩ := pk_there (hb6.chg hw3.chg hF1))
      | (go_at_call 33; refine (push_one _ B p c A L pk (by first | with_reducible exact hr3.ring | with_reducible exact hr3.ring.alloc _) _ (by first | with_reducible exact Sees.of_blk (Blk.new _ _ _) rfl | with_reducible exact Sees.of_blk ((Blk.new w2 _ _).drew.chg hw3'.chg hf2) rfl) (by first | with_reducible exact Nat.le_trans hB2 hw3.chg.size | (simp; exact Nat.le_succ_of_le (Nat.le_trans hB2 hw3.chg.size))) n1 Hn.out).mono ?_; rintro e w4 ⟨rfl, hm4'⟩; have hm4 : Moved 71 45 3 w3 w4 B p A (L ++ [pk].take n1).length (flat (L ++ [pk].take n1)) 900 := (by first | with_reducible exact hm4' | with_reducible exact hm4'.of_chg ((Chg.refl No w3).alloc _)); obtain ⟨A4, c4, hr4, hw4⟩ := hr3.turn hm4; have hw24 := hw3.trans hw4; obtain ⟨y0, y1, y2, _, _, _⟩ := pk_there (hb6.chg hw24.chg hF1)))
    all_goals
      go_wp2_with fail
      go_ret
      show Ending.returned (Value.bool ((n1 : Int) == 1)) = _ ∧ _
      have hdb : dblAt L k = L ++ [pk].take n1 ∧ ((n1 : Int) == 1) = (There k L.length && decide (L.length < 900)) := by
        have hn' := Hn.out
        unfold dblAt
        rw [← Htb.out, ← Hpk.out]
        by_cases hl : L.length < 900
        · obtain rfl : n1 = 1 := by omega
          simp [hl]
        · obtain rfl : n1 = 0 := by omega
          simp [hl]
      rw [hdb.1, hdb.2]
      exact ⟨rfl, _, hr4.at_, hw02.trans hw24⟩

/-- Two packets have changed their places. -/
def swapAt (L : List Pk) (k j : Int) : List Pk := if (There k L.length && There j L.length) = true then (L.set k.toNat (at? L j)).set j.toNat (at? L k) else L

theorem pk_set (w : World) (B p c : Nat) (A : Option Addr) (L : List Pk) (most : Nat) (h : pkAt w B p A c L most) (k : Int) (hk : There k L.length = true) (pk : Pk) :
    Calls Try.prog 37 #[.pointer (some ⟨p, 0, none⟩), .int .i64 k, pk.val] w (PkPost w B p A (.bool true) (L.set k.toNat pk) most) := by
  have h' := of_decide_eq_true hk
  obtain ⟨m, rfl⟩ : ∃ m : Nat, k = m := ⟨k.toNat, by omega⟩
  exact pk_set_in w B p c A L most h m (by omega) pk

theorem net_swap (h : NetAt w B q F L ks) (hB : B ≤ w.heap.size) (k j : Int) :
    Calls Try.prog 21 #[.pointer (some ⟨q, 0, none⟩), .int .i64 k, .int .i64 j] w fun e w' => e = .returned (.bool (There k L.length && There j L.length)) ∧ ∃ F', NetAt w' B q F' (swapAt L k j) ks ∧ Went F F' w w' := by
  go_enter Try.func21, Try.ntmps21
  go_wp2_with fail
  refine (net_peek _ B q F L ks h hB k).mono ?_
  rintro e w1 ⟨rfl, F1, hn1, hw1⟩
  obtain ⟨pk, hpk⟩ : ∃ pk, pk = at? L k := ⟨_, rfl⟩
  obtain ⟨tb, htb⟩ : ∃ tb, tb = There k L.length := ⟨_, rfl⟩
  rw [← hpk, ← htb]
  have Hpk := hide hpk
  have Htb := hide htb
  obtain ⟨w2, hw2⟩ : ∃ w2, w2 = w1.alloc (.cells #[.int .i64 pk.fr, .int .i64 pk.to, .string pk.data] 45) := ⟨_, rfl⟩
  have hc12 : Chg No w1 w2 := by rw [hw2]; exact (Chg.refl No w1).alloc _
  have hb6 : Blk w2 w1.heap.size 45 #[.int .i64 pk.fr, .int .i64 pk.to, .string pk.data] := by rw [hw2]; exact Blk.new _ _ _
  have hF1 : ¬ F1 w1.heap.size := fun t => by have := hn1.lt _ t; omega
  obtain ⟨g6, hg6⟩ : ∃ g6, g6 = w1.heap.size := ⟨_, rfl⟩
  rw [← hg6] at hb6 hF1
  have hn2 := hn1.chg hc12 (fun _ _ t => t)
  have hw02 := hw1.trans (Went.no hc12)
  have Hw2 := hide hw2
  have Hg6 := hide hg6
  clear hw2 hg6 hn1 hw1 hc12 hpk htb
  have hB2 := Nat.le_trans hB hw02.chg.size
  have hl6 := hb6.lt
  go_wp2_with fail
  rw [← Hw2.out, ← Hg6.out]
  refine (net_peek _ B q F1 L ks hn2 hB2 j).mono ?_
  rintro e w3 ⟨rfl, F3, hn3, hw3⟩
  have hb63 := hb6.chg hw3.chg hF1
  have hF3 : ¬ F3 g6 := fun t => by
    rcases hw3.foot g6 t with e | e
    · exact hF1 e
    · omega
  have hw03 := hw02.trans hw3
  obtain ⟨pj, hpj⟩ : ∃ pj, pj = at? L j := ⟨_, rfl⟩
  obtain ⟨tj, htj⟩ : ∃ tj, tj = There j L.length := ⟨_, rfl⟩
  rw [← hpj, ← htj]
  have Hpj := hide hpj
  have Htj := hide htj
  obtain ⟨w4, hw4⟩ : ∃ w4, w4 = w3.alloc (.cells #[.int .i64 pj.fr, .int .i64 pj.to, .string pj.data] 45) := ⟨_, rfl⟩
  have hc34 : Chg No w3 w4 := by rw [hw4]; exact (Chg.refl No w3).alloc _
  have hb9 : Blk w4 w3.heap.size 45 #[.int .i64 pj.fr, .int .i64 pj.to, .string pj.data] := by rw [hw4]; exact Blk.new _ _ _
  have hF9 : ¬ F3 w3.heap.size := fun t => by have := hn3.lt _ t; omega
  obtain ⟨g9, hg9⟩ : ∃ g9, g9 = w3.heap.size := ⟨_, rfl⟩
  rw [← hg9] at hb9 hF9
  have hn4 := hn3.chg hc34 (fun _ _ t => t)
  have hw04 := hw03.trans (Went.no hc34)
  have hb64 := hb63.chg hc34 (fun t => t)
  have Hw4 := hide hw4
  have Hg9 := hide hg9
  clear hw4 hg9 hn3 hw3 hc34 hpj htj hb6 hb63 hw02 hw03 hF1 Hw2 Hg6 hn2 hB2 hl6
  have hB4 := Nat.le_trans hB hw04.chg.size
  have hF3g := hF3
  by_cases hboth : (tb && tj) = true
  · obtain ⟨rfl, rfl⟩ : tb = true ∧ tj = true := by simpa using hboth
    have es : swapAt L k j = (L.set k.toNat pj).set j.toNat pk := by unfold swapAt; rw [← Htb.out, ← Htj.out, ← Hpk.out, ← Hpj.out]; rfl
    have Es := hide es
    clear es hboth
    go_upto_region 5 with fail
    rw [← Hw4.out, ← Hg9.out]
    obtain ⟨d0, d1, d2, _, _, _⟩ := pk_there hb9
    have htk : There k L.length = true := Htb.out.symm
    go_region_held3 (fun w' => w'.cell? ⟨g9, 0, none⟩ = some (.int .i64 pj.fr) ∧ w'.cell? ⟨g9, 1, none⟩ = some (.int .i64 pj.to) ∧ w'.cell? ⟨g9, 2, none⟩ = some (.string pj.data)) (first | exact ⟨y0, y1, y2⟩ | exact ⟨x0, x1, x2⟩ | exact ⟨d0, d1, d2⟩) (first
      | (go_at_call 30; refine (net_list _ B q F3 L ks (hn4.chg ((Chg.refl No w4).drew) (fun _ _ t => t)) hB4).mono ?_; rintro e w5 ⟨p, A, c, C, rfl, hr5, hw5'⟩; have hw5 : Went F3 (NFoot q p A C) w4 w5 := hw5'.of_drew; obtain ⟨x0, x1, x2, _, _, _⟩ := pk_there (hb9.chg hw5.chg hF9))
      | (go_at_call 37; refine (pk_set _ B p c A L 900 hr5.ring k htk pj).mono ?_; rintro e w6 ⟨rfl, hm6⟩; obtain ⟨A6, c6, hr6, hw6⟩ := hr5.turn hm6; have hw46 := hw5.trans hw6; obtain ⟨y0, y1, y2, _, _, _⟩ := pk_there (hb9.chg hw46.chg hF9)))
    have hb66 := hb64.chg hw46.chg hF3g
    have hn6 := hr6.at_
    have hF6 : ¬ NFoot q p A6 C g6 := fun t => by
      rcases hw46.foot g6 t with e | e
      · exact hF3g e
      · have := hb64.lt; omega
    have hw06 := hw04.trans hw46
    have hB6 := Nat.le_trans hB hw06.chg.size
    have htj : There j (L.set k.toNat pj).length = true := by rw [List.length_set]; exact Htj.out.symm
    clear hb64 hb9 hn4 hw04 hB4 d0 d1 d2 x0 x1 x2 y0 y1 y2 hr5 hw5' hw5 hm6 hr6 hw6 hw46 Hw4 Hg9
    obtain ⟨d0, d1, d2, _, _, _⟩ := pk_there hb66
    go_wp2_with fail
    go_region_held3 (fun w' => w'.cell? ⟨g6, 0, none⟩ = some (.int .i64 pk.fr) ∧ w'.cell? ⟨g6, 1, none⟩ = some (.int .i64 pk.to) ∧ w'.cell? ⟨g6, 2, none⟩ = some (.string pk.data)) (first | exact ⟨y0, y1, y2⟩ | exact ⟨x0, x1, x2⟩ | exact ⟨d0, d1, d2⟩) (first
      | (go_at_call 30; refine (net_list _ B q _ (L.set k.toNat pj) ks (hn6.chg ((Chg.refl No w6).drew) (fun _ _ t => t)) hB6).mono ?_; rintro e w7 ⟨p7, A7, c7, C7, rfl, hr7, hw7'⟩; have hw7 := hw7'.of_drew; obtain ⟨x0, x1, x2, _, _, _⟩ := pk_there (hb66.chg hw7.chg hF6))
      | (go_at_call 37; refine (pk_set _ B p7 c7 A7 (L.set k.toNat pj) 900 hr7.ring j htj pk).mono ?_; rintro e w8 ⟨rfl, hm8⟩; obtain ⟨A8, c8, hr8, hw8⟩ := hr7.turn hm8; have hw68 := hw7.trans hw8; obtain ⟨y0, y1, y2, _, _, _⟩ := pk_there (hb66.chg hw68.chg hF6)))
    go_wp2_with fail
    go_ret
    rw [← Htb.out, ← Htj.out, Es.out]
    exact ⟨rfl, _, hr8.at_, hw06.trans hw68⟩
  · have hbf : (tb && tj) = false := by simpa using hboth
    have es : swapAt L k j = L := by unfold swapAt; rw [← Htb.out, ← Htj.out, hbf]; rfl
    have Es := hide es
    have hor : tb = false ∨ (tb = true ∧ tj = false) := by cases tb <;> cases tj <;> simp at hbf ⊢
    clear es hboth hbf
    rcases hor with rfl | ⟨rfl, rfl⟩
    all_goals
      go_upto_region 3 with fail
      rw [← Hw4.out, ← Hg9.out]
      go_wp2_with fail
      go_ret
      rw [← Htb.out, ← Htj.out, Es.out]
      exact ⟨rfl, F3, hn4, hw04⟩
end

/-- The net's struct and its cuts, apart from its packets; and how it stands together again. -/
theorem NetAt.parts {w : World} {B q : Nat} {F : Nat → Prop} {L : List Pk} {ks : List (Int × Int)} (h : NetAt w B q F L ks) :
    ∃ R C, Blk w q 34 (netCells R C) ∧ CutsAt w B C ks ∧ F q ∧ (∀ m, C = some m → F m) ∧
      ∀ w' C' ks', Blk w' q 34 (netCells R C') → CutsAt w' B C' ks' → Chg (fun k => k = q ∨ C = some k) w w' → (∀ m, C' = some m → C = some m ∨ w.heap.size ≤ m) → ∃ F', NetAt w' B q F' L ks' ∧ Went F F' w w' := by
  rcases h with ⟨C, hL, hb, hq, hcu, hF⟩ | ⟨p, A, c, C, hr, hF⟩
  · refine ⟨none, C, hb, hcu, (hF q).2 (.inl rfl), fun m hm => (hF m).2 (.inr hm), fun w' C' ks' hb' hc' hch hn => ?_⟩
    refine ⟨fun k => k = q ∨ C' = some k, .inl ⟨C', hL, hb', hq, hc', fun _ => Iff.rfl⟩, hch.mono (fun k _ t => (hF k).2 t), ?_⟩
    rintro k (rfl | hk)
    · exact .inl ((hF _).2 (.inl rfl))
    · exact (hn k hk).imp (fun e => (hF k).2 (.inr e)) id
  · refine ⟨_, C, hr.blk, hr.cuts, (hF q).2 (.inl rfl), fun m hm => (hF m).2 (.inr (.inr hm)), fun w' C' ks' hb' hc' hch hn => ?_⟩
    refine ⟨NFoot q p A C', .inr ⟨p, A, c, C', ⟨hb', hr.base, hr.ring.chg hch ?_, hc'⟩, fun _ => Iff.rfl⟩, hch.mono (fun k _ t => (hF k).2 (t.imp id .inr)), ?_⟩
    · rintro k hk (rfl | e)
      · exact hr.np hk
      · exact hr.nCp k e hk
    · rintro k (rfl | hk | hk)
      · exact .inl ((hF _).2 (.inl rfl))
      · exact .inl ((hF k).2 (.inr (.inl hk)))
      · exact (hn k hk).imp (fun e => (hF k).2 (.inr (.inr e))) id

/-- A builtin delete as one step of a region. -/
theorem step_delete {P : Program} {w : World} {ops : Array Oper} {o : Oper} {a : Act} {K : Act → World → Prop} {Q : Exit → Act → World → Prop} {E : Prop} (hgd : o.guard = none) (s x : Operand) (t t' : TypeId)
    (ho : o.op = .call { callee := .builtin .delete, args := #[s, x], argTypes := #[t, t'] }) {v1 v2 r : Value} {w' : World} (hs : a.eval s = v1) (hx : a.eval x = v2)
    (hrun : (Builtin.delete_ #[t, t'] o.type #[v1, v2]).run P w = .ok r w') (h : K (a.put o.dst r) w') : if Region.wanted o (yielded ops a.tmps) = true then Oper.wp P o a w K Q else E := by
  rw [if_pos (by simp [Region.wanted, hgd])]
  unfold Oper.wp execOp
  simp only [ho, resolve, invoke, builtin, Sem.run_bind, Sem.run_pure, Result.andThen_ok, List.map_toArray, List.map_cons, List.map_nil, hs, hx, hrun]
  exact h

/-- The cuts behind a call of Cut. -/
def cutsAt (ks : List (Int × Int)) (a b : Int) (on : Bool) : List (Int × Int) := ks.filter (· ≠ endsOf a b) ++ (if on then [endsOf a b] else [])

theorem ends_wf {a b : Int} (ha : (Lit.int .i64 a).wf = true) (hb : (Lit.int .i64 b).wf = true) : wfPair (endsOf a b) := by
  unfold endsOf wfPair
  rcases Int.le_total a b with h | h
  · rw [Int.min_eq_left h, Int.max_eq_right h]; exact ⟨ha, hb⟩
  · rw [Int.min_eq_right h, Int.max_eq_left h]; exact ⟨hb, ha⟩

section
variable (w : World) (B q : Nat) (F : Nat → Prop) (L : List Pk) (ks : List (Int × Int))
theorem net_cut (h : NetAt w B q F L ks) (hB : B ≤ w.heap.size) (a b : Int) (on : Bool) (ha : (Lit.int .i64 a).wf = true) (hb : (Lit.int .i64 b).wf = true) :
    Calls Try.prog 23 #[.pointer (some ⟨q, 0, none⟩), .int .i64 a, .int .i64 b, .bool on] w fun e w' => e = .returned (.tuple #[]) ∧ ∃ F', NetAt w' B q F' L (cutsAt ks a b on) ∧ Went F F' w w' := by
  have qm : ∀ (w : World) (r : Option Nat), (binOp .eql 32 (.map r) (.map none)).run Try.prog w = .ok (.bool r.isNone) w := fun w r => run_eql_map_nil w _ _ _ r Try.underlying32
  have hmm := @run_makeMap Try.prog
  have hwf := ends_wf ha hb
  obtain ⟨R, C, hblk, hcu, hFq, hFC, hback⟩ := h.parts
  obtain ⟨k0, k1⟩ := net_cells hblk
  have f1 := hblk.frozen 1
  have Hwf := hide hwf
  have Hback := hide hback
  clear hwf hback ha hb
  go_enter Try.func23, Try.ntmps23
  go_upto_if 14 with fail
  go_cut [] (fun wx => ∃ m, Blk wx q 34 (netCells R (some m)) ∧ CutsAt wx B (some m) ks ∧ Chg (fun k => k = q ∨ C = some k) w wx ∧ (C = some m ∨ w.heap.size ≤ m))
  case first =>
    rcases hC : C with _ | m
    · subst hC
      have hks : ks = [] := by
        rcases hcu.at_ with ⟨_, e⟩ | ⟨m, es, cl, e, _⟩
        · exact e
        · cases e
      have Hks := hide hks
      clear hks
      have hblka := hblk.chg ((Chg.refl No w).alloc (.map #[] 0)) (fun t => t)
      have k1a : (w.alloc (.map #[] 0)).cell? ⟨q, 1, none⟩ = some (.map none) := hblka.cell 1
      have f1a : (w.alloc (.map #[] 0)).frozen? ⟨q, 1, none⟩ = false := hblka.frozen 1
      go_wp2_with fail
      go_meet
      case rel =>
        have hca := (Chg.refl No w).alloc (.map #[] 0)
        have hbb := (hblk.chg hca (fun t => t)).store 1 (.map (some w.heap.size))
        have hcm := (CutsAt.made (B := B) w hB).chg ((Chg.refl (fun k => k = q) (w.alloc (.map #[] 0))).setCell (p := ⟨q, 1, none⟩) (fun _ => rfl) (.map (some w.heap.size))) (fun m hm e => by have := hblk.lt; injection hm with hm; omega)
        rw [Hks.out]
        exact ⟨w.heap.size, hbb, hcm, (hca.mono (T := fun k => k = q ∨ none = some k) (fun _ _ t => t.elim)).setCell (p := ⟨q, 1, none⟩) (fun _ => .inl rfl) _, .inr (Nat.le_refl _)⟩
    · subst hC
      go_wp2_with fail
      go_meet
      case rel => exact ⟨m, hblk, hcu, Chg.refl _ _, .inl rfl⟩
  case rest =>
    obtain ⟨m, hb1, hcu1, hc1, hm1⟩ := hcut
    clear hblk hcu k0 k1 f1
    obtain ⟨k0, k1⟩ := net_cells hb1
    have hqm : q ≠ m := fun e => hcu1.ne_blk hb1 (by rw [e])
    have hml := (hcu1.lt rfl).2
    go_wp2_with fail
    go_region_held3 (fun w' => w'.cell? ⟨q, 1, none⟩ = some (.map (some m))) (first | exact x1 | exact y1 | exact k1) (first
      | (go_at_call 31; refine (ends_any _ _ _).mono ?_; rintro e w3 ⟨rfl, hc3'⟩; have hc3 : Chg No wc w3 := ⟨hc3'.os, hc3'.tape, hc3'.output, hc3'.size, hc3'.block⟩; have y1 := (net_cells (hb1.chg hc3 (fun t => t))).2; have hcu3 := hcu1.chg hc3 (fun _ _ t => t))
      | (obtain ⟨es, cl, hdel, hcu4⟩ := cut_del hcu3 m rfl (endsOf a b) Hwf.out 0; refine step_delete rfl _ _ _ _ rfl rfl rfl hdel ?_; have hb4 := (hb1.chg hc3 (fun t => t)).chg ((Chg.refl (fun k => k = m) w3).setBlock (m := m) (fun _ => rfl) (.map es cl)) hqm; have x1 := (net_cells hb4).2))
    have hcw5 : Chg (fun k => k = q ∨ C = some k) w (ChangeMaps.setBlock w3 m (.map es cl)) := (hc1.trans hc3 (fun _ _ t => t.elim)).setBlock (m := m) (fun hlt => .inr (hm1.resolve_right (by omega))) _
    obtain ⟨w5, hw5⟩ : ∃ w5, w5 = ChangeMaps.setBlock w3 m (.map es cl) := ⟨_, rfl⟩
    rw [← hw5] at hcu4 hb4 hcw5 x1 ⊢
    clear hw5 hdel hcu3 y1 hc3 hc3' hcu1 hb1 hc1 k0 k1 hml
    cases on with
    | false =>
      go_wp2_with fail
      go_end0
      refine ⟨rfl, Hback.out w5 (some m) _ hb4 ?_ hcw5 (fun m' hm' => by injection hm' with hm'; subst hm'; exact hm1)⟩
      unfold cutsAt
      rw [if_neg (by simp), List.append_nil]
      exact hcu4
    | true =>
      have hni : endsOf a b ∉ ks.filter (· ≠ endsOf a b) := fun t => by have := (List.mem_filter.1 t).2; simp at this
      obtain ⟨ks2, hks2⟩ : ∃ ks2, ks2 = ks.filter (· ≠ endsOf a b) := ⟨_, rfl⟩
      rw [← hks2] at hni hcu4
      have Hks2 := hide hks2
      have hml := (hcu4.lt rfl).2
      clear hks2
      go_wp2_with fail
      go_region_held3 (fun w' => w'.cell? ⟨q, 1, none⟩ = some (.map (some m))) (first | exact y6 | exact y1 | exact x1) (first
        | (go_at_call 31; refine (ends_any _ _ _).mono ?_; rintro e w6 ⟨rfl, hc6'⟩; have hc6 : Chg No w5 w6 := ⟨hc6'.os, hc6'.tape, hc6'.output, hc6'.size, hc6'.block⟩; have hb6 := hb4.chg hc6 (fun t => t); have y1 := (net_cells hb6).2; have hcu6 := hcu4.chg hc6 (fun _ _ t => t); obtain ⟨es7, cl7, hup, hcu7⟩ := cut_add hcu6 m rfl (endsOf a b) Hwf.out hni; have hb7 := hb6.chg ((Chg.refl (fun k => k = m) w6).setBlock (m := m) (fun _ => rfl) (.map es7 cl7)) hqm; have y6 := (net_cells hb7).2))
      go_wp2_with fail
      go_end0
      refine ⟨rfl, Hback.out _ (some m) _ hb7 ?_ ((hcw5.trans hc6 (fun _ _ t => t.elim)).setBlock (m := m) (fun hlt => .inr (hm1.resolve_right (by omega))) _) (fun m' hm' => by injection hm' with hm'; subst hm'; exact hm1)⟩
      unfold cutsAt
      rw [if_pos rfl, ← Hks2.out]
      exact hcu7
end
end Go.Proofs.Ytipdeacaehbbfaa
