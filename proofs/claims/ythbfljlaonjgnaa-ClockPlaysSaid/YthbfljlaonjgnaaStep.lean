/-
  One step of a clock.
-/
import Derived.Test.YthbfljlaonjgnaaClock
import Derived.BigRegion
import Derived.BigQuiet
namespace Go.Proofs.Ythbfljlaonjgnaa
open Go.RowKit

def stepBy (k : Int) : Int := min (max k 0) 8
/-- The last steps behind one more. -/
def lastOf (ls : List Int) (b : Int) : List Int := (if ls.length = 8 then ls.drop 1 else ls) ++ [b]
def badSum (ls : List Int) : Bool := decide (ls.length = 8 ∧ (ls.sum < 7 ∨ 9 < ls.sum))

theorem stepBy_le (k : Int) : 0 ≤ stepBy k ∧ stepBy k ≤ 8 := by unfold stepBy; omega
theorem lastOf_length {ls : List Int} {b : Int} (_h : ls.length ≤ 8) : (lastOf ls b).length = if ls.length = 8 then 8 else ls.length + 1 := by
  unfold lastOf
  split
  · simp; omega
  · simp
theorem lastOf_le {ls : List Int} {b : Int} (h : ls.length ≤ 8) : (lastOf ls b).length ≤ 8 := by rw [lastOf_length h]; split <;> omega

/-- The clock with its ring. -/
structure Ticks (w : World) (B q p : Nat) (A : Option Addr) (c : Nat) (now real : Int) (ls : List Int) (br : Bool) : Prop where
  base : B ≤ q
  blk : Blk w q 31 (clockCells now real (some ⟨p, 0, none⟩) br)
  ring : riAt w B p A ls.length c (nums ls) 8

section
variable {w w1 : World} {B q p : Nat} {A : Option Addr} {c : Nat} {now real : Int} {ls ls' : List Int} {br : Bool}
def TFoot (q p : Nat) (A : Option Addr) : Nat → Prop := fun k => k = q ∨ Foot p A k
theorem Ticks.qp (h : Ticks w B q p A c now real ls br) : ¬ Foot p A q := by
  rintro (e | e)
  · exact h.blk.ne_of_type h.ring.blk (by decide) e
  · exact own_ne h.ring.own h.blk (by decide) e
theorem Ticks.clk (h : Ticks w B q p A c now real ls br) (hl : ls.length ≤ 8) : Clk w B q (TFoot q p A) now real ls br :=
  ⟨h.base, hl, .inr ⟨p, A, c, h.blk, h.ring, fun _ => Iff.rfl⟩⟩
theorem Ticks.chg {S : Nat → Prop} (h : Ticks w B q p A c now real ls br) (hc : Chg S w w1) (hn : ∀ k, TFoot q p A k → ¬ S k) : Ticks w1 B q p A c now real ls br :=
  ⟨h.base, h.blk.chg hc (hn q (.inl rfl)), h.ring.chg hc (fun k hk => hn k (.inr hk))⟩
theorem Ticks.moved (h : Ticks w B q p A c now real ls br) {n : Nat} {xs : List Value} (hm : Moved 53 3 1 w w1 B p A n xs 8) (hn : n = ls'.length) (hx : xs = nums ls') :
    ∃ A' c', Ticks w1 B q p A' c' now real ls' br ∧ Chg (Foot p A) w w1 ∧ Fresh w A A' := by
  subst hn hx
  obtain ⟨A', c', hr, hc, hf⟩ := hm
  exact ⟨A', c', ⟨h.base, h.blk.chg hc h.qp, hr⟩, hc, hf⟩
theorem Ticks.store (h : Ticks w B q p A c now real ls br) (j : Nat) (u : Value) {now' real' : Int} {br' : Bool} (he : (clockCells now real (some ⟨p, 0, none⟩) br).setIfInBounds j u = clockCells now' real' (some ⟨p, 0, none⟩) br') :
    Ticks (w.setCell ⟨q, j, none⟩ u) B q p A c now' real' ls br' ∧ Chg (TFoot q p A) w (w.setCell ⟨q, j, none⟩ u) := by
  have hc : Chg (fun k => k = q) w (w.setCell ⟨q, j, none⟩ u) := (Chg.refl (fun k => k = q) w).setCell (p := ⟨q, j, none⟩) (fun _ => rfl) u
  refine ⟨⟨h.base, ?_, h.ring.chg hc (fun k hk e => by subst e; exact h.qp hk)⟩, hc.mono (fun k _ e => .inl e)⟩
  rw [← he]
  exact h.blk.store j u
end

theorem clk_cells {w : World} {q : Nat} {now real : Int} {p : Option Addr} {br : Bool} (h : Blk w q 31 (clockCells now real p br)) :
    w.cell? ⟨q, 0, none⟩ = some (.int .i64 now) ∧ w.cell? ⟨q, 1, none⟩ = some (.int .i64 real) ∧ w.cell? ⟨q, 2, none⟩ = some (.pointer p) ∧ w.cell? ⟨q, 3, none⟩ = some (.bool br) :=
  ⟨h.cell 0, h.cell 1, h.cell 2, h.cell 3⟩

theorem ticks_go {w wc w1 : World} {F : Nat → Prop} {q p : Nat} {A A' : Option Addr} (hc : Chg F w wc) (hf : ∀ k, TFoot q p A k → F k ∨ w.heap.size ≤ k) (hm : Chg (Foot p A) wc w1) (hfr : Fresh wc A A') :
    Chg F w w1 ∧ ∀ k, TFoot q p A' k → F k ∨ w.heap.size ≤ k := by
  refine ⟨hc.trans hm (fun k hk t => (hf k (.inr t)).resolve_right (by omega)), ?_⟩
  rintro k (rfl | rfl | hk)
  · exact hf _ (.inl rfl)
  · exact hf _ (.inr (.inl rfl))
  · rcases hfr k hk with e | e
    · exact hf k (.inr (.inr e))
    · exact .inr (Nat.le_trans hc.size e)

theorem sum_bound : ∀ l : List Int, (∀ x ∈ l, 0 ≤ x ∧ x ≤ 8) → 0 ≤ l.sum ∧ l.sum ≤ 8 * l.length := by
  intro l
  induction l with
  | nil => intro _; simp
  | cons a l ih =>
    intro h
    have h1 := h a (by simp)
    have h2 := ih (fun x hx => h x (by simp [hx]))
    simp only [List.sum_cons, List.length_cons]
    omega
theorem sum_take (l : List Int) (T : Nat) (x : Int) (h : l[T]? = some x) : (l.take (T + 1)).sum = (l.take T).sum + x := by
  obtain ⟨hT, rfl⟩ := List.getElem?_eq_some_iff.1 h
  rw [List.take_succ_eq_append_getElem hT, List.sum_append]
  simp

/-- The loop that sums. -/
def Summing (w : World) (ls : List Int) (k : Nat) (n i : Value) (wr : World) : Prop := ∃ T : Nat, n = .int .i64 (ls.take T).sum ∧ i = .int .i64 (T : Int) ∧ T + k = ls.length ∧ w = wr

set_option maxRecDepth 100000 in
theorem clock_step (w : World) (B q : Nat) (F : Nat → Prop) (now real : Int) (ls : List Int) (br : Bool) (by_ : Int) (h : Clk w B q F now real ls br) (hB : B ≤ w.heap.size)
    (h1 : 0 ≤ now) (h2 : now ≤ 100000) (h3 : 0 ≤ real) (h4 : real ≤ 100000) (h5 : ∀ x ∈ ls, 0 ≤ x ∧ x ≤ 8) :
    Calls Try.prog 12 #[.pointer (some ⟨q, 0, none⟩), .int .i64 by_] w fun e w' => e = .returned (.int .i64 (now + stepBy by_)) ∧
      ∃ F', Clk w' B q F' (now + stepBy by_) (real + 1) (lastOf ls (stepBy by_)) (br || badSum (lastOf ls (stepBy by_))) ∧ Chg F w w' ∧ ∀ k, F' k → F k ∨ w.heap.size ≤ k := by
  obtain ⟨hq, hl, hor⟩ := h
  obtain ⟨p0, hb0⟩ : ∃ p, Blk w q 31 (clockCells now real p br) := by
    rcases hor with ⟨_, hb, _⟩ | ⟨_, _, _, hb, _⟩
    · exact ⟨_, hb⟩
    · exact ⟨_, hb⟩
  have hF : F q := by
    rcases hor with ⟨_, _, hF⟩ | ⟨_, _, _, _, _, hF⟩
    · exact (hF q).2 rfl
    · exact (hF q).2 (.inl rfl)
  have e8 : roomOf 8 = 8 := rfl
  go_enter Try.func12, Try.ntmps12
  obtain ⟨k0, k1, k2, k3⟩ := clk_cells hb0
  go_upto_if 14 with fail
  go_cut [] (fun wx => ∃ p A c, Ticks wx B q p A c now real ls br ∧ Chg F w wx ∧ ∀ k, TFoot q p A k → F k ∨ w.heap.size ≤ k)
  case first =>
    rcases hor with ⟨rfl, hb, hF'⟩ | ⟨p, A, c, hb, hr, hF'⟩
    · obtain rfl : p0 = none := by have := (hb0.cell 2).symm.trans (hb.cell 2); simpa [clockCells] using this
      go_wp2_with fail
      refine (ri_new_any _ _).mono ?_
      rintro e w1 ⟨rfl, hr1, hc1, hs1⟩
      rw [e8] at hr1
      have hb1 := hb.chg hc1 (fun t => t)
      have hlt := hb.lt
      have hf2 := hb1.frozen 2
      clear k0 k1 k2 k3
      obtain ⟨k0, k1, k2, k3⟩ := clk_cells hb1
      go_wp2_with fail
      go_meet
      case rel =>
        refine ⟨w.heap.size, none, 0, ⟨hq, hb1.store 2 _, (hr1.lower hB).chg (S := fun k => k = q) ((Chg.refl (fun k => k = q) w1).setCell (p := ⟨q, 2, none⟩) (fun _ => rfl) _) ?_⟩, (hc1.mono (T := F) (fun _ _ t => t.elim)).setCell (p := ⟨q, 2, none⟩) (fun _ => hF) _, ?_⟩
        · rintro k hk rfl
          have := hr1.foot_ge k hk
          omega
        · rintro k (rfl | rfl | hk)
          · exact .inl hF
          · exact .inr (Nat.le_refl _)
          · simp [blkOf] at hk
    · obtain rfl : p0 = some ⟨p, 0, none⟩ := by have := (hb0.cell 2).symm.trans (hb.cell 2); simpa [clockCells] using this
      go_wp2_with fail
      go_meet
      case rel => exact ⟨p, A, c, ⟨hq, hb, hr⟩, Chg.refl _ _, fun k hk => .inl ((hF' k).2 hk)⟩
  case rest =>
    obtain ⟨p, A, c, ht, hc, hf⟩ := hcut
    clear k0 k1 k2 k3 hb0 hor
    go_upto_region 5 with fail
    go_cut [1] (fun v wx => v = .int .i64 (stepBy by_) ∧ wx = wc)
    case first =>
      rcases (show by_ < 0 ∨ (0 ≤ by_ ∧ by_ ≤ 8) ∨ 8 < by_ by omega) with hb | ⟨hb, hb'⟩ | hb
      all_goals
        go_wp2_with fail
        all_goals go_meet
        all_goals case rel => exact ⟨by unfold stepBy; first | rfl | (congr 1; omega), rfl⟩
    case rest =>
      obtain ⟨rfl, rfl⟩ := hcut
      have hsb := stepBy_le by_
      obtain ⟨b, hb⟩ : ∃ b, b = stepBy by_ := ⟨_, rfl⟩
      rw [← hb] at hsb ⊢
      have Hb := hide hb
      clear hb
      obtain ⟨hb0, hb8⟩ := hsb
      obtain ⟨k0, k1, k2, k3⟩ := clk_cells ht.blk
      have hf0 := ht.blk.frozen 0
      have hf1 := ht.blk.frozen 1
      have hm0 : now + b ≤ 4611686018427387904 := by omega
      have hm1 : real + 1 ≤ 4611686018427387904 := by omega
      go_upto_region 6 with fail
      go_region
      obtain ⟨ht1, hc1⟩ := ht.store 0 (.int .i64 (now + b)) (now' := now + b) (real' := real) (br' := br) (by simp [clockCells])
      obtain ⟨ht2, hc2⟩ := ht1.store 1 (.int .i64 (real + 1)) (now' := now + b) (real' := real + 1) (br' := br) (by simp [clockCells])
      have hc12 := (hc1.trans hc2 (fun _ _ t => t)).drew
      have ht2' := ht2.chg ((Chg.refl No _).drewN 1) (fun _ _ t => t)
      change Ticks (World.drew _) B q p A c (now + b) (real + 1) ls br at ht2'
      obtain ⟨w2, hw2⟩ : ∃ w2, w2 = ((wc.setCell ⟨q, 0, none⟩ (.int .i64 (now + b))).setCell ⟨q, 1, none⟩ (.int .i64 (real + 1))).drew := ⟨_, rfl⟩
      rw [← hw2] at ht2' hc12 ⊢
      have hcw : Chg F w w2 := hc.trans hc12 (fun k hk t => (hf k t).resolve_right (by omega))
      clear k0 k1 k2 k3 hf0 hf1 hm0 hm1 hc1 hc2 ht1 ht2 hw2 hc12 ht hc
      obtain ⟨k0, k1, k2, k3⟩ := clk_cells ht2'.blk
      have hBw : B ≤ w2.heap.size := Nat.le_trans hB hcw.size
      go_wp2_with fail
      refine (ri_room_any _ _ _ _ _ _ _ _ ht2'.ring).mono ?_
      rintro e w3 ⟨rfl, m, rfl⟩
      go_upto_if 46 with fail
      go_cut [] (fun wx => ∃ A1 c1, Ticks wx B q p A1 c1 (now + b) (real + 1) (if ls.length = 8 then ls.drop 1 else ls) br ∧ Chg F w wx ∧ ∀ k, TFoot q p A1 k → F k ∨ w.heap.size ≤ k)
      case first =>
        have ht3 := ht2'.chg ((Chg.refl No w2).drewN m) (fun _ _ t => t)
        have hc3 : Chg F w (w2.drewN m) := hcw.drewN m
        by_cases h8 : ls.length = 8
        · have h8' : ((8 : Nat) : Int) - (ls.length : Int) = 0 := by omega
          obtain ⟨z, hz⟩ : ∃ z, ls[0]? = some z := ⟨_, List.getElem?_eq_getElem (by omega)⟩
          go_wp2_with fail
          refine (ri_pop_some _ _ _ _ _ _ _ _ ht3.ring ints_one (.int .i64 z) (by simp [nums, hz]) (by omega) hBw).mono ?_
          rintro e w4 ⟨rfl, hmv⟩
          obtain ⟨A4, c4, ht4, hc4, hfr⟩ := ht3.moved (ls' := ls.drop 1) hmv (by simp) (by simp [nums])
          obtain ⟨hc5, hf5⟩ := ticks_go hc3 hf hc4 hfr
          go_wp2_with fail
          go_meet
          case rel => exact ⟨A4, c4, by rw [if_pos h8]; exact ht4, hc5, hf5⟩
        · have h8' : ((8 : Nat) : Int) - (ls.length : Int) ≠ 0 := by omega
          go_wp2_with fail
          go_meet
          case rel => exact ⟨A, c, by rw [if_neg h8]; exact ht3, hc3, hf⟩
      case rest =>
        clear k0 k1 k2 k3 ht2' hcw hBw hf
        obtain ⟨A1, c1, ht3, hc3, hf3⟩ := hcut
        obtain ⟨l1, hl1⟩ : ∃ l1, l1 = if ls.length = 8 then ls.drop 1 else ls := ⟨_, rfl⟩
        have hlen1 : l1.length < 8 := by
          rw [hl1]
          split
          · rw [List.length_drop]; omega
          · omega
        have hin1 : ∀ x ∈ l1 ++ [b], 0 ≤ x ∧ x ≤ 8 := by
          intro x hx
          rw [List.mem_append] at hx
          rcases hx with hx | hx
          · refine h5 x ?_
            rw [hl1] at hx
            split at hx
            · exact List.mem_of_mem_drop hx
            · exact hx
          · simp at hx; omega
        have hla : lastOf ls b = l1 ++ [b] := by rw [hl1]; rfl
        rw [← hl1] at ht3
        have Hl1 := hide hl1
        have Hla := hide hla
        clear hl1 hla
        obtain ⟨k0, k1, k2, k3⟩ := clk_cells ht3.blk
        have hBw : B ≤ wc.heap.size := Nat.le_trans hB hc3.size
        go_upto_region 9 with fail
        have k4 : (wc.alloc (.cells #[.int .i64 b] 3)).cell? ⟨q, 2, none⟩ = some (.pointer (some ⟨p, 0, none⟩)) := (ht3.blk.alloc _).cell 2
        go_wp2_with fail
        refine (ri_push_one _ _ _ _ _ _ _ _ ht3.ring (.int .i64 b) rfl hlen1 hBw).mono ?_
        rintro e w4 ⟨rfl, hmv⟩
        obtain ⟨A4, c4, ht4, hc4, hfr⟩ := ht3.moved (ls' := l1 ++ [b]) hmv (by simp) (by simp [nums])
        obtain ⟨hc5, hf5⟩ := ticks_go hc3 hf3 hc4 hfr
        clear k0 k1 k2 k3 k4 ht3 hc3 hf3 hBw hfr hc4
        obtain ⟨k0, k1, k2, k3⟩ := clk_cells ht4.blk
        go_wp2_with fail
        refine (ri_list_any _ _ _ _ _ _ _ _ ht4.ring ints_one).mono ?_
        rintro e w5 ⟨Y, cy, rfl, hY, hcY⟩
        have ht5 := ht4.chg hcY (fun _ _ t => t)
        have hc6 : Chg F w w5 := hc5.trans hcY (fun _ _ t => t.elim)
        obtain ⟨g, rfl, _, _⟩ := own_addr hY (by simp)
        have hcell := own_cells hY rfl
        clear k0 k1 k2 k3
        obtain ⟨k0, k1, k2, k3⟩ := clk_cells ht5.blk
        have hf3 := ht5.blk.frozen 3
        have Hcell := hide hcell
        have Hin := hide hin1
        clear hcell hin1 hY hcY hc5 ht4
        go_wp2_with fail
        go_loopg [5, 65] (l1.length + 1) (fun k n i wr => Summing w5 (l1 ++ [b]) k n i wr)
        case atStart => exact ⟨0, by simp, rfl, by simp, rfl⟩
        case round =>
          obtain ⟨T, rfl, rfl, hk, rfl⟩ := hrel
          have Hk := hide hk
          clear hk
          obtain ⟨S, hS⟩ : ∃ S, S = ((l1 ++ [b]).take T).sum := ⟨_, rfl⟩
          have hSb := sum_bound ((l1 ++ [b]).take T) (fun y hy => Hin.out y (List.mem_of_mem_take hy))
          have hSl : ((l1 ++ [b]).take T).length ≤ 8 := by simp; omega
          rw [← hS] at hSb ⊢
          obtain ⟨hs0, hs1⟩ := hSb
          have hs2 : S ≤ 64 := by omega
          have HS := hide hS
          clear hS hs1 hSl
          by_cases hT : T < l1.length + 1
          · have hTi : (T : Int) < (l1.length : Int) + 1 := by omega
            obtain ⟨x, hx⟩ : ∃ x, (l1 ++ [b])[T]? = some x := ⟨_, List.getElem?_eq_getElem (by simp; omega)⟩
            have hxc := Hcell.out T (.int .i64 x) (by simp only [nums, List.getElem?_map, hx]; rfl)
            rw [add_flat, Nat.zero_add] at hxc
            obtain ⟨hx0, hx8⟩ := Hin.out x (List.mem_of_getElem? hx)
            have Hx := hide hx
            clear hx
            go_wp2_with fail
            go_roundg (l1.length + 1 - (T + 1))
            case measure => have := Hk.out; simp at this; omega
            case rel => exact ⟨T + 1, by rw [sum_take _ _ _ Hx.out, HS.out], by go_num, by simp; omega, rfl⟩
          · have hTe : T = l1.length + 1 := by have := Hk.out; simp at this; omega
            have hSe : S = (l1 ++ [b]).sum := by rw [HS.out, List.take_of_length_le (by simp; omega)]
            have HSe := hide hSe
            have hTi : ¬ ((T : Int) < (l1.length : Int) + 1) := by omega
            clear hSe
            have hbd : badSum (l1 ++ [b]) = decide (l1.length = 7 ∧ (S < 7 ∨ 9 < S)) := by
              unfold badSum
              rw [← HSe.out]
              congr 1
              simp
            have Hbd := hide hbd
            clear hbd
            go_wp2_with fail
            refine (ri_len_any _ _ _ _ _ _ _ _ ht5.ring).mono ?_
            rintro e w6 ⟨rfl, rfl⟩
            have hl2 : ((l1 ++ [b]).length : Int) = (l1.length : Int) + 1 := by simp
            rw [hl2]
            clear hl2
            by_cases h7 : l1.length = 7
            · have q7 : ((l1.length : Int) + 1 == 8) = true := by simp; omega
              rcases (show S < 7 ∨ 9 < S ∨ (7 ≤ S ∧ S ≤ 9) by omega) with hS' | hS' | ⟨hS', hS''⟩
              · have e2 : (br || badSum (l1 ++ [b])) = true := by rw [Hbd.out, decide_eq_true ⟨h7, .inl hS'⟩]; simp
                have E2 := hide e2
                clear e2
                go_wp2_with fail
                obtain ⟨ht7, hc7⟩ := ht5.store 3 (.bool true) (now' := now + b) (real' := real + 1) (br' := true) (by simp [clockCells])
                go_ret
                refine ⟨by rw [← Hb.out]; rfl, TFoot q p A4, ?_, hc6.trans hc7 (fun k hk t => (hf5 k t).resolve_right (by omega)), hf5⟩
                rw [← Hb.out, Hla.out, E2.out]
                exact ht7.clk (by simp; omega)
              · have e2 : (br || badSum (l1 ++ [b])) = true := by rw [Hbd.out, decide_eq_true ⟨h7, .inr hS'⟩]; simp
                have hS7 : ¬ (S < 7) := by omega
                have E2 := hide e2
                clear e2
                go_wp2_with fail
                obtain ⟨ht7, hc7⟩ := ht5.store 3 (.bool true) (now' := now + b) (real' := real + 1) (br' := true) (by simp [clockCells])
                go_ret
                refine ⟨by rw [← Hb.out]; rfl, TFoot q p A4, ?_, hc6.trans hc7 (fun k hk t => (hf5 k t).resolve_right (by omega)), hf5⟩
                rw [← Hb.out, Hla.out, E2.out]
                exact ht7.clk (by simp; omega)
              · have e2 : (br || badSum (l1 ++ [b])) = br := by rw [Hbd.out, decide_eq_false (by omega)]; simp
                have E2 := hide e2
                clear e2
                go_wp2_with fail
                go_ret
                refine ⟨by rw [← Hb.out]; rfl, TFoot q p A4, ?_, hc6, hf5⟩
                rw [← Hb.out, Hla.out, E2.out]
                exact ht5.clk (by simp; omega)
            · have q7 : ((l1.length : Int) + 1 == 8) = false := by simp; omega
              have e2 : (br || badSum (l1 ++ [b])) = br := by rw [Hbd.out, decide_eq_false (by omega)]; simp
              have E2 := hide e2
              clear e2
              go_wp2_with fail
              go_ret
              refine ⟨by rw [← Hb.out]; rfl, TFoot q p A4, ?_, hc6, hf5⟩
              rw [← Hb.out, Hla.out, E2.out]
              exact ht5.clk (by simp; omega)
end Go.Proofs.Ythbfljlaonjgnaa
