/-
  One step of the reference's clock.
-/
import Derived.Test.YthbfljlaonjgnaaHist
import Derived.BigRegion
namespace Go.Proofs.Ythbfljlaonjgnaa
open Go.RowKit
set_option linter.unusedSimpArgs false

def refCells (now : Int) (X : Option Addr) (n d : Nat) (kept : Bool) : Array Value := #[.int .i64 now, .slice X n d, .bool kept]

/-- The reference's clock in block q: its time, all its steps, was the bound kept. -/
structure RefAt (w : World) (B q : Nat) (X : Option Addr) (d : Nat) (now : Int) (bs : List Int) (kept : Bool) : Prop where
  blk : Blk w q 28 (refCells now X bs.length d kept)
  own : w.ownsRow B 3 1 (.slice X bs.length d) bs.length (nums bs)
  base : B ≤ q

theorem RefAt.ge {w : World} {B q d : Nat} {X : Option Addr} {now : Int} {bs : List Int} {kept : Bool} (h : RefAt w B q X d now bs kept) : ∀ k, Foot q X k → B ≤ k := by
  rintro k (rfl | hk)
  · exact h.base
  · exact (own_lt h.own hk).1
theorem RefAt.lt {w : World} {B q d : Nat} {X : Option Addr} {now : Int} {bs : List Int} {kept : Bool} (h : RefAt w B q X d now bs kept) : ∀ k, Foot q X k → k < w.heap.size := by
  rintro k (rfl | hk)
  · exact h.blk.lt
  · exact (own_lt h.own hk).2
theorem RefAt.chg {S : Nat → Prop} {w w' : World} {B q d : Nat} {X : Option Addr} {now : Int} {bs : List Int} {kept : Bool} (h : RefAt w B q X d now bs kept) (hc : Chg S w w') (hn : ∀ k, Foot q X k → ¬ S k) : RefAt w' B q X d now bs kept :=
  ⟨h.blk.chg hc (hn q (.inl rfl)), own_chg h.own hc (fun k hk => hn k (.inr (by rw [ownBlock_slice] at hk; exact hk))), h.base⟩
theorem ref_cells {w : World} {q n d : Nat} {X : Option Addr} {now : Int} {kept : Bool} (h : Blk w q 28 (refCells now X n d kept)) :
    w.cell? ⟨q, 0, none⟩ = some (.int .i64 now) ∧ w.cell? ⟨q, 1, none⟩ = some (.slice X n d) ∧ w.cell? ⟨q, 2, none⟩ = some (.bool kept) :=
  ⟨h.cell 0, h.cell 1, h.cell 2⟩

/-- The loop that sums the last eight. -/
def LastSum (w : World) (bs : List Int) (a k : Nat) (s i : Value) (wr : World) : Prop :=
  ∃ J : Nat, s = .int .i64 ((bs.drop a).take J).sum ∧ i = .int .i64 ((a + J : Nat) : Int) ∧ J + k = 8 ∧ w = wr

/-- What a step leaves. -/
def RefPost (w : World) (B q : Nat) (X : Option Addr) (now : Int) (bs : List Int) (kept : Bool) (b : Int) (e : Ending) (w' : World) : Prop :=
  e = .returned (.int .i64 (now + b)) ∧ ∃ X' d', RefAt w' B q X' d' (now + b) (bs ++ [b]) (kept && !badSum (last8 (bs ++ [b]))) ∧ Chg (Foot q X) w w' ∧ Fresh w X X'
theorem own_lower {w : World} {B B' size n : Nat} {E : TypeId} {v : Value} {xs : List Value} (h : w.ownsRow B E size v n xs) (hB : B' ≤ B) : w.ownsRow B' E size v n xs := by
  refine ⟨h.1, ?_⟩
  rcases h.2 with h0 | ⟨g, cap, cur, e, hb, r⟩
  · exact .inl h0
  · exact .inr ⟨g, cap, cur, e, Nat.le_trans hB hb, r⟩

set_option maxRecDepth 100000 in
theorem ref_step (w : World) (B q : Nat) (X : Option Addr) (d : Nat) (now : Int) (bs : List Int) (kept : Bool) (by_ : Int) (h : RefAt w B q X d now bs kept) (hB : B ≤ w.heap.size)
    (h1 : 0 ≤ now) (h2 : now ≤ 100000) (h3 : bs.length ≤ 1000) (h5 : ∀ x ∈ bs, 0 ≤ x ∧ x ≤ 8) :
    Calls Try.prog 13 #[.pointer (some ⟨q, 0, none⟩), .int .i64 by_] w (RefPost w B q X now bs kept (stepBy by_)) := by
  obtain ⟨i0, hi0, hz0, hz1, hz2⟩ := info_parts Try.info3
  have hblk := h.blk
  have hown := h.own
  go_enter Try.func13, Try.ntmps13
  go_upto_region 1 with fail
  go_cut [1] (fun v wx => v = .int .i64 (stepBy by_) ∧ w = wx)
  case first =>
    rcases (show by_ < 0 ∨ (0 ≤ by_ ∧ by_ ≤ 8) ∨ 8 < by_ by omega) with hb | ⟨hb, hb'⟩ | hb
    all_goals
      go_wp2_with fail
      all_goals go_meet
      all_goals case rel => exact ⟨by unfold stepBy; first | rfl | (congr 1; omega), rfl⟩
  case rest =>
    obtain ⟨rfl, rfl⟩ := hcut
    have hsb := stepBy_le by_
    obtain ⟨b, hb⟩ : ∃ b, b = stepBy by_ := ⟨_, rfl⟩
    rw [← hb] at hsb ⊢
    have Hb := hide hb
    clear hb
    obtain ⟨hb0, hb8⟩ := hsb
    obtain ⟨k0, k1, k2⟩ := ref_cells hblk
    have f0 := hblk.frozen 0
    have hblk2 : Blk (w.setCell ⟨q, 0, none⟩ (.int .i64 (now + b))) q 28 (refCells (now + b) X bs.length d kept) := hblk.store 0 _
    have hne : blkOf X ≠ some q := own_ne hown hblk (by decide)
    have hc2 : Chg (Foot q X) w (w.setCell ⟨q, 0, none⟩ (.int .i64 (now + b))) := (Chg.refl (Foot q X) w).setCell (p := ⟨q, 0, none⟩) (fun _ => .inl rfl) _
    have hown2 := own_chg hown ((Chg.refl (fun k => k = q) w).setCell (p := ⟨q, 0, none⟩) (fun _ => rfl) (.int .i64 (now + b))) (fun k hk e => by subst e; rw [ownBlock_slice] at hk; exact hne hk)
    have Hb2 := hide hblk2
    have Ho2 := hide hown2
    have Hc2 := hide hc2
    clear hblk2 hown2 hc2
    go_upto_region 3 with fail
    obtain ⟨w2, hw2⟩ : ∃ w2, w2 = w.setCell ⟨q, 0, none⟩ (.int .i64 (now + b)) := ⟨_, rfl⟩
    rw [← hw2] at Hb2 Ho2 Hc2 ⊢
    clear hw2 k0 k1 k2 f0
    obtain ⟨k0, k1, k2⟩ := ref_cells Hb2.out
    have hs2 := Hc2.out.size
    go_upto_region 4 with (first
      | (at_builtin; refine wpList_append_sees _ rfl (.const (.slice none 0 0)) (.tmp 24) 22 rfl w2.heap.size 3 i0 (.int .i64 0) 1 8 Try.underlying22 hi0 hz0 hz1 hz2 rfl (by decide) none 0 0 [] rfl (World.ownsRow_nil _ _ _ _) _ X bs.length d (nums bs) rfl (Sees.of_own Ho2.out) ints_one (by unfold maxLen; omega) (by omega) (Nat.le_refl _) ?_; intro X4 d4 w4 hg1; rw [Nat.zero_add, List.nil_append] at hg1; have h4c : Chg No w2 w4 := hg1.chg.mono (by simp [blkOf]))
      | (at_builtin; refine wpList_append_sees _ rfl (.tmp 25) (.tmp 27) 22 rfl w2.heap.size 3 i0 (.int .i64 0) 1 8 Try.underlying22 hi0 hz0 hz1 hz2 rfl (by decide) X4 bs.length d4 (nums bs) rfl (own_chg hg1.own ((Chg.refl No w4).alloc _) (fun _ _ t => t)) _ (some ⟨w4.heap.size, 0, none⟩) 1 1 [.int .i64 b] rfl (Sees.of_blk (cs := #[.int .i64 b]) (Blk.new _ _ _) rfl) (by simp [Value.oneCell']) (by unfold maxLen; omega) (by omega) (by have := h4c.size; simp; omega) ?_; intro X5 d5 w5 hg2; have h5c : Chg No w2 w5 := (h4c.alloc _).trans hg2.chg (fun i hi hs => by have := (own_lt hg1.own hs).1; omega); have hb5 := Hb2.out.chg h5c (fun t => t); have k1 : w5.cell? ⟨q, 1, none⟩ = some (.slice X bs.length d) := hb5.cell 1; have f1 := hb5.frozen 1; clear hb5))
    have hb5 := Hb2.out.chg h5c (fun t => t)
    have hb6 : Blk (w5.setCell ⟨q, 1, none⟩ (.slice X5 (bs.length + 1) d5)) q 28 (refCells (now + b) X5 (bs.length + 1) d5 kept) := hb5.store 1 _
    have hne5 : blkOf X5 ≠ some q := own_ne hg2.own hb5 (by decide)
    have ho6 := own_chg hg2.own ((Chg.refl (fun k => k = q) w5).setCell (p := ⟨q, 1, none⟩) (fun _ => rfl) (.slice X5 (bs.length + 1) d5)) (fun k hk e => by subst e; rw [ownBlock_slice] at hk; exact hne5 hk)
    have hc6 : Chg (Foot q X) w (w5.setCell ⟨q, 1, none⟩ (.slice X5 (bs.length + 1) d5)) := (Hc2.out.trans h5c (fun _ _ t => t.elim)).setCell (p := ⟨q, 1, none⟩) (fun _ => .inl rfl) _
    have hfr : Fresh w X X5 := fun k hk => .inr (Nat.le_trans hs2 (own_lt hg2.own hk).1)
    obtain ⟨w6, hw6⟩ : ∃ w6, w6 = w5.setCell ⟨q, 1, none⟩ (.slice X5 (bs.length + 1) d5) := ⟨_, rfl⟩
    rw [← hw6] at hb6 ho6 hc6 ⊢
    have e1 : (bs ++ [b]).length = bs.length + 1 := by simp
    have e2 : nums (bs ++ [b]) = nums bs ++ [.int .i64 b] := by simp [nums]
    rw [← e2] at ho6
    have hin : ∀ x ∈ bs ++ [b], 0 ≤ x ∧ x ≤ 8 := by
      intro x hx
      rcases List.mem_append.1 hx with hx | hx
      · exact h5 x hx
      · simp at hx; omega
    obtain ⟨cs, hcs⟩ : ∃ cs, cs = bs ++ [b] := ⟨_, rfl⟩
    rw [← hcs] at e1 ho6 hin
    have Hcs := hide hcs
    have Hs2 := hide (show B ≤ w2.heap.size from Nat.le_trans hB hs2)
    have Hbase := hide h.base
    clear hw6 k0 k1 k2 f1 hb5 hne5 hg1 hg2 h4c h5c Hb2 Ho2 Hc2 hs2 e2 hcs hown hblk h h5
    rw [← e1] at hb6 ho6 ⊢
    have hcl : cs.length ≤ 1001 := by omega
    clear e1
    obtain ⟨n, hn⟩ : ∃ n, n = cs.length := ⟨_, rfl⟩
    rw [← hn] at hb6 ho6 hcl ⊢
    have Hn := hide hn
    have Hb6 := hide hb6
    have Ho6 := hide ho6
    have Hin := hide hin
    have Hc6 := hide hc6
    have Hfr := hide hfr
    clear hn hb6 ho6 hin hc6 hfr
    obtain ⟨k0, k1, k2⟩ := ref_cells Hb6.out
    have f2 := Hb6.out.frozen 2
    by_cases h8 : n < 8
    · have h8i : ¬ ((8 : Int) ≤ n) := by omega
      have hbd : badSum (last8 cs) = false := by unfold badSum; rw [last8_length, ← Hn.out]; exact decide_eq_false (by omega)
      have Hbd := hide hbd
      clear hbd
      go_wp2_with fail
      go_ret
      have hcs := Hcs.out
      subst hcs
      rw [← Hb.out]
      have Hn' := Hn.out
      subst Hn'
      refine ⟨rfl, X5, d5, ⟨?_, own_lower Ho6.out Hs2.out, Hbase.out⟩, Hc6.out, Hfr.out⟩
      rw [Hbd.out, Bool.not_false, Bool.and_true]
      exact Hb6.out
    · have h8i : (8 : Int) ≤ n := by omega
      obtain ⟨a, ha⟩ : ∃ a : Nat, n = a + 8 := ⟨n - 8, by omega⟩
      subst ha
      have hai : ((a + 8 : Nat) : Int) - 8 = a := by omega
      go_wp2_with fail
      go_loopg [6, 7] 8 (fun k s i wr => LastSum w6 cs a k s i wr)
      case atStart => exact ⟨0, by simp, by first | rfl | (congr 1; omega), rfl, rfl⟩
      case round =>
        obtain ⟨J, rfl, rfl, hk, rfl⟩ := hrel
        obtain ⟨S, hS⟩ : ∃ S, S = ((cs.drop a).take J).sum := ⟨_, rfl⟩
        have hSb := sum_bound ((cs.drop a).take J) (fun y hy => Hin.out y (List.mem_of_mem_drop (List.mem_of_mem_take hy)))
        have hSl : ((cs.drop a).take J).length ≤ J := by simp; omega
        rw [← hS] at hSb ⊢
        obtain ⟨hs0, hs1⟩ := hSb
        have hs2 : S ≤ 1000 := by omega
        have HS := hide hS
        have Hk := hide hk
        clear hS hs1 hSl hk
        by_cases hJ : J < 8
        · have hJi : ((a + J : Nat) : Int) < (a + 8 : Nat) := by omega
          obtain ⟨x, hx⟩ : ∃ x, cs[a + J]? = some x := ⟨_, List.getElem?_eq_getElem (by rw [← Hn.out]; omega)⟩
          obtain ⟨hxb0, hxb8⟩ := Hin.out x (List.mem_of_getElem? hx)
          obtain ⟨g, rfl, _, _⟩ := own_addr Ho6.out (by omega)
          have hxc := own_cells Ho6.out rfl (a + J) (.int .i64 x) (by simp [nums, hx])
          rw [add_flat, Nat.zero_add] at hxc
          have hxd : (cs.drop a)[J]? = some x := by rw [List.getElem?_drop]; exact hx
          have Hx := hide hxd
          clear hx hxd
          go_wp2_with fail
          go_roundg (8 - (J + 1))
          case measure => have := Hk.out; omega
          case rel => exact ⟨J + 1, by rw [sum_take _ _ _ Hx.out, ← HS.out], by go_num, by omega, rfl⟩
        · have hJe : J = 8 := by have := Hk.out; omega
          have hSe : S = (last8 cs).sum := by
            rw [HS.out, List.take_of_length_le (by rw [List.length_drop, ← Hn.out]; omega)]
            unfold last8
            rw [← Hn.out, Nat.add_sub_cancel]
          have hbd : badSum (last8 cs) = decide (S < 7 ∨ 9 < S) := by
            unfold badSum
            rw [← hSe, last8_length, ← Hn.out]
            congr 1
            apply propext
            constructor <;> intro h <;> omega
          have hJi : ¬ (((a + J : Nat) : Int) < (a + 8 : Nat)) := by omega
          have Hbd := hide hbd
          clear hSe hbd hJe hJ Hk
          have hblk7 : ∀ v, Blk (w6.setCell ⟨q, 2, none⟩ (.bool v)) q 28 (refCells (now + b) X5 (a + 8) d5 v) := fun v => Hb6.out.store 2 _
          have hne7 : blkOf X5 ≠ some q := own_ne Ho6.out Hb6.out (by decide)
          have hown7 : ∀ v, (w6.setCell ⟨q, 2, none⟩ (.bool v)).ownsRow w2.heap.size 3 1 (.slice X5 (a + 8) d5) (a + 8) (nums cs) := fun v => own_chg Ho6.out ((Chg.refl (fun k => k = q) w6).setCell (p := ⟨q, 2, none⟩) (fun _ => rfl) _) (fun k hk e => by subst e; rw [ownBlock_slice] at hk; exact hne7 hk)
          have Hne7 := hide hne7
          have Hblk7 := hide hblk7
          have Hown7 := hide hown7
          clear hne7 hblk7 hown7
          rcases (show S < 7 ∨ (7 ≤ S ∧ 9 < S) ∨ (7 ≤ S ∧ S ≤ 9) by omega) with c1 | ⟨c1, c2⟩ | ⟨c1, c2⟩
          all_goals
            cases kept
            all_goals
              go_wp2_with fail
              go_ret
              have hcs := Hcs.out
              subst hcs
              rw [← Hb.out]
              have Hn' := Hn.out
              refine ⟨rfl, X5, d5, ⟨?_, ?_, Hbase.out⟩, Hc6.out.setCell (p := ⟨q, 2, none⟩) (fun _ => .inl rfl) _, Hfr.out⟩
              · rw [Hbd.out, ← Hn']
                first
                  | (rw [show decide (S < 7 ∨ 9 < S) = true from decide_eq_true (by omega)]; exact Hblk7.out _)
                  | (rw [show decide (S < 7 ∨ 9 < S) = true from decide_eq_true (by omega), show decide (S ≤ 9) = false from decide_eq_false (by omega)]; exact Hblk7.out _)
                  | (rw [show decide (S < 7 ∨ 9 < S) = false from decide_eq_false (by omega)]; exact Hblk7.out _)
              · rw [← Hn']
                exact own_lower (Hown7.out _) Hs2.out
end Go.Proofs.Ythbfljlaonjgnaa
