/-
  The reference's net: Double, Swap.
-/
import Derived.Test.YtipdeacaehbbfaaRefTake
namespace Go.Proofs.Ytipdeacaehbbfaa
open Go.RowKit
set_option linter.unusedSimpArgs false

/-- Two appends onto nil, one behind the other, a block made between: all is new. -/
theorem rf_new_a {w2 w4 w5 : World} {E T : TypeId} {size n n2 c1 c2 : Nat} {A1 A2 : Option Addr} {xs ys : List Value} {cs : Array Value} (h1 : Grew w2.drew w2.heap.size E size none n xs A1 c1 w4) (h4c : Chg No w2 w4) (h2 : Grew (w4.alloc (.cells cs T)) w2.heap.size E size A1 n2 ys A2 c2 w5) : Chg No w2 w5 :=
  (h4c.alloc _).trans h2.chg (fun i hi hs => by have := (own_lt h1.own hs).1; omega)
theorem rf_new_b {w2 w4 : World} {E T : TypeId} {size n c1 : Nat} {A1 : Option Addr} {xs : List Value} {cs : Array Value} (h1 : Grew (w2.drew.alloc (.cells cs T)) w2.heap.size E size none n xs A1 c1 w4) : Chg No w2 w4 ∧ Blk w4 w2.heap.size T cs := by
  have h0 : Chg No (w2.drew.alloc (.cells cs T)) w4 := h1.chg.mono (by simp [blkOf])
  refine ⟨((Chg.refl No w2).drew.alloc _).trans h0 (fun _ _ t => t), ?_⟩
  exact (Blk.new w2.drew T cs).chg h0 (fun t => t)
theorem rf_new_c {w2 w4 w5 : World} {E T : TypeId} {size n n2 c1 c2 : Nat} {A1 A2 : Option Addr} {xs ys : List Value} {cs : Array Value} (h1 : Grew (w2.drew.alloc (.cells cs T)) w2.heap.size E size none n xs A1 c1 w4) (h4c : Chg No w2 w4) (h2 : Grew w4 w2.heap.size E size A1 n2 ys A2 c2 w5) : Chg No w2 w5 :=
  h4c.trans h2.chg (fun i hi hs => by have := (own_lt h1.own hs).1; omega)

theorem RefAt.spot {w : World} {B r c d g k : Nat} {D : Option Addr} {L : List Pk} {ks : List (Int × Int)} {pk : Pk} (h : RefAt w B r (some ⟨g, 0, none⟩) c L D d ks) (hk : L[k]? = some pk) :
    w.cell? ⟨g, k * 3, none⟩ = some (.int .i64 pk.fr) ∧ w.cell? ⟨g, k * 3 + 1, none⟩ = some (.int .i64 pk.to) ∧ w.cell? ⟨g, k * 3 + 2, none⟩ = some (.string pk.data) := by
  obtain ⟨e0, e1, e2⟩ := flat_get hk
  have d0 := own_cells h.list rfl (k * 3) _ e0
  have d1 := own_cells h.list rfl (k * 3 + 1) _ e1
  have d2 := own_cells h.list rfl (k * 3 + 2) _ e2
  rw [add_flat, Nat.zero_add] at d0 d1 d2
  exact ⟨d0, d1, d2⟩

theorem pk_one (p : Pk) : ∀ u ∈ p.cells, u.oneCell' = true := by
  intro u hu
  simp at hu
  rcases hu with rfl | rfl | rfl <;> rfl

section
variable (w : World) (B r c d : Nat) (A D : Option Addr) (L : List Pk) (ks : List (Int × Int))

set_option maxHeartbeats 4000000 in
set_option maxRecDepth 100000 in
theorem ref_double_in (h : RefAt w B r A c L D d ks) (hB : B ≤ w.heap.size) (hn : L.length < 900) (k : Nat) (pk : Pk) (hk : L[k]? = some pk) :
    Calls Try.prog 20 #[.pointer (some ⟨r, 0, none⟩), .int .i64 (k : Int)] w fun e w' => e = .returned (.bool true) ∧ ∃ A' c', RefAt w' B r A' c' (L ++ [pk]) D d ks ∧ Went (RFoot r A D) (RFoot r A' D) w w' := by
  obtain ⟨i0, hi, hz0, hz1, hz2⟩ := info_parts Try.info48
  have hkl : k < L.length := (List.getElem?_eq_some_iff.1 hk).1
  obtain ⟨g, rfl, _, hgl⟩ := own_addr h.list (by omega)
  obtain ⟨f0, f1, f2⟩ := h.spot hk
  have hk' : (k : Int) < L.length := by omega
  have hn' : (L.length : Int) < 900 := by omega
  have k0 := h.k0
  have ht := th_in hkl
  have hs1 := Sees.of_own h.list
  go_enter Try.func20, Try.ntmps20
  go_wp2_with fail
  refine (ref_there _ B r c d _ D L ks h (k : Int)).mono ?_
  rintro e w' ⟨rfl, rfl⟩
  rw [ht]
  clear ht
  go_wp2_with fail
  have hkz : (w.alloc (.cells #[.int .i64 pk.fr, .int .i64 pk.to, .string pk.data] 48)).cell? ⟨r, 0, none⟩ = some (.slice (some ⟨g, 0, none⟩) L.length c) := (h.quiet ((Chg.refl No w).alloc _)).k0
  go_region_law (first
    | (refine step_append_sees _ rfl (.const (.slice none 0 0)) (.tmp 21) 27 rfl w.heap.size 48 i0 (.agg #[.int .i64 0, .int .i64 0, .string ⟨#[]⟩]) 3 32 Try.underlying27 hi hz0 hz1 hz2 rfl (by decide) none 0 0 [] rfl (World.ownsRow_nil _ _ _ _) _ (some ⟨g, 0, none⟩) L.length c (flat L) rfl (show Sees w.drew w.heap.size 3 _ L.length _ from hs1) (flat_one_cell _) (by unfold maxLen; omega) (by omega) (Nat.le_refl _) ?_; intro X4 d4 w4 hg1; rw [Nat.zero_add, List.nil_append] at hg1; have h4c : Chg No w w4 := ⟨hg1.by_.os, hg1.by_.tape, hg1.by_.output, hg1.by_.size, fun k hk _ => hg1.by_.block k hk (by simp [blkOf])⟩; have h4 := h.quiet h4c; have k04 := h4.k0; obtain ⟨y0, y1, y2⟩ := h4.spot hk; clear h4)
    | (refine step_append_sees _ rfl (.tmp 22) (.tmp 30) 27 rfl w.heap.size 48 i0 (.agg #[.int .i64 0, .int .i64 0, .string ⟨#[]⟩]) 3 32 Try.underlying27 hi hz0 hz1 hz2 rfl (by decide) X4 L.length d4 (flat L) rfl (own_chg hg1.own ((Chg.refl No w4).alloc _) (fun _ _ t => t)) _ (some ⟨w4.heap.size, 0, none⟩) 1 1 [.int .i64 pk.fr, .int .i64 pk.to, .string pk.data] rfl (Sees.of_blk (cs := #[.int .i64 pk.fr, .int .i64 pk.to, .string pk.data]) (Blk.new _ _ _) rfl) (pk_one pk) (by unfold maxLen; omega) (by omega) (by have := h4c.size; simp; omega) ?_; intro X5 d5 w5 hg2; have h5c := rf_new_a hg1 h4c hg2; have k05 := (h.quiet h5c).k0; have f05 := (h.quiet h5c).blk.frozen 0)
    | (refine step_append_sees _ rfl (.const (.slice none 0 0)) (.tmp 21) 27 rfl w.heap.size 48 i0 (.agg #[.int .i64 0, .int .i64 0, .string ⟨#[]⟩]) 3 32 Try.underlying27 hi hz0 hz1 hz2 rfl (by decide) none 0 0 [] rfl (World.ownsRow_nil _ _ _ _) _ (some ⟨g, 0, none⟩) L.length c (flat L) rfl (show Sees (w.drew.alloc (.cells #[.int .i64 pk.fr, .int .i64 pk.to, .string pk.data] 48)) _ 3 _ L.length _ from hs1.chg ((Chg.refl No w).drew.alloc _) (Nat.le_refl _) (fun _ _ _ t => t)) (flat_one_cell _) (by unfold maxLen; omega) (by omega) (by simp) ?_; intro X4 d4 w4 hg1; rw [Nat.zero_add, List.nil_append] at hg1; obtain ⟨h4c, hbz4⟩ := rf_new_b hg1)
    | (refine step_append_sees _ rfl (.tmp 22) (.tmp 30) 27 rfl w.heap.size 48 i0 (.agg #[.int .i64 0, .int .i64 0, .string ⟨#[]⟩]) 3 32 Try.underlying27 hi hz0 hz1 hz2 rfl (by decide) X4 L.length d4 (flat L) rfl hg1.own _ (some ⟨w.heap.size, 0, none⟩) 1 1 [.int .i64 pk.fr, .int .i64 pk.to, .string pk.data] rfl (Sees.of_blk (cs := #[.int .i64 pk.fr, .int .i64 pk.to, .string pk.data]) hbz4 rfl) (pk_one pk) (by unfold maxLen; omega) (by omega) h4c.size ?_; intro X5 d5 w5 hg2; have h5c := rf_new_c hg1 h4c hg2; have k05 := (h.quiet h5c).k0; have f05 := (h.quiet h5c).blk.frozen 0))
  all_goals
    obtain ⟨hR6, hw6⟩ := h.setL (L' := L ++ [pk]) hB h5c hg2.own (by simp) (by rw [flat_append, flat_one])
    go_wp2_with fail
    go_ret
    exact ⟨rfl, X5, d5, hR6, hw6⟩

theorem ref_double (h : RefAt w B r A c L D d ks) (hB : B ≤ w.heap.size) (hn : L.length ≤ 900) (k : Int) :
    Calls Try.prog 20 #[.pointer (some ⟨r, 0, none⟩), .int .i64 k] w fun e w' => e = .returned (.bool (There k L.length && decide (L.length < 900))) ∧ ∃ A' c', RefAt w' B r A' c' (dblAt L k) D d ks ∧ Went (RFoot r A D) (RFoot r A' D) w w' := by
  cases e : There k L.length with
  | true =>
    by_cases h9 : L.length < 900
    · have hk : 0 ≤ k ∧ k < L.length := of_decide_eq_true e
      obtain ⟨m, rfl⟩ : ∃ m : Nat, k = m := ⟨k.toNat, by omega⟩
      have hm : L[m]? = some (at? L m) := by
        unfold at?
        rw [if_pos e, Int.toNat_natCast, List.getD_eq_getElem?_getD, List.getElem?_eq_getElem (by omega)]
        rfl
      have el : dblAt L (m : Int) = L ++ [at? L m] := by unfold dblAt; rw [e, decide_eq_true h9]; rfl
      rw [el, decide_eq_true h9]
      exact ref_double_in w B r c d A D L ks h hB h9 m _ hm
    · have el : dblAt L k = L := by unfold dblAt; rw [decide_eq_false h9, Bool.and_false]; rfl
      rw [el, decide_eq_false h9, Bool.and_false]
      have k0 := h.k0
      have h9' : (900 : Int) ≤ L.length := by omega
      go_enter Try.func20, Try.ntmps20
      go_wp2_with fail
      refine (ref_there _ B r c d _ D L ks h k).mono ?_
      rintro e' w' ⟨rfl, rfl⟩
      rw [e]
      clear e
      go_wp2_with fail
      go_ret
      exact ⟨rfl, A, c, h, Went.refl _ _⟩
  | false =>
    have el : dblAt L k = L := by unfold dblAt; rw [e]; rfl
    rw [el, Bool.false_and]
    go_enter Try.func20, Try.ntmps20
    go_wp2_with fail
    refine (ref_there _ B r c d _ D L ks h k).mono ?_
    rintro e' w' ⟨rfl, rfl⟩
    rw [e]
    clear e
    go_wp2_with fail
    go_ret
    exact ⟨rfl, A, c, h, Went.refl _ _⟩
end
end Go.Proofs.Ytipdeacaehbbfaa
