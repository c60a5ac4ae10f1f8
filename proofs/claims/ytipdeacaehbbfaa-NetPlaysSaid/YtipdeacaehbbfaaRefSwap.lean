/-
  The reference's net: Swap.
-/
import Derived.Test.YtipdeacaehbbfaaRefDouble
namespace Go.Proofs.Ytipdeacaehbbfaa
open Go.RowKit
set_option linter.unusedSimpArgs false

theorem RefAt.put {w : World} {B r c d g : Nat} {D : Option Addr} {L : List Pk} {ks : List (Int × Int)} (h : RefAt w B r (some ⟨g, 0, none⟩) c L D d ks) {k : Nat} (hk : k < L.length) (pk : Pk) :
    RefAt (((w.setCell ⟨g, k * 3, none⟩ (.int .i64 pk.fr)).setCell ⟨g, k * 3 + 1, none⟩ (.int .i64 pk.to)).setCell ⟨g, k * 3 + 2, none⟩ (.string pk.data)) B r (some ⟨g, 0, none⟩) c (L.set k pk) D d ks ∧
    Chg (RFoot r (some ⟨g, 0, none⟩) D) w (((w.setCell ⟨g, k * 3, none⟩ (.int .i64 pk.fr)).setCell ⟨g, k * 3 + 1, none⟩ (.int .i64 pk.to)).setCell ⟨g, k * 3 + 2, none⟩ (.string pk.data)) := by
  have hc : Chg (fun j => j = g) w (((w.setCell ⟨g, k * 3, none⟩ (.int .i64 pk.fr)).setCell ⟨g, k * 3 + 1, none⟩ (.int .i64 pk.to)).setCell ⟨g, k * 3 + 2, none⟩ (.string pk.data)) :=
    (((Chg.refl (fun j => j = g) w).setCell (p := ⟨g, k * 3, none⟩) (fun _ => rfl) _).setCell (p := ⟨g, k * 3 + 1, none⟩) (fun _ => rfl) _).setCell (p := ⟨g, k * 3 + 2, none⟩) (fun _ => rfl) _
  have ho := (((h.list.stored (k * 3) (.int .i64 pk.fr)).1.stored (k * 3 + 1) (.int .i64 pk.to)).1.stored (k * 3 + 2) (.string pk.data)).1
  rw [← flat_set L k pk hk] at ho
  have hrg : ¬ (r = g) := fun e => h.neA (by simp [blkOf, e])
  refine ⟨⟨?_, h.base, ?_, own_chg h.cuts hc (fun i hi e => ?_)⟩, hc.mono (fun i _ e => .inr (.inl (by simp [blkOf, e])))⟩
  · rw [List.length_set]; exact h.blk.chg hc hrg
  · rw [List.length_set]; exact ho
  · subst e; rw [ownBlock_slice] at hi
    exact own_own_ne h.list h.cuts (by decide) i (by simp [blkOf]) hi

section
variable (w : World) (B r c d : Nat) (A D : Option Addr) (L : List Pk) (ks : List (Int × Int))

set_option maxHeartbeats 4000000 in
set_option maxRecDepth 100000 in
theorem ref_swap_in (h : RefAt w B r A c L D d ks) (hB : B ≤ w.heap.size) (hn : L.length ≤ 900) (k j : Nat) (pk pj : Pk) (hk : L[k]? = some pk) (hj : L[j]? = some pj) :
    Calls Try.prog 22 #[.pointer (some ⟨r, 0, none⟩), .int .i64 (k : Int), .int .i64 (j : Int)] w fun e w' => e = .returned (.bool true) ∧ ∃ A' c', RefAt w' B r A' c' ((L.set k pj).set j pk) D d ks ∧ Went (RFoot r A D) (RFoot r A' D) w w' := by
  obtain ⟨i0, hi, hz0, hz1, hz2⟩ := info_parts Try.info48
  have hkl : k < L.length := (List.getElem?_eq_some_iff.1 hk).1
  have hjl : j < L.length := (List.getElem?_eq_some_iff.1 hj).1
  have hkL : (k : Int) < L.length := by omega
  have hjL : (j : Int) < L.length := by omega
  have k0 := h.k0
  have ht := th_in hkl
  have htj := th_in hjl
  have hs1 := Sees.of_own h.list
  go_enter Try.func22, Try.ntmps22
  go_wp2_with fail
  refine (ref_there _ B r c d _ D L ks h (k : Int)).mono ?_
  rintro e w' ⟨rfl, rfl⟩
  rw [ht]
  clear ht
  go_wp2_with fail
  refine (ref_there _ B r c d _ D L ks h (j : Int)).mono ?_
  rintro e w' ⟨rfl, rfl⟩
  rw [htj]
  clear htj
  go_wp2_with (at_builtin; refine wpList_append_sees _ rfl (.const (.slice none 0 0)) (.tmp 21) 27 rfl w.heap.size 48 i0 (.agg #[.int .i64 0, .int .i64 0, .string ⟨#[]⟩]) 3 32 Try.underlying27 hi hz0 hz1 hz2 rfl (by decide) none 0 0 [] rfl (World.ownsRow_nil _ _ _ _) _ A L.length c (flat L) rfl hs1 (flat_one_cell _) (by unfold maxLen; omega) (by omega) (Nat.le_refl _) ?_; intro X4 d4 w4 hg1; rw [Nat.zero_add, List.nil_append] at hg1; have h4c : Chg No w w4 := hg1.chg.mono (by simp [blkOf]); have k04 := (h.quiet h4c).k0; have f04 := (h.quiet h4c).blk.frozen 0)
  obtain ⟨hR5, hw5⟩ := h.setL (L' := L) hB h4c hg1.own rfl rfl
  obtain ⟨w5, hw5e⟩ : ∃ w5, w5 = w4.setCell ⟨r, 0, none⟩ (.slice X4 L.length d4) := ⟨_, rfl⟩
  rw [← hw5e] at hR5 hw5 ⊢
  clear hw5e hg1 h4c k04 f04 k0 hs1
  obtain ⟨g4, rfl, _, _⟩ := own_addr hR5.list (by omega)
  obtain ⟨a0, a1, a2⟩ := hR5.spot hk
  obtain ⟨b0, b1, b2⟩ := hR5.spot hj
  have z0 : w5.frozen? ⟨g4, k * 3, none⟩ = false := hR5.list.frozenAt (k * 3)
  have z1 : w5.frozen? ⟨g4, k * 3 + 1, none⟩ = false := hR5.list.frozenAt (k * 3 + 1)
  have z2 : w5.frozen? ⟨g4, k * 3 + 2, none⟩ = false := hR5.list.frozenAt (k * 3 + 2)
  have y0 : w5.frozen? ⟨g4, j * 3, none⟩ = false := hR5.list.frozenAt (j * 3)
  have y1 : w5.frozen? ⟨g4, j * 3 + 1, none⟩ = false := hR5.list.frozenAt (j * 3 + 1)
  have y2 : w5.frozen? ⟨g4, j * 3 + 2, none⟩ = false := hR5.list.frozenAt (j * 3 + 2)
  obtain ⟨hR6, hc6⟩ := hR5.put hkl pj
  have hjl6 : ∃ x, (L.set k pj)[j]? = some x := ⟨_, List.getElem?_eq_getElem (by rw [List.length_set]; exact hjl)⟩
  obtain ⟨x6, hx6⟩ := hjl6
  obtain ⟨v0, v1, v2⟩ := hR6.spot hx6
  have k05 := hR5.k0
  have k06 := hR6.k0
  obtain ⟨hR7, hc7⟩ := hR6.put (k := j) (by rw [List.length_set]; exact hjl) pk
  have HR7 := hide hR7
  have Hc7 := hide hc7
  have Hc6 := hide hc6
  clear hR7 hc7 hc6 hR6 hx6
  go_region
  all_goals
    go_wp2_with fail
    go_ret
    exact ⟨rfl, some ⟨g4, 0, none⟩, d4, HR7.out.quiet ((Chg.refl No _).drew), ⟨(hw5.chg.trans (Hc6.out.trans Hc7.out (fun _ _ t => t)) (fun i hi t => (hw5.foot i t).resolve_right (by omega))).drew, hw5.foot⟩⟩

theorem at_in {L : List Pk} {k : Int} (e : There k L.length = true) : ∃ m : Nat, k = m ∧ L[m]? = some (at? L k) := by
  have hk : 0 ≤ k ∧ k < L.length := of_decide_eq_true e
  obtain ⟨m, rfl⟩ : ∃ m : Nat, k = m := ⟨k.toNat, by omega⟩
  refine ⟨m, rfl, ?_⟩
  unfold at?
  rw [if_pos e, Int.toNat_natCast, List.getD_eq_getElem?_getD, List.getElem?_eq_getElem (by omega)]
  rfl

theorem ref_swap (h : RefAt w B r A c L D d ks) (hB : B ≤ w.heap.size) (hn : L.length ≤ 900) (k j : Int) :
    Calls Try.prog 22 #[.pointer (some ⟨r, 0, none⟩), .int .i64 k, .int .i64 j] w fun e w' => e = .returned (.bool (There k L.length && There j L.length)) ∧ ∃ A' c', RefAt w' B r A' c' (swapAt L k j) D d ks ∧ Went (RFoot r A D) (RFoot r A' D) w w' := by
  cases e : There k L.length with
  | true =>
    cases e' : There j L.length with
    | true =>
      obtain ⟨m, rfl, hm⟩ := at_in e
      obtain ⟨m', rfl, hm'⟩ := at_in e'
      have el : swapAt L (m : Int) (m' : Int) = (L.set m (at? L m')).set m' (at? L m) := by unfold swapAt; rw [e, e', Bool.and_self, if_pos rfl, Int.toNat_natCast, Int.toNat_natCast]
      rw [el]
      exact ref_swap_in w B r c d A D L ks h hB hn m m' _ _ hm hm'
    | false =>
      have el : swapAt L k j = L := by unfold swapAt; rw [e', Bool.and_false]; rfl
      rw [el, Bool.and_false]
      go_enter Try.func22, Try.ntmps22
      go_wp2_with fail
      refine (ref_there _ B r c d _ D L ks h k).mono ?_
      rintro _ w' ⟨rfl, rfl⟩
      rw [e]
      clear e
      go_wp2_with fail
      refine (ref_there _ B r c d _ D L ks h j).mono ?_
      rintro _ w' ⟨rfl, rfl⟩
      rw [e']
      clear e'
      go_wp2_with fail
      go_ret
      exact ⟨rfl, A, c, h, Went.refl _ _⟩
  | false =>
    have el : swapAt L k j = L := by unfold swapAt; rw [e]; rfl
    rw [el, Bool.false_and]
    go_enter Try.func22, Try.ntmps22
    go_wp2_with fail
    refine (ref_there _ B r c d _ D L ks h k).mono ?_
    rintro _ w' ⟨rfl, rfl⟩
    rw [e]
    clear e
    go_wp2_with fail
    go_ret
    exact ⟨rfl, A, c, h, Went.refl _ _⟩
end
end Go.Proofs.Ytipdeacaehbbfaa
