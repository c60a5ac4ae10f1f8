/-
  A net that has its ring: Len only reads.
-/
import Derived.Test.YtipdeacaehbbfaaNetSt
namespace Go.Proofs.Ytipdeacaehbbfaa.netPlays
open Go.RowKit
set_option linter.unusedSimpArgs false

section
variable (w : World) (B q : Nat) (F : Nat → Prop) (L : List Pk) (ks : List (Int × Int))
theorem net_peek_r (h : NetAt w B q F L ks) (hB : B ≤ w.heap.size) (k : Int) :
    Calls Try.prog 26 #[.pointer (some ⟨q, 0, none⟩), .int .i64 k] w fun e w' => e = .returned (.tuple #[(at? L k).val, .bool (There k L.length)]) ∧ ∃ p A c C, NetR w' B q p A c L C ks ∧ Went F (NFoot q p A C) w w' := by
  have hca := (Chg.refl No w).alloc (.cells #[.int .i64 0, .int .i64 0, .string ⟨#[]⟩] 45)
  have hwa : Went F F w (w.alloc (.cells #[.int .i64 0, .int .i64 0, .string ⟨#[]⟩] 45)) := Went.no hca
  have h' := h.chg hca (fun _ _ t => t)
  have hbz : Blk (w.alloc (.cells #[.int .i64 0, .int .i64 0, .string ⟨#[]⟩] 45)) w.heap.size 45 #[.int .i64 0, .int .i64 0, .string ⟨#[]⟩] := Blk.new _ _ _
  obtain ⟨g, hg⟩ : ∃ g, g = w.heap.size := ⟨_, rfl⟩
  have hFg : ¬ F g := fun t => by have := h.lt g t; omega
  rw [← hg] at hbz
  have Hg := hide hg
  clear hg
  go_enter Try.func26, Try.ntmps26
  go_wp2_with fail
  refine (net_list _ B q F L ks h' (by simp; omega)).mono ?_
  rintro e w1 ⟨p, A, c, C, rfl, hr, hw⟩
  have hb1 := hbz.chg hw.chg hFg
  have hng : ¬ NFoot q p A C g := fun t => by
    rcases hw.foot g t with e | e
    · exact hFg e
    · have := Hg.out; simp at e; omega
  go_wp2_with fail
  refine (pk_peek _ _ _ _ _ _ _ hr.ring k (by have := hr.ring.fits; omega)).mono ?_
  rintro e w2 ⟨rfl, hc2⟩
  have hb2 := hb1.chg hc2 (fun t => t)
  have hr2 := hr.chg hc2 (fun _ _ t => t)
  have hw2 := (hwa.trans hw).trans (Went.no hc2)
  obtain ⟨pk, hpk⟩ : ∃ pk, pk = at? L k := ⟨_, rfl⟩
  rw [← hpk]
  have Hpk := hide hpk
  clear hpk hwa h' hbz hca hb1 hw
  have c0 : w2.cell? ⟨g, 0, none⟩ = some (.int .i64 0) := hb2.cell 0
  have c1 : w2.cell? ⟨g, 1, none⟩ = some (.int .i64 0) := hb2.cell 1
  have c2 : w2.cell? ⟨g, 2, none⟩ = some (.string ⟨#[]⟩) := hb2.cell 2
  have f0 := hb2.frozen 0
  have f1 := hb2.frozen 1
  have f2 := hb2.frozen 2
  rw [← Hg.out]
  go_wp2_with fail
  obtain ⟨hb3, hc3⟩ := pk_put hb2 rfl pk
  obtain ⟨w3, hw3⟩ : ∃ w3, w3 = ((w2.setCell ⟨g, 0, none⟩ (.int .i64 pk.fr)).setCell ⟨g, 1, none⟩ (.int .i64 pk.to)).setCell ⟨g, 2, none⟩ (.string pk.data) := ⟨_, rfl⟩
  rw [← hw3] at hb3 hc3 ⊢
  obtain ⟨d0, d1, d2, _, _, _⟩ := pk_there hb3
  refine bodyPost_ret (v := .tuple #[pk.val, .bool (There k L.length)]) (by simp [results, Try.results26, go_sem, d0, d1, d2]) rfl ⟨by rw [Hpk.out], p, A, c, C, hr2.chg hc3 (fun k hk e => by subst e; exact hng hk), ?_⟩
  exact hw2.new hc3 (fun k e => by have := Hg.out; omega)
end

theorem list_r {w : World} {B q p c : Nat} {A : Option Addr} {C : Option Nat} {L : List Pk} {ks : List (Int × Int)} (hr : NetR w B q p A c L C ks) :
    Calls Try.prog 30 #[.pointer (some ⟨q, 0, none⟩)] w fun e w' => e = .returned (.pointer (some ⟨p, 0, none⟩)) ∧ w = w' := by
  obtain ⟨k0, k1⟩ := net_cells hr.blk
  go_enter Try.func30, Try.ntmps30
  go_wp2_with fail
  go_ret
  exact ⟨rfl, rfl⟩
theorem len_r {w : World} {B q p c : Nat} {A : Option Addr} {C : Option Nat} {L : List Pk} {ks : List (Int × Int)} (hr : NetR w B q p A c L C ks) :
    Calls Try.prog 27 #[.pointer (some ⟨q, 0, none⟩)] w fun e w' => e = .returned (.int .i64 (L.length : Int)) ∧ w = w' := by
  go_enter Try.func27, Try.ntmps27
  go_wp2_with fail
  refine (list_r hr).mono ?_
  rintro e w1 ⟨rfl, rfl⟩
  go_wp2_with fail
  refine (pk_len _ _ _ _ _ _ _ hr.ring).mono ?_
  rintro e w2 ⟨rfl, rfl⟩
  go_wp2_with fail
  go_ret
  exact ⟨rfl, rfl⟩
theorem len_q {w : World} {B q p c : Nat} {A : Option Addr} {C : Option Nat} {L : List Pk} {ks : List (Int × Int)} (hr : NetR w B q p A c L C ks) (m : Nat) :
    Calls Try.prog 27 #[.pointer (some ⟨q, 0, none⟩)] (w.drewN m) fun e w' => e = .returned (.int .i64 (L.length : Int)) ∧ ∃ k, w' = (w.drewN m).drewN k :=
  (len_r (hr.chg ((Chg.refl No w).drewN m) (fun _ _ t => t))).mono fun _ _ ⟨he, hw⟩ => ⟨he, 0, hw.symm⟩
theorem there_q {w : World} {B r c d : Nat} {A D : Option Addr} {L : List Pk} {ks : List (Int × Int)} (h : RefAt w B r A c L D d ks) (k : Int) {t : Bool} (ht : There k L.length = t) (m : Nat) :
    Calls Try.prog 28 #[.pointer (some ⟨r, 0, none⟩), .int .i64 k] (w.drewN m) fun e w' => e = .returned (.bool t) ∧ ∃ k, w' = (w.drewN m).drewN k :=
  (ref_there _ B r c d A D L ks (h.quiet ((Chg.refl No w).drewN m)) k).mono fun _ _ ⟨he, hw⟩ => ⟨by rw [he, ht], 0, hw.symm⟩
end Go.Proofs.Ytipdeacaehbbfaa.netPlays
