/-
  The reference's net: how it lies in memory, its ends, its places, Take, Double.
-/
import Derived.Test.YtipdeacaehbbfaaNetNil
import Derived.Deep.LoopGhost
import Derived.Deep.DeepCutAuto
import Derived.Deep.CutBlock
import Derived.Deep.RegionLaw
import Derived.BigRegion
namespace Go.Proofs.Ytipdeacaehbbfaa
open Go.RowKit
set_option linter.unusedSimpArgs false

def pairs (ks : List (Int × Int)) : List Value := ks.flatMap fun e => [.int .i64 e.1, .int .i64 e.2]

/-- The reference's net in block r: its list and its cuts, each in a row of its own. -/
structure RefAt (w : World) (B r : Nat) (A : Option Addr) (c : Nat) (L : List Pk) (D : Option Addr) (d : Nat) (ks : List (Int × Int)) : Prop where
  blk : Blk w r 30 #[.slice A L.length c, .slice D ks.length d]
  base : B ≤ r
  list : w.ownsRow B 48 3 (.slice A L.length c) L.length (flat L)
  cuts : w.ownsRow B 64 2 (.slice D ks.length d) ks.length (pairs ks)
def RFoot (r : Nat) (A D : Option Addr) : Nat → Prop := fun k => k = r ∨ blkOf A = some k ∨ blkOf D = some k

theorem rf_own_lower {w : World} {B B' n size : Nat} {E : TypeId} {v : Value} {xs : List Value} (h : w.ownsRow B E size v n xs) (hB : B' ≤ B) : w.ownsRow B' E size v n xs := by
  refine ⟨h.1, ?_⟩
  rcases h.2 with h0 | ⟨g, cap, cur, e, hb, r⟩
  · exact .inl h0
  · exact .inr ⟨g, cap, cur, e, Nat.le_trans hB hb, r⟩

section
variable {w w1 : World} {B r c c' d d' : Nat} {A A' D D' : Option Addr} {L L' : List Pk} {ks ks' : List (Int × Int)} {S : Nat → Prop}
theorem RefAt.k0 (h : RefAt w B r A c L D d ks) : w.cell? ⟨r, 0, none⟩ = some (.slice A L.length c) := h.blk.cell 0
theorem RefAt.k1 (h : RefAt w B r A c L D d ks) : w.cell? ⟨r, 1, none⟩ = some (.slice D ks.length d) := h.blk.cell 1
theorem RefAt.chg (h : RefAt w B r A c L D d ks) (hc : Chg S w w1) (hn : ∀ k, RFoot r A D k → ¬ S k) : RefAt w1 B r A c L D d ks :=
  ⟨h.blk.chg hc (hn r (.inl rfl)), h.base, own_chg h.list hc (fun k hk => hn k (.inr (.inl (by rw [ownBlock_slice] at hk; exact hk)))), own_chg h.cuts hc (fun k hk => hn k (.inr (.inr (by rw [ownBlock_slice] at hk; exact hk))))⟩
theorem RefAt.quiet (h : RefAt w B r A c L D d ks) (hc : Chg No w w1) : RefAt w1 B r A c L D d ks := h.chg hc (fun _ _ t => t)
theorem RefAt.lt (h : RefAt w B r A c L D d ks) : ∀ k, RFoot r A D k → k < w.heap.size := by
  rintro k (rfl | hk | hk)
  · exact h.blk.lt
  · exact (own_lt h.list hk).2
  · exact (own_lt h.cuts hk).2
theorem RefAt.ge (h : RefAt w B r A c L D d ks) : ∀ k, RFoot r A D k → B ≤ k := by
  rintro k (rfl | hk | hk)
  · exact h.base
  · exact (own_lt h.list hk).1
  · exact (own_lt h.cuts hk).1
theorem RefAt.neA (h : RefAt w B r A c L D d ks) : blkOf A ≠ some r := own_ne h.list h.blk (by decide)
theorem RefAt.neD (h : RefAt w B r A c L D d ks) : blkOf D ≠ some r := own_ne h.cuts h.blk (by decide)
/-- A list that is new is stored. -/
theorem RefAt.setL (h : RefAt w B r A c L D d ks) (hB : B ≤ w.heap.size) (hc : Chg No w w1) {n' : Nat} {xs : List Value} (ho : w1.ownsRow w.heap.size 48 3 (.slice A' n' c') n' xs) (hn : n' = L'.length) (hx : xs = flat L') :
    RefAt (w1.setCell ⟨r, 0, none⟩ (.slice A' n' c')) B r A' c' L' D d ks ∧ Went (RFoot r A D) (RFoot r A' D) w (w1.setCell ⟨r, 0, none⟩ (.slice A' n' c')) := by
  subst hn hx
  have hq := h.quiet hc
  have hs : Chg (fun k => k = r) w1 (w1.setCell ⟨r, 0, none⟩ (.slice A' L'.length c')) := (Chg.refl (fun k => k = r) w1).setCell (p := ⟨r, 0, none⟩) (fun _ => rfl) _
  have hb := hq.blk.store 0 (.slice A' L'.length c')
  have hne : blkOf A' ≠ some r := own_ne ho hq.blk (by decide)
  refine ⟨⟨hb, h.base, own_chg (rf_own_lower ho hB) hs (fun k hk e => by subst e; rw [ownBlock_slice] at hk; exact hne hk), own_chg hq.cuts hs (fun k hk e => by subst e; rw [ownBlock_slice] at hk; exact hq.neD hk)⟩, ?_, ?_⟩
  · exact (hc.mono (fun _ _ t => t.elim)).trans hs (fun i _ e => .inl e)
  · rintro k (rfl | hk | hk)
    · exact .inl (.inl rfl)
    · exact .inr (own_lt ho hk).1
    · exact .inl (.inr (.inr hk))
/-- Cuts that are new are stored. -/
theorem RefAt.setK (h : RefAt w B r A c L D d ks) (hB : B ≤ w.heap.size) (hc : Chg No w w1) {n' : Nat} {xs : List Value} (ho : w1.ownsRow w.heap.size 64 2 (.slice D' n' d') n' xs) (hn : n' = ks'.length) (hx : xs = pairs ks') :
    RefAt (w1.setCell ⟨r, 1, none⟩ (.slice D' n' d')) B r A c L D' d' ks' ∧ Went (RFoot r A D) (RFoot r A D') w (w1.setCell ⟨r, 1, none⟩ (.slice D' n' d')) := by
  subst hn hx
  have hq := h.quiet hc
  have hs : Chg (fun k => k = r) w1 (w1.setCell ⟨r, 1, none⟩ (.slice D' ks'.length d')) := (Chg.refl (fun k => k = r) w1).setCell (p := ⟨r, 1, none⟩) (fun _ => rfl) _
  have hb := hq.blk.store 1 (.slice D' ks'.length d')
  have hne : blkOf D' ≠ some r := own_ne ho hq.blk (by decide)
  refine ⟨⟨hb, h.base, own_chg hq.list hs (fun k hk e => by subst e; rw [ownBlock_slice] at hk; exact hq.neA hk), own_chg (rf_own_lower ho hB) hs (fun k hk e => by subst e; rw [ownBlock_slice] at hk; exact hne hk)⟩, ?_, ?_⟩
  · exact (hc.mono (fun _ _ t => t.elim)).trans hs (fun i _ e => .inl e)
  · rintro k (rfl | hk | hk)
    · exact .inl (.inl rfl)
    · exact .inl (.inr (.inl hk))
    · exact .inr (own_lt ho hk).1
end

theorem ref_ends (a b : Int) (w : World) : Calls Try.prog 34 #[.int .i64 a, .int .i64 b] w fun e w' => e = .returned (pairVal (endsOf a b)) ∧ Chg No w w' := by
  go_enter Try.func34, Try.ntmps34
  go_wp2
  exact bodyPost_ret (v := pairVal (endsOf a b)) (by simp [results, Try.results34, go_sem, endsOf]) rfl ⟨rfl, (Chg.refl No w).alloc _⟩

section
variable (w : World) (B r c d : Nat) (A D : Option Addr) (L : List Pk) (ks : List (Int × Int))

theorem ref_there (h : RefAt w B r A c L D d ks) (k : Int) :
    Calls Try.prog 28 #[.pointer (some ⟨r, 0, none⟩), .int .i64 k] w fun e w' => e = .returned (.bool (There k L.length)) ∧ w = w' := by
  have k0 := h.k0
  clear h
  rcases Int.lt_or_le k 0 with h0 | h0
  · have e : There k L.length = false := decide_eq_false (by omega)
    rw [e]
    clear e
    go_enter Try.func28, Try.ntmps28
    go_wp2_with fail
    go_ret
    exact ⟨rfl, rfl⟩
  · by_cases h1 : k < (L.length : Int)
    · have e : There k L.length = true := decide_eq_true ⟨h0, h1⟩
      rw [e]
      clear e
      go_enter Try.func28, Try.ntmps28
      go_wp2_with fail
      go_ret
      exact ⟨rfl, rfl⟩
    · have e : There k L.length = false := decide_eq_false (by omega)
      rw [e]
      clear e
      go_enter Try.func28, Try.ntmps28
      go_wp2_with fail
      go_ret
      exact ⟨rfl, rfl⟩
end
end Go.Proofs.Ytipdeacaehbbfaa
