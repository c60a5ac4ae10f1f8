/-
  NetOrders: what its net and its list hold, and the plain law: the packets' numbers go the way of the list's.
-/
import Derived.Test.YtipdeacaehbbfaaNetNil
namespace Go.Proofs.Ytipdeacaehbbfaa.netOrders
open Go.RowKit

abbrev nums (l : List Int) : List Value := l.map fun x => Value.int .i64 x
theorem nums_append (l l' : List Int) : nums (l ++ l') = nums l ++ nums l' := List.map_append
def pk (z : Int) : Pk := ⟨0, z, ⟨#[]⟩⟩
def rng (n : Nat) : List Int := (List.range n).map (fun i : Nat => (i : Int))
theorem rng_length (n : Nat) : (rng n).length = n := by simp [rng]
theorem rng_succ (n : Nat) : rng (n + 1) = rng n ++ [(n : Int)] := by simp [rng, List.range_succ]
theorem rng_get {n k : Nat} (h : k < n) : (rng n).getD k 0 = k := by simp [rng, h]

theorem own_lower {w : World} {B B' n size : Nat} {E : TypeId} {v : Value} {xs : List Value} (h : w.ownsRow B E size v n xs) (hB : B' ≤ B) : w.ownsRow B' E size v n xs := by
  refine ⟨h.1, ?_⟩
  rcases h.2 with h0 | ⟨g, cap, cur, e, hb, r⟩
  · exact .inl h0
  · exact .inr ⟨g, cap, cur, e, Nat.le_trans hB hb, r⟩

theorem there_in {k n : Nat} (h : k < n) : There (k : Int) n = true := by unfold There; exact decide_eq_true ⟨by omega, by omega⟩
theorem there_none : There 0 0 = false := rfl

theorem at_map (l : List Int) {k : Nat} (h : k < l.length) : at? (l.map pk) (k : Int) = pk (l.getD k 0) := by
  unfold at?
  rw [List.length_map, there_in h, if_pos rfl, Int.toNat_natCast]
  simp [h]

theorem dbl_map (l : List Int) {k : Nat} (h : k < l.length) (h9 : l.length < 900) : dblAt (l.map pk) (k : Int) = (l ++ [l.getD k 0]).map pk := by
  unfold dblAt
  rw [at_map l h, List.length_map, there_in h, decide_eq_true h9, Bool.and_self, if_pos rfl]
  simp

theorem less_map (l : List Int) {k : Nat} (h : k < l.length) : lessAt (l.map pk) (k : Int) = (l.take k ++ l.drop (k + 1)).map pk := by
  unfold lessAt
  rw [List.length_map, there_in h, if_pos rfl, Int.toNat_natCast, List.map_append, List.map_take, List.map_drop]

theorem swap_map (l : List Int) {a b : Nat} (ha : a < l.length) (hb : b < l.length) : swapAt (l.map pk) (a : Int) (b : Int) = ((l.set a (l.getD b 0)).set b (l.getD a 0)).map pk := by
  unfold swapAt
  rw [at_map l ha, at_map l hb, List.length_map, there_in ha, there_in hb, Bool.and_self, if_pos rfl, Int.toNat_natCast, Int.toNat_natCast, List.map_set, List.map_set]

theorem less_first (x : Int) (l : List Int) : lessAt ((x :: l).map pk) 0 = l.map pk := less_map (x :: l) (k := 0) (by simp)
theorem at_first (x : Int) (l : List Int) : at? ((x :: l).map pk) 0 = pk x := at_map (x :: l) (k := 0) (by simp)

theorem send_one (l : List Int) (z : Int) (h : l.length < 900) : sendAll [] (l.map pk) [pk z] = (l ++ [z]).map pk := by
  show sendOne [] (l.map pk) (pk z) = _
  unfold sendOne
  rw [if_neg (by simp), List.length_map, if_pos h]
  simp

/-- The net at the first new block, the list in a row of its own. -/
structure OSt (w : World) (F : Nat → Prop) (L : List Pk) (l : List Int) (I : Option Addr) (m c : Nat) (wr : World) : Prop where
  net : NetAt wr w.heap.size w.heap.size F L []
  own : wr.ownsRow w.heap.size 3 1 (.slice I m c) m (nums l)
  apart : ∀ j, blkOf I = some j → ¬ F j
  below : Below w.heap.size w wr

section
variable {w w1 w2 : World} {F F' : Nat → Prop} {L L' : List Pk} {l l' : List Int} {I I' : Option Addr} {m m' c c' : Nat}
theorem OSt.base (h : OSt w F L l I m c w1) : w.heap.size ≤ w1.heap.size := h.below.size
theorem OSt.turn (h : OSt w F L l I m c w1) (hn : NetAt w2 w.heap.size w.heap.size F' L' []) (hw : Went F F' w1 w2) : OSt w F' L' l I m c w2 :=
  ⟨hn, own_chg h.own hw.chg (fun j hj => h.apart j (by rw [ownBlock_slice] at hj; exact hj)), fun j hj t => by
    rcases hw.foot j t with e | e
    · exact h.apart j hj e
    · have := (own_lt h.own hj).2; omega, h.below.trans (hw.below h.net.ge h.base)⟩
theorem OSt.quiet (h : OSt w F L l I m c w1) (hc : Chg No w1 w2) : OSt w F L l I m c w2 :=
  ⟨h.net.chg hc (fun _ _ t => t), own_chg h.own hc (fun _ _ t => t), h.apart, h.below.trans (hc.below h.base (fun _ t => t.elim))⟩
theorem OSt.grew (h : OSt w F L l I m c w1) (hg : Grew w1 w.heap.size 3 1 I m' (nums l') I' c' w2) : OSt w F L l' I' m' c' w2 := by
  have hb : ∀ j, blkOf I = some j → w.heap.size ≤ j := fun j hj => (own_lt h.own hj).1
  refine ⟨h.net.chg hg.chg (fun k hk t => h.apart k t hk), hg.own, fun j hj t => ?_, h.below.trans (hg.chg.below h.base hb)⟩
  rcases hg.fresh j hj with e | e
  · exact h.apart j e t
  · have := h.net.lt j t; omega
theorem OSt.newI (h : OSt w F L l I m c w1) (hc : Chg No w1 w2) (ho : w2.ownsRow w1.heap.size 3 1 (.slice I' m' c') m' (nums l')) : OSt w F L l' I' m' c' w2 :=
  ⟨h.net.chg hc (fun _ _ t => t), own_lower ho h.base, fun j hj t => by have := (own_lt ho hj).1; have := h.net.lt j t; omega, h.below.trans (hc.below h.base (fun _ t => t.elim))⟩
theorem OSt.put {g : Nat} (h : OSt w F L l (some ⟨g, 0, none⟩) m c w1) (k : Nat) (z : Int) : OSt w F L (l.set k z) (some ⟨g, 0, none⟩) m c (w1.setCell ⟨g, k, none⟩ (.int .i64 z)) := by
  have hc : Chg (fun j => j = g) w1 (w1.setCell ⟨g, k, none⟩ (.int .i64 z)) := (Chg.refl (fun j => j = g) w1).setCell (p := ⟨g, k, none⟩) (fun _ => rfl) _
  have hg := own_lt h.own (k := g) rfl
  have ho := (h.own.stored k (.int .i64 z)).1
  rw [← List.map_set] at ho
  exact ⟨h.net.chg hc (fun j hj e => h.apart g rfl (by have e' : j = g := e; rwa [e'] at hj)), ho, h.apart, h.below.trans (hc.below h.base (fun j e => by have e' : j = g := e; omega))⟩
theorem OSt.spot (h : OSt w F L l I m c w1) (hm : 0 < m) : ∃ g, I = some ⟨g, 0, none⟩ ∧ (∀ k, k < m → w1.cell? ⟨g, k, none⟩ = some (.int .i64 (l.getD k 0)) ∧ w1.frozen? ⟨g, k, none⟩ = false) := by
  obtain ⟨g, rfl, h1, h2⟩ := own_addr h.own hm
  refine ⟨g, rfl, fun k hk => ?_⟩
  have hl : l.length = m := by have := h.own.1; simpa using this
  obtain ⟨cur, hb⟩ := own_blk h.own (k := g) rfl
  refine ⟨?_, hb.frozen k⟩
  have := own_cells h.own rfl k (.int .i64 (l.getD k 0)) (by rw [List.getElem?_map, List.getElem?_eq_getElem (by omega)]; simp [show k < l.length by omega])
  rwa [add_flat, Nat.zero_add] at this
end

section
variable (w : World) (B q : Nat) (F : Nat → Prop) (l : List Int)
theorem ord_double (h : NetAt w B q F (l.map pk) []) (hB : B ≤ w.heap.size) {k : Nat} (hk : k < l.length) (h9 : l.length < 900) :
    Calls Try.prog 19 #[.pointer (some ⟨q, 0, none⟩), .int .i64 (k : Int)] w fun e w' => e = .returned (.bool true) ∧ ∃ F', NetAt w' B q F' ((l ++ [l.getD k 0]).map pk) [] ∧ Went F F' w w' := by
  have H := net_double w B q F (l.map pk) [] h hB (k : Int)
  rwa [dbl_map l hk h9, List.length_map, there_in hk, decide_eq_true h9] at H
theorem ord_drop (h : NetAt w B q F (l.map pk) []) (hB : B ≤ w.heap.size) {k : Nat} (hk : k < l.length) :
    Calls Try.prog 18 #[.pointer (some ⟨q, 0, none⟩), .int .i64 (k : Int)] w fun e w' => e = .returned (.bool true) ∧ ∃ F', NetAt w' B q F' ((l.take k ++ l.drop (k + 1)).map pk) [] ∧ Went F F' w w' := by
  have H := net_drop w B q F (l.map pk) [] h hB (k : Int)
  rwa [less_map l hk, List.length_map, there_in hk] at H
theorem ord_swap (h : NetAt w B q F (l.map pk) []) (hB : B ≤ w.heap.size) {a b : Nat} (ha : a < l.length) (hb : b < l.length) :
    Calls Try.prog 21 #[.pointer (some ⟨q, 0, none⟩), .int .i64 (a : Int), .int .i64 (b : Int)] w fun e w' => e = .returned (.bool true) ∧ ∃ F', NetAt w' B q F' (((l.set a (l.getD b 0)).set b (l.getD a 0)).map pk) [] ∧ Went F F' w w' := by
  have H := net_swap w B q F (l.map pk) [] h hB (a : Int) (b : Int)
  rwa [swap_map l ha hb, List.length_map, there_in ha, there_in hb] at H
theorem ord_take (x : Int) (h : NetAt w B q F ((x :: l).map pk) []) (hB : B ≤ w.heap.size) :
    Calls Try.prog 15 #[.pointer (some ⟨q, 0, none⟩), .int .i64 0] w fun e w' => e = .returned (.tuple #[.agg #[.int .i64 0, .int .i64 x, .string ⟨#[]⟩], .bool true]) ∧ ∃ F', NetAt w' B q F' (l.map pk) [] ∧ Went F F' w w' := by
  have H := net_take w B q F ((x :: l).map pk) [] h hB 0
  rw [less_first, at_first, List.length_map, show There 0 (x :: l).length = true from there_in (k := 0) (by simp)] at H
  exact H
theorem end_double (h : NetAt w B q F [] []) (hB : B ≤ w.heap.size) :
    Calls Try.prog 19 #[.pointer (some ⟨q, 0, none⟩), .int .i64 0] w fun e w' => e = .returned (.bool false) ∧ ∃ F', NetAt w' B q F' [] [] ∧ Went F F' w w' := net_double w B q F [] [] h hB 0
theorem end_drop (h : NetAt w B q F [] []) (hB : B ≤ w.heap.size) :
    Calls Try.prog 18 #[.pointer (some ⟨q, 0, none⟩), .int .i64 0] w fun e w' => e = .returned (.bool false) ∧ ∃ F', NetAt w' B q F' [] [] ∧ Went F F' w w' := net_drop w B q F [] [] h hB 0
theorem end_swap (h : NetAt w B q F [] []) (hB : B ≤ w.heap.size) :
    Calls Try.prog 21 #[.pointer (some ⟨q, 0, none⟩), .int .i64 0, .int .i64 0] w fun e w' => e = .returned (.bool false) ∧ ∃ F', NetAt w' B q F' [] [] ∧ Went F F' w w' := net_swap w B q F [] [] h hB 0 0
theorem end_len (h : NetAt w B q F [] []) (hB : B ≤ w.heap.size) :
    Calls Try.prog 27 #[.pointer (some ⟨q, 0, none⟩)] w fun e w' => e = .returned (.int .i64 0) ∧ ∃ F', NetAt w' B q F' [] [] ∧ Went F F' w w' := net_len w B q F [] [] h hB
end
end Go.Proofs.Ytipdeacaehbbfaa.netOrders
