/-
  The calls of package ring's queue of packets (three cells an element), one contract a method: what it returns, what the ring holds behind it, and that all else in memory is as it was.
-/
import Derived.Test.YtipdeacaehbbfaaProg
import Derived.Test.YtipdeacaehbbfaaRoom
import Derived.WalkLawsBesides
import Derived.Deep.QuietTactic
import Derived.BigQuiet
import Derived.BigRegion
namespace Go.Proofs.Ytipdeacaehbbfaa
open Go.RowKit

/-- A packet. -/
structure Pk where
  fr : Int
  to : Int
  data : ByteArray

abbrev Pk.cells (p : Pk) : List Value := [.int .i64 p.fr, .int .i64 p.to, .string p.data]
abbrev Pk.val (p : Pk) : Value := .agg #[.int .i64 p.fr, .int .i64 p.to, .string p.data]
def Pk.zero : Pk := ⟨0, 0, ⟨#[]⟩⟩
def flat (l : List Pk) : List Value := l.flatMap Pk.cells

theorem flat_length (l : List Pk) : (flat l).length = l.length * 3 := by
  induction l with
  | nil => rfl
  | cons p l ih => unfold flat at ih ⊢; rw [List.flatMap_cons, List.length_append, ih]; simp; omega
theorem flat_append (l l' : List Pk) : flat (l ++ l') = flat l ++ flat l' := by unfold flat; exact List.flatMap_append
theorem flat_cons (p : Pk) (l : List Pk) : flat (p :: l) = p.cells ++ flat l := by unfold flat; exact List.flatMap_cons
theorem flat_one (p : Pk) : flat [p] = p.cells := by simp [flat]
theorem flat_take (l : List Pk) (k : Nat) : (flat l).take (k * 3) = flat (l.take k) := by
  induction l generalizing k with
  | nil => simp [flat]
  | cons p l ih =>
    cases k with
    | zero => simp [flat]
    | succ k =>
      rw [List.take_succ_cons, flat_cons, flat_cons, ← ih k, show (k + 1) * 3 = 3 + k * 3 by omega]
      rw [List.take_append, List.take_of_length_le (by simp)]
      simp
theorem flat_drop (l : List Pk) (k : Nat) : (flat l).drop (k * 3) = flat (l.drop k) := by
  induction l generalizing k with
  | nil => simp [flat]
  | cons p l ih =>
    cases k with
    | zero => simp
    | succ k =>
      rw [List.drop_succ_cons, flat_cons, ← ih k, show (k + 1) * 3 = 3 + k * 3 by omega]
      rw [List.drop_append, List.drop_eq_nil_of_le (by simp)]
      simp
theorem flat_get {l : List Pk} {k : Nat} {p : Pk} (h : l[k]? = some p) : (flat l)[k * 3]? = some (.int .i64 p.fr) ∧ (flat l)[k * 3 + 1]? = some (.int .i64 p.to) ∧ (flat l)[k * 3 + 2]? = some (.string p.data) := by
  have hd : l.drop k = p :: l.drop (k + 1) := by
    obtain ⟨hk, rfl⟩ := List.getElem?_eq_some_iff.1 h
    exact List.drop_eq_getElem_cons hk
  have e : ∀ j, (flat l)[k * 3 + j]? = (p.cells ++ flat (l.drop (k + 1)))[j]? := by
    intro j
    rw [← List.getElem?_drop, flat_drop, hd, flat_cons]
  refine ⟨?_, ?_, ?_⟩
  · have := e 0; simpa using this
  · have := e 1; simpa using this
  · have := e 2; simpa using this
theorem flat_one_cell (l : List Pk) : ∀ u ∈ flat l, u.oneCell' = true := by
  intro u hu
  unfold flat at hu
  rw [List.mem_flatMap] at hu
  obtain ⟨p, _, hp⟩ := hu
  simp at hp
  rcases hp with rfl | rfl | rfl <;> rfl
theorem flat_set (l : List Pk) (k : Nat) (p : Pk) (hk : k < l.length) : flat (l.set k p) = (((flat l).set (k * 3) (.int .i64 p.fr)).set (k * 3 + 1) (.int .i64 p.to)).set (k * 3 + 2) (.string p.data) := by
  induction l generalizing k with
  | nil => simp at hk
  | cons q l ih =>
    cases k with
    | zero => simp [flat_cons]
    | succ k =>
      have := ih k (by simpa using hk)
      rw [List.set_cons_succ, flat_cons, this, flat_cons, show (k + 1) * 3 = k * 3 + 3 by omega]
      simp [show k * 3 + 3 + 1 = (k * 3 + 1) + 3 by omega, show k * 3 + 3 + 2 = (k * 3 + 2) + 3 by omega]

abbrev pkAt (w : World) (B p : Nat) (A : Option Addr) (c : Nat) (L : List Pk) (most : Nat) : Prop := RingAt 71 45 3 w B p A L.length c (flat L) most
abbrev PkPost (w : World) (B p : Nat) (A : Option Addr) (v : Value) (L : List Pk) (most : Nat) (e : Ending) (w' : World) : Prop := RingPost 71 45 3 w B p A v L.length (flat L) most e w'

theorem Try.info45 : (Try.prog.info? 45).map (fun i => (i.zero, i.size, i.bytes)) = some (some (.agg #[.int .i64 0, .int .i64 0, .string ⟨#[]⟩]), 3, 32) := by kernel_rfl

/-- One cell of the ring's row is written: the ring stays where it is. -/
theorem cell_put {w : World} {B p n c g : Nat} {xs : List Value} {most : Nat} (h : RingAt 71 45 3 w B p (some ⟨g, 0, none⟩) n c xs most) (k : Nat) (u : Value) :
    RingAt 71 45 3 (w.setCell ⟨g, k, none⟩ u) B p (some ⟨g, 0, none⟩) n c (xs.set k u) most ∧ Chg (Foot p (some ⟨g, 0, none⟩)) w (w.setCell ⟨g, k, none⟩ u) := by
  have hne : p ≠ g := fun e => own_ne h.own h.blk (by decide) (by simp [blkOf, e])
  exact ⟨⟨h.blk.far (p := ⟨g, k, none⟩) hne u, (h.own.stored k u).1, h.base, h.fits, h.most⟩, (Chg.refl _ w).setCell (p := ⟨g, k, none⟩) (fun _ => .inr rfl) u⟩

section
variable (w : World) (B p c : Nat) (A : Option Addr) (L : List Pk) (most : Nat)

theorem pk_len (h : pkAt w B p A c L most) :
    Calls Try.prog 40 #[.pointer (some ⟨p, 0, none⟩)] w fun e w' => e = .returned (.int .i64 L.length) ∧ w = w' := by
  have h0 := h.c0
  go_enter Try.func40, Try.ntmps40
  go_wp2
  go_ret
  exact ⟨rfl, rfl⟩

theorem pk_room (h : pkAt w B p A c L most) :
    Calls Try.prog 43 #[.pointer (some ⟨p, 0, none⟩)] w fun e w' => e = .returned (.int .i64 ((most : Int) - L.length)) ∧ ∃ k, w.drewN k = w' := by
  have h0 := h.c0
  have h1 := h.c1
  have h2 := h.fits
  have h3 := h.most
  go_enter Try.func43, Try.ntmps43
  go_wp2_with fail
  go_quiet (fail)
  go_wp2
  go_ret
  exact ⟨rfl, _, rfl⟩

/-- As many are pushed as have room. -/
theorem pk_push (h : pkAt w B p A c L most) (X : Option Addr) (d : Nat) (ys : List Pk) (hy : Sees w w.heap.size 3 X ys.length (flat ys)) (hmd : ys.length ≤ d) (hB : B ≤ w.heap.size) (hm1 : most ≤ 1000) (hy1 : ys.length ≤ 100000)
    (k : Nat) (hk : k = min ys.length (most - L.length)) :
    Calls Try.prog 33 #[.pointer (some ⟨p, 0, none⟩), .slice X ys.length d] w (PkPost w B p A (.int .i64 (k : Int)) (L ++ ys.take k) most) := by
  obtain ⟨i0, hi, hz0, hz1, hz2⟩ := info_parts Try.info45
  have h0 := h.c0
  have h2 := h.fits
  rcases Nat.eq_zero_or_pos k with rfl | hp
  · rw [List.take_zero, List.append_nil]
    obtain ⟨m, hm⟩ : ∃ m, m = ys.length := ⟨_, rfl⟩
    rw [← hm] at hk hy1 hmd ⊢
    clear hy hm
    rcases Nat.eq_zero_or_pos m with rfl | hm0
    · have h4 : (0 : Int) ≤ (most : Int) - L.length := by omega
      clear hk
      go_enter Try.func33, Try.ntmps33
      go_wp2_with (go_at_call 43; refine (pk_room _ B p c A L most h).mono ?_; rintro e w' ⟨rfl, q, rfl⟩)
      all_goals go_ret
      all_goals exact ⟨rfl, h.still q⟩
    · have h4 : (most : Int) - L.length = 0 := by omega
      have H4 := hide h4
      clear hk h4
      go_enter Try.func33, Try.ntmps33
      go_wp2_with (go_at_call 43; refine (pk_room _ B p c A L most h).mono ?_; rintro e w' ⟨rfl, q, rfl⟩; rw [H4.out])
      all_goals go_ret
      all_goals exact ⟨rfl, h.still q⟩
  · have hyt := hy.take (k := k) (by omega)
    rw [flat_take] at hyt
    have hkd : (k : Int) ≤ d := by omega
    have hkm : (0 : Int) < k := by omega
    have hln : L.length + k = (L ++ ys.take k).length := by simp; omega
    have Hln := hide hln
    have Hkk := hide hk
    have hkn : L.length + k ≤ most := by omega
    rcases Nat.lt_or_ge (most - L.length) ys.length with hlt | hge
    · have h4 : (most : Int) - L.length < ys.length := by omega
      have h6 : (most : Int) - L.length = k := by omega
      have H6 := hide h6
      clear hk hln h6
      rw [H6.out] at h4
      go_enter Try.func33, Try.ntmps33
      go_wp2_with (go_at_call 43; refine (pk_room _ B p c A L most h).mono ?_; rintro e w' ⟨rfl, q, rfl⟩; rw [H6.out])
      go_region_law (refine step_append_sees _ rfl (.tmp 17) (.tmp 20) 35 rfl B 45 i0 (.agg #[.int .i64 0, .int .i64 0, .string ⟨#[]⟩]) 3 32 Try.underlying35 hi hz0 hz1 hz2 rfl (by decide) A L.length c (flat L) rfl (own_drewN h.own _) w.heap.size X k d (flat (ys.take k)) rfl (hyt.drewN _) (flat_one_cell _) (by unfold maxLen; omega) (by omega) hB ?_; intro A' c' w' hg; have hb := (h.drewN _).behind hg (fun _ e => e) (by decide); have k0 := hb.cell 0; have k1 := hb.frozen 0; simp at k0; clear hb)
      go_wp2
      go_ret
      refine ⟨rfl, ?_⟩
      rw [← flat_append, Hln.out] at hg
      rw [Hln.out] at hkn ⊢
      exact ((h.drewN _).put hg (fun _ e => e) (by decide) hkn).of_drewN
    · have h4 : ¬ ((most : Int) - L.length < ys.length) := by omega
      have h6 : ys.length = k := by omega
      have h7 : (k : Int) ≤ (most : Int) - L.length := by omega
      obtain ⟨m, hm⟩ : ∃ m, m = ys.length := ⟨_, rfl⟩
      rw [← hm] at h4 h6 hmd ⊢
      subst h6
      clear hk hln hm h4
      go_enter Try.func33, Try.ntmps33
      go_wp2_with (go_at_call 43; refine (pk_room _ B p c A L most h).mono ?_; rintro e w' ⟨rfl, q, rfl⟩)
      go_region_law (refine step_append_sees _ rfl (.tmp 17) (.tmp 20) 35 rfl B 45 i0 (.agg #[.int .i64 0, .int .i64 0, .string ⟨#[]⟩]) 3 32 Try.underlying35 hi hz0 hz1 hz2 rfl (by decide) A L.length c (flat L) rfl (own_drewN h.own _) w.heap.size X m d (flat (ys.take m)) rfl (hyt.drewN _) (flat_one_cell _) (by unfold maxLen; omega) (by omega) hB ?_; intro A' c' w' hg; have hb := (h.drewN _).behind hg (fun _ e => e) (by decide); have k0 := hb.cell 0; have k1 := hb.frozen 0; simp at k0; clear hb)
      go_wp2
      go_ret
      refine ⟨rfl, ?_⟩
      rw [← flat_append, Hln.out] at hg
      rw [Hln.out] at hkn ⊢
      exact ((h.drewN _).put hg (fun _ e => e) (by decide) hkn).of_drewN

theorem pk_peek_in (h : pkAt w B p A c L most) (k : Nat) (pk : Pk) (hk : L[k]? = some pk) (hn : L.length ≤ 100000) :
    Calls Try.prog 39 #[.pointer (some ⟨p, 0, none⟩), .int .i64 (k : Int)] w fun e w' => e = .returned (.tuple #[pk.val, .bool true]) ∧ Chg No w w' := by
  have hkl : k < L.length := (List.getElem?_eq_some_iff.1 hk).1
  obtain ⟨g, rfl, _, hgl⟩ := own_addr h.own (by omega)
  obtain ⟨e0, e1, e2⟩ := flat_get hk
  have d0 := own_cells h.own rfl (k * 3) _ e0
  have d1 := own_cells h.own rfl (k * 3 + 1) _ e1
  have d2 := own_cells h.own rfl (k * 3 + 2) _ e2
  rw [add_flat, Nat.zero_add] at d0 d1 d2
  have h' := h.alloc (.cells #[.int .i64 0, .int .i64 0, .string ⟨#[]⟩] 45)
  have h0 := h'.c0
  have hca := (Chg.refl No w).alloc (.cells #[.int .i64 0, .int .i64 0, .string ⟨#[]⟩] 45)
  have f0 := (hca.cell (p := ⟨g, k * 3, none⟩) hgl (fun t => t)).trans d0
  have f1 := (hca.cell (p := ⟨g, k * 3 + 1, none⟩) hgl (fun t => t)).trans d1
  have f2 := (hca.cell (p := ⟨g, k * 3 + 2, none⟩) hgl (fun t => t)).trans d2
  have hk' : (k : Int) < L.length := by omega
  clear e0 e1 e2 hk d0 d1 d2
  go_enter Try.func39, Try.ntmps39
  go_wp2_with (go_at_call 40; refine (pk_len _ B p c _ L most h').mono ?_; rintro e w' ⟨rfl, rfl⟩)
  exact bodyPost_ret (v := .tuple #[pk.val, .bool true]) (by simp [results, Try.results39, go_sem]) rfl ⟨rfl, (Chg.refl No w).alloc _⟩

theorem pk_peek_out (h : pkAt w B p A c L most) (k : Int) (hk : k < 0 ∨ (L.length : Int) ≤ k) :
    Calls Try.prog 39 #[.pointer (some ⟨p, 0, none⟩), .int .i64 k] w fun e w' => e = .returned (.tuple #[Pk.zero.val, .bool false]) ∧ Chg No w w' := by
  have h' := h.alloc (.cells #[.int .i64 0, .int .i64 0, .string ⟨#[]⟩] 45)
  rcases (show k < 0 ∨ (0 ≤ k ∧ (L.length : Int) ≤ k) by omega) with hk | ⟨hk0, hk⟩
  all_goals
    go_enter Try.func39, Try.ntmps39
    go_wp2_with (go_at_call 40; refine (pk_len _ B p c A L most h').mono ?_; rintro e w' ⟨rfl, rfl⟩)
    exact bodyPost_ret (v := .tuple #[Pk.zero.val, .bool false]) (by simp [results, Try.results39, go_sem, Pk.zero]) rfl ⟨rfl, ((Chg.refl No w).alloc _).alloc _⟩

/-- Is there such a place? -/
def There (k : Int) (n : Nat) : Bool := decide (0 ≤ k ∧ k < n)
def at? (L : List Pk) (k : Int) : Pk := if There k L.length = true then L.getD k.toNat Pk.zero else Pk.zero
theorem pk_peek (h : pkAt w B p A c L most) (k : Int) (hn : L.length ≤ 100000) :
    Calls Try.prog 39 #[.pointer (some ⟨p, 0, none⟩), .int .i64 k] w fun e w' => e = .returned (.tuple #[(at? L k).val, .bool (There k L.length)]) ∧ Chg No w w' := by
  by_cases hk : 0 ≤ k ∧ k < L.length
  · have e : There k L.length = true := decide_eq_true hk
    obtain ⟨m, rfl⟩ : ∃ m : Nat, k = m := ⟨k.toNat, by omega⟩
    have hm : L[m]? = some (at? L m) := by
      unfold at?
      rw [if_pos e, Int.toNat_natCast, List.getD_eq_getElem?_getD, List.getElem?_eq_getElem (by omega)]
      rfl
    rw [e]
    exact pk_peek_in w B p c A L most h m _ hm hn
  · have e : There k L.length = false := decide_eq_false hk
    have hz : at? L k = Pk.zero := by unfold at?; rw [if_neg (by rw [e]; decide)]
    rw [e, hz]
    exact pk_peek_out w B p c A L most h k (by omega)

theorem pk_set_in (h : pkAt w B p A c L most) (k : Nat) (hk : k < L.length) (pk : Pk) :
    Calls Try.prog 37 #[.pointer (some ⟨p, 0, none⟩), .int .i64 (k : Int), pk.val] w (PkPost w B p A (.bool true) (L.set k pk) most) := by
  obtain ⟨g, hA, hgB, hgl⟩ := own_addr h.own (by omega)
  subst hA
  obtain ⟨w1, hw1⟩ : ∃ w1, w1 = w.alloc (.cells #[.int .i64 pk.fr, .int .i64 pk.to, .string pk.data] 45) := ⟨_, rfl⟩
  have h' : pkAt w1 B p (some ⟨g, 0, none⟩) c L most := by rw [hw1]; exact h.alloc _
  have hb : Blk w1 w.heap.size 45 #[.int .i64 pk.fr, .int .i64 pk.to, .string pk.data] := by rw [hw1]; exact Blk.new _ _ _
  have hc1 : Chg No w w1 := by rw [hw1]; exact (Chg.refl No w).alloc _
  have hl := h.len
  have hcell : ∀ j, j < 3 → ∃ u, w1.cell? ⟨g, k * 3 + j, none⟩ = some u := by
    intro j hj
    have := own_cells h'.own rfl (k * 3 + j) _ (List.getElem?_eq_getElem (by omega))
    rw [add_flat] at this
    exact ⟨_, by simpa using this⟩
  obtain ⟨u0, c0⟩ := hcell 0 (by omega)
  obtain ⟨u1, c1⟩ := hcell 1 (by omega)
  obtain ⟨u2, c2⟩ := hcell 2 (by omega)
  rw [Nat.add_zero] at c0
  have z0 : w1.frozen? ⟨g, k * 3, none⟩ = false := h'.own.frozenAt (k * 3)
  have z1 : w1.frozen? ⟨g, k * 3 + 1, none⟩ = false := h'.own.frozenAt (k * 3 + 1)
  have z2 : w1.frozen? ⟨g, k * 3 + 2, none⟩ = false := h'.own.frozenAt (k * 3 + 2)
  have e0 : w1.cell? ⟨w.heap.size, 0, none⟩ = some (.int .i64 pk.fr) := hb.cell 0
  have e1 : w1.cell? ⟨w.heap.size, 1, none⟩ = some (.int .i64 pk.to) := hb.cell 1
  have e2 : w1.cell? ⟨w.heap.size, 2, none⟩ = some (.string pk.data) := hb.cell 2
  have h0 := h'.c0
  have hk' : (k : Int) < L.length := by omega
  have Hw1 := hide hw1
  clear hcell hl hw1
  go_enter Try.func37, Try.ntmps37
  go_wp2_with fail
  rw [← Hw1.out]
  refine (pk_len _ B p c _ L most h').mono ?_
  rintro e w' ⟨rfl, rfl⟩
  go_wp2_with fail
  go_region
  go_wp2_with fail
  go_ret
  refine ⟨rfl, ?_⟩
  rw [List.length_set, flat_set L k pk hk]
  obtain ⟨r1, q1⟩ := cell_put h' (k * 3) (.int .i64 pk.fr)
  obtain ⟨r2, q2⟩ := cell_put r1 (k * 3 + 1) (.int .i64 pk.to)
  obtain ⟨r3, q3⟩ := cell_put r2 (k * 3 + 2) (.string pk.data)
  exact ⟨_, c, r3.chg ((Chg.refl No _).drew) (fun _ _ t => t), (hc1.no (((q1.trans q2 (fun _ _ t => t)).trans q3 (fun _ _ t => t)).drew)), Fresh.refl _ _⟩

theorem pk_set_out (h : pkAt w B p A c L most) (k : Int) (hk : k < 0 ∨ (L.length : Int) ≤ k) (pk : Pk) :
    Calls Try.prog 37 #[.pointer (some ⟨p, 0, none⟩), .int .i64 k, pk.val] w fun e w' => e = .returned (.bool false) ∧ Chg No w w' := by
  have h' := h.alloc (.cells #[.int .i64 pk.fr, .int .i64 pk.to, .string pk.data] 45)
  rcases (show k < 0 ∨ (0 ≤ k ∧ (L.length : Int) ≤ k) by omega) with hk | ⟨hk0, hk⟩
  all_goals
    go_enter Try.func37, Try.ntmps37
    go_wp2_with (go_at_call 40; refine (pk_len _ B p c A L most h').mono ?_; rintro e w' ⟨rfl, rfl⟩)
    go_ret
    exact ⟨rfl, (Chg.refl No w).alloc _⟩

/-- What Drop leaves: the list's tail, in a row of its own. -/
theorem pk_drop (h : pkAt w B p A c L most) (m : Nat) (hm : m ≤ L.length) (hB : B ≤ w.heap.size) (hm1 : most ≤ 1000) :
    Calls Try.prog 45 #[.pointer (some ⟨p, 0, none⟩), .int .i64 (m : Int)] w (PkPost w B p A (.int .i64 (m : Int)) (L.drop m) most) := by
  obtain ⟨i0, hi, hz0, hz1, hz2⟩ := info_parts Try.info45
  have h0 := h.c0
  have h2 := h.fits
  rcases Nat.eq_zero_or_pos m with rfl | hk
  · have hn0 : (0 : Int) ≤ L.length := by omega
    go_enter Try.func45, Try.ntmps45
    go_wp2_with (go_at_call 40; refine (pk_len _ B p c A L most h).mono ?_; rintro e w' ⟨rfl, rfl⟩)
    all_goals go_ret
    all_goals exact ⟨rfl, h.still 0⟩
  · have hcap := own_cap h.own
    have hsl := run_tail (P := Try.prog) 35 45 3 Try.underlying35 i0 hi hz1 A L.length c m hm
    have hs := (Sees.of_own h.own).tail hm hcap
    obtain ⟨ml, hml⟩ : ∃ ml, ml = L.length - m := ⟨_, rfl⟩
    have hld : ml = (L.drop m).length := by simp; exact hml
    rw [flat_drop, ← hml] at hs
    rw [← hml] at hsl
    have hs2 : (m : Int) ≤ L.length := by omega
    have hd2 : ml ≤ most := by omega
    have Hld := hide hld
    clear hld hml
    go_enter Try.func45, Try.ntmps45
    go_wp2_with (first | (go_at_call 40; refine (pk_len _ B p c A L most h).mono ?_; rintro e w' ⟨rfl, rfl⟩) | (at_builtin; refine wpList_append_sees _ rfl (.const (.slice none 0 0)) (.tmp 18) 35 rfl B 45 i0 (.agg #[.int .i64 0, .int .i64 0, .string ⟨#[]⟩]) 3 32 Try.underlying35 hi hz0 hz1 hz2 rfl (by decide) none 0 0 [] rfl (World.ownsRow_nil _ _ _ _) w.heap.size _ ml _ (flat (L.drop m)) rfl hs (flat_one_cell _) (by unfold maxLen; omega) (by omega) hB ?_; intro A' c' w' hg; have hb := h.behind hg (by simp [blkOf]) (by decide); have k0 := hb.cell 0; have k1 := hb.frozen 0; simp at k0; clear hb; rw [Nat.zero_add, List.nil_append] at hg))
    go_ret
    rw [Hld.out] at hg hd2 ⊢
    exact ⟨rfl, h.put hg (by simp [blkOf]) (by decide) hd2⟩

theorem pk_clear (h : pkAt w B p A c L most) (hB : B ≤ w.heap.size) (hm1 : most ≤ 1000) :
    Calls Try.prog 38 #[.pointer (some ⟨p, 0, none⟩)] w (PkPost w B p A (.int .i64 (L.length : Int)) [] most) := by
  have hd := pk_drop w B p c A L most h L.length (Nat.le_refl _) hB hm1
  rw [List.drop_eq_nil_of_le (Nat.le_refl _)] at hd
  have Hd := hide hd
  clear hd
  go_enter Try.func38, Try.ntmps38
  go_wp2_with (first | (go_at_call 40; refine (pk_len _ B p c A L most h).mono ?_; rintro e w' ⟨rfl, rfl⟩) | (go_at_call 45; refine Hd.out.mono ?_; rintro e w' ⟨rfl, hmv⟩))
  go_ret
  exact ⟨rfl, hmv⟩

theorem pk_list (h : pkAt w B p A c L most) (hm1 : most ≤ 1000) :
    Calls Try.prog 44 #[.pointer (some ⟨p, 0, none⟩)] w (ListPost 45 3 w L.length (flat L)) := by
  obtain ⟨i0, hi, hz0, hz1, hz2⟩ := info_parts Try.info45
  have h0 := h.c0
  have h2 := h.fits
  go_enter Try.func44, Try.ntmps44
  go_wp2_with (at_builtin; refine wpList_append_sees _ rfl _ _ 35 rfl w.heap.size 45 i0 (.agg #[.int .i64 0, .int .i64 0, .string ⟨#[]⟩]) 3 32 Try.underlying35 hi hz0 hz1 hz2 rfl (by decide) none 0 0 [] rfl (World.ownsRow_nil _ _ _ _) w.heap.size A L.length c (flat L) rfl (Sees.of_own h.own) (flat_one_cell _) (by unfold maxLen; omega) (by omega) (Nat.le_refl _) ?_; intro A' c' w' hg; rw [Nat.zero_add, List.nil_append] at hg)
  go_ret
  exact ⟨A', c', rfl, hg.own, hg.chg.mono (by simp [blkOf])⟩
end

theorem pk_new (k : Int) (w : World) : Calls Try.prog 41 #[.int .i64 k] w (NewPost 71 45 3 w (roomOf k)) := by
  go_enter Try.func41, Try.ntmps41
  go_wp2_with (go_at_call 46; refine (room_fn _ _).mono ?_; rintro e w' ⟨rfl, rfl⟩)
  go_ret
  exact ⟨rfl, RingAt.made _ _ _ _ _ _ (Nat.le_refl _) (by unfold roomOf; omega), (Chg.refl _ _).alloc _, by simp⟩

/-! ### A nil ring -/
theorem pk_nil_len (w : World) : Calls Try.prog 40 #[.pointer none] w fun e w' => e = .returned (.int .i64 0) ∧ w = w' := by
  go_enter Try.func40, Try.ntmps40
  go_wp2
  all_goals go_ret
  all_goals exact ⟨rfl, rfl⟩
theorem pk_nil_peek (k : Int) (w : World) : Calls Try.prog 39 #[.pointer none, .int .i64 k] w fun e w' => e = .returned (.tuple #[Pk.zero.val, .bool false]) ∧ Chg No w w' := by
  rcases Int.lt_or_le k 0 with h | h
  all_goals
    go_enter Try.func39, Try.ntmps39
    go_wp2_with (go_at_call 40; refine (pk_nil_len _).mono ?_; rintro e w' ⟨rfl, rfl⟩)
    exact bodyPost_ret (v := .tuple #[Pk.zero.val, .bool false]) (by simp [results, Try.results39, go_sem, Pk.zero]) rfl ⟨rfl, ((Chg.refl No w).alloc _).alloc _⟩
theorem pk_nil_drop (k : Int) (w : World) : Calls Try.prog 45 #[.pointer none, .int .i64 k] w fun e w' => e = .returned (.int .i64 0) ∧ w = w' := by
  rcases Int.lt_or_le k 0 with h | h
  · go_enter Try.func45, Try.ntmps45
    go_wp2_with (go_at_call 40; refine (pk_nil_len _).mono ?_; rintro e w' ⟨rfl, rfl⟩)
    all_goals go_ret
    all_goals exact ⟨rfl, rfl⟩
  · rcases Int.lt_or_le 0 k with h' | h'
    · go_enter Try.func45, Try.ntmps45
      go_wp2_with (go_at_call 40; refine (pk_nil_len _).mono ?_; rintro e w' ⟨rfl, rfl⟩)
      all_goals go_ret
      all_goals exact ⟨rfl, rfl⟩
    · obtain rfl : k = 0 := by omega
      go_enter Try.func45, Try.ntmps45
      go_wp2_with (go_at_call 40; refine (pk_nil_len _).mono ?_; rintro e w' ⟨rfl, rfl⟩)
      all_goals go_ret
      all_goals exact ⟨rfl, rfl⟩
theorem pk_nil_clear (w : World) : Calls Try.prog 38 #[.pointer none] w fun e w' => e = .returned (.int .i64 0) ∧ w = w' := by
  go_enter Try.func38, Try.ntmps38
  go_wp2_with (first | (go_at_call 40; refine (pk_nil_len _).mono ?_; rintro e w' ⟨rfl, rfl⟩) | (go_at_call 45; refine (pk_nil_drop 0 _).mono ?_; rintro e w' ⟨rfl, rfl⟩))
  all_goals go_ret
  all_goals exact ⟨rfl, rfl⟩
end Go.Proofs.Ytipdeacaehbbfaa
