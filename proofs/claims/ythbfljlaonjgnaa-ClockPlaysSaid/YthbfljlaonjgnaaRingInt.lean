/-
  The calls of package ring's queue, one contract a method: what it returns, what the ring holds behind it, and that all else in memory is as it was.
-/
import Derived.Test.YthbfljlaonjgnaaProg
import Derived.Test.YthbfljlaonjgnaaRoom
import Derived.WalkLawsBesides
import Derived.Deep.QuietTactic
import Derived.BigQuiet
namespace Go.Proofs.Ythbfljlaonjgnaa
open Go.RowKit

abbrev riAt := RingAt 53 3 1

theorem Try.info3 : (Try.prog.info? 3).map (fun i => (i.zero, i.size, i.bytes)) = some (some (.int .i64 0), 1, 8) := by kernel_rfl

section
variable (w : World) (B p n c : Nat) (A : Option Addr) (xs : List Value) (most : Nat)

theorem ri_len_any (h : riAt w B p A n c xs most) :
    Calls Try.prog 25 #[.pointer (some ⟨p, 0, none⟩)] w fun e w' => e = .returned (.int .i64 n) ∧ w = w' := by
  have h0 := h.c0
  go_enter Try.func25, Try.ntmps25
  go_wp2
  go_ret
  exact ⟨rfl, rfl⟩

theorem ri_room_any (h : riAt w B p A n c xs most) :
    Calls Try.prog 21 #[.pointer (some ⟨p, 0, none⟩)] w fun e w' => e = .returned (.int .i64 ((most : Int) - n)) ∧ ∃ k, w.drewN k = w' := by
  have h0 := h.c0
  have h1 := h.c1
  have h2 := h.fits
  have h3 := h.most
  go_enter Try.func21, Try.ntmps21
  go_wp2_with fail
  go_quiet (fail)
  go_wp2
  go_ret
  exact ⟨rfl, _, rfl⟩

theorem ri_push_all (h : riAt w B p A n c xs most)
    (X : Option Addr) (m d : Nat) (ys : List Value) (hy : Sees w w.heap.size 1 X m ys) (h1 : ∀ u ∈ ys, u.oneCell' = true) (hm : 0 < m) (hr : n + m ≤ most) (hmd : m ≤ d) (hB : B ≤ w.heap.size) :
    Calls Try.prog 23 #[.pointer (some ⟨p, 0, none⟩), .slice X m d] w (RingPost 53 3 1 w B p A (.int .i64 m) (n + m) (xs ++ ys) most) := by
  obtain ⟨i0, hi, hz0, hz1, hz2⟩ := info_parts Try.info3
  have h0 := h.c0
  have h2 := h.fits
  have h3 := h.most
  have h4 : (m : Int) ≤ most - n := by omega
  have h5 : (0 : Int) < m := by omega
  have hs : (m : Int) ≤ d := by omega
  go_enter Try.func23, Try.ntmps23
  go_wp2_with (go_at_call 21; refine (ri_room_any _ B p n c A xs most h).mono ?_; rintro e w' ⟨rfl, q, rfl⟩)
  go_region_law (refine step_append_sees _ rfl (.tmp 17) (.tmp 20) 22 rfl B 3 i0 (.int .i64 0) 1 8 Try.underlying22 hi hz0 hz1 hz2 rfl (by decide) A n c xs rfl (own_drewN h.own _) w.heap.size X m d ys rfl (hy.drewN _) h1 (by unfold maxLen; omega) (by omega) hB ?_; intro A' c' w' hg; have hb := (h.drewN _).behind hg (fun _ e => e) (by decide); have k0 := hb.cell 0; have k1 := hb.frozen 0; simp at k0; clear hb)
  go_wp2
  go_ret
  exact ⟨rfl, ((h.drewN _).put hg (fun _ e => e) (by decide) hr).of_drewN⟩

theorem ri_push_some (h : riAt w B p A n c xs most)
    (X : Option Addr) (m d : Nat) (ys : List Value) (hy : Sees w w.heap.size 1 X m ys) (h1 : ∀ u ∈ ys, u.oneCell' = true) (hm : n < most) (hr : most < n + m) (hmd : m ≤ d) (hB : B ≤ w.heap.size) :
    Calls Try.prog 23 #[.pointer (some ⟨p, 0, none⟩), .slice X m d] w (RingPost 53 3 1 w B p A (.int .i64 ((most : Int) - n)) most (xs ++ ys.take (most - n)) most) := by
  obtain ⟨i0, hi, hz0, hz1, hz2⟩ := info_parts Try.info3
  have h0 := h.c0
  have h2 := h.fits
  have h3 := h.most
  have h4 : (most : Int) - n < m := by omega
  have h5 : (0 : Int) < most - n := by omega
  have hs : (most : Int) - n ≤ d := by omega
  have h6 : ((most : Int) - n).toNat = most - n := by omega
  have hy' := hy.take (k := most - n) (by omega)
  rw [Nat.mul_one] at hy'
  go_enter Try.func23, Try.ntmps23
  go_wp2_with (go_at_call 21; refine (ri_room_any _ B p n c A xs most h).mono ?_; rintro e w' ⟨rfl, q, rfl⟩)
  go_region_law (refine step_append_sees _ rfl (.tmp 17) (.tmp 20) 22 rfl B 3 i0 (.int .i64 0) 1 8 Try.underlying22 hi hz0 hz1 hz2 rfl (by decide) A n c xs rfl (own_drewN h.own _) w.heap.size X (most - n) d (ys.take (most - n)) rfl (hy'.drewN _) (fun u hu => h1 u (List.mem_of_mem_take hu)) (by unfold maxLen; omega) (by omega) hB ?_; intro A' c' w' hg; have hb := (h.drewN _).behind hg (fun _ e => e) (by decide); have k0 := hb.cell 0; have k1 := hb.frozen 0; simp at k0; clear hb)
  have e : n + (most - n) = most := by omega
  rw [e] at hg
  clear e
  go_wp2
  go_ret
  exact ⟨rfl, ((h.drewN _).put hg (fun _ e => e) (by decide) (Nat.le_refl _)).of_drewN⟩

theorem ri_push_none (h : riAt w B p A n c xs most) (X : Option Addr) (m d : Nat) (hm : m = 0 ∨ n = most) :
    Calls Try.prog 23 #[.pointer (some ⟨p, 0, none⟩), .slice X m d] w (RingPost 53 3 1 w B p A (.int .i64 0) n xs most) := by
  have h2 := h.fits
  have h3 := h.most
  rcases Nat.eq_zero_or_pos m with rfl | hp
  · clear hm
    have h4 : (0 : Int) ≤ (most : Int) - n := by omega
    go_enter Try.func23, Try.ntmps23
    go_wp2_with (go_at_call 21; refine (ri_room_any _ B p n c A xs most h).mono ?_; rintro e w' ⟨rfl, q, rfl⟩)
    all_goals go_ret
    all_goals exact ⟨rfl, h.still q⟩
  · obtain rfl : n = most := by omega
    clear hm
    go_enter Try.func23, Try.ntmps23
    go_wp2_with (go_at_call 21; refine (ri_room_any _ B p n c A xs n h).mono ?_; rintro e w' ⟨rfl, q, rfl⟩)
    all_goals go_ret
    all_goals exact ⟨rfl, h.still q⟩

theorem ri_peek_in (h : riAt w B p A n c xs most) (k : Nat) (hk : k < n) (hn : n ≤ 100000) (u : Value) (hu : xs[k]? = some u) :
    Calls Try.prog 27 #[.pointer (some ⟨p, 0, none⟩), .int .i64 (k : Int)] w fun e w' => e = .returned (.tuple #[u, .bool true]) ∧ w = w' := by
  have h0 := h.c0
  obtain ⟨g, hA, _, _⟩ := own_addr h.own (by omega)
  have hc := own_cells h.own hA k u hu
  rw [add_flat] at hc
  rw [hA] at h0
  simp only [Nat.zero_add] at hc
  have hk' : (k : Int) < n := by omega
  go_enter Try.func27, Try.ntmps27
  go_wp2_with (go_at_call 25; refine (ri_len_any _ B p n c A xs most h).mono ?_; rintro e w' ⟨rfl, rfl⟩)
  go_ret2
  exact ⟨rfl, rfl⟩

theorem ri_peek_out (h : riAt w B p A n c xs most) (k : Int) (hk : k < 0 ∨ (n : Int) ≤ k) :
    Calls Try.prog 27 #[.pointer (some ⟨p, 0, none⟩), .int .i64 k] w fun e w' => e = .returned (.tuple #[(.int .i64 0), .bool false]) ∧ w = w' := by
  rcases hk with hk | hk
  · go_enter Try.func27, Try.ntmps27
    go_wp2_with (go_at_call 25; refine (ri_len_any _ B p n c A xs most h).mono ?_; rintro e w' ⟨rfl, rfl⟩)
    go_ret2
    exact ⟨rfl, rfl⟩
  · have hk0 : 0 ≤ k := by omega
    go_enter Try.func27, Try.ntmps27
    go_wp2_with (go_at_call 25; refine (ri_len_any _ B p n c A xs most h).mono ?_; rintro e w' ⟨rfl, rfl⟩)
    go_ret2
    exact ⟨rfl, rfl⟩

/-- What Drop leaves: the list's tail, in a row of its own. -/
theorem ri_drop_some (h : riAt w B p A n c xs most) (h1 : ∀ u ∈ xs, u.oneCell' = true) (m : Nat) (hk : 0 < m) (hm : m ≤ n) (hB : B ≤ w.heap.size) :
    Calls Try.prog 28 #[.pointer (some ⟨p, 0, none⟩), .int .i64 (m : Int)] w
      (RingPost 53 3 1 w B p A (.int .i64 (m : Int)) (n - m) (xs.drop m) most) := by
  obtain ⟨i0, hi, hz0, hz1, hz2⟩ := info_parts Try.info3
  have h0 := h.c0
  have h2 := h.fits
  have h3 := h.most
  have hcap := own_cap h.own
  have hsl := run_tail (P := Try.prog) 22 3 1 Try.underlying22 i0 hi hz1 A n c m hm
  have hs := (Sees.of_own h.own).tail hm hcap
  rw [Nat.mul_one] at hs
  have hs2 : (m : Int) ≤ n := by omega
  go_enter Try.func28, Try.ntmps28
  go_wp2_with (first | (go_at_call 25; refine (ri_len_any _ B p n c A xs most h).mono ?_; rintro e w' ⟨rfl, rfl⟩) | (at_builtin; refine wpList_append_sees _ rfl (.const (.slice none 0 0)) (.tmp 18) 22 rfl B 3 i0 (.int .i64 0) 1 8 Try.underlying22 hi hz0 hz1 hz2 rfl (by decide) none 0 0 [] rfl (World.ownsRow_nil _ _ _ _) w.heap.size _ (n - m) _ (xs.drop m) rfl hs (fun u hu => h1 u (List.mem_of_mem_drop hu)) (by unfold maxLen; omega) (by omega) hB ?_; intro A' c' w' hg; have hb := h.behind hg (by simp [blkOf]) (by decide); have k0 := hb.cell 0; have k1 := hb.frozen 0; simp at k0; clear hb; rw [Nat.zero_add, List.nil_append] at hg))
  go_ret
  exact ⟨rfl, h.put hg (by simp [blkOf]) (by decide) (by omega)⟩

theorem ri_drop_all (h : riAt w B p A n c xs most) (k : Int) (hk : (n : Int) < k) (hn : 0 < n) (hB : B ≤ w.heap.size) :
    Calls Try.prog 28 #[.pointer (some ⟨p, 0, none⟩), .int .i64 k] w
      (RingPost 53 3 1 w B p A (.int .i64 (n : Int)) 0 [] most) := by
  obtain ⟨i0, hi, hz0, hz1, hz2⟩ := info_parts Try.info3
  have h0 := h.c0
  have h2 := h.fits
  have h3 := h.most
  have hcap := own_cap h.own
  have hsl := run_tail (P := Try.prog) 22 3 1 Try.underlying22 i0 hi hz1 A n c n (Nat.le_refl _)
  rw [Nat.sub_self] at hsl
  have hk0 : 0 ≤ k := by omega
  have hn0 : (0 : Int) < n := by omega
  go_enter Try.func28, Try.ntmps28
  go_wp2_with (first | (go_at_call 25; refine (ri_len_any _ B p n c A xs most h).mono ?_; rintro e w' ⟨rfl, rfl⟩) | (at_builtin; refine wpList_append_sees _ rfl (.const (.slice none 0 0)) (.tmp 18) 22 rfl B 3 i0 (.int .i64 0) 1 8 Try.underlying22 hi hz0 hz1 hz2 rfl (by decide) none 0 0 [] rfl (World.ownsRow_nil _ _ _ _) w.heap.size _ 0 _ [] rfl (Sees.nil _ _ _ _) (by simp) (by unfold maxLen; omega) (by omega) hB ?_; intro A' c' w' hg; have hb := h.behind hg (by simp [blkOf]) (by decide); have k0 := hb.cell 0; have k1 := hb.frozen 0; simp at k0; clear hb; rw [Nat.zero_add, List.nil_append] at hg))
  go_ret
  exact ⟨rfl, h.put hg (by simp [blkOf]) (by decide) (by omega)⟩

theorem ri_drop_none (h : riAt w B p A n c xs most) (k : Int) (hk : k ≤ 0 ∨ n = 0) :
    Calls Try.prog 28 #[.pointer (some ⟨p, 0, none⟩), .int .i64 k] w
      (RingPost 53 3 1 w B p A (.int .i64 0) n xs most) := by
  have H : Calls Try.prog 28 #[.pointer (some ⟨p, 0, none⟩), .int .i64 k] w (fun e w' => e = .returned (.int .i64 0) ∧ w = w') := by
    have h2 := h.fits
    have h3 := h.most
    rcases Int.lt_or_le 0 k with hp | hp
    · obtain rfl : n = 0 := by omega
      clear hk
      have hk0 : 0 ≤ k := by omega
      go_enter Try.func28, Try.ntmps28
      go_wp2_with (go_at_call 25; refine (ri_len_any _ B p 0 c A xs most h).mono ?_; rintro e w' ⟨rfl, rfl⟩)
      all_goals go_ret
      all_goals exact ⟨rfl, rfl⟩
    · clear hk
      rcases Int.lt_or_le k 0 with hq | hq
      · have hn0 : (0 : Int) ≤ n := by omega
        go_enter Try.func28, Try.ntmps28
        go_wp2_with (go_at_call 25; refine (ri_len_any _ B p n c A xs most h).mono ?_; rintro e w' ⟨rfl, rfl⟩)
        all_goals go_ret
        all_goals exact ⟨rfl, rfl⟩
      · obtain rfl : k = 0 := by omega
        have hn0 : (0 : Int) ≤ n := by omega
        go_enter Try.func28, Try.ntmps28
        go_wp2_with (go_at_call 25; refine (ri_len_any _ B p n c A xs most h).mono ?_; rintro e w' ⟨rfl, rfl⟩)
        all_goals go_ret
        all_goals exact ⟨rfl, rfl⟩
  refine H.mono ?_
  rintro e w' ⟨rfl, rfl⟩
  exact ⟨rfl, h.still 0⟩

theorem ri_pop_some (h : riAt w B p A n c xs most) (h1 : ∀ u ∈ xs, u.oneCell' = true) (u : Value) (hu : xs[0]? = some u) (hn : 0 < n) (hB : B ≤ w.heap.size) :
    Calls Try.prog 22 #[.pointer (some ⟨p, 0, none⟩)] w (RingPost 53 3 1 w B p A (.tuple #[u, .bool true]) (n - 1) (xs.drop 1) most) := by
  have hk := ri_peek_in w B p n c A xs most h 0 hn (by have := h.fits; have := h.most; omega) u hu
  have hd := ri_drop_some w B p n c A xs most h h1 1 (by omega) (by omega) hB
  have Hk := hide hk
  have Hd := hide hd
  clear hk hd hu
  go_enter Try.func22, Try.ntmps22
  go_wp2_with (first | (go_at_call 27; refine Hk.out.mono ?_; rintro e w' ⟨rfl, rfl⟩) | (go_at_call 28; refine Hd.out.mono ?_; rintro e w' ⟨rfl, hmv⟩))
  go_ret2
  exact ⟨rfl, hmv⟩

theorem ri_pop_none (h : riAt w B p A 0 c xs most) :
    Calls Try.prog 22 #[.pointer (some ⟨p, 0, none⟩)] w (RingPost 53 3 1 w B p A (.tuple #[(.int .i64 0), .bool false]) 0 xs most) := by
  go_enter Try.func22, Try.ntmps22
  go_wp2_with (first | (go_at_call 27; refine (ri_peek_out _ B p 0 c A xs most h 0 (.inr (by omega))).mono ?_; rintro e w' ⟨rfl, rfl⟩) | (go_at_call 28; refine (ri_drop_none _ B p 0 c A xs most h 1 (.inr rfl)).mono ?_; rintro e w' ⟨rfl, hmv⟩))
  go_ret2
  exact ⟨rfl, hmv⟩

theorem ri_list_any (h : riAt w B p A n c xs most) (h1 : ∀ u ∈ xs, u.oneCell' = true) :
    Calls Try.prog 24 #[.pointer (some ⟨p, 0, none⟩)] w (ListPost 3 1 w n xs) := by
  obtain ⟨i0, hi, hz0, hz1, hz2⟩ := info_parts Try.info3
  have h0 := h.c0
  have h2 := h.fits
  have h3 := h.most
  go_enter Try.func24, Try.ntmps24
  go_wp2_with (at_builtin; refine wpList_append_sees _ rfl _ _ 22 rfl w.heap.size 3 i0 (.int .i64 0) 1 8 Try.underlying22 hi hz0 hz1 hz2 rfl (by decide) none 0 0 [] rfl (World.ownsRow_nil _ _ _ _) w.heap.size A n c xs rfl (Sees.of_own h.own) h1 (by unfold maxLen; omega) (by omega) (Nat.le_refl _) ?_; intro A' c' w' hg; rw [Nat.zero_add, List.nil_append] at hg)
  go_ret
  exact ⟨A', c', rfl, hg.own, hg.chg.mono (by simp [blkOf])⟩

end

theorem ri_new_any (k : Int) (w : World) : Calls Try.prog 20 #[.int .i64 k] w (NewPost 53 3 1 w (roomOf k)) := by
  go_enter Try.func20, Try.ntmps20
  go_wp2_with (go_at_call 26; refine (room_fn _ _).mono ?_; rintro e w' ⟨rfl, rfl⟩)
  go_ret
  exact ⟨rfl, RingAt.made _ _ _ _ _ _ (Nat.le_refl _) (by unfold roomOf; omega), (Chg.refl _ _).alloc _, by simp⟩

section
variable (w : World) (B p n c : Nat) (A : Option Addr) (xs : List Value) (most : Nat)
/-- All that is pushed has room. -/
theorem ri_push_fit (h : riAt w B p A n c xs most) (X : Option Addr) (m d : Nat) (ys : List Value) (hy : Sees w w.heap.size 1 X m ys) (h1 : ∀ u ∈ ys, u.oneCell' = true) (hr : n + m ≤ most) (hmd : m ≤ d) (hB : B ≤ w.heap.size) :
    Calls Try.prog 23 #[.pointer (some ⟨p, 0, none⟩), .slice X m d] w (RingPost 53 3 1 w B p A (.int .i64 (m : Int)) (n + m) (xs ++ ys) most) := by
  rcases Nat.eq_zero_or_pos m with rfl | hp
  · have hys : ys = [] := List.eq_nil_of_length_eq_zero (by simpa using hy.1)
    subst hys
    rw [List.append_nil]
    exact ri_push_none w B p n c A xs most h X 0 d (.inl rfl)
  · exact ri_push_all w B p n c A xs most h X m d ys hy h1 hp hr hmd hB

/-- As many are pushed as have room. -/
theorem ri_push_min (h : riAt w B p A n c xs most) (X : Option Addr) (m d : Nat) (ys : List Value) (hy : Sees w w.heap.size 1 X m ys) (h1 : ∀ u ∈ ys, u.oneCell' = true) (hmd : m ≤ d) (hB : B ≤ w.heap.size)
    (k : Nat) (hk : k = min m (most - n)) :
    Calls Try.prog 23 #[.pointer (some ⟨p, 0, none⟩), .slice X m d] w (RingPost 53 3 1 w B p A (.int .i64 (k : Int)) (n + k) (xs ++ ys.take k) most) := by
  have hf := h.fits
  have hl : ys.length = m := by simpa using hy.1
  by_cases h0 : m ≤ most - n
  · obtain rfl : k = m := by omega
    rw [List.take_of_length_le (by omega)]
    exact ri_push_fit w B p n c A xs most h X k d ys hy h1 (by omega) hmd hB
  · obtain rfl : k = most - n := by omega
    rcases Nat.lt_or_ge n most with h2 | h2
    · have e : ((most - n : Nat) : Int) = (most : Int) - n := by omega
      rw [e, show n + (most - n) = most by omega]
      exact ri_push_some w B p n c A xs most h X m d ys hy h1 h2 (by omega) hmd hB
    · rw [show most - n = 0 by omega, List.take_zero, List.append_nil]
      exact ri_push_none w B p n c A xs most h X m d (.inr (by omega))

/-- Drop at any number. -/
theorem ri_drop_any (h : riAt w B p A n c xs most) (h1 : ∀ u ∈ xs, u.oneCell' = true) (k : Int) (hB : B ≤ w.heap.size) :
    Calls Try.prog 28 #[.pointer (some ⟨p, 0, none⟩), .int .i64 k] w
      (RingPost 53 3 1 w B p A (.int .i64 (dropped k n : Nat)) (n - dropped k n) (xs.drop (dropped k n)) most) := by
  have hl := h.len
  by_cases h0 : k ≤ 0 ∨ n = 0
  · have e : dropped k n = 0 := by unfold dropped; omega
    rw [e]
    exact ri_drop_none w B p n c A xs most h k h0
  · rcases Int.lt_or_le (n : Int) k with hk | hk
    · have e : dropped k n = n := by unfold dropped; omega
      rw [e, Nat.sub_self, List.drop_eq_nil_of_le (by omega)]
      exact ri_drop_all w B p n c A xs most h k hk (by omega) hB
    · obtain ⟨m, rfl⟩ : ∃ m : Nat, k = m := ⟨k.toNat, by omega⟩
      have e : dropped m n = m := by unfold dropped; omega
      rw [e]
      exact ri_drop_some w B p n c A xs most h h1 m (by omega) (by omega) hB


/-- One value is pushed, as a call with one argument lays it. -/
theorem ri_push_one (h : riAt w B p A n c xs most) (u : Value) (hu : u.oneCell' = true) (hr : n < most) (hB : B ≤ w.heap.size) :
    Calls Try.prog 23 #[.pointer (some ⟨p, 0, none⟩), .slice (some ⟨w.heap.size, 0, none⟩) 1 1] (w.alloc (.cells #[u] 3))
      (RingPost 53 3 1 w B p A (.int .i64 1) (n + 1) (xs ++ [u]) most) :=
  (ri_push_all _ B p n c A xs most (h.alloc _) _ 1 1 [u] (Sees.of_blk (cs := #[u]) (Blk.new _ _ _) rfl) (by simp [hu]) (by omega) (by omega) (by omega) (by simp; omega)).mono
    fun _ _ ⟨he, hm⟩ => ⟨he, hm.of_chg ((Chg.refl _ w).alloc _)⟩
theorem ri_push_full (h : riAt w B p A n c xs most) (u : Value) (hr : n = most) :
    Calls Try.prog 23 #[.pointer (some ⟨p, 0, none⟩), .slice (some ⟨w.heap.size, 0, none⟩) 1 1] (w.alloc (.cells #[u] 3))
      (RingPost 53 3 1 w B p A (.int .i64 0) n xs most) :=
  (ri_push_none _ B p n c A xs most (h.alloc _) _ 1 1 (.inr hr)).mono
    fun _ _ ⟨he, hm⟩ => ⟨he, hm.of_chg ((Chg.refl _ w).alloc _)⟩
/-- Both at once: 1 and it stands at the end, or 0 and there was no room. -/
theorem ri_push_either (h : riAt w B p A n c xs most) (u : Value) (hu : u.oneCell' = true) (hB : B ≤ w.heap.size) :
    Calls Try.prog 23 #[.pointer (some ⟨p, 0, none⟩), .slice (some ⟨w.heap.size, 0, none⟩) 1 1] (w.alloc (.cells #[u] 3))
      (fun e w' => ∃ t n' xs', e = .returned (.int .i64 t) ∧ ((t = 1 ∧ n' = n + 1 ∧ xs' = xs ++ [u] ∧ n < most) ∨ (t = 0 ∧ n' = n ∧ xs' = xs ∧ n = most)) ∧ Moved 53 3 1 w w' B p A n' xs' most) := by
  have hf := h.fits
  by_cases hr : n < most
  · exact (ri_push_one w B p n c A xs most h u hu hr hB).mono fun _ _ ⟨he, hm⟩ => ⟨1, _, _, he, .inl ⟨rfl, rfl, rfl, hr⟩, hm⟩
  · exact (ri_push_full w B p n c A xs most h u (by omega)).mono fun _ _ ⟨he, hm⟩ => ⟨0, _, _, he, .inr ⟨rfl, rfl, rfl, by omega⟩, hm⟩
end

/-! ### A nil ring -/
theorem ri_nil_len (w : World) : Calls Try.prog 25 #[.pointer none] w fun e w' => e = .returned (.int .i64 0) ∧ w = w' := by
  go_enter Try.func25, Try.ntmps25
  go_wp2
  all_goals go_ret
  all_goals exact ⟨rfl, rfl⟩
theorem ri_nil_room (w : World) : Calls Try.prog 21 #[.pointer none] w fun e w' => e = .returned (.int .i64 0) ∧ w = w' := by
  go_enter Try.func21, Try.ntmps21
  go_wp2
  all_goals go_ret
  all_goals exact ⟨rfl, rfl⟩
theorem ri_nil_list (w : World) : Calls Try.prog 24 #[.pointer none] w fun e w' => e = .returned (.slice none 0 0) ∧ w = w' := by
  go_enter Try.func24, Try.ntmps24
  go_wp2
  all_goals go_ret
  all_goals exact ⟨rfl, rfl⟩
theorem ri_nil_peek (k : Int) (w : World) : Calls Try.prog 27 #[.pointer none, .int .i64 k] w fun e w' => e = .returned (.tuple #[(.int .i64 0), .bool false]) ∧ w = w' := by
  rcases Int.lt_or_le k 0 with h | h
  all_goals
    go_enter Try.func27, Try.ntmps27
    go_wp2_with (go_at_call 25; refine (ri_nil_len _).mono ?_; rintro e w' ⟨rfl, rfl⟩)
    all_goals go_ret2
    all_goals exact ⟨rfl, rfl⟩
theorem ri_nil_drop (k : Int) (w : World) : Calls Try.prog 28 #[.pointer none, .int .i64 k] w fun e w' => e = .returned (.int .i64 0) ∧ w = w' := by
  rcases Int.lt_or_le k 0 with h | h
  · go_enter Try.func28, Try.ntmps28
    go_wp2_with (go_at_call 25; refine (ri_nil_len _).mono ?_; rintro e w' ⟨rfl, rfl⟩)
    all_goals go_ret
    all_goals exact ⟨rfl, rfl⟩
  · rcases Int.lt_or_le 0 k with h' | h'
    · go_enter Try.func28, Try.ntmps28
      go_wp2_with (go_at_call 25; refine (ri_nil_len _).mono ?_; rintro e w' ⟨rfl, rfl⟩)
      all_goals go_ret
      all_goals exact ⟨rfl, rfl⟩
    · obtain rfl : k = 0 := by omega
      go_enter Try.func28, Try.ntmps28
      go_wp2_with (go_at_call 25; refine (ri_nil_len _).mono ?_; rintro e w' ⟨rfl, rfl⟩)
      all_goals go_ret
      all_goals exact ⟨rfl, rfl⟩
theorem ri_nil_pop (w : World) : Calls Try.prog 22 #[.pointer none] w fun e w' => e = .returned (.tuple #[(.int .i64 0), .bool false]) ∧ w = w' := by
  go_enter Try.func22, Try.ntmps22
  go_wp2_with (first | (go_at_call 27; refine (ri_nil_peek _ _).mono ?_; rintro e w' ⟨rfl, rfl⟩) | (go_at_call 28; refine (ri_nil_drop _ _).mono ?_; rintro e w' ⟨rfl, rfl⟩))
  all_goals go_ret2
  all_goals exact ⟨rfl, rfl⟩
theorem ri_nil_push (X : Option Addr) (m d : Nat) (w : World) (hm : m ≤ 1000000) : Calls Try.prog 23 #[.pointer none, .slice X m d] w fun e w' => e = .returned (.int .i64 0) ∧ w = w' := by
  have h0 : (0 : Int) ≤ m := by omega
  rcases Nat.eq_zero_or_pos m with rfl | h
  all_goals
    go_enter Try.func23, Try.ntmps23
    go_wp2_with (go_at_call 21; refine (ri_nil_room _).mono ?_; rintro e w' ⟨rfl, rfl⟩)
    all_goals go_ret
    all_goals exact ⟨rfl, rfl⟩

end Go.Proofs.Ythbfljlaonjgnaa
