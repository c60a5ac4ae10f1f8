/-
  The law's helpers: same, plain, small, and the book's Room.
-/
import Derived.Test.YtipdeacaehbbfaaLentPk
import Derived.Test.YtipdeacaehbbfaaRefCut
import Derived.Deep.RegionHeld3
namespace Go.Proofs.Ytipdeacaehbbfaa
open Go.RowKit
set_option linter.unusedSimpArgs false

theorem same_pk (p : Pk) (w : World) : Calls Try.prog 17 #[p.val, p.val] w fun e w' => e = .returned (.bool true) ∧ Chg No w w' := by
  go_enter Try.func17, Try.ntmps17
  go_wp2_with fail
  go_ret
  exact ⟨rfl, ((Chg.refl No w).alloc _).alloc _⟩

theorem room_one (room v : Int) (g : Nat) (w : World) (h0 : 0 ≤ room) (h1 : room ≤ 6000) (hv : 0 ≤ v) (hc : w.cell? ⟨g, 0, none⟩ = some (.int .i64 v)) :
    Calls Try.prog 29 #[.int .i64 room, .slice (some ⟨g, 0, none⟩) 1 1] w fun e w' => e = .returned (.int .i64 (if room < v then -1 else room - v)) ∧ w = w' := by
  rcases Int.lt_or_le room v with hlt | hle
  · rw [if_pos hlt]
    go_enter Try.func29, Try.ntmps29
    go_wp2
    refine wp_loop_rounds 1 ?_
    rw [rounds_succ]
    go_wp2
    go_ret
    exact ⟨rfl, rfl⟩
  · rw [if_neg (by omega)]
    go_enter Try.func29, Try.ntmps29
    go_wp2
    refine wp_loop_rounds 2 ?_
    rw [rounds_succ]
    go_wp2
    rw [rounds_succ]
    go_wp2
    go_ret
    exact ⟨rfl, rfl⟩

/-- So many packets' texts have been reckoned. -/
def Smalled (w : World) (n : Nat) (l : List Pk) (k : Nat) (s i : Value) (wr : World) : Prop :=
  ∃ (K : Nat) (R : Int), s = .int .i64 R ∧ i = .int .i64 (K : Int) ∧ K + k = min n 100 ∧ -1 ≤ R ∧ R ≤ 6000 ∧ (0 ≤ R → ∀ j y, j < K → l[j]? = some y → y.data.size ≤ 6000) ∧ Chg No w wr

def SmallPost (w : World) (l : List Pk) (e : Ending) (w' : World) : Prop :=
  ∃ b : Bool, e = .returned (.bool b) ∧ (b = true → l.length ≤ 60 ∧ ∀ y ∈ l, y.data.size ≤ 6000) ∧ Chg No w w'

set_option maxHeartbeats 2000000 in
theorem small_pk (w : World) (n c : Nat) (X : Option Addr) (l : List Pk) (h : Sees w w.heap.size 3 X n (flat l)) :
    Calls Try.prog 9 #[.slice X n c] w (SmallPost w l) := by
  have hl : l.length = n := by have := h.1; rw [flat_length] at this; omega
  have h0 : Smalled w n l (min n 100) (.int .i64 6000) (.int .i64 0) w := ⟨0, 6000, rfl, rfl, by omega, by omega, by omega, fun _ j _ hj => by omega, Chg.refl _ _⟩
  have HX := hide h
  have Hl := hide hl
  clear h hl
  go_enter Try.func9, Try.ntmps9
  go_wp2_with fail
  go_loopg [3, 4] (min n 100) (fun k s i wr => Smalled w n l k s i wr)
  case atStart => exact h0
  case round =>
    clear h0
    obtain ⟨K, R, rfl, rfl, hk, hR1, hR2, hsm, hc⟩ := hrel
    have Hk := hide hk
    have Hsm := hide hsm
    clear hk hsm
    by_cases hKn : K < n
    · by_cases hK1 : K < 100
      · by_cases hR0 : 0 ≤ R
        · have hKi : (K : Int) < n := by omega
          have hKj : (K : Int) < 100 := by omega
          obtain ⟨y, hy⟩ : ∃ y, l[K]? = some y := ⟨_, List.getElem?_eq_getElem (by rw [Hl.out]; exact hKn)⟩
          obtain ⟨b, off, rfl, hb, hcx⟩ := HX.out.spot (by omega) (by omega)
          obtain ⟨y0, y1, y2⟩ := sees_pk hcx hy (n := n) rfl (B := n) rfl
          have z2 := (hc.cell (p := ⟨b, off + K * 3 + 2, none⟩) hb (fun t => t)).trans y2
          have Hy := hide hy
          have hv : (0 : Int) ≤ (y.data.size : Int) := by omega
          clear hcx y0 y1 y2 hy
          have hcr := (Chg.refl No wr).alloc (.cells #[.int .i64 (y.data.size : Int)] 3)
          have hcb : (wr.alloc (.cells #[.int .i64 (y.data.size : Int)] 3)).cell? ⟨wr.heap.size, 0, none⟩ = some (.int .i64 (y.data.size : Int)) := (Blk.new wr _ _).cell 0
          have hroom := room_one R (y.data.size : Int) wr.heap.size _ hR0 hR2 hv hcb
          obtain ⟨R2, hR2e⟩ : ∃ R2, R2 = (if R < (y.data.size : Int) then -1 else R - y.data.size) := ⟨_, rfl⟩
          rw [← hR2e] at hroom
          have hR3 : -1 ≤ R2 ∧ R2 ≤ 6000 ∧ (0 ≤ R2 → y.data.size ≤ 6000) := by
            rw [hR2e]; split
            · exact ⟨by omega, by omega, fun h => by omega⟩
            · exact ⟨by omega, by omega, fun h => by omega⟩
          have HR3 := hide hR3
          have Hroom := hide hroom
          clear hR3 hR2e hroom hcb
          go_wp2_with fail
          refine Hroom.out.mono ?_
          rintro e w2 ⟨rfl, rfl⟩
          go_wp2_with fail
          go_roundg (min n 100 - (K + 1))
          case measure => have := Hk.out; omega
          case rel =>
            refine ⟨K + 1, R2, rfl, by go_num, by omega, HR3.out.1, HR3.out.2.1, fun hr j z hj hz => ?_, hc.trans hcr (fun _ _ t => t)⟩
            rcases Nat.lt_or_ge j K with hj' | hj'
            · exact Hsm.out hR0 j z hj' hz
            · obtain rfl : j = K := by omega
              have e := Hy.out.symm.trans hz
              simp only [Option.some.injEq] at e
              subst e
              exact HR3.out.2.2 hr
        · have hKi : (K : Int) < n := by omega
          have hKj : (K : Int) < 100 := by omega
          have hRi : R < 0 := by omega
          rcases Nat.lt_or_ge 60 n with h6 | h6
          · have h6i : ¬ ((n : Int) ≤ 60) := by omega
            go_wp2_with fail
            go_ret
            exact ⟨false, by first | rfl | simp, by simp, hc⟩
          · have h6i : (n : Int) ≤ 60 := by omega
            go_wp2_with fail
            go_ret
            exact ⟨false, by first | rfl | simp, by simp, hc⟩
      · have hKj : ¬ ((K : Int) < 100) := by omega
        have hKi : (K : Int) < n := by omega
        have h6i : ¬ ((n : Int) ≤ 60) := by omega
        go_wp2_with fail
        go_ret
        exact ⟨false, by first | rfl | simp, by simp, hc⟩
    · have hKe : K = n := by have := Hk.out; omega
      have hKi : ¬ ((K : Int) < n) := by omega
      rcases Nat.lt_or_ge 60 n with h6 | h6
      · have h6i : ¬ ((n : Int) ≤ 60) := by omega
        go_wp2_with fail
        go_ret
        exact ⟨false, by first | rfl | simp, by simp, hc⟩
      · have h6i : (n : Int) ≤ 60 := by omega
        obtain ⟨tb, htb⟩ : ∃ tb, tb = decide (0 ≤ R) := ⟨_, rfl⟩
        have Htb := hide htb
        have htb' := htb.symm
        clear htb
        go_wp2_with fail
        go_ret
        refine ⟨tb, by first | rfl | simp, fun ht => ⟨by rw [Hl.out]; exact h6, fun y hy => ?_⟩, hc⟩
        obtain ⟨j, hj, he⟩ := List.mem_iff_getElem.1 hy
        subst he
        exact Hsm.out (of_decide_eq_true (Htb.out.symm.trans ht)) j _ (by rw [Hl.out] at hj; omega) (List.getElem?_eq_getElem hj)

/-- So many packets have been copied. -/
def Plained (w : World) (n : Nat) (l : List Pk) (k : Nat) (s i : Value) (wr : World) : Prop :=
  ∃ K A c, s = .slice A K c ∧ i = .int .i64 ((K : Nat) : Int) ∧ K + k = n ∧ wr.ownsRow w.heap.size 48 3 (.slice A K c) K (flat (l.take K)) ∧ Chg No w wr
def PlainPost (w : World) (n : Nat) (l : List Pk) (e : Ending) (w' : World) : Prop :=
  ∃ A c, e = .returned (.slice A n c) ∧ w'.ownsRow w.heap.size 48 3 (.slice A n c) n (flat l) ∧ Chg No w w'

set_option maxHeartbeats 2000000 in
set_option maxRecDepth 100000 in
theorem plain_pk (w : World) (n c : Nat) (X : Option Addr) (l : List Pk) (h : Sees w w.heap.size 3 X n (flat l)) (hn : n ≤ 1000000) :
    Calls Try.prog 13 #[.slice X n c] w (PlainPost w n l) := by
  obtain ⟨i0, hi, hz0, hz1, hz2⟩ := info_parts Try.info48
  have hl : l.length = n := by have := h.1; rw [flat_length] at this; omega
  have h0 : Plained w n l n (.slice none 0 0) (.int .i64 0) w := ⟨0, none, 0, rfl, rfl, by omega, World.ownsRow_nil _ _ _ _, Chg.refl _ _⟩
  have HX := hide h
  have Hl := hide hl
  clear h hl
  go_enter Try.func13, Try.ntmps13
  go_wp2_with fail
  go_loopg [3, 4] n (fun k s i wr => Plained w n l k s i wr)
  case atStart => exact h0
  case round =>
    clear h0
    obtain ⟨K, A, c3, rfl, rfl, hk, ho, hc⟩ := hrel
    have Hk := hide hk
    clear hk
    by_cases hKn : K < n
    · have hKi : (K : Int) < n := by omega
      obtain ⟨y, hy⟩ : ∃ y, l[K]? = some y := ⟨_, List.getElem?_eq_getElem (by rw [Hl.out]; exact hKn)⟩
      obtain ⟨b, off, rfl, hb, hcx⟩ := HX.out.spot (by omega) (by omega)
      obtain ⟨y0, y1, y2⟩ := sees_pk hcx hy (n := n) rfl (B := n) rfl
      have hz : ∀ W, Chg No w W → W.cell? ⟨b, off + K * 3, none⟩ = some (.int .i64 y.fr) ∧ W.cell? ⟨b, off + K * 3 + 1, none⟩ = some (.int .i64 y.to) ∧ W.cell? ⟨b, off + K * 3 + 2, none⟩ = some (.string y.data) := fun W hW =>
        ⟨(hW.cell (p := ⟨b, off + K * 3, none⟩) hb (fun t => t)).trans y0, (hW.cell (p := ⟨b, off + K * 3 + 1, none⟩) hb (fun t => t)).trans y1, (hW.cell (p := ⟨b, off + K * 3 + 2, none⟩) hb (fun t => t)).trans y2⟩
      obtain ⟨c0, c1, c2⟩ := hz _ hc
      have hsn : l.take (K + 1) = l.take K ++ [y] := by
        obtain ⟨hK, rfl⟩ := List.getElem?_eq_some_iff.1 hy
        exact List.take_succ_eq_append_getElem hK
      have Hz := hide hz
      have Hsn := hide hsn
      clear hcx y0 y1 y2 hy hz hsn
      go_wp2_with fail
      go_region_held3 (fun w' => w'.cell? ⟨b, off + K * 3, none⟩ = some (.int .i64 y.fr) ∧ w'.cell? ⟨b, off + K * 3 + 1, none⟩ = some (.int .i64 y.to) ∧ w'.cell? ⟨b, off + K * 3 + 2, none⟩ = some (.string y.data)) (first | exact ⟨c0, c1, c2⟩ | exact Hz.out _ (hc.drew.alloc _) | exact Hz.out _ (hc.alloc _) | exact Hz.out _ hc5) (first | (refine step_append_sees _ rfl (.tmp 11) (.tmp 28) 27 rfl w.heap.size 48 i0 (.agg #[.int .i64 0, .int .i64 0, .string ⟨#[]⟩]) 3 32 Try.underlying27 hi hz0 hz1 hz2 rfl (by decide) A K c3 (flat (l.take K)) rfl (own_chg ho ((Chg.refl No wr).drew.alloc _) (fun _ _ t => t)) _ (some ⟨wr.heap.size, 0, none⟩) 1 1 [.int .i64 y.fr, .int .i64 y.to, .string y.data] rfl (Sees.of_blk (cs := #[.int .i64 y.fr, .int .i64 y.to, .string y.data]) (Blk.new wr.drew _ _) rfl) (pk_one y) (by unfold maxLen; omega) (by omega) (by have := hc.size; simp; omega) ?_; intro A5 c5 w5 hg5; have hc5 : Chg No w w5 := ((hc.drew.alloc _).trans hg5.chg (fun i hi hs => by have := (own_lt ho hs).1; omega))))
      all_goals
        have e5 : flat (l.take K) ++ [.int .i64 y.fr, .int .i64 y.to, .string y.data] = flat (l.take (K + 1)) := by rw [Hsn.out, flat_append, flat_one]
        rw [e5] at hg5
        go_wp2_with fail
        go_roundg (n - (K + 1))
        case measure => have := Hk.out; omega
        case rel => exact ⟨K + 1, A5, c5, rfl, by go_num, by omega, hg5.own, hc5⟩
    · have hKe : K = n := by have := Hk.out; omega
      subst hKe
      have hKi : ¬ ((K : Int) < K) := by omega
      rw [List.take_of_length_le (by rw [Hl.out]; exact Nat.le_refl _)] at ho
      go_wp2_with fail
      go_ret
      exact ⟨A, c3, rfl, ho, hc⟩
end Go.Proofs.Ytipdeacaehbbfaa
