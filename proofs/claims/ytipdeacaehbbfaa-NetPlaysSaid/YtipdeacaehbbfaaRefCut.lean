/-
  The reference's net: Cut.
-/
import Derived.Test.YtipdeacaehbbfaaRefSwap
import Derived.Deep.RegionHeld3
import Derived.DeepKeys
namespace Go.Proofs.Ytipdeacaehbbfaa
open Go.RowKit
set_option linter.unusedSimpArgs false

theorem Try.info64 : (Try.prog.info? 64).map (fun i => (i.zero, i.size, i.bytes)) = some (some (.agg #[.int .i64 0, .int .i64 0]), 2, 16) := by kernel_rfl

theorem pairs_append (l l' : List (Int × Int)) : pairs (l ++ l') = pairs l ++ pairs l' := List.flatMap_append
theorem pairs_one (e : Int × Int) : pairs [e] = [.int .i64 e.1, .int .i64 e.2] := by simp [pairs]
theorem pairs_cons (e : Int × Int) (l : List (Int × Int)) : pairs (e :: l) = [.int .i64 e.1, .int .i64 e.2] ++ pairs l := List.flatMap_cons
theorem pairs_length (l : List (Int × Int)) : (pairs l).length = l.length * 2 := by
  induction l with
  | nil => rfl
  | cons p l ih => rw [pairs_cons, List.length_append, ih]; simp; omega
theorem pairs_get {l : List (Int × Int)} {k : Nat} {p : Int × Int} (h : l[k]? = some p) : (pairs l)[k * 2]? = some (.int .i64 p.1) ∧ (pairs l)[k * 2 + 1]? = some (.int .i64 p.2) := by
  induction l generalizing k with
  | nil => simp at h
  | cons q l ih =>
    cases k with
    | zero =>
      simp at h
      subst h
      exact ⟨rfl, rfl⟩
    | succ k =>
      obtain ⟨h0, h1⟩ := ih (k := k) (by simpa using h)
      rw [pairs_cons, show (k + 1) * 2 = k * 2 + 2 by omega, show k * 2 + 2 + 1 = k * 2 + 1 + 2 by omega]
      refine ⟨?_, ?_⟩
      · rw [List.getElem?_append_right (by simp)]; simpa using h0
      · rw [List.getElem?_append_right (by simp)]; simpa using h1
theorem pairs_one_cell (l : List (Int × Int)) : ∀ u ∈ pairs l, u.oneCell' = true := by
  intro u hu
  unfold pairs at hu
  rw [List.mem_flatMap] at hu
  obtain ⟨p, _, hp⟩ := hu
  simp at hp
  rcases hp with rfl | rfl <;> rfl
theorem pair_cells_one (p : Int × Int) : ∀ u ∈ ([.int .i64 p.1, .int .i64 p.2] : List Value), u.oneCell' = true := by
  intro u hu
  simp at hu
  rcases hu with rfl | rfl <;> rfl

theorem RefAt.key {w : World} {B r c d g k : Nat} {A : Option Addr} {L : List Pk} {ks : List (Int × Int)} {p : Int × Int} (h : RefAt w B r A c L (some ⟨g, 0, none⟩) d ks) (hk : ks[k]? = some p) :
    w.cell? ⟨g, k * 2, none⟩ = some (.int .i64 p.1) ∧ w.cell? ⟨g, k * 2 + 1, none⟩ = some (.int .i64 p.2) := by
  obtain ⟨e0, e1⟩ := pairs_get hk
  have d0 := own_cells h.cuts rfl (k * 2) _ e0
  have d1 := own_cells h.cuts rfl (k * 2 + 1) _ e1
  rw [add_flat, Nat.zero_add] at d0 d1
  exact ⟨d0, d1⟩

theorem kept_snoc {ks : List (Int × Int)} {K : Nat} {x : Int × Int} (hx : ks[K]? = some x) (e : Int × Int) : (ks.take (K + 1)).filter (· ≠ e) = (ks.take K).filter (· ≠ e) ++ if x = e then [] else [x] := by
  obtain ⟨hK, rfl⟩ := List.getElem?_eq_some_iff.1 hx
  rw [List.take_succ_eq_append_getElem hK, List.filter_append]
  by_cases h : ks[K] = e
  · simp [h]
  · simp [h]

/-- Two pairs of ends are held against each other. -/
theorem pair_eq (x e : Int × Int) (w : World) : (Op.equalIn 10000 64 (.agg #[.int .i64 x.1, .int .i64 x.2]) (.agg #[.int .i64 e.1, .int .i64 e.2])).run Try.prog w = .ok (decide (x = e)) w := by
  have hs : (Op.equalIn 10000 64 (.agg #[.int .i64 x.1, .int .i64 x.2]) (.agg #[.int .i64 e.1, .int .i64 e.2])).run Try.prog w = .ok (x.1 == e.1 && x.2 == e.2) w := by
    have hc : Try.prog.cellsOf 3 = 1 := by kernel_rfl
    have hi' : (Try.prog.info? 3).map (fun i => (i.zero, i.size, i.bytes)) = some (some (.int .i64 0), 1, 8) := by kernel_rfl
    obtain ⟨i0, hi, _, _, _⟩ := info_parts hi'
    rw [run_equalIn_array (P := Try.prog) w 9999 (t := 64) (e := 3) (n := 2) (i := i0) _ _ Try.underlying64 hi, hc]
    simp only [List.range, List.range.loop, Op.eqItems, Sem.run_bind]
    go_simp
    by_cases h1 : x.1 = e.1 <;> by_cases h2 : x.2 = e.2 <;> simp [h1, h2]
  rw [hs]
  congr 1
  obtain ⟨a, b⟩ := x
  obtain ⟨a', b'⟩ := e
  simp
  rfl

/-- So many have been looked at. -/
def Kept (w : World) (B r : Nat) (A : Option Addr) (c : Nat) (L : List Pk) (D : Option Addr) (d : Nat) (ks : List (Int × Int)) (e : Int × Int) (k : Nat) (s i : Value) (wr : World) : Prop :=
  ∃ K X m cx, s = .slice X m cx ∧ i = .int .i64 ((K : Nat) : Int) ∧ K + k = ks.length ∧ RefAt wr B r A c L D d ks ∧ wr.ownsRow w.heap.size 64 2 (.slice X m cx) m (pairs ((ks.take K).filter (· ≠ e))) ∧ Chg No w wr

section
variable (w : World) (B r c d : Nat) (A D : Option Addr) (L : List Pk) (ks : List (Int × Int))

set_option maxHeartbeats 4000000 in
set_option maxRecDepth 100000 in
theorem ref_cut (h : RefAt w B r A c L D d ks) (hB : B ≤ w.heap.size) (hn : ks.length ≤ 100000) (a b : Int) (on : Bool) :
    Calls Try.prog 24 #[.pointer (some ⟨r, 0, none⟩), .int .i64 a, .int .i64 b, .bool on] w fun e w' => e = .returned (.tuple #[]) ∧ ∃ D' d', RefAt w' B r A c L D' d' (cutsAt ks a b on) ∧ Went (RFoot r A D) (RFoot r A D') w w' := by
  obtain ⟨i0, hi, hz0, hz1, hz2⟩ := info_parts Try.info64
  obtain ⟨n, hnl⟩ : ∃ n, n = ks.length := ⟨_, rfl⟩
  have Hn := hide hnl
  have Hm := hide hn
  have h0 : Kept w B r A c L D d ks (endsOf a b) n (.slice none 0 0) (.int .i64 0) w := ⟨0, none, 0, 0, rfl, rfl, by omega, h, by simpa [pairs] using World.ownsRow_nil _ _ _ _, Chg.refl _ _⟩
  clear hnl hn
  go_enter Try.func24, Try.ntmps24
  go_wp2_with fail
  go_loopg [8, 9] n (fun k s i wr => Kept w B r A c L D d ks (endsOf a b) k s i wr)
  case atStart => exact h0
  case round =>
    clear h0
    obtain ⟨K, X, m, cx, rfl, rfl, hk, hR, ho, hc⟩ := hrel
    have Hk := hide hk
    clear hk
    have k1 := hR.k1
    by_cases hK : K < ks.length
    · obtain ⟨x, hx⟩ : ∃ x, ks[K]? = some x := ⟨_, List.getElem?_eq_getElem hK⟩
      obtain ⟨g, rfl, _, _⟩ := own_addr hR.cuts (by omega)
      obtain ⟨x0, x1⟩ := hR.key hx
      have hKi : (K : Int) < ks.length := by omega
      have hKb : K < 100000 := by have := Hm.out; omega
      have Hx := hide hx
      clear hx
      have hq := fun w' => pair_eq x (endsOf a b) w'
      obtain ⟨tb, htb⟩ : ∃ tb, tb = decide (x = endsOf a b) := ⟨_, rfl⟩
      rw [← htb] at hq
      have Htb := hide htb
      clear htb
      go_wp2_with fail
      go_region_held3 (fun w' => w'.cell? ⟨r, 1, none⟩ = some (.slice (some ⟨g, 0, none⟩) ks.length d) ∧ w'.cell? ⟨g, K * 2, none⟩ = some (.int .i64 x.1) ∧ w'.cell? ⟨g, K * 2 + 1, none⟩ = some (.int .i64 x.2)) (first | exact ⟨y1, y2, y3⟩ | exact ⟨k1, x0, x1⟩) (first | (go_at_call 34; refine (ref_ends a b _).mono ?_; rintro e w2 ⟨rfl, hc2⟩; have hR2 := hR.quiet ((Chg.refl No wr).drew.trans hc2 (fun _ _ t => t)); have y1 := hR2.k1; obtain ⟨y2, y3⟩ := hR2.key Hx.out))
      all_goals
        have hcq : Chg No wr w2 := (Chg.refl No wr).drew.trans hc2 (fun _ _ t => t)
        have ho2 := own_chg ho hcq (fun _ _ t => t)
        have hcw := hc.trans hcq (fun _ _ t => t)
        have hm : m ≤ 100000 := by
          have e1 := ho.1
          rw [pairs_length] at e1
          have e2 := List.length_filter_le (fun x => decide (x ≠ endsOf a b)) (ks.take K)
          have e3 := List.length_take_le K ks
          have := Hm.out
          omega
        have hsn := kept_snoc Hx.out (endsOf a b)
        clear hcq hc2 ho hc hR k1 x0 x1
        cases tb with
        | true =>
          rw [if_pos (of_decide_eq_true Htb.out.symm), List.append_nil] at hsn
          go_wp2_with fail
          go_roundg (n - (K + 1))
          case measure => have := Hk.out; have := Hn.out; omega
          case rel => exact ⟨K + 1, X, m, cx, rfl, by go_num, by have := Hn.out; omega, hR2, by rw [hsn]; exact ho2, hcw⟩
        | false =>
          rw [if_neg (of_decide_eq_false Htb.out.symm)] at hsn
          go_wp2_with (at_builtin; refine wpList_append_sees _ rfl (.tmp 30) (.tmp 38) 28 rfl w.heap.size 64 i0 (.agg #[.int .i64 0, .int .i64 0]) 2 16 Try.underlying28 hi hz0 hz1 hz2 rfl (by decide) X m cx _ rfl (own_chg ho2 ((Chg.refl No w2).alloc _) (fun _ _ t => t)) _ (some ⟨w2.heap.size, 0, none⟩) 1 1 [.int .i64 x.1, .int .i64 x.2] rfl (Sees.of_blk (cs := #[.int .i64 x.1, .int .i64 x.2]) (Blk.new _ _ _) rfl) (pair_cells_one x) (by unfold maxLen; omega) (by omega) (by have := hcw.size; simp; omega) ?_; intro X3 c3 w3 hg3)
          rw [← pairs_one, ← pairs_append, ← hsn] at hg3
          have hc3 : Chg No w w3 := (hcw.alloc _).trans hg3.chg (fun i hi hs => by have := (own_lt ho2 hs).1; omega)
          have hR3 : RefAt w3 B r A c L (some ⟨g, 0, none⟩) d ks := (hR2.quiet ((Chg.refl No w2).alloc _)).chg hg3.chg (fun k hk hs => by have := (own_lt ho2 hs).1; have := h.lt k hk; omega)
          go_roundg (n - (K + 1))
          case measure => have := Hk.out; have := Hn.out; omega
          case rel => exact ⟨K + 1, X3, m + 1, c3, rfl, by go_num, by have := Hn.out; omega, hR3, hg3.own, hc3⟩
    · have hKe : K = ks.length := by have := Hk.out; have := Hn.out; omega
      subst hKe
      have hki : ¬ ((ks.length : Int) < ks.length) := by omega
      rw [List.take_length] at ho
      have hml : m = (ks.filter (· ≠ endsOf a b)).length := by have e1 := ho.1; rw [pairs_length] at e1; omega
      have hm : m ≤ 100000 := by
        have e2 := List.length_filter_le (fun x => decide (x ≠ endsOf a b)) ks
        have := Hm.out
        omega
      have Hml := hide hml
      clear hml
      cases on with
      | false =>
        have f1 := hR.blk.frozen 1
        obtain ⟨hR6, hw6⟩ := h.setK (ks' := cutsAt ks a b false) hB hc ho (by rw [Hml.out]; simp [cutsAt]) (by simp [cutsAt])
        have HR6 := hide hR6
        have Hw6 := hide hw6
        clear hR6 hw6
        go_wp2_with fail
        go_end0
        exact ⟨rfl, X, ⟨cx, HR6.out⟩, Hw6.out⟩
      | true =>
        go_wp2_with fail
        refine (ref_ends a b _).mono ?_
        rintro e w2 ⟨rfl, hc2⟩
        have ho2 := own_chg ho hc2 (fun _ _ t => t)
        have hcw := hc.trans hc2 (fun _ _ t => t)
        go_wp2_with (at_builtin; refine wpList_append_sees _ rfl (.tmp 41) (.tmp 45) 28 rfl w.heap.size 64 i0 (.agg #[.int .i64 0, .int .i64 0]) 2 16 Try.underlying28 hi hz0 hz1 hz2 rfl (by decide) X m cx _ rfl (own_chg ho2 ((Chg.refl No w2).alloc _) (fun _ _ t => t)) _ (some ⟨w2.heap.size, 0, none⟩) 1 1 [.int .i64 (endsOf a b).1, .int .i64 (endsOf a b).2] rfl (Sees.of_blk (cs := #[.int .i64 (endsOf a b).1, .int .i64 (endsOf a b).2]) (Blk.new _ _ _) rfl) (pair_cells_one (endsOf a b)) (by unfold maxLen; omega) (by omega) (by have := hcw.size; simp; omega) ?_; intro X3 c3 w3 hg3; have hc3 : Chg No w w3 := (hcw.alloc _).trans hg3.chg (fun i hi hs => by have := (own_lt ho2 hs).1; omega); have k13 := (h.quiet hc3).k1; have f13 := (h.quiet hc3).blk.frozen 1)
        rw [← pairs_one, ← pairs_append] at hg3
        obtain ⟨hR6, hw6⟩ := h.setK (ks' := cutsAt ks a b true) hB hc3 hg3.own (by rw [Hml.out]; simp [cutsAt]) (by simp [cutsAt])
        go_end0
        exact ⟨rfl, _, _, hR6, hw6⟩
end
end Go.Proofs.Ytipdeacaehbbfaa
