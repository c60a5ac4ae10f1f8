/-
  Packets that are lent, and stay.
-/
import Derived.Test.YtipdeacaehbbfaaNetNil
import Derived.Deep.LoopGhost
import Derived.Deep.QuietTactic
import Derived.BigQuiet
import Derived.Outline
namespace Go.Proofs.Ytipdeacaehbbfaa
open Go.RowKit
set_option linter.unusedSimpArgs false

theorem Try.info45_ : (Try.prog.info? 45).map (fun i => (i.zero, i.size, i.bytes)) = some (some (.agg #[.int .i64 0, .int .i64 0, .string ⟨#[]⟩]), 3, 32) := by kernel_rfl

/-- A packet of a list that is read, its three cells. -/
theorem sees_pk {w : World} {B n b off K : Nat} {zs : List Pk} {z : Pk} (h : ∀ j u, (flat zs)[j]? = some u → w.cell? ⟨b, off + j, none⟩ = some u) (hz : zs[K]? = some z) (_ : n = n) (_ : B = B) :
    w.cell? ⟨b, off + K * 3, none⟩ = some (.int .i64 z.fr) ∧ w.cell? ⟨b, off + K * 3 + 1, none⟩ = some (.int .i64 z.to) ∧ w.cell? ⟨b, off + K * 3 + 2, none⟩ = some (.string z.data) := by
  obtain ⟨e0, e1, e2⟩ := flat_get hz
  have y0 := h _ _ e0
  have y1 := h _ _ e1
  have y2 := h _ _ e2
  rw [← Nat.add_assoc] at y1 y2
  exact ⟨y0, y1, y2⟩

/-- The loop's counter, the world behind some draws. -/
def PkSame (w : World) (n k : Nat) (i : Value) (wr : World) : Prop := ∃ K q : Nat, i = .int .i64 (K : Int) ∧ K + k = n ∧ w.drewN q = wr

theorem pk_same (w : World) (B C n c d : Nat) (X Y : Option Addr) (zs : List Pk) (hx : Sees w B 3 X n (flat zs)) (hy : Sees w C 3 Y n (flat zs)) (hn : n ≤ 1000000) :
    Calls Try.prog 35 #[.slice X n c, .slice Y n d] w fun e w' => e = .returned (.bool true) ∧ ∃ q, w.drewN q = w' := by
  rcases Nat.eq_zero_or_pos n with rfl | hp
  · clear hx hy hn
    go_enter Try.func35, Try.ntmps35
    go_wp2
    refine wp_loop_rounds 1 ?_
    rw [rounds_succ]
    go_wp2
    go_ret
    exact ⟨rfl, 0, rfl⟩
  · obtain ⟨b, off, rfl, _, hcx⟩ := hx.spot hp (by omega)
    obtain ⟨b', off', rfl, _, hcy⟩ := hy.spot hp (by omega)
    have hl : zs.length = n := by have := hx.1; rw [flat_length] at this; omega
    have Hl := hide hl
    have Hx := hide hcx
    have Hy := hide hcy
    have hm : (n : Int) ≤ 1000000 := by omega
    clear hl hcx hcy hx hy
    go_enter Try.func35, Try.ntmps35
    go_wp2
    go_loopg [5] n (fun k i wr => PkSame w n k i wr)
    case atStart => exact ⟨0, 0, rfl, by omega, rfl⟩
    case round =>
      obtain ⟨K, q, rfl, hk, rfl⟩ := hrel
      have Hk := hide hk
      clear hk
      by_cases hlt : K < n
      · have hK : K < zs.length := by rw [Hl.out]; exact hlt
        obtain ⟨z, hz⟩ : ∃ z, zs[K]? = some z := ⟨_, List.getElem?_eq_getElem hK⟩
        obtain ⟨c0, c1, c2⟩ := sees_pk Hx.out hz (n := n) rfl (B := n) rfl
        obtain ⟨c3, c4, c5⟩ := sees_pk Hy.out hz (n := n) rfl (B := n) rfl
        clear hz hK
        have hi : (K : Int) < n := by omega
        go_wp2_with fail
        go_quiet (fail)
        go_wp2
        go_roundg (n - (K + 1))
        case measure => have := Hk.out; omega
        case rel => exact ⟨K + 1, _, by go_num, by omega, rfl⟩
      · go_wp2
        go_ret
        exact ⟨rfl, q, rfl⟩

def mark : Pk := ⟨-77, 0, ⟨#[]⟩⟩
/-- What is lent: the list with a mark behind it. -/
def LentPkPost (w : World) (n : Nat) (l : List Pk) (e : Ending) (w' : World) : Prop :=
  ∃ A c, e = .returned (.slice A n c) ∧ w'.ownsRow w.heap.size 45 3 (.slice A (n + 1) c) (n + 1) (flat (l ++ [mark])) ∧ Chg No w w'

theorem lent_pk (w : World) (C n c : Nat) (X : Option Addr) (l : List Pk) (h : Sees w C 3 X n (flat l)) (hn : n ≤ 1000000) :
    Calls Try.prog 10 #[.slice X n c] w (LentPkPost w n l) := by
  obtain ⟨i0, hi, hz0, hz1, hz2⟩ := info_parts Try.info45_
  have hm : (n : Int) ≤ 1000000 := by omega
  go_enter Try.func10, Try.ntmps10
  go_wp2_with (first
    | (at_builtin; refine wpList_append_sees _ rfl (.const (.slice none 0 0)) (.tmp 3) 35 rfl w.heap.size 45 i0 (.agg #[.int .i64 0, .int .i64 0, .string ⟨#[]⟩]) 3 32 Try.underlying35 hi hz0 hz1 hz2 rfl (by decide) none 0 0 [] rfl (World.ownsRow_nil _ _ _ _) C X n c _ rfl h (flat_one_cell _) (by unfold maxLen; omega) (by omega) (Nat.le_refl _) ?_; intro A1 c1 w1 hg1; rw [Nat.zero_add, List.nil_append] at hg1)
    | (at_builtin; refine wpList_append_sees _ rfl (.tmp 4) (.tmp 6) 35 rfl w.heap.size 45 i0 (.agg #[.int .i64 0, .int .i64 0, .string ⟨#[]⟩]) 3 32 Try.underlying35 hi hz0 hz1 hz2 rfl (by decide) A1 n c1 (flat l) rfl (own_chg hg1.own ((Chg.refl No w1).alloc _) (fun _ _ t => t)) _ (some ⟨w1.heap.size, 0, none⟩) 1 1 [.int .i64 (-77), .int .i64 0, .string ⟨#[]⟩] rfl (Sees.of_blk (cs := #[.int .i64 (-77), .int .i64 0, .string ⟨#[]⟩]) (Blk.new _ _ _) rfl) (by simp [Value.oneCell']) (by unfold maxLen; omega) (by omega) (by have := hg1.by_.size; simp; omega) ?_; intro A2 c2 w2 hg2; have hc2 := own_cap hg2.own; have hc3 : (n : Int) ≤ c2 := (by omega)))
  go_ret
  have hc1 : Chg No w w1 := hg1.chg.mono (by simp [blkOf])
  refine ⟨A2, c2, rfl, by rw [flat_append, flat_one]; exact hg2.own, ⟨hg2.by_.os.trans hc1.os, hg2.by_.tape.trans hc1.tape, hg2.by_.output.trans hc1.output, ?_, fun k hk _ => ?_⟩⟩
  · have := hg2.by_.size; have := hc1.size; simp at *; omega
  · have h1 := hg2.by_.block k (by have := hc1.size; simp; omega) (fun e => by have := (own_lt hg1.own e.symm).1; omega)
    rw [h1, Below.heap_alloc _ _ _ (by have := hc1.size; omega)]
    exact hc1.block k hk (fun t => t)

theorem lent_pk_sees {w : World} {B n c : Nat} {A : Option Addr} {l : List Pk} (ho : w.ownsRow B 45 3 (.slice A (n + 1) c) (n + 1) (flat (l ++ [mark]))) : Sees w w.heap.size 3 A n (flat l) := by
  have hl : l.length = n := by have := ho.1; rw [flat_length, List.length_append, List.length_singleton] at this; omega
  have := (Sees.of_own ho).take (k := n) (by omega)
  rw [flat_take, List.take_left' hl] at this
  exact this

theorem stays_pk (w : World) (B C n c d : Nat) (A X : Option Addr) (l : List Pk) (ho : w.ownsRow B 45 3 (.slice A (n + 1) c) (n + 1) (flat (l ++ [mark]))) (h : Sees w C 3 X n (flat l)) (hn : n ≤ 1000000) :
    Calls Try.prog 14 #[.slice A n c, .slice X n d] w fun e w' => e = .returned (.bool true) ∧ ∃ q, w.drewN q = w' := by
  have hc := own_cap ho
  have hm : (n : Int) ≤ 1000000 := by omega
  have hc1 : (n : Int) + 1 ≤ c := by omega
  have hl : l.length = n := by have := ho.1; rw [flat_length, List.length_append, List.length_singleton] at this; omega
  obtain ⟨g, hA, _, _⟩ := own_addr ho (by omega)
  have hmk : (l ++ [mark])[n]? = some mark := by rw [List.getElem?_append_right (by omega), hl]; simp
  obtain ⟨e0, _, _⟩ := flat_get hmk
  have hcell := own_cells ho hA (n * 3) _ e0
  rw [add_flat, Nat.zero_add] at hcell
  have hcell' : w.cell? ⟨g, n * 3, none⟩ = some (.int .i64 (-77)) := hcell
  have hs := lent_pk_sees ho
  subst hA
  clear hl hcell e0 hmk
  go_enter Try.func14, Try.ntmps14
  go_wp2_with (go_at_call 35; refine (pk_same _ _ _ _ _ _ _ _ l hs h hn).mono ?_; rintro e w' ⟨rfl, q, rfl⟩)
  go_ret
  exact ⟨rfl, q, rfl⟩
end Go.Proofs.Ytipdeacaehbbfaa
