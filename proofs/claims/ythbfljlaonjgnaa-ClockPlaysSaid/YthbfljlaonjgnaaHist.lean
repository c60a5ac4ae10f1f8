/-
  What a clock's steps come to. (Plain: no program in sight.)
-/
import Derived.Test.YthbfljlaonjgnaaClockAlive
namespace Go.Proofs.Ythbfljlaonjgnaa
open Go.RowKit

/-- So many steps: full eights, each within the bound while it was kept, and a tail that is part of the last steps. -/
def Hist (T : Nat) (now : Int) (ls : List Int) (br : Bool) : Prop :=
  ∃ (k : Nat) (pre tail : List Int) (S : Int), T = 8 * k + tail.length ∧ tail.length < 8 ∧ ls = pre ++ tail ∧ ls.length = min T 8 ∧ now = S + tail.sum ∧ (∀ x ∈ ls, 0 ≤ x ∧ x ≤ 8) ∧
    (br = false → 7 * k ≤ S ∧ S ≤ 9 * k ∧ badSum ls = false) ∧ 0 ≤ now ∧ now ≤ 8 * T

theorem Hist.start : Hist 0 0 [] false :=
  ⟨0, [], [], 0, rfl, by simp, rfl, rfl, rfl, by simp, fun _ => ⟨by omega, by omega, rfl⟩, by omega, by omega⟩
theorem Hist.in_ {T : Nat} {now : Int} {ls : List Int} {br : Bool} (h : Hist T now ls br) : ∀ x ∈ ls, 0 ≤ x ∧ x ≤ 8 := by
  obtain ⟨_, _, _, _, _, _, _, _, _, h, _⟩ := h
  exact h
theorem Hist.range {T : Nat} {now : Int} {ls : List Int} {br : Bool} (h : Hist T now ls br) : 0 ≤ now ∧ now ≤ 8 * T := by
  obtain ⟨_, _, _, _, _, _, _, _, _, _, _, h⟩ := h
  exact h

theorem bad_false {ls : List Int} (h : badSum ls = false) (hl : ls.length = 8) : 7 ≤ ls.sum ∧ ls.sum ≤ 9 := by
  unfold badSum at h
  have := of_decide_eq_false h
  omega

theorem Hist.step {T : Nat} {now b : Int} {ls : List Int} {br : Bool} (h : Hist T now ls br) (hb : 0 ≤ b ∧ b ≤ 8) : Hist (T + 1) (now + b) (lastOf ls b) (br || badSum (lastOf ls b)) := by
  have hin' := last_in h.in_ hb
  obtain ⟨k, pre, tail, S, h1, h2, rfl, h4, h5, h6, h7, h8, h9⟩ := h
  have hlen : (lastOf (pre ++ tail) b).length = min (T + 1) 8 := by
    rw [lastOf_length (by omega)]
    split <;> omega
  obtain ⟨pre', hp⟩ : ∃ pre', lastOf (pre ++ tail) b = pre' ++ (tail ++ [b]) := by
    unfold lastOf
    split
    · rename_i he
      have hpl : 1 ≤ pre.length := by
        rw [List.length_append] at he
        omega
      refine ⟨pre.drop 1, ?_⟩
      rw [List.drop_append_of_le_length hpl, List.append_assoc]
    · exact ⟨pre, by rw [List.append_assoc]⟩
  by_cases he : tail.length + 1 < 8
  · refine ⟨k, pre', tail ++ [b], S, by simp; omega, by simp; omega, hp, hlen, by rw [List.sum_append]; simp; omega, hin', fun hbr => ?_, by omega, by omega⟩
    simp only [Bool.or_eq_false_iff] at hbr
    obtain ⟨g1, g2, _⟩ := h7 hbr.1
    exact ⟨g1, g2, hbr.2⟩
  · have h8' : tail.length = 7 := by omega
    have hpre : pre' = [] := by
      have : (pre' ++ (tail ++ [b])).length = min (T + 1) 8 := by rw [← hp]; exact hlen
      simp at this
      exact List.eq_nil_of_length_eq_zero (by omega)
    subst hpre
    refine ⟨k + 1, tail ++ [b], [], S + (tail ++ [b]).sum, by simp; omega, by simp, by simp [hp], hlen, by simp [List.sum_append]; omega, hin', fun hbr => ?_, by omega, by omega⟩
    simp only [Bool.or_eq_false_iff] at hbr
    obtain ⟨g1, g2, _⟩ := h7 hbr.1
    have g3 := bad_false hbr.2 (by rw [hlen]; omega)
    rw [hp] at g3
    simp only [List.nil_append] at g3
    refine ⟨by omega, by omega, hbr.2⟩

theorem Hist.bound {T : Nat} {now : Int} {ls : List Int} (h : Hist T now ls false) (hT : 8 ≤ T) : 7 * (T : Int) - 72 ≤ 8 * now ∧ 8 * now ≤ 9 * (T : Int) + 72 := by
  obtain ⟨k, pre, tail, S, h1, h2, rfl, h4, h5, h6, h7, _⟩ := h
  obtain ⟨g1, g2, g3⟩ := h7 rfl
  obtain ⟨g4, g5⟩ := bad_false g3 (by omega)
  have g6 := sum_bound tail (fun x hx => h6 x (by simp [hx]))
  have g7 := sum_bound pre (fun x hx => h6 x (by simp [hx]))
  rw [List.sum_append] at g4 g5
  omega

/-- The last eight of a list. -/
def last8 (bs : List Int) : List Int := bs.drop (bs.length - 8)
theorem last8_snoc (bs : List Int) (b : Int) : lastOf (last8 bs) b = last8 (bs ++ [b]) := by
  unfold lastOf last8
  rw [List.length_drop, List.length_append, List.length_singleton]
  rcases Nat.lt_or_ge bs.length 8 with h | h
  · rw [if_neg (by omega), show bs.length - 8 = 0 by omega, show bs.length + 1 - 8 = 0 by omega]
    rfl
  · rw [if_pos (by omega), List.drop_drop, List.drop_append_of_le_length (by omega), show bs.length - 8 + 1 = bs.length + 1 - 8 by omega]
theorem last8_length (bs : List Int) : (last8 bs).length = min bs.length 8 := by
  unfold last8
  rw [List.length_drop]
  omega
end Go.Proofs.Ythbfljlaonjgnaa
