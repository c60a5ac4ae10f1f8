/-
  The ends of a cut, in order; the set of cuts as a map's block.
-/
import Derived.Test.YtipdeacaehbbfaaClone
import Derived.DeepKeys4
import Derived.WideKeyArr
import Derived.Maps.Keyed
namespace Go.Proofs.Ytipdeacaehbbfaa
open Go.RowKit

def endsOf (a b : Int) : Int × Int := (min a b, max a b)
abbrev pairVal (e : Int × Int) : Value := .agg #[.int .i64 e.1, .int .i64 e.2]

theorem ends_any (a b : Int) (w : World) : Calls Try.prog 31 #[.int .i64 a, .int .i64 b] w fun e w' => e = .returned (pairVal (endsOf a b)) ∧ Chg No w w' := by
  go_enter Try.func31, Try.ntmps31
  go_wp2
  exact bodyPost_ret (v := pairVal (endsOf a b)) (by simp [results, Try.results31, go_sem, endsOf]) rfl ⟨rfl, (Chg.refl No w).alloc _⟩

/-! ### A map whose keys are such pairs -/

theorem Try.laidOut_ : laidOutB Try.prog = true := by kernel_rfl
theorem pair_arr : WideMaps.ArrKey Try.prog 64 3 2 := ⟨Try.underlying64, by kernel_rfl, by kernel_rfl, by kernel_rfl⟩
theorem pair_law : WideMaps.KeyLaw Try.prog 64 := pair_arr.law
theorem pair_size : ∃ m, Try.prog.types.size = m + 1 := by
  have h : decide (0 < Try.prog.types.size) = true := by kernel_rfl
  exact ⟨Try.prog.types.size - 1, by have := of_decide_eq_true h; omega⟩
theorem pair_key (e : Int × Int) (h1 : (Lit.int .i64 e.1).wf = true) (h2 : (Lit.int .i64 e.2).wf = true) : ∃ l, keyOf Try.prog 64 (pairVal e) = some l := by
  have hk : Try.prog.keyType 64 = true := pair_arr.keyType pair_size
  have hf : (pairVal e).formed Try.prog 64 = true := by simp [Value.formed, Try.underlying64, pair_arr.size]
  obtain ⟨m, hm⟩ := pair_size
  have hl : Try.prog.keyLits (Try.prog.types.size + 1) 64 (pairVal e).cells.toList = some [.int .i64 e.1, .int .i64 e.2] := by
    rw [hm]
    unfold Program.keyLits
    rw [Try.underlying64]
    simp only [pair_arr.size, pair_arr.one]
    have hi : ∀ n, (Lit.int .i64 n).wf = true → Try.prog.keyLits (m + 1) 3 [.int .i64 n] = some [.int .i64 n] := by
      intro n hn
      unfold Program.keyLits
      rw [Try.underlying3]
      simp [hn]
    have c : (pairVal e).cells.toList = [.int .i64 e.1, .int .i64 e.2] := rfl
    rw [c]
    simp [List.range, List.range.loop, hi e.1 h1, hi e.2 h2]
  unfold keyOf
  rw [Try.underlying64]
  simp only [hk, hf, hl, Bool.and_self, if_true, Option.map_some]
  exact ⟨_, rfl⟩
end Go.Proofs.Ytipdeacaehbbfaa
