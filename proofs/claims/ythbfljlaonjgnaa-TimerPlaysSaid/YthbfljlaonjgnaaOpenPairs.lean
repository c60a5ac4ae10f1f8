/-
  What a slice of pairs of numbers holds that came in.
-/
import Derived.Test.YthbfljlaonjgnaaOpen
import Derived.Test.YthbfljlaonjgnaaTimer
namespace Go.Proofs.Ythbfljlaonjgnaa
open Go.RowKit Go.ChangeShapes Go.WideShapes Go.Deep

def IsPairs (w : World) (a : Option Addr) (len cap : Nat) : Prop :=
  len ≤ cap ∧ cap ≤ maxLen ∧ (len = 0 ∨ ∃ b off, a = some ⟨b, off, none⟩ ∧ b < w.heap.size ∧
    ∀ i, i < len → ∃ c n : Int, w.cell? ⟨b, off + i * 2, none⟩ = some (.int .i64 c) ∧ w.cell? ⟨b, off + i * 2 + 1, none⟩ = some (.int .i64 n) ∧ -9223372036854775808 ≤ n ∧ n ≤ 9223372036854775807)

section
variable {H : Type} {enc : TypeId × Value → H} {w : World} {base : Nat} {spare : Nat → Bool} {held : Bool}
set_option maxRecDepth 100000 in
theorem pairs_open {fuel len cap : Nat} {a : Option Addr} {x : DataW H × List MemPlace} (_ : Try.prog.underlying 43 = some (.slice 44)) (_ : True)
    (h : DataW.trod enc Try.prog w base spare held fuel 43 [.slice a len cap] = some x) : IsPairs w a len cap := by
  obtain ⟨h1, h2, h3⟩ := rows_open (t := 43) (e := 44) (sz := 2) Try.underlying43 (by kernel_rfl) (by omega) h
  refine ⟨h1, h2, ?_⟩
  rcases h3 with h0 | ⟨b, off, e, hb, hi⟩
  · exact .inl h0
  · refine .inr ⟨b, off, e, hb, fun i hi' => ?_⟩
    obtain ⟨cs, n, D, hl, hat, htr⟩ := hi i hi'
    obtain ⟨xs, m, _, _, _, hlen, hf⟩ := DataW.trod_array Try.underlying44 htr
    have e3 : Try.prog.cellsOf 3 = 1 := by kernel_rfl
    obtain ⟨k0, k1, rfl⟩ : ∃ k0 k1 : Value, cs = [k0, k1] := by
      rcases cs with _ | ⟨k0, _ | ⟨k1, _ | ⟨k4, cs⟩⟩⟩
      all_goals first | exact ⟨_, _, rfl⟩ | (simp at hl; done) | (simp at hl; omega)
    have f0 := hf 0 (by omega)
    have f1 := hf 1 (by omega)
    have hx : ∀ i, i < 2 → ∃ y, xs[i]? = some y := fun i hi => ⟨_, List.getElem?_eq_getElem (by rw [hlen]; exact hi)⟩
    obtain ⟨y0, hy0⟩ := hx 0 (by omega)
    obtain ⟨y1, hy1⟩ := hx 1 (by omega)
    rw [hy0] at f0
    rw [hy1] at f1
    simp [e3] at f0 f1
    obtain ⟨s0, hk0, _⟩ := DataW.trod_int Try.underlying3 f0
    obtain rfl : k0 = .int .i64 s0 := by simpa using hk0
    obtain ⟨s1, hk1, _, hwf⟩ := DataW.trod_int Try.underlying3 f1
    obtain rfl : k1 = .int .i64 s1 := by simpa using hk1
    have g0 := hat 0 (by omega)
    have g1 := hat 1 (by omega)
    simp at g0 g1
    have hw : -9223372036854775808 ≤ s1 ∧ s1 ≤ 9223372036854775807 := by
      simp [Lit.wf, IntKind.min, IntKind.max, IntKind.signed, IntKind.bits] at hwf
      omega
    exact ⟨s0, s1, g0, by rw [Nat.add_assoc]; exact g1, hw.1, hw.2⟩
end
end Go.Proofs.Ythbfljlaonjgnaa
