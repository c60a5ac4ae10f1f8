/- RingTexts: for every room, every list of texts and every list of pops the law returns true, and its input reads behind the call as it read before. No condition. -/
import Derived.Test.YtinklonbkhmpdaaWTexts
import Derived.Test.YtinklonbkhmpdaaRows
import Derived.Test.YtinklonbkhmpdaaOpen
import Derived.WalkKit
import Derived.ProofKit
import Derived.OpenShut
import Derived.ShutString
import Derived.ChangeOld
import Derived.Below
namespace Go.Proofs.Ytinklonbkhmpdaa.ringTexts
open Go.ChangeShapes Go.WideShapes Go.ChangeAt Go.RowKit
open Go.ChangeMaps (open_string shut_string)
set_option linter.unusedVariables false

theorem own : ownKnob Try.prog.godebug = none := by kernel_rfl
theorem laidOut : laidOutB Try.prog = true := by kernel_rfl

/-! ### The walk -/
theorem walk (a0 : Int) (a1 : Option Addr) (len1 cap1 : Nat) (a2 : Option Addr) (len2 cap2 : Nat) (w : World) (w0 : (Lit.int .i64 a0).wf = true) (w1 : IsCells w a1 len1 cap1 (fun v => ∃ s : ByteArray, v = .string s)) (w2 : IsCells w a2 len2 cap2 (fun v => ∃ s : Bool, v = .bool s)) :
    Calls Try.prog 4 #[.int .i64 a0, .slice a1 len1 cap1, .slice a2 len2 cap2] w fun e w' => e = .returned (.bool true) ∧ Below w.heap.size w w' := by
  by_cases h : (100 : Int) < len1 ∨ ((len1 : Int) ≤ 100 ∧ (200 : Int) < len2) ∨ ((len1 : Int) ≤ 100 ∧ (len2 : Int) ≤ 200 ∧ 1000 < a0)
  · exact out a0 len1 cap1 len2 cap2 a1 a2 w h
  · obtain ⟨_, _, w1⟩ := w1
    obtain ⟨_, _, w2⟩ := w2
    rcases w1 with rfl | ⟨b, off, rfl, hb, hc⟩
    · exact main0 a0 cap1 len2 cap2 a1 a2 w (by omega) (by omega)
    · have hc1 : ∀ i, i < len1 → ∃ s : ByteArray, w.cell? ⟨b, off + i, none⟩ = some (.string s) := fun i hi => by
        obtain ⟨v, hv, s, rfl⟩ := hc i hi
        exact ⟨s, hv⟩
      rcases w2 with rfl | ⟨b', off', rfl, hb', hc'⟩
      · exact main a0 len1 cap1 0 cap2 b off 0 0 a2 w (by omega) (by omega) (by omega) hb hc1 (fun h => by omega) (fun h => by omega) (fun i hi => by omega)
      · exact main a0 len1 cap1 len2 cap2 b off b' off' _ w (by omega) (by omega) (by omega) hb hc1 (fun _ => rfl) (fun _ => hb') (fun i hi => by
          obtain ⟨v, hv, s, rfl⟩ := hc' i hi
          exact ⟨s, hv⟩)

/-! ### The row's step -/
set_option maxRecDepth 100000 in
theorem lifted (os : Os) (started : os.Started) (H : Type) (enc : TypeId × Value → H) :
    ReturnsInHanded {} Try.checked os 4 .any (Rows.ringTextsSpec.pre6 enc Try.prog Try.f4 Rows.ringTextsRow.domain false) (Rows.ringTextsSpec.post enc Try.prog Try.f4 false true false false) := by
  refine returnsInHanded_of_change (C := Try.checked) own started (by kernel_rfl) Try.func4
    (ChangeSpec.witness6 (enc := enc) (C := Try.checked) false ⟨#[], #[.int .i64 0, .slice none 0 0, .slice none 0 0], []⟩ 8 (by kernel_rfl) (by kernel_rfl) (by kernel_rfl) (by kernel_rfl)) ?_
  intro W base args ds gs before hval0 hW hcnd _
  have hval : ∀ (j : Nat) t v, Try.f4.params[j]? = some t → args[j]? = some v → Value.okWide Try.prog W .any base t v := hval0
  have hW' := hW
  obtain ⟨p, q, hA0, hV, rfl, hfz, hnd⟩ := hW
  have hA : DataW.TrodAll enc Try.prog W 0 (fun _ => true) true Try.f4.params.toList args.toList ds p := hA0
  rw [Try.params4] at hA hval
  obtain ⟨v0, vs0, d0, ds0, p0, q0, hargs, rfl, rfl, h0, r0⟩ := trodAll_cons hA
  obtain ⟨v1, vs1, d1, ds1, p1, q1, rfl, rfl, rfl, h1, r1⟩ := trodAll_cons r0
  obtain ⟨v2, vs2, d2, ds2, p2, q2, rfl, rfl, rfl, h2, r2⟩ := trodAll_cons r1
  obtain ⟨rfl, rfl, rfl⟩ := trodAll_nil r2
  obtain rfl : args = #[v0, v1, v2] := by cases args; simp_all
  obtain ⟨rfl, rfl⟩ := trodVars_none hV
  obtain ⟨a0, rfl, rfl, rfl, w0⟩ := open_int Try.underlying3 (hval 0 3 v0 rfl rfl) h0
  obtain ⟨a1, len1, cap1, rfl⟩ := okWide_slice Try.underlying32 (hval 1 32 v1 rfl rfl)
  have k1 := h1
  have lt1 : ∀ x ∈ p1, x.block < W.heap.size := by obtain ⟨m, hm⟩ := k1; exact DataW.trod_lt m _ _ _ hm
  have w1 : IsCells W a1 len1 cap1 (fun v => ∃ s : ByteArray, v = .string s) := by
    obtain ⟨fuel, hf⟩ := h1
    exact texts_open Try.underlying32 Try.underlying9 (by kernel_rfl) (by simpa [Value.cells] using hf)
  obtain ⟨a2, len2, cap2, rfl⟩ := okWide_slice Try.underlying33 (hval 2 33 v2 rfl rfl)
  have k2 := h2
  have lt2 : ∀ x ∈ p2, x.block < W.heap.size := by obtain ⟨m, hm⟩ := k2; exact DataW.trod_lt m _ _ _ hm
  have w2 : IsCells W a2 len2 cap2 (fun v => ∃ s : Bool, v = .bool s) := by
    obtain ⟨fuel, hf⟩ := h2
    exact bools_open Try.underlying33 Try.underlying4 (by kernel_rfl) (by simpa [Value.cells] using hf)
  clear hA0 hval0
  refine (walk a0 a1 len1 cap1 a2 len2 cap2 W w0 w1 w2).mono fun e W' ⟨he, bel⟩ => ?_
  subst he
  exact ⟨_, rfl, _, _, _, [], _, [], hW', trodAll_mk1 (shut_bool Try.underlying4 _), (trodAll_cons_mk (shut_int Try.underlying3 w0) (trodAll_cons_mk (Below.trod laidOut (by kernel_rfl) (of_decide_eq_true (by kernel_rfl)) k1 bel lt1) (trodAll_cons_mk (Below.trod laidOut (by kernel_rfl) (of_decide_eq_true (by kernel_rfl)) k2 bel lt2) trodAll_mk0))), rfl, bel.frame _, fun h => by cases h⟩

theorem over : Rows.ringTextsRow.holds Try.pinned (OpenSpec.ofChange Rows.ringTextsSpec) :=
  OpenClaim.holds_of_wide 4 Try.f4 rfl rfl rfl rfl rfl rfl rfl ⟨rfl, rfl, rfl, rfl, rfl⟩ rfl rfl rfl rfl rfl (by kernel_rfl) Try.func4 (by kernel_rfl)
    (of_decide_eq_true (by kernel_rfl)) (by unfold Func.isWrapper; first | (rw [if_pos (by decide +kernel)]; kernel_rfl) | (rw [if_neg (by decide +kernel)]; exact ⟨rfl, rfl⟩))
    (fun os started H enc _ => lifted os started H enc)

/-- The statement. -/
theorem proved : Rows.RingTextsSaid := over
#print axioms proved
end Go.Proofs.Ytinklonbkhmpdaa.ringTexts
