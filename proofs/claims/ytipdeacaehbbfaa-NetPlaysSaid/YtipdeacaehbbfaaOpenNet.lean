/-
  What a slice of calls holds that came in (NetPlays).
-/
import Derived.Test.YtipdeacaehbbfaaOpen
import Derived.Test.YtipdeacaehbbfaaNetSt
namespace Go.Proofs.Ytipdeacaehbbfaa.netPlays
open Go.RowKit Go.ChangeShapes Go.WideShapes Go.Deep

/-- The packets that so many cells hold. -/
theorem pks_of_cells {w : World} {b off : Nat} : ∀ n : Nat, (∀ i, i < n → ∃ p : Pk, (w.cell? ⟨b, off + (i * 3 + 0), none⟩ = some (.int .i64 p.fr) ∧ w.cell? ⟨b, off + (i * 3 + 1), none⟩ = some (.int .i64 p.to) ∧ w.cell? ⟨b, off + (i * 3 + 2), none⟩ = some (.string p.data)) ∧ (Lit.int .i64 p.fr).wf = true ∧ (Lit.int .i64 p.to).wf = true) →
    ∃ zs : List Pk, zs.length = n ∧ (∀ j u, (flat zs)[j]? = some u → w.cell? ⟨b, off + j, none⟩ = some u) ∧ ∀ y ∈ zs, (Lit.int .i64 y.fr).wf = true ∧ (Lit.int .i64 y.to).wf = true := by
  intro n
  induction n with
  | zero => exact fun _ => ⟨[], rfl, by simp [flat], by simp⟩
  | succ n ih =>
    intro h
    obtain ⟨zs, hl, hz, hw⟩ := ih (fun i hi => h i (by omega))
    obtain ⟨p, ⟨h0, h1, h2⟩, hp⟩ := h n (by omega)
    refine ⟨zs ++ [p], by simp [hl], fun j u hu => ?_, fun y hy => ?_⟩
    · rw [flat_append, flat_one] at hu
      have hfl : (flat zs).length = n * 3 := by rw [flat_length, hl]
      rcases Nat.lt_or_ge j (n * 3) with hj | hj
      · rw [List.getElem?_append_left (by omega)] at hu
        exact hz j u hu
      · rw [List.getElem?_append_right (by omega), hfl] at hu
        have hj3 : j - n * 3 < 3 := by
          rcases Nat.lt_or_ge (j - n * 3) 3 with e | e
          · exact e
          · rw [List.getElem?_eq_none (by simpa using e)] at hu; cases hu
        have hc : j = n * 3 + 0 ∨ j = n * 3 + 1 ∨ j = n * 3 + 2 := by omega
        rcases hc with rfl | rfl | rfl
        · have e : n * 3 + 0 - n * 3 = 0 := by omega
          rw [e] at hu; simp at hu; rw [← hu]; exact h0
        · have e : n * 3 + 1 - n * 3 = 1 := by omega
          rw [e] at hu; simp at hu; rw [← hu]; exact h1
        · have e : n * 3 + 2 - n * 3 = 2 := by omega
          rw [e] at hu; simp at hu; rw [← hu]; exact h2
    · rcases List.mem_append.1 hy with hy | hy
      · exact hw y hy
      · simp at hy; rw [hy]; exact hp

section
variable {H : Type} {enc : TypeId × Value → H} {w : World} {base : Nat} {spare : Nat → Bool} {held : Bool}
set_option maxRecDepth 100000 in
theorem pks_open {fuel len cap : Nat} {a : Option Addr} {x : DataW H × List MemPlace} (h : DataW.trod enc Try.prog w base spare held fuel 35 [.slice a len cap] = some x) :
    ∃ zs : List Pk, Sees w w.heap.size 3 a len (flat zs) ∧ ∀ y ∈ zs, (Lit.int .i64 y.fr).wf = true ∧ (Lit.int .i64 y.to).wf = true := by
  obtain ⟨_, _, h3⟩ := rows_open (t := 35) (e := 45) (sz := 3) Try.underlying35 (by kernel_rfl) (by omega) h
  rcases h3 with h0 | ⟨b, off, rfl, hb, hi⟩
  · subst h0
    exact ⟨[], Sees.nil _ _ _ _, by simp⟩
  · obtain ⟨zs, hl, hz, hw⟩ := pks_of_cells (w := w) (b := b) (off := off) len (fun i hi' => by
      obtain ⟨cs, n, D, hl, hat, htr⟩ := hi i hi'
      obtain ⟨xs, m, _, _, _, hlen, hf⟩ := DataW.trod_struct Try.underlying45 htr
      have e3 : Try.prog.cellsOf 3 = 1 := by kernel_rfl
      have e4 : Try.prog.cellsOf 9 = 1 := by kernel_rfl
      obtain ⟨k0, k1, k2, rfl⟩ : ∃ k0 k1 k2 : Value, cs = [k0, k1, k2] := by
        rcases cs with _ | ⟨k0, _ | ⟨k1, _ | ⟨k2, _ | ⟨k3, cs⟩⟩⟩⟩
        all_goals first | exact ⟨_, _, _, rfl⟩ | (simp at hl; done) | (simp at hl; omega)
      have f0 := hf 0 _ rfl
      have f1 := hf 1 _ rfl
      have f2 := hf 2 _ rfl
      have hx : ∀ i, i < 3 → ∃ y, xs[i]? = some y := fun i hi => ⟨_, List.getElem?_eq_getElem (by rw [hlen]; exact hi)⟩
      obtain ⟨y0, hy0⟩ := hx 0 (by omega)
      obtain ⟨y1, hy1⟩ := hx 1 (by omega)
      obtain ⟨y2, hy2⟩ := hx 2 (by omega)
      rw [hy0] at f0
      rw [hy1] at f1
      rw [hy2] at f2
      simp [e3, e4] at f0 f1 f2
      obtain ⟨s0, hk0, _, hw0⟩ := DataW.trod_int Try.underlying3 f0
      obtain rfl : k0 = .int .i64 s0 := by simpa using hk0
      obtain ⟨s1, hk1, _, hw1⟩ := DataW.trod_int Try.underlying3 f1
      obtain rfl : k1 = .int .i64 s1 := by simpa using hk1
      obtain ⟨s2, hk2, _⟩ := DataW.trod_string Try.underlying9 f2
      obtain rfl : k2 = .string s2 := by simpa using hk2
      have g0 := hat 0 (by omega)
      have g1 := hat 1 (by omega)
      have g2 := hat 2 (by omega)
      simp only [List.getElem?_cons_zero, List.getElem?_cons_succ] at g0 g1 g2
      exact ⟨⟨s0, s1, s2⟩, ⟨g0, g1, g2⟩, hw0, hw1⟩)
    exact ⟨zs, ⟨by rw [flat_length, hl], fun _ => ⟨_, rfl, hb, fun j u hu => by rw [add_flat]; exact hz j u hu⟩⟩, hw⟩

/-- The slice is empty, or its elements are calls. -/
def IsOps (w : World) (a : Option Addr) (len _ : Nat) : Prop :=
  len = 0 ∨ ∃ b off, a = some ⟨b, off, none⟩ ∧ b < w.heap.size ∧ ∀ i, i < len → OpAt w b off i

set_option maxRecDepth 100000 in
theorem ops_open {fuel len cap : Nat} {a : Option Addr} {x : DataW H × List MemPlace} (h : DataW.trod enc Try.prog w base spare held fuel 22 [.slice a len cap] = some x) : IsOps w a len cap := by
  obtain ⟨_, _, h3⟩ := rows_open (t := 22) (e := 37) (sz := 4) Try.underlying22 (by kernel_rfl) (by omega) h
  rcases h3 with h0 | ⟨b, off, e, hb, hi⟩
  · exact .inl h0
  · refine .inr ⟨b, off, e, hb, fun i hi' => ?_⟩
    obtain ⟨cs, n, D, hl, hat, htr⟩ := hi i hi'
    obtain ⟨xs, m, _, _, _, hlen, hf⟩ := DataW.trod_struct Try.underlying37 htr
    have e3 : Try.prog.cellsOf 3 = 1 := by kernel_rfl
    have e4 : Try.prog.cellsOf 35 = 1 := by kernel_rfl
    obtain ⟨k0, k1, k2, k3, rfl⟩ : ∃ k0 k1 k2 k3 : Value, cs = [k0, k1, k2, k3] := by
      rcases cs with _ | ⟨k0, _ | ⟨k1, _ | ⟨k2, _ | ⟨k3, _ | ⟨k4, cs⟩⟩⟩⟩⟩
      all_goals first | exact ⟨_, _, _, _, rfl⟩ | (simp at hl; done) | (simp at hl; omega)
    have f0 := hf 0 _ rfl
    have f1 := hf 1 _ rfl
    have f2 := hf 2 _ rfl
    have f3 := hf 3 _ rfl
    have hx : ∀ i, i < 4 → ∃ y, xs[i]? = some y := fun i hi => ⟨_, List.getElem?_eq_getElem (by rw [hlen]; exact hi)⟩
    obtain ⟨y0, hy0⟩ := hx 0 (by omega)
    obtain ⟨y1, hy1⟩ := hx 1 (by omega)
    obtain ⟨y2, hy2⟩ := hx 2 (by omega)
    obtain ⟨y3, hy3⟩ := hx 3 (by omega)
    rw [hy0] at f0
    rw [hy1] at f1
    rw [hy2] at f2
    rw [hy3] at f3
    simp [e3, e4] at f0 f1 f2 f3
    obtain ⟨s0, hk0, _⟩ := DataW.trod_int Try.underlying3 f0
    obtain rfl : k0 = .int .i64 s0 := by simpa using hk0
    obtain ⟨s1, hk1, _, hw1⟩ := DataW.trod_int Try.underlying3 f1
    obtain rfl : k1 = .int .i64 s1 := by simpa using hk1
    obtain ⟨s2, hk2, _, hw2⟩ := DataW.trod_int Try.underlying3 f2
    obtain rfl : k2 = .int .i64 s2 := by simpa using hk2
    have g0 := hat 0 (by omega)
    have g1 := hat 1 (by omega)
    have g2 := hat 2 (by omega)
    have g3 := hat 3 (by omega)
    simp at g0 g1 g2 g3
    obtain ⟨S, sl, sc, rfl⟩ : ∃ S sl sc, k3 = .slice S sl sc := by
      rcases open_slice Try.underlying35 f3 with ⟨h0, _⟩ | ⟨ad, l, c, _, _, _, _, hcs, _⟩
      · exact ⟨_, _, _, by simpa using h0⟩
      · exact ⟨_, _, _, by simpa using hcs⟩
    obtain ⟨zs, hzs, hzw⟩ := pks_open f3
    exact ⟨s0, s1, s2, S, sl, sc, zs, g0, by rw [Nat.add_assoc]; exact g1, by rw [Nat.add_assoc]; exact g2, by rw [Nat.add_assoc]; exact g3, hw1, hw2, hzs, hzw⟩
theorem ops_open2 {fuel len cap : Nat} {a : Option Addr} {x : DataW H × List MemPlace} (_ : Try.prog.underlying 22 = some (.slice 37)) (_ : True)
    (h : DataW.trod enc Try.prog w base spare held fuel 22 [.slice a len cap] = some x) : IsOps w a len cap := ops_open h
end
end Go.Proofs.Ytipdeacaehbbfaa.netPlays
