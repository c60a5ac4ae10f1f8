/-
  What a slice of calls holds that came in.
-/
import Derived.Test.YtinklonbkhmpdaaGreatOpen
import Derived.Test.YtinklonbkhmpdaaGreatPlays
namespace Go.Proofs.YtinklonbkhmpdaaGreat.ringPlays
open Go.RowKit Go.ChangeShapes Go.WideShapes Go.Deep

/-- The ints that so many cells hold. -/
theorem ints_of_cells {w : World} {b off : Nat} : ∀ n : Nat, (∀ i, i < n → ∃ s : Int, w.cell? ⟨b, off + i, none⟩ = some (.int .i64 s)) →
    ∃ zs : List Int, zs.length = n ∧ ∀ j u, (nums zs)[j]? = some u → w.cell? ⟨b, off + j, none⟩ = some u := by
  intro n
  induction n with
  | zero => exact fun _ => ⟨[], rfl, by simp⟩
  | succ n ih =>
    intro h
    obtain ⟨zs, hl, hz⟩ := ih (fun i hi => h i (by omega))
    obtain ⟨s, hs⟩ := h n (by omega)
    refine ⟨zs ++ [s], by simp [hl], fun j u hu => ?_⟩
    unfold nums at hu
    rw [List.map_append] at hu
    rcases Nat.lt_or_ge j n with hj | hj
    · rw [List.getElem?_append_left (by simpa [hl] using hj)] at hu
      exact hz j u hu
    · rw [List.getElem?_append_right (by simpa [hl] using hj)] at hu
      simp only [List.length_map, hl] at hu
      obtain rfl : j = n := by
        rcases Nat.eq_zero_or_pos (j - n) with e | e
        · omega
        · rw [List.getElem?_eq_none (by simp; omega)] at hu
          cases hu
      simp at hu
      rw [← hu]
      exact hs

theorem sees_of_isCells {w : World} {a : Option Addr} {len cap : Nat} {Q : Value → Prop} (hQ : ∀ v, Q v → ∃ s : Int, v = .int .i64 s) (h : IsCells w a len cap Q) : ∃ zs : List Int, Sees w w.heap.size 1 a len (nums zs) := by
  obtain ⟨_, _, h0 | ⟨b, off, rfl, hb, hc⟩⟩ := h
  · subst h0
    exact ⟨[], Sees.nil _ _ _ _⟩
  · obtain ⟨zs, hl, hz⟩ := ints_of_cells (w := w) (b := b) (off := off) len (fun i hi => by
      obtain ⟨v, hv, hq⟩ := hc i hi
      obtain ⟨s, rfl⟩ := hQ v hq
      exact ⟨s, hv⟩)
    exact ⟨zs, by simp [hl], fun _ => ⟨_, rfl, hb, fun j u hu => by rw [add_flat]; exact hz j u hu⟩⟩

/-- The slice is empty, or its elements are calls. -/
def IsOps (w : World) (a : Option Addr) (len cap : Nat) : Prop :=
  len ≤ cap ∧ cap ≤ maxLen ∧ (len = 0 ∨ ∃ b off, a = some ⟨b, off, none⟩ ∧ b < w.heap.size ∧ ∀ i, i < len → OpAt w b off i)

section
variable {H : Type} {enc : TypeId × Value → H} {w : World} {base : Nat} {spare : Nat → Bool} {held : Bool}
set_option maxRecDepth 100000 in
theorem ops_open {fuel len cap : Nat} {a : Option Addr} {x : DataW H × List MemPlace} (h : DataW.trod enc Tryz.prog w base spare held fuel 22 [.slice a len cap] = some x) : IsOps w a len cap := by
  obtain ⟨h1, h2, h3⟩ := rows_open (t := 22) (e := 49) (sz := 4) Tryz.underlying22 (by kernel_rfl) (by omega) h
  refine ⟨h1, h2, ?_⟩
  rcases h3 with h0 | ⟨b, off, e, hb, hi⟩
  · exact .inl h0
  · refine .inr ⟨b, off, e, hb, fun i hi' => ?_⟩
    obtain ⟨cs, n, D, hl, hat, htr⟩ := hi i hi'
    obtain ⟨xs, m, _, _, _, hlen, hf⟩ := DataW.trod_struct Tryz.underlying49 htr
    have e3 : Tryz.prog.cellsOf 3 = 1 := by kernel_rfl
    have e4 : Tryz.prog.cellsOf 27 = 1 := by kernel_rfl
    obtain ⟨k0, k1, k2, k3, rfl⟩ : ∃ k0 k1 k2 k3 : Value, cs = [k0, k1, k2, k3] := by
      rcases cs with _ | ⟨k0, _ | ⟨k1, _ | ⟨k2, _ | ⟨k3, _ | ⟨k4, cs⟩⟩⟩⟩⟩
      all_goals first | exact ⟨_, _, _, _, rfl⟩ | (simp at hl; done) | (simp at hl; omega)
    have f0 := hf 0 _ rfl
    have f1 := hf 1 _ rfl
    have f2 := hf 2 _ rfl
    have f3 := hf 3 _ rfl
    have hx : ∀ i, i < 4 → ∃ y, xs[i]? = some y := fun i hi => ⟨_, List.getElem?_eq_getElem (by rw [hlen]; exact hi)⟩
    obtain ⟨y0, hy0⟩ := hx 0 (by omega)
    obtain ⟨y1, hy1⟩ := hx 1 (by omega)
    obtain ⟨y2, hy2⟩ := hx 2 (by omega)
    obtain ⟨y3, hy3⟩ := hx 3 (by omega)
    rw [hy0] at f0
    rw [hy1] at f1
    rw [hy2] at f2
    rw [hy3] at f3
    simp [e3, e4] at f0 f1 f2 f3
    obtain ⟨s0, hk0, _⟩ := DataW.trod_int Tryz.underlying3 f0
    obtain rfl : k0 = .int .i64 s0 := by simpa using hk0
    obtain ⟨s1, hk1, _⟩ := DataW.trod_int Tryz.underlying3 f1
    obtain rfl : k1 = .int .i64 s1 := by simpa using hk1
    obtain ⟨s2, hk2, _⟩ := DataW.trod_int Tryz.underlying3 f2
    obtain rfl : k2 = .int .i64 s2 := by simpa using hk2
    have g0 := hat 0 (by omega)
    have g1 := hat 1 (by omega)
    have g2 := hat 2 (by omega)
    have g3 := hat 3 (by omega)
    simp at g0 g1 g2 g3
    obtain ⟨S, sl, sc, rfl⟩ : ∃ S sl sc, k3 = .slice S sl sc := by
      rcases open_slice Tryz.underlying27 f3 with ⟨h0, _⟩ | ⟨ad, l, c, _, _, _, _, hcs, _⟩
      · exact ⟨_, _, _, by simpa using h0⟩
      · exact ⟨_, _, _, by simpa using hcs⟩
    have hn := nums_open Tryz.underlying27 Tryz.underlying3 e3 f3
    obtain ⟨zs, hzs⟩ := sees_of_isCells (fun v hv => by obtain ⟨s, e, _⟩ := hv; exact ⟨s, e⟩) hn
    exact ⟨s0, s1, s2, S, sl, sc, zs, g0, by rw [Nat.add_assoc]; exact g1, by rw [Nat.add_assoc]; exact g2, by rw [Nat.add_assoc]; exact g3, hn.1, hn.2.1, hzs⟩
theorem ops_open2 {fuel len cap : Nat} {a : Option Addr} {x : DataW H × List MemPlace} (_ : Tryz.prog.underlying 22 = some (.slice 49)) (_ : True)
    (h : DataW.trod enc Tryz.prog w base spare held fuel 22 [.slice a len cap] = some x) : IsOps w a len cap := ops_open h
end
end Go.Proofs.YtinklonbkhmpdaaGreat.ringPlays
