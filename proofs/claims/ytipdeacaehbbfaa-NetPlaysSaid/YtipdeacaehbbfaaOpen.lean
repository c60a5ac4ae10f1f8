/-
  What a slice that came in holds, told as cells: of texts, of bools, of numbers; and of elements of several cells.
-/
import Derived.Test.YtipdeacaehbbfaaBase
import Derived.Deep.Slices
import Derived.OpenShut
import Derived.ChangeOld
namespace Go.Proofs.Ytipdeacaehbbfaa
open Go.RowKit Go.ChangeShapes Go.WideShapes Go.Deep

section
variable {H : Type} {enc : TypeId × Value → H} {P : Program} {w : World} {base : Nat} {spare : Nat → Bool} {held : Bool}

/-- Each element's cells, and how they read. -/
theorem rows_open {t e : TypeId} {sz fuel len cap : Nat} {a : Option Addr} {x : DataW H × List MemPlace} (ht : P.underlying t = some (.slice e)) (hc : P.cellsOf e = sz) (hsz : 0 < sz)
    (h : DataW.trod enc P w base spare held fuel t [.slice a len cap] = some x) :
    len ≤ cap ∧ cap ≤ maxLen ∧ (len = 0 ∨ ∃ b off, a = some ⟨b, off, none⟩ ∧ b < w.heap.size ∧
      ∀ i, i < len → ∃ cs n D, cs.length = sz ∧ (∀ j, j < sz → w.cell? ⟨b, off + (i * sz + j), none⟩ = cs[j]?) ∧ DataW.trod enc P w base spare held n e cs = some D) := by
  rcases open_slice ht h with ⟨h0, _⟩ | ⟨ad, l, c, m, n, D, Pl, hcs, hb, hl, hm, hmm, _, hi⟩
  · simp at h0
    obtain ⟨rfl, rfl, rfl⟩ := h0
    exact ⟨Nat.le_refl _, Nat.zero_le _, .inl rfl⟩
  · simp at hcs
    obtain ⟨rfl, rfl, rfl⟩ := hcs
    refine ⟨hl, hm, ?_⟩
    rcases Nat.eq_zero_or_pos len with h0 | h0
    · exact .inl h0
    · right
      have hle : len ≤ m := by rw [hmm]; split <;> omega
      have key : ∀ i, i < len → ∃ cs, cs.length = sz ∧ (∀ j, j < sz → w.cell? (ad.add (i * sz + j)) = cs[j]?) ∧ DataW.trod enc P w base spare held n e cs = some (D i, Pl i) := by
        intro i hi'
        obtain ⟨cs, h1, h2⟩ := hi i (by omega)
        rw [hc] at h1
        obtain ⟨_, hlen, hat⟩ := World.cells?_some h1
        exact ⟨cs, hlen, fun j hj => by rw [← add_twice]; exact hat j hj, h2⟩
      obtain ⟨b, off, spot⟩ := ad
      obtain ⟨cs, hlen, hat, _⟩ := key 0 h0
      have h00 := hat 0 hsz
      rw [List.getElem?_eq_getElem (by omega)] at h00
      have hspot : spot = none := by simpa [Addr.add] using World.cell?_spot h00
      subst hspot
      refine ⟨b, off, rfl, ?_, fun i hi' => ?_⟩
      · have := World.block_lt_of_cell? w _ h00
        rwa [add_block] at this
      · obtain ⟨cs, hlen, hat, htr⟩ := key i hi'
        exact ⟨cs, n, _, hlen, fun j hj => by rw [← add_flat]; exact hat j hj, htr⟩

/-- The slice is empty, or its elements' cells are of this kind. -/
def IsCells (w : World) (a : Option Addr) (len cap : Nat) (Q : Value → Prop) : Prop :=
  len ≤ cap ∧ cap ≤ maxLen ∧ (len = 0 ∨ ∃ b off, a = some ⟨b, off, none⟩ ∧ b < w.heap.size ∧ ∀ i, i < len → ∃ v, w.cell? ⟨b, off + i, none⟩ = some v ∧ Q v)

theorem cells_open {t e : TypeId} {fuel len cap : Nat} {a : Option Addr} {x : DataW H × List MemPlace} {Q : Value → Prop} (ht : P.underlying t = some (.slice e)) (hc : P.cellsOf e = 1)
    (hQ : ∀ (n : Nat) (cs : List Value) (D : DataW H × List MemPlace), DataW.trod enc P w base spare held n e cs = some D → ∃ v, cs = [v] ∧ Q v)
    (h : DataW.trod enc P w base spare held fuel t [.slice a len cap] = some x) : IsCells w a len cap Q := by
  obtain ⟨h1, h2, h3⟩ := rows_open ht hc (by omega) h
  refine ⟨h1, h2, ?_⟩
  rcases h3 with h0 | ⟨b, off, e1, hb, hi⟩
  · exact .inl h0
  · refine .inr ⟨b, off, e1, hb, fun i hi' => ?_⟩
    obtain ⟨cs, n, D, _, hat, htr⟩ := hi i hi'
    obtain ⟨v, rfl, hv⟩ := hQ n cs D htr
    have := hat 0 (by omega)
    rw [Nat.mul_one, Nat.add_zero] at this
    exact ⟨v, this, hv⟩

theorem texts_open {t e : TypeId} {fuel len cap : Nat} {a : Option Addr} {x : DataW H × List MemPlace} (ht : P.underlying t = some (.slice e)) (he : P.underlying e = some .string) (hc : P.cellsOf e = 1)
    (h : DataW.trod enc P w base spare held fuel t [.slice a len cap] = some x) : IsCells w a len cap (fun v => ∃ s : ByteArray, v = .string s) :=
  cells_open ht hc (fun n cs D h => by obtain ⟨s, rfl, _⟩ := DataW.trod_string he h; exact ⟨_, rfl, s, rfl⟩) h
theorem bools_open {t e : TypeId} {fuel len cap : Nat} {a : Option Addr} {x : DataW H × List MemPlace} (ht : P.underlying t = some (.slice e)) (he : P.underlying e = some .bool) (hc : P.cellsOf e = 1)
    (h : DataW.trod enc P w base spare held fuel t [.slice a len cap] = some x) : IsCells w a len cap (fun v => ∃ s : Bool, v = .bool s) :=
  cells_open ht hc (fun n cs D h => by obtain ⟨s, rfl, _⟩ := DataW.trod_bool he h; exact ⟨_, rfl, s, rfl⟩) h
theorem nums_open {t e : TypeId} {k : IntKind} {fuel len cap : Nat} {a : Option Addr} {x : DataW H × List MemPlace} (ht : P.underlying t = some (.slice e)) (he : P.underlying e = some (.int k)) (hc : P.cellsOf e = 1)
    (h : DataW.trod enc P w base spare held fuel t [.slice a len cap] = some x) : IsCells w a len cap (fun v => ∃ s : Int, v = .int k s ∧ (Lit.int k s).wf = true) :=
  cells_open ht hc (fun n cs D h => by obtain ⟨s, rfl, _, hw⟩ := DataW.trod_int he h; exact ⟨_, rfl, s, rfl, hw⟩) h
end
end Go.Proofs.Ytipdeacaehbbfaa
