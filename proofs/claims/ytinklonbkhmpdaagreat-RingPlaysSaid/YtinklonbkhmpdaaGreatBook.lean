/-
  The book of kept lists: what is lent, what is kept.
-/
import Derived.Test.YtinklonbkhmpdaaGreatSameInts
import Derived.Test.YtinklonbkhmpdaaGreatRingInt
import Derived.Deep.LoopGhost
import Derived.Outline
namespace Go.Proofs.YtinklonbkhmpdaaGreat
open Go.RowKit

abbrev nums (l : List Int) : List Value := l.map fun x => Value.int .i64 x

theorem copy_ints (w : World) (C n c : Nat) (X : Option Addr) (l : List Int) (h : Sees w C 1 X n (nums l)) (hn : n ≤ 1000000) :
    Calls Tryz.prog 22 #[.slice X n c] w (ListPost 3 1 w n (nums l)) := by
  obtain ⟨i0, hi, hz0, hz1, hz2⟩ := info_parts Tryz.info3
  go_enter Tryz.func22, Tryz.ntmps22
  go_wp2_with (at_builtin; refine wpList_append_sees _ rfl _ _ 27 rfl w.heap.size 3 i0 (.int .i64 0) 1 8 Tryz.underlying27 hi hz0 hz1 hz2 rfl (by decide) none 0 0 [] rfl (World.ownsRow_nil _ _ _ _) C X n c _ rfl h ints_one (by unfold maxLen; omega) (by omega) (Nat.le_refl _) ?_; intro A' c' w' hg; rw [Nat.zero_add, List.nil_append] at hg)
  go_ret
  exact ⟨A', c', rfl, hg.own, hg.chg.mono (by simp [blkOf])⟩

/-- What is lent: the list with a mark behind it. -/
def LentPost (w : World) (n : Nat) (l : List Int) (e : Ending) (w' : World) : Prop :=
  ∃ A c, e = .returned (.slice A n c) ∧ w'.ownsRow w.heap.size 3 1 (.slice A (n + 1) c) (n + 1) (nums (l ++ [-77])) ∧ Chg No w w'

theorem lent_ints (w : World) (C n c : Nat) (X : Option Addr) (l : List Int) (h : Sees w C 1 X n (nums l)) (hn : n ≤ 1000000) :
    Calls Tryz.prog 7 #[.slice X n c] w (LentPost w n l) := by
  obtain ⟨i0, hi, hz0, hz1, hz2⟩ := info_parts Tryz.info3
  have hm : (n : Int) ≤ 1000000 := by omega
  go_enter Tryz.func7, Tryz.ntmps7
  go_wp2_with (first
    | (at_builtin; refine wpList_append_sees _ rfl (.const (.slice none 0 0)) (.tmp 3) 27 rfl w.heap.size 3 i0 (.int .i64 0) 1 8 Tryz.underlying27 hi hz0 hz1 hz2 rfl (by decide) none 0 0 [] rfl (World.ownsRow_nil _ _ _ _) C X n c _ rfl h ints_one (by unfold maxLen; omega) (by omega) (Nat.le_refl _) ?_; intro A1 c1 w1 hg1; rw [Nat.zero_add, List.nil_append] at hg1)
    | (at_builtin; refine wpList_append_sees _ rfl (.tmp 4) (.tmp 5) 27 rfl w.heap.size 3 i0 (.int .i64 0) 1 8 Tryz.underlying27 hi hz0 hz1 hz2 rfl (by decide) A1 n c1 (nums l) rfl (own_chg hg1.own ((Chg.refl No w1).alloc _) (fun _ _ t => t)) _ (some ⟨w1.heap.size, 0, none⟩) 1 1 [.int .i64 (-77)] rfl (Sees.of_blk (cs := #[.int .i64 (-77)]) (Blk.new _ _ _) rfl) (by simp [Value.oneCell']) (by unfold maxLen; omega) (by omega) (by have := hg1.by_.size; simp; omega) ?_; intro A2 c2 w2 hg2; have hc2 := own_cap hg2.own; have hc3 : (n : Int) ≤ c2 := (by omega)))
  go_ret
  have hc1 : Chg No w w1 := hg1.chg.mono (by simp [blkOf])
  refine ⟨A2, c2, rfl, by simpa [nums] using hg2.own, ⟨hg2.by_.os.trans hc1.os, hg2.by_.tape.trans hc1.tape, hg2.by_.output.trans hc1.output, ?_, fun k hk _ => ?_⟩⟩
  · have := hg2.by_.size; have := hc1.size; simp at *; omega
  · have h1 := hg2.by_.block k (by have := hc1.size; simp; omega) (fun e => by have := (own_lt hg1.own e.symm).1; omega)
    rw [h1, Below.heap_alloc _ _ _ (by have := hc1.size; omega)]
    exact hc1.block k hk (fun t => t)

theorem stays_ints (w : World) (B C n c d : Nat) (A X : Option Addr) (l : List Int) (ho : w.ownsRow B 3 1 (.slice A (n + 1) c) (n + 1) (nums (l ++ [-77]))) (h : Sees w C 1 X n (nums l)) (hn : n ≤ 1000000) :
    Calls Tryz.prog 9 #[.slice A n c, .slice X n d] w fun e w' => e = .returned (.bool true) ∧ ∃ q, w.drewN q = w' := by
  have hc := own_cap ho
  have hm : (n : Int) ≤ 1000000 := by omega
  have hc1 : (n : Int) + 1 ≤ c := by omega
  have hl : l.length = n := by simpa using h.1
  obtain ⟨g, hA, _, _⟩ := own_addr ho (by omega)
  have hcell := own_cells ho hA n (.int .i64 (-77)) (by rw [List.getElem?_map, List.getElem?_append_right (by omega), hl]; simp)
  rw [add_flat, Nat.zero_add] at hcell
  have hs : Sees w w.heap.size 1 A n (nums l) := by
    have := (Sees.of_own ho).take (k := n) (by omega)
    rw [Nat.mul_one] at this
    have e : (nums (l ++ [-77])).take n = nums l := by
      unfold nums
      rw [List.map_append, List.take_left' (by simpa using hl)]
    rwa [e] at this
  subst hA
  clear hl
  go_enter Tryz.func9, Tryz.ntmps9
  go_wp2_with (go_at_call 17; refine (i_same _ _ _ _ _ _ _ _ l hs h hn).mono ?_; rintro e w' ⟨rfl, q, rfl⟩)
  go_ret
  exact ⟨rfl, q, rfl⟩
/-! ### The book: its struct, two outer rows, and the lists in them -/

def nilS : Value := .slice none 0 0
def bookCells (I W : Value) : Array Value := #[.slice none 0 0, .slice none 0 0, I, W, .slice none 0 0, .slice none 0 0, .slice none 0 0, .slice none 0 0, .slice none 0 0, .slice none 0 0, .slice none 0 0, .slice none 0 0, .slice none 0 0, .slice none 0 0, .slice none 0 0, .slice none 0 0, .slice none 0 0, .slice none 0 0, .slice none 0 0, .slice none 0 0, .slice none 0 0, .slice none 0 0, .slice none 0 0, .slice none 0 0, .slice none 0 0, .slice none 0 0, .slice none 0 0, .slice none 0 0, .slice none 0 0, .slice none 0 0]

def rowCells (N : Nat) (A : Nat → Option Addr) (c : Nat → Nat) (L : Nat → List Int) : List Value := (List.range N).map fun i => Value.slice (A i) (L i).length (c i)
theorem rowCells_length (N : Nat) (A : Nat → Option Addr) (c : Nat → Nat) (L : Nat → List Int) : (rowCells N A c L).length = N := by simp [rowCells]
theorem rowCells_get {N : Nat} {A : Nat → Option Addr} {c : Nat → Nat} {L : Nat → List Int} {i : Nat} (h : i < N) : (rowCells N A c L)[i]? = some (Value.slice (A i) (L i).length (c i)) := by
  simp [rowCells, h]

/-- A function with one value more. -/
def also {α : Type} (N : Nat) (f : Nat → α) (a : α) : Nat → α := fun i => if i = N then a else f i
theorem also_new {α : Type} (N : Nat) (f : Nat → α) (a : α) : also N f a N = a := by simp [also]
theorem also_old {α : Type} {N i : Nat} (f : Nat → α) (a : α) (h : i < N) : also N f a i = f i := by
  have : i ≠ N := by omega
  simp [also, this]
theorem rowCells_also (N : Nat) (A : Nat → Option Addr) (c : Nat → Nat) (L : Nat → List Int) (a : Option Addr) (d : Nat) (l : List Int) :
    rowCells (N + 1) (also N A a) (also N c d) (also N L l) = rowCells N A c L ++ [Value.slice a l.length d] := by
  unfold rowCells
  rw [List.range_succ, List.map_append]
  congr 1
  · refine List.map_congr_left fun i hi => ?_
    have hi' : i < N := by simpa using hi
    rw [also_old _ _ hi', also_old _ _ hi', also_old _ _ hi']
  · simp [also_new]

/-- All that the book holds. -/
structure BookIn (w : World) (B kb N : Nat) (I W : Option Addr) (ci cw : Nat) (A A' : Nat → Option Addr) (c c' : Nat → Nat) (L : Nat → List Int) : Prop where
  base : B ≤ kb
  blk : Blk w kb 47 (bookCells (.slice I N ci) (.slice W N cw))
  outer : w.ownsRow B 27 1 (.slice I N ci) N (rowCells N A c L)
  was : w.ownsRow B 27 1 (.slice W N cw) N (rowCells N A' c' L)
  apart : ∀ k, blkOf I = some k → blkOf W ≠ some k
  short : ∀ i, i < N → (L i).length ≤ 100000
  inner : ∀ i, i < N → w.ownsRow B 3 1 (.slice (A i) (L i).length (c i)) (L i).length (nums (L i))
  copy : ∀ i, i < N → w.ownsRow B 3 1 (.slice (A' i) (L i).length (c' i)) (L i).length (nums (L i))
  sep : ∀ i j, i < N → j < N → i ≠ j → ∀ k, blkOf (A i) = some k → blkOf (A j) ≠ some k

/-- The blocks that are the book's. -/
def BookFoot (kb N : Nat) (I W : Option Addr) (A A' : Nat → Option Addr) : Nat → Prop :=
  fun k => k = kb ∨ blkOf I = some k ∨ blkOf W = some k ∨ ∃ i, i < N ∧ (blkOf (A i) = some k ∨ blkOf (A' i) = some k)

def BookAt (w : World) (B kb N : Nat) (F : Nat → Prop) : Prop :=
  ∃ I W ci cw A A' c c' L, BookIn w B kb N I W ci cw A A' c c' L ∧ ∀ k, F k ↔ BookFoot kb N I W A A' k

theorem BookAt.ge {w : World} {B kb N : Nat} {F : Nat → Prop} (h : BookAt w B kb N F) : ∀ k, F k → B ≤ k := by
  obtain ⟨I, W, ci, cw, A, A', c, c', L, h, hF⟩ := h
  intro k hk
  rcases (hF k).1 hk with rfl | e | e | ⟨i, hi, e | e⟩
  · exact h.base
  · exact (own_lt h.outer e).1
  · exact (own_lt h.was e).1
  · exact (own_lt (h.inner i hi) e).1
  · exact (own_lt (h.copy i hi) e).1
theorem BookAt.lt {w : World} {B kb N : Nat} {F : Nat → Prop} (h : BookAt w B kb N F) : ∀ k, F k → k < w.heap.size := by
  obtain ⟨I, W, ci, cw, A, A', c, c', L, h, hF⟩ := h
  intro k hk
  rcases (hF k).1 hk with rfl | e | e | ⟨i, hi, e | e⟩
  · exact h.blk.lt
  · exact (own_lt h.outer e).2
  · exact (own_lt h.was e).2
  · exact (own_lt (h.inner i hi) e).2
  · exact (own_lt (h.copy i hi) e).2
theorem BookAt.chg {w w' : World} {B kb N : Nat} {F S : Nat → Prop} (h : BookAt w B kb N F) (hc : Chg S w w') (hn : ∀ k, F k → ¬ S k) : BookAt w' B kb N F := by
  obtain ⟨I, W, ci, cw, A, A', c, c', L, h, hF⟩ := h
  refine ⟨I, W, ci, cw, A, A', c, c', L, ⟨h.base, h.blk.chg hc (hn kb ((hF kb).2 (.inl rfl))), ?_, ?_, h.apart, h.short, fun i hi => ?_, fun i hi => ?_, h.sep⟩, hF⟩
  · exact own_chg h.outer hc (fun k hk => hn k ((hF k).2 (.inr (.inl (by rw [ownBlock_slice] at hk; exact hk)))))
  · exact own_chg h.was hc (fun k hk => hn k ((hF k).2 (.inr (.inr (.inl (by rw [ownBlock_slice] at hk; exact hk))))))
  · exact own_chg (h.inner i hi) hc (fun k hk => hn k ((hF k).2 (.inr (.inr (.inr ⟨i, hi, .inl (by rw [ownBlock_slice] at hk; exact hk)⟩)))))
  · exact own_chg (h.copy i hi) hc (fun k hk => hn k ((hF k).2 (.inr (.inr (.inr ⟨i, hi, .inr (by rw [ownBlock_slice] at hk; exact hk)⟩)))))

theorem BookAt.made (w : World) : BookAt (w.alloc (.cells (bookCells (.slice none 0 0) (.slice none 0 0)) 47)) w.heap.size w.heap.size 0 (fun k => k = w.heap.size) := by
  refine ⟨none, none, 0, 0, fun _ => none, fun _ => none, fun _ => 0, fun _ => 0, fun _ => [], ⟨Nat.le_refl _, Blk.new _ _ _, World.ownsRow_nil _ _ _ _, World.ownsRow_nil _ _ _ _, by simp [blkOf], by simp, by simp, by simp, by simp⟩, fun k => ?_⟩
  simp [BookFoot, blkOf]

theorem Tryz.infoS : (Tryz.prog.info? 27).map (fun i => (i.zero, i.size, i.bytes)) = some (some (.slice none 0 0), 1, 24) := by kernel_rfl

/-- The book with one list more. -/
theorem BookIn.add {w w5 : World} {B kb N n : Nat} {I W I1 W1 X Y : Option Addr} {ci cw ci1 cw1 d dy : Nat} {A A' : Nat → Option Addr} {c c' : Nat → Nat} {L : Nat → List Int} {l : List Int}
    (h : BookIn w B kb N I W ci cw A A' c c' L) (hl : l.length = n) (hn : n ≤ 100000)
    (hc : Chg (fun k => k = kb ∨ blkOf I = some k ∨ blkOf W = some k) w w5)
    (hblk : Blk w5 kb 47 (bookCells (.slice I1 (N + 1) ci1) (.slice W1 (N + 1) cw1)))
    (hI : w5.ownsRow B 27 1 (.slice I1 (N + 1) ci1) (N + 1) (rowCells N A c L ++ [.slice X n d])) (hW : w5.ownsRow B 27 1 (.slice W1 (N + 1) cw1) (N + 1) (rowCells N A' c' L ++ [.slice Y n dy]))
    (hap : ∀ k, blkOf I1 = some k → blkOf W1 ≠ some k)
    (hX : w5.ownsRow B 3 1 (.slice X n d) n (nums l)) (hY : w5.ownsRow B 3 1 (.slice Y n dy) n (nums l))
    (hsep : ∀ i, i < N → ∀ k, blkOf (A i) = some k → blkOf X ≠ some k)
    (F : Nat → Prop) (hF : ∀ k, F k ↔ BookFoot kb N I W A A' k) (hI1 : ∀ k, blkOf I1 = some k → blkOf I = some k ∨ w.heap.size ≤ k) (hW1 : ∀ k, blkOf W1 = some k → blkOf W = some k ∨ w.heap.size ≤ k) (hYn : ∀ k, blkOf Y = some k → w.heap.size ≤ k) :
    ∃ F', BookAt w5 B kb (N + 1) F' ∧ Chg F w w5 ∧ ∀ k, F' k → F k ∨ blkOf X = some k ∨ w.heap.size ≤ k := by
  subst hl
  have old : ∀ {Z : Option Addr} {m e : Nat} {zs : List Value}, w.ownsRow B 3 1 (.slice Z m e) m zs → w5.ownsRow B 3 1 (.slice Z m e) m zs := by
    intro Z m e zs hz
    refine own_chg hz hc (fun k hk hS => ?_)
    rw [ownBlock_slice] at hk
    rcases hS with rfl | e' | e'
    · exact own_ne hz h.blk (by decide) hk
    · exact own_own_ne hz h.outer (by decide) k hk e'
    · exact own_own_ne hz h.was (by decide) k hk e'
  refine ⟨BookFoot kb (N + 1) I1 W1 (also N A X) (also N A' Y), ⟨I1, W1, ci1, cw1, also N A X, also N A' Y, also N c d, also N c' dy, also N L l, ⟨h.base, hblk, ?_, ?_, hap, fun i hi => ?_, fun i hi => ?_, fun i hi => ?_, fun i j hi hj hne k hk hk' => ?_⟩, fun _ => Iff.rfl⟩, ?_, ?_⟩
  · rw [rowCells_also]; exact hI
  · rw [rowCells_also]; exact hW
  · rcases Nat.lt_or_ge i N with h' | h'
    · rw [also_old _ _ h']; exact h.short i h'
    · obtain rfl : i = N := by omega
      rw [also_new]; exact hn
  · rcases Nat.lt_or_ge i N with h' | h'
    · rw [also_old _ _ h', also_old _ _ h', also_old _ _ h']; exact old (h.inner i h')
    · obtain rfl : i = N := by omega
      rw [also_new, also_new, also_new]; exact hX
  · rcases Nat.lt_or_ge i N with h' | h'
    · rw [also_old _ _ h', also_old _ _ h', also_old _ _ h']; exact old (h.copy i h')
    · obtain rfl : i = N := by omega
      rw [also_new, also_new, also_new]; exact hY
  · rcases Nat.lt_or_ge i N with h1 | h1 <;> rcases Nat.lt_or_ge j N with h2 | h2
    · rw [also_old _ _ h1] at hk
      rw [also_old _ _ h2] at hk'
      exact h.sep i j h1 h2 hne k hk hk'
    · obtain rfl : j = N := by omega
      rw [also_old _ _ h1] at hk
      rw [also_new] at hk'
      exact hsep i h1 k hk hk'
    · obtain rfl : i = N := by omega
      rw [also_new] at hk
      rw [also_old _ _ h2] at hk'
      exact hsep j h2 k hk' hk
    · omega
  · refine hc.mono (fun k _ hk => (hF k).2 ?_)
    rcases hk with e | e | e
    · exact .inl e
    · exact .inr (.inl e)
    · exact .inr (.inr (.inl e))
  · rintro k (rfl | e | e | ⟨i, hi, e⟩)
    · exact .inl ((hF _).2 (.inl rfl))
    · rcases hI1 k e with e' | e'
      · exact .inl ((hF _).2 (.inr (.inl e')))
      · exact .inr (.inr e')
    · rcases hW1 k e with e' | e'
      · exact .inl ((hF _).2 (.inr (.inr (.inl e'))))
      · exact .inr (.inr e')
    · rcases Nat.lt_or_ge i N with h' | h'
      · rw [also_old _ _ h', also_old _ _ h'] at e
        exact .inl ((hF _).2 (.inr (.inr (.inr ⟨i, h', e⟩))))
      · obtain rfl : i = N := by omega
        rw [also_new, also_new] at e
        rcases e with e | e
        · exact .inr (.inl e)
        · exact .inr (.inr (hYn k e))

-- One list more is kept.
set_option maxRecDepth 100000 in
theorem book_ints (w : World) (B kb N n d : Nat) (F : Nat → Prop) (X : Option Addr) (l : List Int) (h : BookAt w B kb N F) (hN : N < 250)
    (ho : w.ownsRow B 3 1 (.slice X n d) n (nums l)) (hl : n ≤ 100000) (hX : ∀ k, blkOf X = some k → ¬ F k) (hB : B ≤ w.heap.size) :
    Calls Tryz.prog 16 #[.pointer (some ⟨kb, 0, none⟩), .slice X n d] w fun e w' =>
      e = .returned (.tuple #[]) ∧ ∃ F', BookAt w' B kb (N + 1) F' ∧ Chg F w w' ∧ ∀ k, F' k → F k ∨ blkOf X = some k ∨ w.heap.size ≤ k := by
  obtain ⟨I, W, ci, cw, A, A', c, c', L, h, hF⟩ := h
  obtain ⟨i1, hi, hz0, hz1, hz2⟩ := info_parts Tryz.infoS
  have hln : l.length = n := by simpa using ho.1
  have c2 : w.cell? ⟨kb, 2, none⟩ = some (.slice I N ci) := h.blk.cell 2
  have hn1 : (N : Int) < 250 := by omega
  have ha := (Chg.refl No w).alloc (.cells #[.slice X n d] 27)
  have hIk : blkOf I ≠ some kb := own_ne h.outer h.blk (by decide)
  have hWk : blkOf W ≠ some kb := own_ne h.was h.blk (by decide)
  go_enter Tryz.func16, Tryz.ntmps16
  go_wp2_with (at_builtin; refine wpList_append_sees _ rfl (.tmp 14) (.tmp 16) 32 rfl B 27 i1 (.slice none 0 0) 1 24 Tryz.underlying32 hi hz0 hz1 hz2 rfl (by decide) I N ci _ rfl (own_chg h.outer ha (fun _ _ t => t)) _ (some ⟨w.heap.size, 0, none⟩) 1 1 [.slice X n d] rfl (Sees.of_blk (cs := #[.slice X n d]) (Blk.new _ _ _) rfl) (by simp [Value.oneCell']) (by unfold maxLen; omega) (by omega) (by simp; omega) ?_; intro I1 ci1 w1 hg1; have hs := hg1.still h.blk ha hIk; have k2 : w1.cell? ⟨kb, 2, none⟩ = some (.slice I N ci) := hs.cell 2; have k3 := hs.frozen 2; clear hs)
  obtain ⟨hb2, ho2, hc2, hf2⟩ := hg1.put h.blk ha hIk (by decide) 2
  obtain ⟨w2, hw2⟩ : ∃ w2, w2 = w1.setCell ⟨kb, 2, none⟩ (.slice I1 (N + 1) ci1) := ⟨_, rfl⟩
  rw [← hw2] at hb2 ho2 hc2 ⊢
  clear hw2 k2 k3 c2
  have hb2' : Blk w2 kb 47 (bookCells (.slice I1 (N + 1) ci1) (.slice W N cw)) := hb2
  have hWI : ∀ k, blkOf W = some k → ¬ (k = kb ∨ blkOf I = some k) := by
    rintro k hk (rfl | e)
    · exact hWk hk
    · exact h.apart k e hk
  have hw2o := own_chg h.was hc2 (fun k hk => hWI k (by rw [ownBlock_slice] at hk; exact hk))
  have hXo := own_chg ho hc2 (fun k hk hS => by
    rw [ownBlock_slice] at hk
    rcases hS with rfl | e
    · exact hX _ hk ((hF _).2 (.inl rfl))
    · exact hX _ hk ((hF _).2 (.inr (.inl e))))
  have c3 : w2.cell? ⟨kb, 3, none⟩ = some (.slice W N cw) := hb2'.cell 3
  have hs2 := hc2.size
  have hIb : ∀ k, blkOf I1 = some k → blkOf W ≠ some k := fun k hk hk' => by
    rcases hf2 k hk with e | e
    · exact h.apart k e hk'
    · have := (own_lt h.was hk').2; omega
  clear hb2 hg1
  go_region_law (first
    | (refine step_append_sees _ rfl (.tmp 24) (.tmp 27) 32 rfl B 27 i1 (.slice none 0 0) 1 24 Tryz.underlying32 hi hz0 hz1 hz2 rfl (by decide) W N cw (rowCells N A' c' L) rfl (own_chg hw2o (h3c.alloc _) (fun _ _ t => t)) _ (some ⟨w3.heap.size, 0, none⟩) 1 1 [.slice Y n dy] rfl (Sees.of_blk (cs := #[.slice Y n dy]) (Blk.new _ _ _) rfl) (by simp [Value.oneCell']) (by unfold maxLen; omega) (by omega) (by have := h3c.size; simp; omega) ?_; intro W1 cw1 w4 hg4; have hs := hg4.still hb2' (h3c.alloc _) hWk; have k2 : w4.cell? ⟨kb, 3, none⟩ = some (.slice W N cw) := hs.cell 3; have k3 := hs.frozen 3; clear hs)
    | (go_simp; go_at_call 22; refine (copy_ints _ _ n d X l (Sees.of_own (own_drewN hXo 1)) (by omega)).mono ?_; rintro e w3 ⟨Y, dy, rfl, hY, hyc⟩; have h3c : Chg No w2 w3 := hyc.of_drewN; have k3 : w3.cell? ⟨kb, 3, none⟩ = some (.slice W N cw) := (hb2'.chg h3c (fun t => t)).cell 3; have k4 : (w3.alloc (.cells #[.slice Y n dy] 27)).cell? ⟨kb, 3, none⟩ = some (.slice W N cw) := (hb2'.chg (h3c.alloc _) (fun t => t)).cell 3))
  all_goals
    go_wp2
    go_end0
    obtain ⟨hb5, ho5, hc5, hf5⟩ := hg4.put hb2' (h3c.alloc _) hWk (by decide) 3
    have hs3 := h3c.size
    have hY4 := own_chg hY ((Chg.refl No w3).alloc (.cells #[.slice Y n dy] 27)) (fun _ _ t => t)
    have hY5 := own_chg hY4 (hg4.chg.mono (T := fun k => k = kb ∨ blkOf W = some k) (fun k _ hk => .inr hk) |>.setCell (p := ⟨kb, 3, none⟩) (fun _ => .inl rfl) (.slice W1 (N + 1) cw1)) (fun k hk hS => by
      rw [ownBlock_slice] at hk
      rcases hS with rfl | e
      · exact own_ne hY (hb2'.chg h3c (fun t => t)) (by decide) hk
      · exact own_own_ne hY (own_chg hw2o h3c (fun _ _ t => t)) (by decide) k hk e)
    refine ⟨rfl, h.add (w5 := w4.setCell ⟨kb, 3, none⟩ (.slice W1 (N + 1) cw1)) (X := X) (Y := Y) (d := d) (dy := dy) hln hl ?_ hb5 ?_ ho5 ?_ ?_ ?_ ?_ F hF hf2 ?_ ?_⟩
    · exact (hc2.mono (T := fun k => k = kb ∨ blkOf I = some k ∨ blkOf W = some k) (fun k _ hk => hk.imp id .inl)).trans hc5 (fun k _ hk => hk.imp id .inr)
    · refine own_chg ho2 hc5 (fun k hk hS => ?_)
      rw [ownBlock_slice] at hk
      rcases hS with rfl | e
      · exact own_ne ho2 hb2' (by decide) hk
      · exact hIb k hk e
    · intro k hk hk'
      rcases hf5 k hk' with e | e
      · exact hIb k hk e
      · have := (own_lt ho2 hk).2; omega
    · exact own_chg hXo hc5 (fun k hk hS => by
        rw [ownBlock_slice] at hk
        rcases hS with rfl | e
        · exact hX _ hk ((hF _).2 (.inl rfl))
        · exact hX _ hk ((hF _).2 (.inr (.inr (.inl e)))))
    · obtain ⟨Y0, d0, e0, hform⟩ := own_form hY5
      refine ⟨hY5.1, ?_⟩
      rcases hY5.2 with h0 | ⟨g, cap, cur, e1, hb', r⟩
      · exact .inl h0
      · exact .inr ⟨g, cap, cur, e1, by have : w2.heap.size ≤ g := hb'; omega, r⟩
    · intro i hi' k hk hk'
      exact hX k hk' ((hF k).2 (.inr (.inr (.inr ⟨i, hi', .inl hk⟩))))
    · intro k hk
      rcases hf5 k hk with e | e
      · exact .inl e
      · exact .inr (by omega)
    · intro k hk
      have : w2.heap.size ≤ k := (own_lt hY hk).1
      omega
end Go.Proofs.YtinklonbkhmpdaaGreat
