/-
  Words and small laws on memory for the walks of this seat: a block that is known whole, a slice that is read as a list of cells,
  a world that has turned in few blocks only, an append whose source may be nil. No program in sight; no condition.
-/
import Derived.WalkKit
import Derived.WalkSpells
import Derived.Below
import Derived.Maps.AppendAt
import Derived.Deep.AppendLies
import Derived.Deep.Draws
import Derived.Deep.RegionLaw
import Derived.ArgAppend
namespace Go.Proofs.Ytipdeacaehbbfaa
open Go.RowKit

/-- A fact kept from the walk's rewriting. -/
theorem hide {p : Prop} (h : p) : Hid p := h

theorem add_block (a : Addr) (n : Nat) : (a.add n).block = a.block := by unfold Addr.add; split <;> rfl
theorem add_flat (g i j : Nat) : (⟨g, i, none⟩ : Addr).add j = ⟨g, i + j, none⟩ := by unfold Addr.add; split <;> simp_all
theorem add_twice (a : Addr) (i j : Nat) : (a.add i).add j = a.add (i + j) := by
  unfold Addr.add
  by_cases hi : i = 0 <;> by_cases hj : j = 0 <;> simp [hi, hj, Nat.add_assoc]

/-! ### A world that has turned in some blocks only -/

/-- Of the blocks that w has, only those in S may have turned in w'. -/
structure Chg (S : Nat → Prop) (w w' : World) : Prop where
  os : w'.os = w.os
  tape : w'.tape = w.tape
  output : w'.output = w.output
  size : w.heap.size ≤ w'.heap.size
  block : ∀ k, k < w.heap.size → ¬ S k → w'.heap[k]? = w.heap[k]?

def No : Nat → Prop := fun _ => False

section
variable {S T : Nat → Prop} {a b w w' : World}
theorem Chg.refl (S : Nat → Prop) (w : World) : Chg S w w := ⟨rfl, rfl, rfl, Nat.le_refl _, fun _ _ _ => rfl⟩
theorem Chg.trans (h : Chg S a b) (k : Chg T b w) (hs : ∀ i, i < a.heap.size → T i → S i) : Chg S a w :=
  ⟨k.os.trans h.os, k.tape.trans h.tape, k.output.trans h.output, Nat.le_trans h.size k.size,
   fun i hi hn => (k.block i (Nat.lt_of_lt_of_le hi h.size) (fun t => hn (hs i hi t))).trans (h.block i hi hn)⟩
theorem Chg.mono (h : Chg S a b) (hs : ∀ i, i < a.heap.size → S i → T i) : Chg T a b :=
  ⟨h.os, h.tape, h.output, h.size, fun i hi hn => h.block i hi (fun t => hn (hs i hi t))⟩
theorem Chg.drewN (h : Chg S a w) (n : Nat) : Chg S a (w.drewN n) := ⟨h.os, h.tape, h.output, h.size, h.block⟩
theorem Chg.drew (h : Chg S a w) : Chg S a w.drew := ⟨h.os, h.tape, h.output, h.size, h.block⟩
theorem Chg.alloc (h : Chg S a w) (o : Obj) : Chg S a (w.alloc o) :=
  h.trans (T := No) ⟨rfl, rfl, rfl, by simp, fun k hk _ => Below.heap_alloc w o k hk⟩ (fun _ _ t => t.elim)
theorem Chg.setCell (h : Chg S a w) {p : Addr} (hp : p.block < a.heap.size → S p.block) (u : Value) : Chg S a (w.setCell p u) :=
  h.trans (T := fun k => k = p.block) ⟨rfl, rfl, rfl, by simp [World.setCell], fun k _ hn => Below.heap_setCell w p u k hn⟩ (fun i hi e => by subst e; exact hp hi)
theorem Chg.grown {row : Option Nat} (h : Chg S a w) (hg : w.grownBy w' row) (hr : ∀ k, row = some k → k < a.heap.size → S k) : Chg S a w' :=
  h.trans (T := fun k => row = some k) ⟨hg.os, hg.tape, hg.output, hg.size, fun k hk hn => hg.block k hk (fun e => hn e.symm)⟩ (fun i hi e => hr i e hi)
theorem Chg.below {B : Nat} (h : Chg S a w) (hB : B ≤ a.heap.size) (hs : ∀ k, S k → B ≤ k) : Below B a w :=
  ⟨h.os, h.tape, h.output, h.size, fun k hk => h.block k (by omega) (fun t => by have := hs k t; omega)⟩
theorem Chg.of_below {B : Nat} (h : Below B a w) : Chg (fun k => B ≤ k) a w :=
  ⟨h.os, h.tape, h.output, h.size, fun k _ hn => h.block k (by omega)⟩
theorem Chg.cell (h : Chg S a w) {p : Addr} (hp : p.block < a.heap.size) (hn : ¬ S p.block) : w.cell? p = a.cell? p := World.cell?_of_block (h.block _ hp hn)
theorem Chg.frozen (h : Chg S a w) {p : Addr} (hp : p.block < a.heap.size) (hn : ¬ S p.block) : w.frozen? p = a.frozen? p := World.frozen?_of_block (h.block _ hp hn)
end

/-! ### A block that is known whole -/

def Blk (w : World) (g : Nat) (t : TypeId) (cs : Array Value) : Prop := w.heap[g]? = some (.cells cs t (0, 0))

section
variable {S : Nat → Prop} {w w' : World} {g : Nat} {t : TypeId} {cs : Array Value}
theorem Blk.lt (h : Blk w g t cs) : g < w.heap.size := (Array.getElem?_eq_some_iff.1 h).1
theorem Blk.cell (h : Blk w g t cs) (i : Nat) : w.cell? ⟨g, i, none⟩ = cs[i]? := cell_of_row w g i cs t (0, 0) h
theorem Blk.frozen (h : Blk w g t cs) (i : Nat) : w.frozen? ⟨g, i, none⟩ = false := by
  unfold Blk at h
  simp [World.frozen?, h]
theorem Blk.new (w : World) (t : TypeId) (cs : Array Value) : Blk (w.alloc (.cells cs t)) w.heap.size t cs := heap_alloc_new w _
theorem Blk.drewN (h : Blk w g t cs) (n : Nat) : Blk (w.drewN n) g t cs := h
theorem Blk.drew (h : Blk w g t cs) : Blk w.drew g t cs := h
theorem Blk.chg (h : Blk w g t cs) (hc : Chg S w w') (hn : ¬ S g) : Blk w' g t cs := (hc.block g h.lt hn).trans h
theorem Blk.alloc (h : Blk w g t cs) (o : Obj) : Blk (w.alloc o) g t cs := (Below.heap_alloc w o g h.lt).trans h
theorem Blk.below {B : Nat} (h : Blk w g t cs) (hb : Below B w w') (hg : g < B) : Blk w' g t cs := (hb.block g hg).trans h
theorem Blk.store (h : Blk w g t cs) (i : Nat) (u : Value) : Blk (w.setCell ⟨g, i, none⟩ u) g t (cs.setIfInBounds i u) := by
  unfold Blk at h ⊢
  simp [World.setCell, Array.getElem?_modify, h]
theorem Blk.far (h : Blk w g t cs) {p : Addr} (hp : g ≠ p.block) (u : Value) : Blk (w.setCell p u) g t cs := (Below.heap_setCell w p u g hp).trans h
theorem Blk.ne_of_type {g' : Nat} {t' : TypeId} {cs' : Array Value} (h : Blk w g t cs) (h' : Blk w g' t' cs') (hne : t ≠ t') : g ≠ g' := by
  rintro rfl
  have e := h.symm.trans h'
  simp only [Option.some.injEq, Obj.cells.injEq] at e
  exact hne e.2.1
end

/-! ### The block of a slice -/

def blkOf (A : Option Addr) : Option Nat := A.map (·.block)
theorem ownBlock_slice (A : Option Addr) (n c : Nat) : Value.ownBlock (.slice A n c) = blkOf A := by cases A <;> rfl

/-- The new slice lies in the old one's block, or in a block that is new. -/
def Fresh (w : World) (A A' : Option Addr) : Prop := ∀ k, blkOf A' = some k → blkOf A = some k ∨ w.heap.size ≤ k
theorem Fresh.refl (w : World) (A : Option Addr) : Fresh w A A := fun _ h => .inl h
theorem Fresh.trans {w w' : World} {A A' A'' : Option Addr} (h : Fresh w A A') (k : Fresh w' A' A'') (hs : w.heap.size ≤ w'.heap.size) : Fresh w A A'' := by
  intro i hi
  rcases k i hi with e | e
  · exact h i e
  · exact .inr (by omega)
theorem Fresh.ne {w : World} {A A' : Option Addr} (h : Fresh w A A') {k : Nat} (hk : k < w.heap.size) (hn : blkOf A ≠ some k) : blkOf A' ≠ some k := by
  intro e
  rcases h k e with e' | e'
  · exact hn e'
  · omega

section
variable {w w' : World} {B size n c : Nat} {E : TypeId} {A : Option Addr} {xs : List Value}

theorem own_form {v : Value} (h : w.ownsRow B E size v n xs) : ∃ A c, v = .slice A n c ∧ ∀ ad, A = some ad → ∃ g, ad = ⟨g, 0, none⟩ ∧ B ≤ g ∧ g < w.heap.size := by
  rcases h.2 with ⟨rfl, rfl⟩ | ⟨g, cap, cur, rfl, hb, hg, _⟩
  · exact ⟨none, 0, rfl, by simp⟩
  · exact ⟨some ⟨g, 0, none⟩, cap, rfl, fun ad e => ⟨g, by injection e with e; exact e.symm, hb, (Array.getElem?_eq_some_iff.1 hg).1⟩⟩

theorem own_addr (h : w.ownsRow B E size (.slice A n c) n xs) (hn : 0 < n) : ∃ g, A = some ⟨g, 0, none⟩ ∧ B ≤ g ∧ g < w.heap.size := by
  rcases h.2 with ⟨_, h0⟩ | ⟨g, cap, cur, e, hb, hg, _⟩
  · omega
  · injection e with e1 e2 e3
    exact ⟨g, e1, hb, (Array.getElem?_eq_some_iff.1 hg).1⟩

theorem own_lt (h : w.ownsRow B E size (.slice A n c) n xs) {k : Nat} (hk : blkOf A = some k) : B ≤ k ∧ k < w.heap.size :=
  h.lt k (by rw [ownBlock_slice]; exact hk)

theorem own_blk {k : Nat} (h : w.ownsRow B E size (.slice A n c) n xs) (hk : blkOf A = some k) : ∃ cur, Blk w k E cur := by
  rcases h.2 with ⟨e, _⟩ | ⟨g, cap, cur, e, _, hg, _⟩
  · injection e with e1 e2 e3; subst e1; simp [blkOf] at hk
  · injection e with e1 e2 e3; subst e1
    have : g = k := by simpa [blkOf] using hk
    subst this
    exact ⟨cur, hg⟩

theorem own_ne {g : Nat} {t : TypeId} {cs : Array Value} (h : w.ownsRow B E size (.slice A n c) n xs) (hg : Blk w g t cs) (hne : E ≠ t) : blkOf A ≠ some g := by
  intro hk
  obtain ⟨cur, hb⟩ := own_blk h hk
  exact hb.ne_of_type hg hne rfl

theorem own_own_ne {B' size' n' c' : Nat} {E' : TypeId} {A' : Option Addr} {xs' : List Value} (h : w.ownsRow B E size (.slice A n c) n xs) (h' : w.ownsRow B' E' size' (.slice A' n' c') n' xs') (hne : E ≠ E') : ∀ k, blkOf A = some k → blkOf A' ≠ some k := by
  intro k hk hk'
  obtain ⟨cur, hb⟩ := own_blk h hk
  obtain ⟨cur', hb'⟩ := own_blk h' hk'
  exact hb.ne_of_type hb' hne rfl

theorem own_chg {S : Nat → Prop} {v : Value} (h : w.ownsRow B E size v n xs) (hc : Chg S w w') (hn : ∀ k, v.ownBlock = some k → ¬ S k) : w'.ownsRow B E size v n xs := by
  refine ⟨h.1, ?_⟩
  rcases h.2 with h0 | ⟨g, cap, cur, rfl, hb, hg, r⟩
  · exact .inl h0
  · exact .inr ⟨g, cap, cur, rfl, hb, (hc.block g (Array.getElem?_eq_some_iff.1 hg).1 (hn g rfl)).trans hg, r⟩

theorem own_drewN {v : Value} (h : w.ownsRow B E size v n xs) (k : Nat) : (w.drewN k).ownsRow B E size v n xs := h

theorem own_cells (h : w.ownsRow B E size (.slice A n c) n xs) {ad : Addr} (hA : A = some ad) : ∀ j u, xs[j]? = some u → w.cell? (ad.add j) = some u := by
  intro j u hu
  subst hA
  obtain ⟨A', c', e, hf⟩ := own_form h
  injection e with e1 e2 e3
  obtain ⟨g, rfl, _, _⟩ := hf ad e1.symm
  exact h.cells (g := g) rfl j u hu
end

/-! ### A slice that is read as a list of cells, nil let in -/

/-- The slice (A, n) holds the cells xs, size to an element, and lies below block B. -/
def Sees (w : World) (B size : Nat) (A : Option Addr) (n : Nat) (xs : List Value) : Prop :=
  xs.length = n * size ∧ (0 < n → ∃ ad, A = some ad ∧ ad.block < B ∧ ∀ j u, xs[j]? = some u → w.cell? (ad.add j) = some u)

section
variable {S : Nat → Prop} {w w' : World} {B B' size n c : Nat} {A : Option Addr} {xs : List Value}
theorem Sees.nil (w : World) (B size : Nat) (A : Option Addr) : Sees w B size A 0 [] := ⟨by simp, fun h => absurd h (by omega)⟩
theorem Sees.chg (h : Sees w B size A n xs) (hc : Chg S w w') (hB : B ≤ w.heap.size) (hn : 0 < n → ∀ k, blkOf A = some k → ¬ S k) : Sees w' B size A n xs :=
  ⟨h.1, fun hn' => by
    obtain ⟨ad, rfl, hb, hx⟩ := h.2 hn'
    exact ⟨ad, rfl, hb, fun j u hu => (hc.cell (by rw [add_block]; omega) (by rw [add_block]; exact hn hn' _ rfl)).trans (hx j u hu)⟩⟩
theorem Sees.below (h : Sees w B size A n xs) (hb : Below B w w') : Sees w' B size A n xs :=
  ⟨h.1, fun hn' => by
    obtain ⟨ad, rfl, hb', hx⟩ := h.2 hn'
    exact ⟨ad, rfl, hb', fun j u hu => (hb.cell (p := ad.add j) (by rw [add_block]; exact hb')).trans (hx j u hu)⟩⟩
theorem Sees.more (h : Sees w B size A n xs) (hB : B ≤ B') : Sees w B' size A n xs :=
  ⟨h.1, fun hn' => by
    obtain ⟨ad, rfl, hb, hx⟩ := h.2 hn'
    exact ⟨ad, rfl, by omega, hx⟩⟩
theorem Sees.drewN (h : Sees w B size A n xs) (k : Nat) : Sees (w.drewN k) B size A n xs := h
theorem Sees.of_own {base : Nat} {E : TypeId} (h : w.ownsRow base E size (.slice A n c) n xs) : Sees w w.heap.size size A n xs :=
  ⟨h.1, fun hn' => by
    obtain ⟨g, rfl, _, hlt⟩ := own_addr h hn'
    exact ⟨_, rfl, hlt, own_cells h rfl⟩⟩
theorem Sees.of_blk {g : Nat} {t : TypeId} {cs : Array Value} (h : Blk w g t cs) (hs : cs.size = n * size) : Sees w w.heap.size size (some ⟨g, 0, none⟩) n cs.toList :=
  ⟨by simpa using hs, fun _ => ⟨_, rfl, h.lt, World.news_of_block h⟩⟩
/-- Where the elements lie, written out. -/
theorem Sees.spot (h : Sees w B size A n xs) (hn : 0 < n) (hs : 0 < size) : ∃ b off, A = some ⟨b, off, none⟩ ∧ b < B ∧ ∀ j u, xs[j]? = some u → w.cell? ⟨b, off + j, none⟩ = some u := by
  obtain ⟨ad, rfl, hb, hx⟩ := h.2 hn
  obtain ⟨b, off, spot⟩ := ad
  have hlen : 0 < xs.length := by rw [h.1]; exact Nat.mul_pos hn hs
  have h0 := hx 0 _ (List.getElem?_eq_getElem hlen)
  have hspot : spot = none := by simpa [Addr.add] using World.cell?_spot h0
  subst hspot
  exact ⟨b, off, rfl, hb, fun j u hu => by have := hx j u hu; rwa [add_flat] at this⟩
/-- The first k elements. -/
theorem Sees.take (h : Sees w B size A n xs) {k : Nat} (hk : k ≤ n) : Sees w B size A k (xs.take (k * size)) :=
  ⟨by rw [List.length_take, h.1]; exact Nat.min_eq_left (Nat.mul_le_mul_right _ hk), fun hn' => by
    obtain ⟨ad, rfl, hb, hx⟩ := h.2 (by omega)
    refine ⟨ad, rfl, hb, fun j u hu => hx j u ?_⟩
    rw [List.getElem?_take] at hu
    split at hu
    · exact hu
    · cases hu⟩
/-- All but the first k elements: the model keeps the address where nothing is left of the capacity. -/
theorem Sees.drop (h : Sees w B size A n xs) {k cap : Nat} (hk : k ≤ n) (hc : n ≤ cap) :
    Sees w B size (if cap = k then A else A.map (·.add (k * size))) (n - k) (xs.drop (k * size)) := by
  refine ⟨by rw [List.length_drop, h.1, Nat.sub_mul], fun hn' => ?_⟩
  obtain ⟨ad, rfl, hb, hx⟩ := h.2 (by omega)
  rw [if_neg (by omega)]
  refine ⟨ad.add (k * size), rfl, by rw [add_block]; exact hb, fun j u hu => ?_⟩
  rw [add_twice]
  exact hx _ u (by rw [← hu, List.getElem?_drop])
end

/-! ### s[k:] -/

/-- The address of s[k:]: the model keeps the old one where nothing is left of the capacity. -/
def cutAt (A : Option Addr) (c k size : Nat) : Option Addr := if c = k then A else A.map (·.add (k * size))

theorem run_tail {P : Program} (t e : TypeId) (size : Nat) (ht : P.underlying t = some (.slice e)) (i : TypeInfo) (hi : P.info? e = some i) (hs : i.size = size)
    (A : Option Addr) (n c k : Nat) (hk : k ≤ n) (w : World) :
    (Instr.slice t (.slice A n c) (some (.int .i64 (k : Int))) none none).run P w = .ok (.slice (cutAt A c k size) (n - k) (c - k)) w := by
  have he : P.elem t = e := by simp [Program.elem, ht]
  rw [run_slice_l _ t A n c (by rw [he]; exact ht) .i64 (k : Int) (by omega) (by omega), he]
  simp [Result.andThen, sliced, cutAt, sizeOf, typeInfo, hi, hs]

theorem Sees.tail {w : World} {B size n k cap : Nat} {A : Option Addr} {xs : List Value} (h : Sees w B size A n xs) (hk : k ≤ n) (hc : n ≤ cap) : Sees w B size (cutAt A cap k size) (n - k) (xs.drop (k * size)) :=
  h.drop hk hc

theorem own_cap {w : World} {B size n c : Nat} {E : TypeId} {A : Option Addr} {xs : List Value} (h : w.ownsRow B E size (.slice A n c) n xs) : n ≤ c := by
  rcases h.2 with ⟨e, h0⟩ | ⟨g, cap, cur, e, _, _, hc, _⟩
  · omega
  · injection e with e1 e2 e3
    omega

/-! ### append, the source nil or not, and where the new slice lies -/

section
variable {P : Program} (w : World)

theorem run_append_idle (base : Nat) (t ty e : TypeId) (i : TypeInfo) (size : Nat) (ht : P.underlying t = some (.slice e)) (hi : P.info? e = some i)
    (v : Value) (n : Nat) (xs : List Value) (hown : w.ownsRow base e size v n xs) (c : Nat) : (Builtin.append_ #[t, t] ty #[v, .slice none 0 c]).run P w = .ok v w := by
  rcases hown.2 with ⟨rfl, rfl⟩ | ⟨g, cap, cur, rfl, _, _, hnc, _⟩
  · simp [Builtin.append_, run_underlying ht, sizeOf, typeInfo, hi, Builtin.lenOf, Builtin.firstCells]
  · simp [Builtin.append_, run_underlying ht, sizeOf, typeInfo, hi, Builtin.lenOf, Builtin.firstCells, hnc, storeCells]

/-- What an append leaves. -/
structure Grew (w : World) (base : Nat) (e : TypeId) (size : Nat) (A : Option Addr) (n : Nat) (xs : List Value) (A' : Option Addr) (c' : Nat) (w' : World) : Prop where
  own : w'.ownsRow base e size (.slice A' n c') n xs
  by_ : w.grownBy w' (blkOf A)
  at_ : blkOf A' = blkOf A ∨ blkOf A' = some w.heap.size

theorem Grew.fresh {w w' : World} {base : Nat} {e : TypeId} {size : Nat} {A A' : Option Addr} {n c' : Nat} {xs : List Value} (h : Grew w base e size A n xs A' c' w') : Fresh w A A' := by
  intro k hk
  rcases h.at_ with e | e
  · exact .inl (e ▸ hk)
  · right
    have : w.heap.size = k := by rw [e] at hk; injection hk
    omega
theorem Grew.chg {w w' : World} {base : Nat} {e : TypeId} {size : Nat} {A A' : Option Addr} {n c' : Nat} {xs : List Value} (h : Grew w base e size A n xs A' c' w') : Chg (fun k => blkOf A = some k) w w' :=
  (Chg.refl _ w).grown h.by_ (fun _ hk _ => hk)

theorem run_append_sees (base : Nat) (t ty e : TypeId) (i : TypeInfo) (z : Value) (size bytes : Nat) (ht : P.underlying t = some (.slice e)) (hi : P.info? e = some i) (hz : i.zero = some z)
    (hsize : i.size = size) (hby : i.bytes = bytes) (hzs : z.cells.size = size) (hsz : 0 < size)
    (A : Option Addr) (n c : Nat) (xs : List Value) (hown : w.ownsRow base e size (.slice A n c) n xs)
    (B : Nat) (X : Option Addr) (m d : Nat) (news : List Value) (hr : Sees w B size X m news) (h1 : ∀ u ∈ news, u.oneCell' = true)
    (h63 : n + m ≤ maxLen) (hbytes : (n + m) * bytes ≤ 140737488355328) (hbase : base ≤ w.heap.size) :
    ∃ A' c' w', (Builtin.append_ #[t, t] ty #[.slice A n c, .slice X m d]).run P w = .ok (.slice A' (n + m) c') w' ∧ Grew w base e size A (n + m) (xs ++ news) A' c' w' := by
  rcases X with _ | ad
  · have hm : m = 0 := by
      rcases Nat.eq_zero_or_pos m with h0 | h0
      · exact h0
      · obtain ⟨ad, h, _⟩ := hr.2 h0
        cases h
    subst hm
    have hn : news = [] := List.eq_nil_of_length_eq_zero (by simpa using hr.1)
    subst hn
    exact ⟨A, c, w, run_append_idle w base t ty e i size ht hi _ n xs hown d, by simpa using hown, World.grownBy.refl w _, .inl rfl⟩
  · have hcells : ∀ j u, news[j]? = some u → w.cell? (ad.add j) = some u := by
      intro j u hu
      rcases Nat.eq_zero_or_pos m with h0 | h0
      · subst h0
        have hn : news = [] := List.eq_nil_of_length_eq_zero (by simpa using hr.1)
        subst hn
        simp at hu
      · obtain ⟨ad', h, _, hc⟩ := hr.2 h0
        injection h with h
        subst h
        exact hc j u hu
    obtain ⟨v', w', hrun, h2, h3, _, h5⟩ := run_append_own_at (P := P) w base t ty e i z size bytes ht hi hz hsize hby hzs hsz _ n xs hown ad m d news hr.1 hcells h1 h63 hbytes hbase
    obtain ⟨A', c', rfl, _⟩ := own_form h2
    rw [ownBlock_slice] at h3 h5
    rw [ownBlock_slice] at h5
    exact ⟨A', c', w', hrun, h2, h3, h5⟩

theorem wp_append_sees {o : Oper} {a : Act} {K : Act → World → Prop} {Q : Exit → Act → World → Prop} (s x : Operand) (t : TypeId)
    (ho : o.op = .call { callee := .builtin .append, args := #[s, x], argTypes := #[t, t] })
    (base : Nat) (e : TypeId) (i : TypeInfo) (z : Value) (size bytes : Nat) (ht : P.underlying t = some (.slice e)) (hi : P.info? e = some i) (hz : i.zero = some z)
    (hsize : i.size = size) (hby : i.bytes = bytes) (hzs : z.cells.size = size) (hsz : 0 < size)
    (A : Option Addr) (n c : Nat) (xs : List Value) (hs : a.eval s = .slice A n c) (hown : w.ownsRow base e size (.slice A n c) n xs)
    (B : Nat) (X : Option Addr) (m d : Nat) (news : List Value) (hx : a.eval x = .slice X m d) (hr : Sees w B size X m news) (h1 : ∀ u ∈ news, u.oneCell' = true)
    (h63 : n + m ≤ maxLen) (hbytes : (n + m) * bytes ≤ 140737488355328) (hbase : base ≤ w.heap.size)
    (h : ∀ A' c' w', Grew w base e size A (n + m) (xs ++ news) A' c' w' → K (a.put o.dst (.slice A' (n + m) c')) w') : o.wp P a w K Q := by
  obtain ⟨A', c', w', hrun, h2⟩ := run_append_sees (P := P) w base t o.type e i z size bytes ht hi hz hsize hby hzs hsz A n c xs hown B X m d news hr h1 h63 hbytes hbase
  unfold Oper.wp execOp
  simp only [ho, resolve, invoke, builtin, Sem.run_bind, Sem.run_pure, Result.andThen_ok, List.map_toArray, List.map_cons, List.map_nil, hs, hx, hrun]
  exact h A' c' w' h2

/-- In a plain region. -/
theorem wpList_append_sees {ops : Array Oper} {rest : List Oper} {o : Oper} {a : Act} {Q : Exit → Act → World → Prop} (hgd : o.guard = none) (s x : Operand) (t : TypeId)
    (ho : o.op = .call { callee := .builtin .append, args := #[s, x], argTypes := #[t, t] })
    (base : Nat) (e : TypeId) (i : TypeInfo) (z : Value) (size bytes : Nat) (ht : P.underlying t = some (.slice e)) (hi : P.info? e = some i) (hz : i.zero = some z)
    (hsize : i.size = size) (hby : i.bytes = bytes) (hzs : z.cells.size = size) (hsz : 0 < size)
    (A : Option Addr) (n c : Nat) (xs : List Value) (hs : a.eval s = .slice A n c) (hown : w.ownsRow base e size (.slice A n c) n xs)
    (B : Nat) (X : Option Addr) (m d : Nat) (news : List Value) (hx : a.eval x = .slice X m d) (hr : Sees w B size X m news) (h1 : ∀ u ∈ news, u.oneCell' = true)
    (h63 : n + m ≤ maxLen) (hbytes : (n + m) * bytes ≤ 140737488355328) (hbase : base ≤ w.heap.size)
    (h : ∀ A' c' w', Grew w base e size A (n + m) (xs ++ news) A' c' w' → wpList P ops Q rest (a.put o.dst (.slice A' (n + m) c')) w') : wpList P ops Q (o :: rest) a w :=
  wpList_plain hgd fun _ hK => wp_append_sees w s x t ho base e i z size bytes ht hi hz hsize hby hzs hsz A n c xs hs hown B X m d news hx hr h1 h63 hbytes hbase fun A' c' w' h2 => hK _ _ (h A' c' w' h2)

/-- In a region that draws its order. -/
theorem step_append_sees {ops : Array Oper} {o : Oper} {a : Act} {K : Act → World → Prop} {Q : Exit → Act → World → Prop} {F : Prop} (hgd : o.guard = none) (s x : Operand) (t : TypeId)
    (ho : o.op = .call { callee := .builtin .append, args := #[s, x], argTypes := #[t, t] })
    (base : Nat) (e : TypeId) (i : TypeInfo) (z : Value) (size bytes : Nat) (ht : P.underlying t = some (.slice e)) (hi : P.info? e = some i) (hz : i.zero = some z)
    (hsize : i.size = size) (hby : i.bytes = bytes) (hzs : z.cells.size = size) (hsz : 0 < size)
    (A : Option Addr) (n c : Nat) (xs : List Value) (hs : a.eval s = .slice A n c) (hown : w.ownsRow base e size (.slice A n c) n xs)
    (B : Nat) (X : Option Addr) (m d : Nat) (news : List Value) (hx : a.eval x = .slice X m d) (hr : Sees w B size X m news) (h1 : ∀ u ∈ news, u.oneCell' = true)
    (h63 : n + m ≤ maxLen) (hbytes : (n + m) * bytes ≤ 140737488355328) (hbase : base ≤ w.heap.size)
    (h : ∀ A' c' w', Grew w base e size A (n + m) (xs ++ news) A' c' w' → K (a.put o.dst (.slice A' (n + m) c')) w') :
    if Region.wanted o (yielded ops a.tmps) = true then Oper.wp P o a w K Q else F := by
  have hw : Region.wanted o (yielded ops a.tmps) = true := by simp [Region.wanted, hgd]
  rw [if_pos hw]
  exact wp_append_sees w s x t ho base e i z size bytes ht hi hz hsize hby hzs hsz A n c xs hs hown B X m d news hx hr h1 h63 hbytes hbase h
end

/-! ### An append that says whether it stayed in its place -/

theorem own_prefix {w : World} {B size n m c : Nat} {E : TypeId} {A : Option Addr} {xs : List Value} (h : w.ownsRow B E size (.slice A m c) m xs) (hn : 0 < m) (hm : n ≤ m) : w.ownsRow B E size (.slice A n c) n (xs.take (n * size)) := by
  have hle : n * size ≤ m * size := Nat.mul_le_mul_right _ hm
  refine ⟨by rw [List.length_take, h.1]; exact Nat.min_eq_left hle, ?_⟩
  rcases h.2 with ⟨_, h0⟩ | ⟨g, cap, cur, e, hb, hg, hc, hcm, hcs, ht⟩
  · omega
  · injection e with e1 e2 e3
    subst e1 e3
    exact .inr ⟨g, c, cur, rfl, hb, hg, by omega, hcm, hcs, by rw [← ht, List.take_take, Nat.min_eq_left hle]⟩

/-- What an append leaves, told apart: in its place (the same address, the same capacity), or in a block that is new (and then nothing that was there has turned). -/
structure Either (w : World) (base : Nat) (e : TypeId) (size : Nat) (A : Option Addr) (c : Nat) (n : Nat) (xs : List Value) (A' : Option Addr) (c' : Nat) (w' : World) : Prop where
  own : w'.ownsRow base e size (.slice A' n c') n xs
  way : (A' = A ∧ c' = c ∧ Chg (fun k => blkOf A = some k) w w') ∨ (Chg No w w' ∧ ∀ k, blkOf A' = some k → w.heap.size ≤ k)

section
variable {P : Program} (w : World)
theorem run_append_either (base : Nat) (t ty e : TypeId) (i : TypeInfo) (z : Value) (size bytes : Nat) (ht : P.underlying t = some (.slice e)) (hi : P.info? e = some i) (hz : i.zero = some z)
    (hsize : i.size = size) (hby : i.bytes = bytes) (hzs : z.cells.size = size) (hsz : 0 < size)
    (A : Option Addr) (n c : Nat) (xs : List Value) (hown : w.ownsRow base e size (.slice A n c) n xs)
    (C : Nat) (X : Option Addr) (m d : Nat) (news : List Value) (hr : Sees w C size X m news) (h1 : ∀ u ∈ news, u.oneCell' = true) (hm : 0 < m)
    (h63 : n + m ≤ maxLen) (hbytes : (n + m) * bytes ≤ 140737488355328) (hbase : base ≤ w.heap.size) :
    ∃ A' c' w', (Builtin.append_ #[t, t] ty #[.slice A n c, .slice X m d]).run P w = .ok (.slice A' (n + m) c') w' ∧ Either w base e size A c (n + m) (xs ++ news) A' c' w' := by
  obtain ⟨ad, rfl, _, hnews⟩ := hr.2 hm
  rcases hown.2 with ⟨e0, h0⟩ | ⟨g, cap, cur, e0, hb, hg, hnc, hcm, hcs, htk⟩
  · injection e0 with e1 e2 e3
    subst e1 e2 e3
    obtain ⟨v', w', hrun, h2, h3, _, h5⟩ := run_append_own_at (P := P) w base t ty e i z size bytes ht hi hz hsize hby hzs hsz _ 0 xs hown ad m d news hr.1 hnews h1 h63 hbytes hbase
    obtain ⟨A', c', rfl, _⟩ := own_form h2
    rw [ownBlock_slice] at h5
    refine ⟨A', c', w', hrun, h2, .inr ⟨(Chg.refl No w).grown h3 (by simp [Value.ownBlock]), fun k hk => ?_⟩⟩
    rcases h5 with h5 | h5
    · rw [h5] at hk; simp [Value.ownBlock] at hk
    · rw [h5] at hk; injection hk with hk; omega
  · injection e0 with e1 e2 e3
    subst e1 e3
    by_cases hroom : n + m ≤ c
    · obtain ⟨w', hrun, h2, h3⟩ := run_append_fits (P := P) w base t ty e i size ht hi hsize g n c xs hown ad m d news hr.1 hnews h1 hroom
      exact ⟨_, c, w', hrun, h2, .inl ⟨rfl, rfl, (Chg.refl _ w).grown h3 (fun k hk _ => by simpa [blkOf] using hk)⟩⟩
    · obtain ⟨v', w', hrun, r1, r2⟩ := run_append_arg_grows (P := P) w t ty e i z size bytes ht hi hz hsize hby hzs hsz ⟨g, 0, none⟩ n c xs hown.1 (own_cells hown rfl) ad m d news hr.1 hnews (by omega) h63 hbytes
      obtain ⟨A', c', rfl, hform⟩ := own_form r1
      refine ⟨A', c', w', hrun, ⟨r1.1, ?_⟩, .inr ⟨(Chg.refl No w).grown r2 (by simp), fun k hk => (own_lt r1 hk).1⟩⟩
      rcases r1.2 with h0 | ⟨g', cap', cur', e', hb', r⟩
      · exact .inl h0
      · exact .inr ⟨g', cap', cur', e', Nat.le_trans hbase hb', r⟩

theorem wp_append_either {o : Oper} {a : Act} {K : Act → World → Prop} {Q : Exit → Act → World → Prop} (s x : Operand) (t : TypeId)
    (ho : o.op = .call { callee := .builtin .append, args := #[s, x], argTypes := #[t, t] })
    (base : Nat) (e : TypeId) (i : TypeInfo) (z : Value) (size bytes : Nat) (ht : P.underlying t = some (.slice e)) (hi : P.info? e = some i) (hz : i.zero = some z)
    (hsize : i.size = size) (hby : i.bytes = bytes) (hzs : z.cells.size = size) (hsz : 0 < size)
    (A : Option Addr) (n c : Nat) (xs : List Value) (hs : a.eval s = .slice A n c) (hown : w.ownsRow base e size (.slice A n c) n xs)
    (C : Nat) (X : Option Addr) (m d : Nat) (news : List Value) (hx : a.eval x = .slice X m d) (hr : Sees w C size X m news) (h1 : ∀ u ∈ news, u.oneCell' = true) (hm : 0 < m)
    (h63 : n + m ≤ maxLen) (hbytes : (n + m) * bytes ≤ 140737488355328) (hbase : base ≤ w.heap.size)
    (h : ∀ A' c' w', Either w base e size A c (n + m) (xs ++ news) A' c' w' → K (a.put o.dst (.slice A' (n + m) c')) w') : o.wp P a w K Q := by
  obtain ⟨A', c', w', hrun, h2⟩ := run_append_either (P := P) w base t o.type e i z size bytes ht hi hz hsize hby hzs hsz A n c xs hown C X m d news hr h1 hm h63 hbytes hbase
  unfold Oper.wp execOp
  simp only [ho, resolve, invoke, builtin, Sem.run_bind, Sem.run_pure, Result.andThen_ok, List.map_toArray, List.map_cons, List.map_nil, hs, hx, hrun]
  exact h A' c' w' h2

theorem wpList_append_either {ops : Array Oper} {rest : List Oper} {o : Oper} {a : Act} {Q : Exit → Act → World → Prop} (hgd : o.guard = none) (s x : Operand) (t : TypeId)
    (ho : o.op = .call { callee := .builtin .append, args := #[s, x], argTypes := #[t, t] })
    (base : Nat) (e : TypeId) (i : TypeInfo) (z : Value) (size bytes : Nat) (ht : P.underlying t = some (.slice e)) (hi : P.info? e = some i) (hz : i.zero = some z)
    (hsize : i.size = size) (hby : i.bytes = bytes) (hzs : z.cells.size = size) (hsz : 0 < size)
    (A : Option Addr) (n c : Nat) (xs : List Value) (hs : a.eval s = .slice A n c) (hown : w.ownsRow base e size (.slice A n c) n xs)
    (C : Nat) (X : Option Addr) (m d : Nat) (news : List Value) (hx : a.eval x = .slice X m d) (hr : Sees w C size X m news) (h1 : ∀ u ∈ news, u.oneCell' = true) (hm : 0 < m)
    (h63 : n + m ≤ maxLen) (hbytes : (n + m) * bytes ≤ 140737488355328) (hbase : base ≤ w.heap.size)
    (h : ∀ A' c' w', Either w base e size A c (n + m) (xs ++ news) A' c' w' → wpList P ops Q rest (a.put o.dst (.slice A' (n + m) c')) w') : wpList P ops Q (o :: rest) a w :=
  wpList_plain hgd fun _ hK => wp_append_either w s x t ho base e i z size bytes ht hi hz hsize hby hzs hsz A n c xs hs hown C X m d news hx hr h1 hm h63 hbytes hbase fun A' c' w' h2 => hK _ _ (h A' c' w' h2)
end

/-! ### A ring: the struct (its list, its room) in block p, the list's row in a block of its own -/

/-- RT: the ring's struct type; E: the element's; size: cells to an element. The ring in block p holds the n elements whose cells are xs, and has room for most. -/
structure RingAt (RT E : TypeId) (size : Nat) (w : World) (B p : Nat) (A : Option Addr) (n c : Nat) (xs : List Value) (most : Nat) : Prop where
  blk : Blk w p RT #[.slice A n c, .int .i64 (most : Int)]
  own : w.ownsRow B E size (.slice A n c) n xs
  base : B ≤ p
  fits : n ≤ most
  most : most ≤ 100000

/-- What a ring's call may turn. -/
def Foot (p : Nat) (A : Option Addr) : Nat → Prop := fun k => k = p ∨ blkOf A = some k

section
variable {RT E : TypeId} {size : Nat} {S : Nat → Prop} {w w' : World} {B p n c : Nat} {A : Option Addr} {xs : List Value} {most : Nat}
theorem RingAt.c0 (h : RingAt RT E size w B p A n c xs most) : w.cell? ⟨p, 0, none⟩ = some (.slice A n c) := h.blk.cell 0
theorem RingAt.c1 (h : RingAt RT E size w B p A n c xs most) : w.cell? ⟨p, 1, none⟩ = some (.int .i64 (most : Int)) := h.blk.cell 1
theorem RingAt.drewN (h : RingAt RT E size w B p A n c xs most) (k : Nat) : RingAt RT E size (w.drewN k) B p A n c xs most := ⟨h.blk, h.own, h.base, h.fits, h.most⟩
theorem RingAt.chg (h : RingAt RT E size w B p A n c xs most) (hc : Chg S w w') (hn : ∀ k, Foot p A k → ¬ S k) : RingAt RT E size w' B p A n c xs most :=
  ⟨h.blk.chg hc (hn p (.inl rfl)), own_chg h.own hc (fun k hk => hn k (.inr (by rw [ownBlock_slice] at hk; exact hk))), h.base, h.fits, h.most⟩
theorem RingAt.foot_ge (h : RingAt RT E size w B p A n c xs most) : ∀ k, Foot p A k → B ≤ k := by
  rintro k (rfl | hk)
  · exact h.base
  · exact (own_lt h.own hk).1
theorem RingAt.foot_lt (h : RingAt RT E size w B p A n c xs most) : ∀ k, Foot p A k → k < w.heap.size := by
  rintro k (rfl | hk)
  · exact h.blk.lt
  · exact (own_lt h.own hk).2
theorem RingAt.len (h : RingAt RT E size w B p A n c xs most) : xs.length = n * size := h.own.1
end

/-- What a call that turns a ring leaves: the ring at its new list, and all else as it was. -/
def Moved (RT E : TypeId) (size : Nat) (w w' : World) (B p : Nat) (A : Option Addr) (n : Nat) (xs : List Value) (most : Nat) : Prop :=
  ∃ A' c', RingAt RT E size w' B p A' n c' xs most ∧ Chg (Foot p A) w w' ∧ Fresh w A A'

/-- The same, with what the call returns. -/
def RingPost (RT E : TypeId) (size : Nat) (w : World) (B p : Nat) (A : Option Addr) (v : Value) (n : Nat) (xs : List Value) (most : Nat) (e : Ending) (w' : World) : Prop :=
  e = .returned v ∧ Moved RT E size w w' B p A n xs most

/-- A ring that New has just made. -/
theorem RingAt.made (RT E : TypeId) (size : Nat) (w : World) (B most : Nat) (hB : B ≤ w.heap.size) (hm : most ≤ 100000) :
    RingAt RT E size (w.alloc (.cells #[.slice none 0 0, .int .i64 (most : Int)] RT)) B w.heap.size none 0 0 [] most :=
  ⟨Blk.new _ _ _, World.ownsRow_nil _ _ _ _, hB, Nat.zero_le _, hm⟩

section
variable {RT E : TypeId} {size : Nat} {w w1 : World} {B p n n' c c' : Nat} {A A0 A' : Option Addr} {xs xs' : List Value} {most : Nat}
/-- The ring's own struct behind an append onto its list (or onto nil). -/
theorem RingAt.behind (h : RingAt RT E size w B p A n c xs most) (hg : Grew w B E size A0 n' xs' A' c' w1) (h0 : ∀ k, blkOf A0 = some k → blkOf A = some k) (hE : E ≠ RT) :
    Blk w1 p RT #[.slice A n c, .int .i64 (most : Int)] :=
  h.blk.chg hg.chg (fun hk => own_ne h.own h.blk hE (h0 _ hk))
/-- Then the new list is stored into the struct. -/
theorem RingAt.put (h : RingAt RT E size w B p A n c xs most) (hg : Grew w B E size A0 n' xs' A' c' w1) (h0 : ∀ k, blkOf A0 = some k → blkOf A = some k) (hE : E ≠ RT) (hn : n' ≤ most) :
    Moved RT E size w (w1.setCell ⟨p, 0, none⟩ (.slice A' n' c')) B p A n' xs' most := by
  have hb := h.behind hg h0 hE
  have hc : Chg (Foot p A) w (w1.setCell ⟨p, 0, none⟩ (.slice A' n' c')) :=
    (hg.chg.mono (fun k _ hk => .inr (h0 k hk))).setCell (fun _ => .inl rfl) _
  refine ⟨A', c', ⟨?_, ?_, h.base, hn, h.most⟩, hc, fun k hk => ?_⟩
  · have hs := hb.store 0 (.slice A' n' c')
    simpa using hs
  · refine own_chg (w := w1) (S := fun k => k = p) hg.own ((Chg.refl (fun k => k = p) w1).setCell (p := ⟨p, 0, none⟩) (fun _ => rfl) _) (fun k hk e => ?_)
    subst e
    rw [ownBlock_slice] at hk
    exact own_ne hg.own hb hE hk
  · rcases hg.fresh k hk with e | e
    · exact .inl (h0 k e)
    · exact .inr e
end

/-- One cell of the ring's row is written. -/
theorem RingAt.stored {RT E : TypeId} {size : Nat} {w : World} {B p n c g : Nat} {xs : List Value} {most : Nat} (h : RingAt RT E size w B p (some ⟨g, 0, none⟩) n c xs most) (hE : E ≠ RT) (k : Nat) (u : Value) :
    Moved RT E size w (w.setCell ⟨g, k, none⟩ u) B p (some ⟨g, 0, none⟩) n (xs.set k u) most := by
  have hne : p ≠ g := fun e => own_ne h.own h.blk hE (by simp [blkOf, e])
  exact ⟨_, c, ⟨h.blk.far (p := ⟨g, k, none⟩) hne u, (h.own.stored k u).1, h.base, h.fits, h.most⟩, (Chg.refl _ w).setCell (p := ⟨g, k, none⟩) (fun _ => .inr rfl) u, Fresh.refl _ _⟩

theorem RingAt.alloc {RT E : TypeId} {size : Nat} {w : World} {B p n c : Nat} {A : Option Addr} {xs : List Value} {most : Nat} (h : RingAt RT E size w B p A n c xs most) (o : Obj) :
    RingAt RT E size (w.alloc o) B p A n c xs most := h.chg ((Chg.refl No w).alloc o) (fun _ _ t => t)
theorem RingAt.lower {RT E : TypeId} {size : Nat} {w : World} {B B' p n c : Nat} {A : Option Addr} {xs : List Value} {most : Nat} (h : RingAt RT E size w B p A n c xs most) (hB : B' ≤ B) :
    RingAt RT E size w B' p A n c xs most := by
  refine ⟨h.blk, ⟨h.own.1, ?_⟩, Nat.le_trans hB h.base, h.fits, h.most⟩
  rcases h.own.2 with h0 | ⟨g, cap, cur, e, hb, r⟩
  · exact .inl h0
  · exact .inr ⟨g, cap, cur, e, Nat.le_trans hB hb, r⟩
/-- What was made ahead of a call that turns a ring is no part of what was there. -/
theorem Moved.of_chg {RT E : TypeId} {size : Nat} {w w1 w' : World} {B p n : Nat} {A : Option Addr} {xs : List Value} {most : Nat}
    (hc : Chg No w w1) (h : Moved RT E size w1 w' B p A n xs most) : Moved RT E size w w' B p A n xs most := by
  obtain ⟨A', c', h1, h2, h3⟩ := h
  exact ⟨A', c', h1, hc.mono (T := Foot p A) (fun _ _ t => t.elim) |>.trans h2 (fun _ _ t => t), fun k hk => (h3 k hk).imp id (fun e => Nat.le_trans hc.size e)⟩

/-- What New leaves. -/
def NewPost (RT E : TypeId) (size : Nat) (w : World) (most : Nat) (e : Ending) (w' : World) : Prop :=
  e = .returned (.pointer (some ⟨w.heap.size, 0, none⟩)) ∧ RingAt RT E size w' w.heap.size w.heap.size none 0 0 [] most ∧ Chg No w w' ∧ w.heap.size < w'.heap.size

theorem Chg.of_drewN {S : Nat → Prop} {w w' : World} {q : Nat} (h : Chg S (w.drewN q) w') : Chg S w w' := ⟨h.os, h.tape, h.output, h.size, h.block⟩
theorem Moved.of_drewN {RT E : TypeId} {size : Nat} {w w' : World} {q B p n : Nat} {A : Option Addr} {xs : List Value} {most : Nat}
    (h : Moved RT E size (w.drewN q) w' B p A n xs most) : Moved RT E size w w' B p A n xs most := by
  obtain ⟨A', c', h1, h2, h3⟩ := h
  exact ⟨A', c', h1, h2.of_drewN, h3⟩
theorem RingAt.still {RT E : TypeId} {size : Nat} {w : World} {B p n c : Nat} {A : Option Addr} {xs : List Value} {most : Nat} (h : RingAt RT E size w B p A n c xs most) (q : Nat) :
    Moved RT E size w (w.drewN q) B p A n xs most := ⟨A, c, h.drewN q, (Chg.refl _ w).drewN q, Fresh.refl _ _⟩

/-- A list of its own: what List hands out. -/
def ListPost (E : TypeId) (size : Nat) (w : World) (n : Nat) (xs : List Value) (e : Ending) (w' : World) : Prop :=
  ∃ A c, e = .returned (.slice A n c) ∧ w'.ownsRow w.heap.size E size (.slice A n c) n xs ∧ Chg No w w'

/-! ### An append onto a field's slice, stored back into the struct -/

theorem Chg.no {S : Nat → Prop} {a b w : World} (h : Chg No a b) (k : Chg S b w) : Chg S a w := h.mono (T := S) (fun _ _ t => t.elim) |>.trans k (fun _ _ t => t)

/-- The struct in block kb behind an append onto the slice in one of its fields. -/
theorem Grew.still {w w0 w1 : World} {B kb n c1 size : Nat} {E T : TypeId} {cs : Array Value} {I I1 : Option Addr} {xs : List Value} (hg : Grew w0 B E size I n xs I1 c1 w1) (hb : Blk w kb T cs) (h0 : Chg No w w0) (hI : blkOf I ≠ some kb) : Blk w1 kb T cs :=
  (hb.chg h0 (fun t => t)).chg hg.chg hI
theorem Grew.put {w w0 w1 : World} {B kb n c1 size : Nat} {E T : TypeId} {cs : Array Value} {I I1 : Option Addr} {xs : List Value} (hg : Grew w0 B E size I n xs I1 c1 w1) (hb : Blk w kb T cs) (h0 : Chg No w w0) (hI : blkOf I ≠ some kb) (hE : E ≠ T) (j : Nat) :
    Blk (w1.setCell ⟨kb, j, none⟩ (.slice I1 n c1)) kb T (cs.setIfInBounds j (.slice I1 n c1)) ∧ (w1.setCell ⟨kb, j, none⟩ (.slice I1 n c1)).ownsRow B E size (.slice I1 n c1) n xs ∧
      Chg (fun k => k = kb ∨ blkOf I = some k) w (w1.setCell ⟨kb, j, none⟩ (.slice I1 n c1)) ∧ Fresh w I I1 := by
  have hb1 := hg.still hb h0 hI
  refine ⟨hb1.store j _, ?_, ?_, fun k hk => (hg.fresh k hk).imp id (fun e => Nat.le_trans h0.size e)⟩
  · refine own_chg (w := w1) (S := fun k => k = kb) hg.own ((Chg.refl (fun k => k = kb) w1).setCell (p := ⟨kb, j, none⟩) (fun _ => rfl) _) (fun k hk e => ?_)
    subst e
    rw [ownBlock_slice] at hk
    exact own_ne hg.own hb1 hE hk
  · exact ((h0.no hg.chg).mono (fun k _ hk => .inr hk)).setCell (p := ⟨kb, j, none⟩) (fun _ => .inl rfl) _

/-! ### Two rings that share nothing -/

def Apart (p : Nat) (A : Option Addr) (p' : Nat) (A' : Option Addr) : Prop := ∀ k, Foot p A k → ¬ Foot p' A' k
theorem Apart.symm {p p' : Nat} {A A' : Option Addr} (h : Apart p A p' A') : Apart p' A' p A := fun k h1 h2 => h k h2 h1
theorem Apart.step {w : World} {p p' : Nat} {A A' A'' : Option Addr} (h : Apart p A p' A') (hlt : ∀ k, Foot p A k → k < w.heap.size) (hf : Fresh w A' A'') : Apart p A p' A'' := by
  rintro k h1 (h2 | h2)
  · exact h k h1 (.inl h2)
  · rcases hf k h2 with e | e
    · exact h k h1 (.inr e)
    · have := hlt k h1; omega

/-! ### Numbers as cells -/

theorem ints_one {l : List Int} {k : IntKind} : ∀ u ∈ l.map (fun x => Value.int k x), u.oneCell' = true := by
  intro u hu
  rw [List.mem_map] at hu
  obtain ⟨i, _, rfl⟩ := hu
  rfl
theorem texts_one {l : List ByteArray} : ∀ u ∈ l.map (fun x => Value.string x), u.oneCell' = true := by
  intro u hu
  rw [List.mem_map] at hu
  obtain ⟨i, _, rfl⟩ := hu
  rfl
theorem sees_ints {w : World} {k : IntKind} {len : Nat} {x : Addr} {zs : List Int} (hl : len ≤ zs.length) (hc : ∀ i, i < zs.length → w.cell? (x.add i) = some (.int k (zs.getD i 0))) :
    Sees w w.heap.size 1 (some x) len ((zs.take len).map fun y => Value.int k y) := by
  refine ⟨by simp; omega, fun hn => ⟨x, rfl, ?_, fun j u hu => ?_⟩⟩
  · have := World.block_lt_of_cell? w _ (hc 0 (by omega))
    rwa [add_block] at this
  · rw [List.getElem?_map, List.getElem?_take] at hu
    split at hu
    · rename_i hj
      have hj' : j < zs.length := by omega
      rw [List.getElem?_eq_getElem hj'] at hu
      rw [hc j hj']
      simpa [hj'] using hu
    · simp at hu

end Go.Proofs.Ytipdeacaehbbfaa
