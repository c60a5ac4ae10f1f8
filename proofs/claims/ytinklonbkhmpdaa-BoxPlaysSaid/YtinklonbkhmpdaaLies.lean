/-
  A slice that the call made and that was cut at its front since ('x = x[1:]'): its address lies in the middle of a block. It is read, cut, and appended to.
-/
import Derived.Test.YtinklonbkhmpdaaBase
import Derived.ArgAppend
namespace Go.Proofs.Ytinklonbkhmpdaa
open Go.RowKit

/-- The slice (A, n, c) is nil, or its c places lie in one block from B on, none frozen, and the first n of them hold the cells xs. -/
def Lies (w : World) (B size : Nat) (A : Option Addr) (n c : Nat) (xs : List Value) : Prop :=
  xs.length = n * size ∧ n ≤ c ∧ c ≤ maxLen ∧
    ((A = none ∧ n = 0 ∧ c = 0) ∨
     ∃ g o, A = some ⟨g, o, none⟩ ∧ B ≤ g ∧ g < w.heap.size ∧ (∀ j, j < c * size → (w.cell? ⟨g, o + j, none⟩).isSome = true) ∧ (∀ j, w.frozen? ⟨g, o + j, none⟩ = false) ∧
       ∀ j u, xs[j]? = some u → w.cell? ⟨g, o + j, none⟩ = some u)

section
variable {w w' : World} {B size n c : Nat} {A : Option Addr} {xs : List Value}

theorem Lies.nil (w : World) (B size : Nat) : Lies w B size none 0 0 [] := ⟨by simp, Nat.le_refl _, Nat.zero_le _, .inl ⟨rfl, rfl, rfl⟩⟩
theorem Lies.of_own {E : TypeId} (h : w.ownsRow B E size (.slice A n c) n xs) : Lies w B size A n c xs := by
  refine ⟨h.1, own_cap h, ?_, ?_⟩
  · rcases h.2 with ⟨e, _⟩ | ⟨g, cap, cur, e, _, _, _, hm, _⟩
    · injection e with _ _ e3; omega
    · injection e with _ _ e3; omega
  · rcases h.2 with ⟨e, h0⟩ | ⟨g, cap, cur, e, hb, hg, _, _, hs, _⟩
    · injection e with e1 e2 e3
      exact .inl ⟨e1, h0, e3⟩
    · injection e with e1 e2 e3
      subst e1 e3
      have hblk : Blk w g E cur := hg
      refine .inr ⟨g, 0, rfl, hb, hblk.lt, fun j hj => ?_, fun j => ?_, fun j u hu => ?_⟩
      · rw [Nat.zero_add, hblk.cell, Array.getElem?_eq_getElem (by omega)]; rfl
      · exact hblk.frozen _
      · have := own_cells h rfl j u hu
        rwa [add_flat] at this
theorem Lies.drewN (h : Lies w B size A n c xs) (k : Nat) : Lies (w.drewN k) B size A n c xs := h
theorem Lies.lt (h : Lies w B size A n c xs) {k : Nat} (hk : blkOf A = some k) : B ≤ k ∧ k < w.heap.size := by
  rcases h.2.2.2 with ⟨rfl, _⟩ | ⟨g, o, rfl, hb, hlt, _⟩
  · simp [blkOf] at hk
  · have : g = k := by simpa [blkOf] using hk
    omega
theorem Lies.chg {S : Nat → Prop} (h : Lies w B size A n c xs) (hc : Chg S w w') (hn : ∀ k, blkOf A = some k → ¬ S k) : Lies w' B size A n c xs := by
  refine ⟨h.1, h.2.1, h.2.2.1, ?_⟩
  rcases h.2.2.2 with h0 | ⟨g, o, rfl, hb, hlt, h1, h2, h3⟩
  · exact .inl h0
  · have hS : ¬ S g := hn g rfl
    have hcell : ∀ j, w'.cell? ⟨g, o + j, none⟩ = w.cell? ⟨g, o + j, none⟩ := fun j => hc.cell (p := ⟨g, o + j, none⟩) hlt hS
    have hfro : ∀ j, w'.frozen? ⟨g, o + j, none⟩ = w.frozen? ⟨g, o + j, none⟩ := fun j => hc.frozen (p := ⟨g, o + j, none⟩) hlt hS
    exact .inr ⟨g, o, rfl, hb, Nat.lt_of_lt_of_le hlt hc.size, fun j hj => by rw [hcell]; exact h1 j hj, fun j => by rw [hfro]; exact h2 j, fun j u hu => by rw [hcell]; exact h3 j u hu⟩
theorem Lies.sees (h : Lies w B size A n c xs) : Sees w w.heap.size size A n xs :=
  ⟨h.1, fun hn => by
    rcases h.2.2.2 with ⟨_, h0, _⟩ | ⟨g, o, rfl, hb, hlt, h1, h2, h3⟩
    · omega
    · exact ⟨_, rfl, hlt, fun j u hu => by rw [add_flat]; exact h3 j u hu⟩⟩
theorem Lies.tail (h : Lies w B size A n c xs) {k : Nat} (hk : k ≤ n) : Lies w B size (cutAt A c k size) (n - k) (c - k) (xs.drop (k * size)) := by
  obtain ⟨hl, hnc, hm, h4⟩ := h
  refine ⟨by rw [List.length_drop, hl, Nat.sub_mul], by omega, by omega, ?_⟩
  rcases h4 with ⟨rfl, rfl, rfl⟩ | ⟨g, o, rfl, hb, hlt, h1, h2, h3⟩
  · left
    refine ⟨?_, by omega, by omega⟩
    unfold cutAt
    split <;> rfl
  · right
    unfold cutAt
    by_cases hck : c = k
    · rw [if_pos hck]
      subst hck
      have hn : n = c := by omega
      subst hn
      refine ⟨g, o, rfl, hb, hlt, fun j hj => by simp at hj, h2, fun j u hu => ?_⟩
      rw [List.drop_eq_nil_of_le (by omega)] at hu
      simp at hu
    · rw [if_neg hck]
      refine ⟨g, o + k * size, by simp [add_flat], hb, hlt, fun j hj => ?_, fun j => ?_, fun j u hu => ?_⟩
      · have := h1 (k * size + j) (by
          have : k * size + (c - k) * size = c * size := by rw [← Nat.add_mul]; congr 1; omega
          omega)
        rwa [show o + (k * size + j) = o + k * size + j by omega] at this
      · have := h2 (k * size + j)
        rwa [show o + (k * size + j) = o + k * size + j by omega] at this
      · have := h3 (k * size + j) u (by rw [← hu, List.getElem?_drop])
        rwa [show o + (k * size + j) = o + k * size + j by omega] at this
theorem Lies.spot (h : Lies w B size A n c xs) (hn : 0 < n) : ∃ g o, A = some ⟨g, o, none⟩ ∧ B ≤ g ∧ g < w.heap.size ∧ ∀ j u, xs[j]? = some u → w.cell? ⟨g, o + j, none⟩ = some u := by
  rcases h.2.2.2 with ⟨_, h0, _⟩ | ⟨g, o, rfl, hb, hlt, _, _, h3⟩
  · omega
  · exact ⟨g, o, rfl, hb, hlt, h3⟩
end

/-- What an append onto such a slice leaves. -/
structure Longer (w : World) (B size : Nat) (A : Option Addr) (n : Nat) (xs : List Value) (A' : Option Addr) (c' : Nat) (w' : World) : Prop where
  lies : Lies w' B size A' n c' xs
  chg : Chg (fun k => blkOf A = some k) w w'
  fresh : Fresh w A A'

section
variable {P : Program} (w : World)

theorem run_append_longer (t ty e : TypeId) (i : TypeInfo) (z : Value) (size bytes : Nat) (ht : P.underlying t = some (.slice e)) (hi : P.info? e = some i) (hz : i.zero = some z)
    (hsize : i.size = size) (hby : i.bytes = bytes) (hzs : z.cells.size = size) (hsz : 0 < size)
    (B : Nat) (A : Option Addr) (n c : Nat) (xs : List Value) (hx : Lies w B size A n c xs)
    (C : Nat) (X : Option Addr) (m d : Nat) (news : List Value) (hr : Sees w C size X m news) (h1 : ∀ u ∈ news, u.oneCell' = true)
    (h63 : n + m ≤ maxLen) (hbytes : (n + m) * bytes ≤ 140737488355328) (hB : B ≤ w.heap.size) :
    ∃ A' c' w', (Builtin.append_ #[t, t] ty #[.slice A n c, .slice X m d]).run P w = .ok (.slice A' (n + m) c') w' ∧ Longer w B size A (n + m) (xs ++ news) A' c' w' := by
  have idle : m = 0 → news = [] := fun h => List.eq_nil_of_length_eq_zero (by rw [hr.1, h]; simp)
  rcases hx.2.2.2 with ⟨rfl, rfl, rfl⟩ | ⟨g, o, rfl, hb, hlt, hsome, hfree, hcells⟩
  · have hxs : xs = [] := List.eq_nil_of_length_eq_zero (by simpa using hx.1)
    subst hxs
    obtain ⟨A', c', w', hrun, hg⟩ := run_append_sees (P := P) w B t ty e i z size bytes ht hi hz hsize hby hzs hsz none 0 0 [] (World.ownsRow_nil w B e size) C X m d news hr h1 h63 hbytes hB
    exact ⟨A', c', w', hrun, Lies.of_own hg.own, hg.chg, hg.fresh⟩
  · rcases X with _ | ad
    · have hm : m = 0 := by
        rcases Nat.eq_zero_or_pos m with h0 | h0
        · exact h0
        · obtain ⟨ad, h, _⟩ := hr.2 h0
          cases h
      subst hm
      obtain rfl := idle rfl
      refine ⟨some ⟨g, o, none⟩, c, w, ?_, by simpa using hx, Chg.refl _ _, Fresh.refl _ _⟩
      have hnc := hx.2.1
      simp [Builtin.append_, run_underlying ht, sizeOf, typeInfo, hi, Builtin.lenOf, Builtin.firstCells, hnc, storeCells]
    · have hnews : ∀ j u, news[j]? = some u → w.cell? (ad.add j) = some u := by
        intro j u hu
        rcases Nat.eq_zero_or_pos m with h0 | h0
        · rw [idle h0] at hu; simp at hu
        · obtain ⟨ad', h, _, hc⟩ := hr.2 h0
          injection h with h
          subst h
          exact hc j u hu
      by_cases hroom : n + m ≤ c
      · have hfit : ∀ j, j < news.length → n * size + j < c * size := fun j hj => by
          have h2 : (n + m) * size ≤ c * size := Nat.mul_le_mul_right _ hroom
          rw [Nat.add_mul] at h2
          rw [hr.1] at hj
          omega
        have hs : ∀ j, j < news.length → (w.cell? ⟨g, o + n * size + j, none⟩).isSome = true := fun j hj => by
          have := hsome (n * size + j) (hfit j hj)
          rwa [show o + (n * size + j) = o + n * size + j by omega] at this
        have hf : ∀ j, j < news.length → w.frozen? ⟨g, o + n * size + j, none⟩ = false := fun j _ => by
          have := hfree (n * size + j)
          rwa [show o + (n * size + j) = o + n * size + j by omega] at this
        subst hsize
        have hrun := run_append_room_cells (P := P) w t ty e i ht hi g o n c ad m d news hr.1 hnews h1 hroom hs hf
        have hother : ∀ (vs : List Value) (q : Nat) (v : World) (k : Nat), k ≠ g → (v.setCells g q vs).heap[k]? = v.heap[k]? ∧ (v.setCells g q vs).heap.size = v.heap.size ∧ (v.setCells g q vs).os = v.os ∧ (v.setCells g q vs).tape = v.tape ∧ (v.setCells g q vs).output = v.output := by
          intro vs
          induction vs with
          | nil => intro q v k _; exact ⟨rfl, rfl, rfl, rfl, rfl⟩
          | cons x r ih =>
            intro q v k hk
            obtain ⟨a1, a2, a3, a4, a5⟩ := ih (q + 1) (v.setCell ⟨g, q, none⟩ x) k hk
            exact ⟨a1.trans (Below.heap_setCell v ⟨g, q, none⟩ x k hk), a2.trans (by simp [World.setCell]), a3, a4, a5⟩
        have hch : Chg (fun k => blkOf (some ⟨g, o, none⟩) = some k) w (w.setCells g (o + n * i.size) news) := by
          obtain ⟨_, a2, a3, a4, a5⟩ := hother news (o + n * i.size) w (g + 1) (by omega)
          exact ⟨a3, a4, a5, by omega, fun k _ hn => (hother news (o + n * i.size) w k (fun e => hn (by simp [blkOf, e]))).1⟩
        refine ⟨some ⟨g, o, none⟩, c, _, hrun, ⟨⟨by rw [List.length_append, hx.1, hr.1, Nat.add_mul], hroom, hx.2.2.1, .inr ⟨g, o, rfl, hb, Nat.lt_of_lt_of_le hlt hch.size, fun j hj => ?_, fun j => ?_, fun j u hu => ?_⟩⟩, hch, Fresh.refl _ _⟩⟩
        · by_cases hin : n * i.size ≤ j ∧ j < n * i.size + news.length
          · have := World.cell?_setCells_in g news (o + n * i.size) w hs (j - n * i.size) (by omega)
            rw [show o + n * i.size + (j - n * i.size) = o + j by omega] at this
            rw [this]; rfl
          · rw [World.cell?_setCells_out g news (o + n * i.size) w ⟨g, o + j, none⟩ (fun _ _ => by simp; omega)]
            exact hsome j hj
        · rw [World.frozen?_setCells]
          exact hfree j
        · rw [List.getElem?_append] at hu
          rw [hx.1] at hu
          split at hu
          · rename_i hj
            rw [World.cell?_setCells_out g news (o + n * i.size) w ⟨g, o + j, none⟩ (fun _ _ => by simp; omega)]
            exact hcells j u hu
          · rename_i hj
            obtain ⟨hlt', hval⟩ := List.getElem?_eq_some_iff.1 hu
            have := World.cell?_setCells_in g news (o + n * i.size) w hs (j - n * i.size) hlt'
            rw [show o + n * i.size + (j - n * i.size) = o + j by omega] at this
            rw [this, hval]
      · obtain ⟨v', w', hrun, r1, r2⟩ := run_append_arg_grows (P := P) w t ty e i z size bytes ht hi hz hsize hby hzs hsz ⟨g, o, none⟩ n c xs hx.1 (fun j u hu => by rw [add_flat]; exact hcells j u hu) ad m d news hr.1 hnews (by omega) h63 hbytes
        obtain ⟨A', c', rfl, hform⟩ := own_form r1
        refine ⟨A', c', w', hrun, ⟨?_, (Chg.refl _ w).grown r2 (by simp), fun k hk => .inr ?_⟩⟩
        · have h2 := Lies.of_own r1
          refine ⟨h2.1, h2.2.1, h2.2.2.1, ?_⟩
          rcases h2.2.2.2 with h0 | ⟨g', o', e1, e2, r⟩
          · exact .inl h0
          · exact .inr ⟨g', o', e1, by omega, r⟩
        · exact (own_lt r1 hk).1

theorem wp_append_longer {o : Oper} {a : Act} {K : Act → World → Prop} {Q : Exit → Act → World → Prop} (s x : Operand) (t : TypeId)
    (ho : o.op = .call { callee := .builtin .append, args := #[s, x], argTypes := #[t, t] })
    (e : TypeId) (i : TypeInfo) (z : Value) (size bytes : Nat) (ht : P.underlying t = some (.slice e)) (hi : P.info? e = some i) (hz : i.zero = some z)
    (hsize : i.size = size) (hby : i.bytes = bytes) (hzs : z.cells.size = size) (hsz : 0 < size)
    (B : Nat) (A : Option Addr) (n c : Nat) (xs : List Value) (hs : a.eval s = .slice A n c) (hl : Lies w B size A n c xs)
    (C : Nat) (X : Option Addr) (m d : Nat) (news : List Value) (hx : a.eval x = .slice X m d) (hr : Sees w C size X m news) (h1 : ∀ u ∈ news, u.oneCell' = true)
    (h63 : n + m ≤ maxLen) (hbytes : (n + m) * bytes ≤ 140737488355328) (hB : B ≤ w.heap.size)
    (h : ∀ A' c' w', Longer w B size A (n + m) (xs ++ news) A' c' w' → K (a.put o.dst (.slice A' (n + m) c')) w') : o.wp P a w K Q := by
  obtain ⟨A', c', w', hrun, h2⟩ := run_append_longer (P := P) w t o.type e i z size bytes ht hi hz hsize hby hzs hsz B A n c xs hl C X m d news hr h1 h63 hbytes hB
  unfold Oper.wp execOp
  simp only [ho, resolve, invoke, builtin, Sem.run_bind, Sem.run_pure, Result.andThen_ok, List.map_toArray, List.map_cons, List.map_nil, hs, hx, hrun]
  exact h A' c' w' h2

theorem wpList_append_longer {ops : Array Oper} {rest : List Oper} {o : Oper} {a : Act} {Q : Exit → Act → World → Prop} (hgd : o.guard = none) (s x : Operand) (t : TypeId)
    (ho : o.op = .call { callee := .builtin .append, args := #[s, x], argTypes := #[t, t] })
    (e : TypeId) (i : TypeInfo) (z : Value) (size bytes : Nat) (ht : P.underlying t = some (.slice e)) (hi : P.info? e = some i) (hz : i.zero = some z)
    (hsize : i.size = size) (hby : i.bytes = bytes) (hzs : z.cells.size = size) (hsz : 0 < size)
    (B : Nat) (A : Option Addr) (n c : Nat) (xs : List Value) (hs : a.eval s = .slice A n c) (hl : Lies w B size A n c xs)
    (C : Nat) (X : Option Addr) (m d : Nat) (news : List Value) (hx : a.eval x = .slice X m d) (hr : Sees w C size X m news) (h1 : ∀ u ∈ news, u.oneCell' = true)
    (h63 : n + m ≤ maxLen) (hbytes : (n + m) * bytes ≤ 140737488355328) (hB : B ≤ w.heap.size)
    (h : ∀ A' c' w', Longer w B size A (n + m) (xs ++ news) A' c' w' → wpList P ops Q rest (a.put o.dst (.slice A' (n + m) c')) w') : wpList P ops Q (o :: rest) a w :=
  wpList_plain hgd fun _ hK => wp_append_longer w s x t ho e i z size bytes ht hi hz hsize hby hzs hsz B A n c xs hs hl C X m d news hx hr h1 h63 hbytes hB fun A' c' w' h2 => hK _ _ (h A' c' w' h2)
end

end Go.Proofs.Ytinklonbkhmpdaa
