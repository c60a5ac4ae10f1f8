/-
  The set of cuts: a map whose keys are pairs; asked, struck, laid. No condition.
-/
import Derived.Test.YtipdeacaehbbfaaNetEnds
import Derived.ChangeMaps
import Derived.MapKept
namespace Go.Proofs.Ytipdeacaehbbfaa
open Go.RowKit
open Go.ChangeMaps (setBlock)

abbrev wfPair (e : Int × Int) : Prop := (Lit.int .i64 e.1).wf = true ∧ (Lit.int .i64 e.2).wf = true
theorem pairVal_inj {a b : Int × Int} (h : pairVal a = pairVal b) : a = b := by
  simp only [pairVal, Value.agg.injEq, Array.mk.injEq, List.cons.injEq, Value.int.injEq] at h
  exact Prod.ext h.1.2 h.2.1.2

/-- The map C (nil, or in a block from B on) holds these keys, in this order. -/
structure CutsAt (w : World) (B : Nat) (C : Option Nat) (ks : List (Int × Int)) : Prop where
  wf : ∀ e ∈ ks, wfPair e
  nodup : ks.Nodup
  at_ : (C = none ∧ ks = []) ∨ ∃ m es clock, C = some m ∧ B ≤ m ∧ w.heap[m]? = some (.map es clock) ∧ es.toList.map (·.key) = ks.map pairVal ∧ ∀ x ∈ es.toList, x.val = .agg #[]

section
variable {w w' : World} {B : Nat} {C : Option Nat} {ks : List (Int × Int)}
theorem CutsAt.chg {S : Nat → Prop} (h : CutsAt w B C ks) (hc : Chg S w w') (hn : ∀ m, C = some m → ¬ S m) : CutsAt w' B C ks := by
  refine ⟨h.wf, h.nodup, ?_⟩
  rcases h.at_ with h0 | ⟨m, es, clock, rfl, hB, hm, r⟩
  · exact .inl h0
  · exact .inr ⟨m, es, clock, rfl, hB, (hc.block m (Array.getElem?_eq_some_iff.1 hm).1 (hn m rfl)).trans hm, r⟩
theorem CutsAt.lt (h : CutsAt w B C ks) {m : Nat} (hm : C = some m) : B ≤ m ∧ m < w.heap.size := by
  rcases h.at_ with ⟨h0, _⟩ | ⟨m', es, clock, h1, hB, hm', r⟩
  · rw [h0] at hm; cases hm
  · rw [h1] at hm; cases hm; exact ⟨hB, (Array.getElem?_eq_some_iff.1 hm').1⟩
theorem CutsAt.ne_blk (h : CutsAt w B C ks) {g : Nat} {t : TypeId} {cs : Array Value} (hb : Blk w g t cs) : C ≠ some g := by
  rcases h.at_ with ⟨h0, _⟩ | ⟨m', es, clock, h1, hB, hm', r⟩
  · rw [h0]; simp
  · rw [h1]
    rintro e
    injection e with e
    subst e
    have := hm'.symm.trans hb
    cases this

theorem cut_keys (h : ∀ e ∈ ks, wfPair e) {es : Array MapEntry} (hk : es.toList.map (·.key) = ks.map pairVal) : ∀ x ∈ es.toList, ∃ l, keyOf Try.prog 64 x.key = some l := by
  intro x hx
  have : x.key ∈ ks.map pairVal := by rw [← hk]; exact List.mem_map.2 ⟨x, hx, rfl⟩
  obtain ⟨e, he, hxe⟩ := List.mem_map.1 this
  rw [← hxe]
  exact pair_key e (h e he).1 (h e he).2
theorem mem_of_key {es : Array MapEntry} (hk : es.toList.map (·.key) = ks.map pairVal) {e : Int × Int} : e ∈ ks ↔ ∃ x ∈ es.toList, x.key = pairVal e := by
  constructor
  · intro he
    have : pairVal e ∈ es.toList.map (·.key) := by rw [hk]; exact List.mem_map.2 ⟨e, he, rfl⟩
    obtain ⟨x, hx, h⟩ := List.mem_map.1 this
    exact ⟨x, hx, h⟩
  · rintro ⟨x, hx, h⟩
    have : x.key ∈ ks.map pairVal := by rw [← hk]; exact List.mem_map.2 ⟨x, hx, rfl⟩
    obtain ⟨e', he', h'⟩ := List.mem_map.1 this
    rw [h] at h'
    rwa [← pairVal_inj h']

theorem map_erase {α β : Type} (f : α → β) : ∀ (l : List α) (j : Nat), (l.eraseIdx j).map f = (l.map f).eraseIdx j := by
  intro l
  induction l with
  | nil => intro j; rfl
  | cons a l ih =>
    intro j
    cases j with
    | zero => rfl
    | succ j => rw [List.eraseIdx_cons_succ, List.map_cons, List.map_cons, List.eraseIdx_cons_succ, ih]
theorem erase_filter : ∀ (l : List (Int × Int)), l.Nodup → ∀ (j : Nat) (e : Int × Int), l[j]? = some e → l.eraseIdx j = l.filter (· ≠ e) := by
  intro l
  induction l with
  | nil => intro _ j e h; simp at h
  | cons a l ih =>
    intro hn j e h
    obtain ⟨h1, h2⟩ := List.nodup_cons.1 hn
    cases j with
    | zero =>
      simp at h
      subst h
      rw [List.eraseIdx_cons_zero, List.filter_cons_of_neg (by simp)]
      exact (List.filter_eq_self.2 (fun x hx => by simp; rintro rfl; exact h1 hx)).symm
    | succ j =>
      have hj : l[j]? = some e := by simpa using h
      have hne : a ≠ e := by rintro rfl; exact h1 (List.mem_of_getElem? hj)
      rw [List.eraseIdx_cons_succ, List.filter_cons_of_pos (by simpa using hne), ih h2 j e hj]

theorem unit_zero (w : World) : (zeroValue 62).run Try.prog w = .ok (.agg #[]) w := by kernel_rfl

/-- '_, ok := m[k]' -/
theorem cut_look (h : CutsAt w B C ks) (e : Int × Int) (he : wfPair e) :
    (Instr.lookup 32 (.map C) (pairVal e) true).run Try.prog w = .ok (.tuple #[.agg #[], .bool (decide (e ∈ ks))]) w := by
  obtain ⟨l, hl⟩ := pair_key e he.1 he.2
  rcases h.at_ with ⟨rfl, rfl⟩ | ⟨m, es, clock, rfl, hB, hm, hk, hv⟩
  · have hck := pair_law.check w true hl
    rcases pair_law.find w hl [] (by simp) with ⟨h1, h2⟩ | ⟨j, e0, h1, h2, h3⟩
    · simp [Instr.lookup, run_underlying Try.underlying32, hck, h1, Result.andThen]
    · simp at h2
  · have hck := fun em => pair_law.check w em hl
    rcases pair_law.find w hl es.toList (cut_keys h.wf hk) with ⟨h1, h2⟩ | ⟨j, e0, h1, h2, h3⟩
    · have hn : e ∉ ks := fun hin => by obtain ⟨x, hx, hxe⟩ := (mem_of_key hk).1 hin; exact h2 x hx hxe
      simp [Instr.lookup, run_underlying Try.underlying32, MapKept.run_getObj_map hm, hck, h1, Result.andThen, hn]
    · have hin : e ∈ ks := (mem_of_key hk).2 ⟨e0, List.mem_of_getElem? h2, h3⟩
      have hval := hv e0 (List.mem_of_getElem? h2)
      simp [Instr.lookup, run_underlying Try.underlying32, MapKept.run_getObj_map hm, hck, h1, Result.andThen, hin, hval]

/-- 'delete(m, k)' -/
theorem cut_del (h : CutsAt w B C ks) (m : Nat) (hC : C = some m) (e : Int × Int) (he : wfPair e) (ty : TypeId) :
    ∃ es clock, (Builtin.delete_ #[32, 64] ty #[.map C, pairVal e]).run Try.prog w = .ok (.tuple #[]) (setBlock w m (.map es clock)) ∧ CutsAt (setBlock w m (.map es clock)) B C (ks.filter (· ≠ e)) := by
  obtain ⟨l, hl⟩ := pair_key e he.1 he.2
  rcases h.at_ with ⟨h0, _⟩ | ⟨m', es, clock, h1, hB, hm, hk, hv⟩
  · rw [h0] at hC; cases hC
  · rw [h1] at hC
    obtain rfl : m' = m := by injection hC
    subst h1
    have hck := fun em => pair_law.check w em hl
    have hlt : m' < w.heap.size := (Array.getElem?_eq_some_iff.1 hm).1
    have hset : ∀ o, (setBlock w m' o).heap[m']? = some o := fun o => by simp [setBlock, hlt]
    rcases pair_law.find w hl es.toList (cut_keys h.wf hk) with ⟨h1, h2⟩ | ⟨j, e0, h1, h2, h3⟩
    · have hn : e ∉ ks := fun hin => by obtain ⟨x, hx, hxe⟩ := (mem_of_key hk).1 hin; exact h2 x hx hxe
      have hf : ks.filter (· ≠ e) = ks := List.filter_eq_self.2 (fun a ha => by simp; rintro rfl; exact hn ha)
      refine ⟨es, clock, by simp [Builtin.delete_, run_underlying Try.underlying32, MapKept.run_getObj_map hm, hck, h1, MapKept.run_setObj_map _ hm, Result.andThen, setBlock], ?_⟩
      rw [hf]
      exact ⟨h.wf, h.nodup, .inr ⟨m', es, clock, rfl, hB, hset _, hk, hv⟩⟩
    · have hjl : j < es.toList.length := (List.getElem?_eq_some_iff.1 h2).1
      have hjs : j < es.size := by simpa using hjl
      have hsub : (es.eraseIdxIfInBounds j).toList = es.toList.eraseIdx j := by
        unfold Array.eraseIdxIfInBounds
        rw [dif_pos hjs]
        simp
      refine ⟨es.eraseIdxIfInBounds j, clock, by simp [Builtin.delete_, run_underlying Try.underlying32, MapKept.run_getObj_map hm, hck, h1, MapKept.run_setObj_map _ hm, Result.andThen, setBlock], ?_⟩
      refine ⟨fun a ha => h.wf a (List.mem_filter.1 ha).1, h.nodup.filter _, .inr ⟨m', _, clock, rfl, hB, hset _, ?_, ?_⟩⟩
      · rw [hsub, map_erase, hk, ← map_erase]
        congr 1
        have hkj : ks[j]? = some e := by
          have h4 : (es.toList.map (·.key))[j]? = some (pairVal e) := by rw [List.getElem?_map, h2]; simp [h3]
          rw [hk, List.getElem?_map] at h4
          cases hg : ks[j]? with
          | none => rw [hg] at h4; cases h4
          | some e' =>
            rw [hg] at h4
            simp only [Option.map_some, Option.some.injEq] at h4
            rw [pairVal_inj h4]
        exact erase_filter ks h.nodup j e hkj
      · intro x hx
        rw [hsub] at hx
        exact hv x ((List.eraseIdx_sublist _ _).subset hx)

/-- 'm[k] = struct{}{}', the key not there -/
theorem cut_add (h : CutsAt w B C ks) (m : Nat) (hC : C = some m) (e : Int × Int) (he : wfPair e) (hn : e ∉ ks) :
    ∃ es clock, (Instr.mapUpdate 32 (.map C) (pairVal e) (.agg #[])).run Try.prog w = .ok () (setBlock w m (.map es clock)) ∧ CutsAt (setBlock w m (.map es clock)) B C (ks ++ [e]) := by
  obtain ⟨l, hl⟩ := pair_key e he.1 he.2
  rcases h.at_ with ⟨h0, _⟩ | ⟨m', es, clock, h1, hB, hm, hk, hv⟩
  · rw [h0] at hC; cases hC
  · rw [h1] at hC
    obtain rfl : m' = m := by injection hC
    subst h1
    have hck := fun em => pair_law.check w em hl
    have hlt : m' < w.heap.size := (Array.getElem?_eq_some_iff.1 hm).1
    have hset : ∀ o, (setBlock w m' o).heap[m']? = some o := fun o => by simp [setBlock, hlt]
    rcases pair_law.find w hl es.toList (cut_keys h.wf hk) with ⟨h1, h2⟩ | ⟨j, e0, h1, h2, h3⟩
    · refine ⟨es.push ⟨pairVal e, .agg #[], clock⟩, clock + 1, by simp [Instr.mapUpdate, run_underlying Try.underlying32, MapKept.run_getObj_map hm, hck, h1, MapKept.run_setObj_map _ hm, Result.andThen, setBlock], ?_⟩
      refine ⟨?_, ?_, .inr ⟨m', _, clock + 1, rfl, hB, hset _, by simp [hk], ?_⟩⟩
      · intro a ha
        rcases List.mem_append.1 ha with ha | ha
        · exact h.wf a ha
        · rw [List.mem_singleton] at ha; rw [ha]; exact he
      · rw [List.nodup_append]
        refine ⟨h.nodup, by simp, ?_⟩
        intro a ha b hb
        rw [List.mem_singleton] at hb
        rintro rfl
        rw [hb] at ha
        exact hn ha
      · intro x hx
        rw [Array.toList_push, List.mem_append, List.mem_singleton] at hx
        rcases hx with hx | rfl
        · exact hv x hx
        · rfl
    · exact absurd ((mem_of_key hk).2 ⟨e0, List.mem_of_getElem? h2, h3⟩) hn

theorem Chg.setBlock {S : Nat → Prop} {a : World} (h : Chg S a w) {m : Nat} (hp : m < a.heap.size → S m) (o : Obj) : Chg S a (setBlock w m o) :=
  h.trans (T := fun k => k = m) ⟨rfl, rfl, rfl, by simp [ChangeMaps.setBlock], fun k _ hn => by simp only [ChangeMaps.setBlock]; rw [Array.getElem?_setIfInBounds_ne (Ne.symm hn)]⟩ (fun i hi e => by subst e; exact hp hi)
theorem CutsAt.made (w : World) (hB : B ≤ w.heap.size) : CutsAt (w.alloc (.map #[] 0)) B (some w.heap.size) [] :=
  ⟨by simp, by simp, .inr ⟨w.heap.size, #[], 0, rfl, hB, heap_alloc_new w _, rfl, by simp⟩⟩
end
end Go.Proofs.Ytipdeacaehbbfaa
