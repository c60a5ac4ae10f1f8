/-
  The book's lists of numbers: held against their copies, marked, grown, looked at.
-/
import Derived.Test.YtinklonbkhmpdaaGreatBook
namespace Go.Proofs.YtinklonbkhmpdaaGreat
open Go.RowKit

/-- The marks of list i, n of them from place a on. -/
def marks (i a n : Nat) : List Int := (List.range' a n).map fun (k : Nat) => -1000000 * (i : Int) - (k : Int) - 7
theorem marks_length (i a n : Nat) : (marks i a n).length = n := by simp [marks]
theorem marks_snoc (i a n : Nat) : marks i a n ++ [-1000000 * (i : Int) - ((a + n : Nat) : Int) - 7] = marks i a (n + 1) := by
  simp [marks, List.range'_concat]
theorem marks_add (i n m : Nat) : marks i 0 n ++ marks i n m = marks i 0 (n + m) := by
  have e := List.range'_append_1 (s := 0) (m := n) (n := m)
  rw [Nat.zero_add] at e
  unfold marks
  rw [← List.map_append, e]
theorem marks_take (i n m : Nat) (h : n ≤ m) : (marks i 0 m).take n = marks i 0 n := by
  have e := marks_add i n (m - n)
  rw [show n + (m - n) = m by omega] at e
  rw [← e]
  exact List.take_left' (marks_length i 0 n)

/-- The loop that marks. -/
def Marking (w : World) (i a n k : Nat) (o j : Value) (wr : World) : Prop :=
  ∃ m A c, o = .slice A m c ∧ j = .int .i64 ((a + m : Nat) : Int) ∧ m + k = n ∧ wr.ownsRow w.heap.size 3 1 (.slice A m c) m (nums (marks i a m)) ∧ Chg No w wr

theorem mark_ints (w : World) (i a n : Nat) (hi : i ≤ 250) (ha : a ≤ 200000) (hn : n ≤ 200000) :
    Calls Tryz.prog 101 #[.int .i64 (i : Int), .int .i64 (a : Int), .int .i64 (n : Int)] w (ListPost 3 1 w n (nums (marks i a n))) := by
  obtain ⟨i0, hi0, hz0, hz1, hz2⟩ := info_parts Tryz.info3
  have b1 : (i : Int) ≤ 250 := by omega
  have b2 : (a : Int) ≤ 200000 := by omega
  have b3 : (n : Int) ≤ 200000 := by omega
  go_enter Tryz.func101, Tryz.ntmps101
  go_wp2_with fail
  go_loopg [7, 8] n (fun k o j wr => Marking w i a n k o j wr)
  case atStart => exact ⟨0, none, 0, rfl, rfl, by omega, World.ownsRow_nil _ _ _ _, Chg.refl _ _⟩
  case round =>
    obtain ⟨m, A, c, rfl, rfl, hk, ho, hc⟩ := hrel
    have Hk := hide hk
    clear hk
    by_cases hlt : m < n
    · have hlt' : ((a + m : Nat) : Int) < a + n := by omega
      have hs := hc.size
      go_wp2_with (at_builtin; refine wpList_append_sees _ rfl (.tmp 17) (.tmp 23) 27 rfl w.heap.size 3 i0 (.int .i64 0) 1 8 Tryz.underlying27 hi0 hz0 hz1 hz2 rfl (by decide) A m c (nums (marks i a m)) rfl (own_chg ho ((Chg.refl No wr).alloc _) (fun _ _ t => t)) _ (some ⟨wr.heap.size, 0, none⟩) 1 1 [.int .i64 (-1000000 * (i : Int) - ((a + m : Nat) : Int) - 7)] rfl (Sees.of_blk (cs := #[.int .i64 (-1000000 * (i : Int) - ((a + m : Nat) : Int) - 7)]) (Blk.new _ _ _) rfl) (by simp [Value.oneCell']) (by unfold maxLen; omega) (by omega) (by simp; omega) ?_; intro A2 c2 w2 hg2)
      go_roundg (n - (m + 1))
      case measure => have := Hk.out; omega
      case rel =>
        refine ⟨m + 1, A2, c2, rfl, by go_num, by omega, ?_, ?_⟩
        · have := hg2.own
          rw [← marks_snoc]
          simpa [nums] using this
        · exact (hc.no ((Chg.refl No wr).alloc _)).trans hg2.chg (fun k hk e => by have := (own_lt ho e).1; omega)
    · obtain rfl : m = n := by have := Hk.out; omega
      go_wp2_with fail
      go_ret
      exact ⟨A, c, rfl, ho, hc⟩
/-- The loop that holds the lists against their copies. -/
def Holding (w : World) (N k : Nat) (j : Value) (wr : World) : Prop := ∃ K q : Nat, j = .int .i64 (K : Int) ∧ K + k = N ∧ w.drewN q = wr

theorem BookIn.drewN {w : World} {B kb N : Nat} {I W : Option Addr} {ci cw : Nat} {A A' : Nat → Option Addr} {c c' : Nat → Nat} {L : Nat → List Int} (h : BookIn w B kb N I W ci cw A A' c c' L) (q : Nat) :
    BookIn (w.drewN q) B kb N I W ci cw A A' c c' L := ⟨h.base, h.blk, h.outer, h.was, h.apart, h.short, h.inner, h.copy, h.sep⟩

set_option maxRecDepth 100000 in
theorem still_ints (w : World) (B kb N : Nat) (I W : Option Addr) (ci cw : Nat) (A A' : Nat → Option Addr) (c c' : Nat → Nat) (L : Nat → List Int) (h : BookIn w B kb N I W ci cw A A' c c' L) (hN : N ≤ 250) :
    Calls Tryz.prog 24 #[.pointer (some ⟨kb, 0, none⟩)] w fun e w' => e = .returned (.bool true) ∧ ∃ q, w.drewN q = w' := by
  have b1 : (N : Int) ≤ 250 := by omega
  go_enter Tryz.func24, Tryz.ntmps24
  go_wp2_with fail
  go_loopg [3] N (fun k j wr => Holding w N k j wr)
  case atStart => exact ⟨0, 0, rfl, by omega, rfl⟩
  case round =>
    obtain ⟨K, q, rfl, hk, hq⟩ := hrel
    have hr : BookIn wr B kb N I W ci cw A A' c c' L := by rw [← hq]; exact h.drewN q
    have Hk := hide hk
    have Hq := hide hq
    clear hk hq
    have c2 : wr.cell? ⟨kb, 2, none⟩ = some (.slice I N ci) := hr.blk.cell 2
    by_cases hlt : K < N
    · obtain ⟨gI, hI, _, _⟩ := own_addr hr.outer (by omega)
      obtain ⟨gW, hW, _, _⟩ := own_addr hr.was (by omega)
      have c3 : wr.cell? ⟨kb, 3, none⟩ = some (.slice W N cw) := hr.blk.cell 3
      have cI := own_cells hr.outer hI K _ (rowCells_get hlt)
      have cW := own_cells hr.was hW K _ (rowCells_get hlt)
      rw [add_flat, Nat.zero_add] at cI cW
      rw [hI] at c2
      rw [hW] at c3
      clear hI hW
      have hl := hr.short K hlt
      have hi : (K : Int) < N := by omega
      go_wp2_with fail
      go_quiet ((go_at_call 17; exact Calls.quiet_of (i_same_q wr wr.heap.size wr.heap.size (L K).length (c K) (c' K) _ (A K) (A' K) (L K) (Sees.of_own (hr.inner K hlt)) (Sees.of_own (hr.copy K hlt)) (by omega))))
      go_wp2_with fail
      go_roundg (N - (K + 1))
      case measure => have := Hk.out; omega
      case rel => exact ⟨K + 1, q + nq, by go_num, by omega, by rw [← Hq.out]; exact (World.drewN_drewN w q nq).symm⟩
    · go_wp2_with fail
      go_ret
      exact ⟨rfl, q, Hq.out⟩
/-- The book's lists alone, their copies forgotten. -/
structure Lists (w : World) (B kb N : Nat) (I : Option Addr) (ci : Nat) (W : Value) (A : Nat → Option Addr) (c : Nat → Nat) (L : Nat → List Int) : Prop where
  blk : Blk w kb 47 (bookCells (.slice I N ci) W)
  outer : w.ownsRow B 27 1 (.slice I N ci) N (rowCells N A c L)
  short : ∀ i, i < N → (L i).length ≤ 100000
  inner : ∀ i, i < N → w.ownsRow B 3 1 (.slice (A i) (L i).length (c i)) (L i).length (nums (L i))
  sep : ∀ i j, i < N → j < N → i ≠ j → ∀ k, blkOf (A i) = some k → blkOf (A j) ≠ some k

theorem rowCells_same {N : Nat} {A : Nat → Option Addr} {c : Nat → Nat} {L L' : Nat → List Int} (h : ∀ i, i < N → (L' i).length = (L i).length) : rowCells N A c L' = rowCells N A c L := by
  unfold rowCells
  exact List.map_congr_left fun i hi => by rw [h i (by simpa using hi)]

/-- The blocks of the lists. -/
def InnerFoot (N : Nat) (A : Nat → Option Addr) : Nat → Prop := fun k => ∃ i, i < N ∧ blkOf (A i) = some k

theorem Lists.chg {S : Nat → Prop} {w w' : World} {B kb N : Nat} {I : Option Addr} {ci : Nat} {W : Value} {A : Nat → Option Addr} {c : Nat → Nat} {L : Nat → List Int} (h : Lists w B kb N I ci W A c L)
    (hc : Chg S w w') (h1 : ¬ S kb) (h2 : ∀ k, blkOf I = some k → ¬ S k) (h3 : ∀ k, InnerFoot N A k → ¬ S k) : Lists w' B kb N I ci W A c L :=
  ⟨h.blk.chg hc h1, own_chg h.outer hc (fun k hk => h2 k (by rw [ownBlock_slice] at hk; exact hk)), h.short, fun i hi => own_chg (h.inner i hi) hc (fun k hk => h3 k ⟨i, hi, by rw [ownBlock_slice] at hk; exact hk⟩), h.sep⟩

/-- List i turns, in its place. -/
theorem Lists.turn {w w' : World} {B kb N i : Nat} {I : Option Addr} {ci : Nat} {W : Value} {A : Nat → Option Addr} {c : Nat → Nat} {L : Nat → List Int} (h : Lists w B kb N I ci W A c L) (hi : i < N)
    (hc : Chg (fun k => blkOf (A i) = some k) w w') (l : List Int) (hl : l.length = (L i).length) (ho : w'.ownsRow B 3 1 (.slice (A i) (L i).length (c i)) (L i).length (nums l)) :
    Lists w' B kb N I ci W A c (fun j => if j = i then l else L j) := by
  have hlen : ∀ j, j < N → (if j = i then l else L j).length = (L j).length := fun j _ => by
    split
    · rename_i e; rw [e]; exact hl
    · rfl
  refine ⟨h.blk.chg hc (own_ne (h.inner i hi) h.blk (by decide)), ?_, fun j hj => by rw [hlen j hj]; exact h.short j hj, fun j hj => ?_, h.sep⟩
  · rw [rowCells_same hlen]
    exact own_chg h.outer hc (fun k hk e => by rw [ownBlock_slice] at hk; exact own_own_ne (h.inner i hi) h.outer (by decide) k e hk)
  · by_cases hji : j = i
    · subst hji
      simp only [if_pos]
      rw [hl]; exact ho
    · simp only [if_neg hji]
      exact own_chg (h.inner j hj) hc (fun k hk e => by rw [ownBlock_slice] at hk; exact h.sep j i hj hi hji k hk e)

/-- The loop over the lists that are marked: those ahead of place i are. -/
def marked (L : Nat → List Int) (i : Nat) : Nat → List Int := fun j => if j < i then marks j 0 (L j).length else L j
theorem marked_zero (L : Nat → List Int) : marked L 0 = L := by funext j; simp [marked]
theorem marked_succ (L : Nat → List Int) (K : Nat) : (fun j => if j = K then marks K 0 (L K).length else marked L K j) = marked L (K + 1) := by
  funext j
  unfold marked
  by_cases h : j = K
  · subst h; simp
  · by_cases h1 : j < K
    · simp [h, h1, show j < K + 1 by omega]
    · simp [h, h1, show ¬ j < K + 1 by omega]
def Putting (w : World) (B kb N : Nat) (I : Option Addr) (ci : Nat) (W : Value) (A : Nat → Option Addr) (c : Nat → Nat) (L : Nat → List Int) (k : Nat) (j : Value) (wr : World) : Prop :=
  ∃ K : Nat, j = .int .i64 (K : Int) ∧ K + k = N ∧ Lists wr B kb N I ci W A c (marked L K) ∧ Chg (InnerFoot N A) w wr

/-- The loop over one list: its first places are marked. -/
def PuttingOne (w : World) (B kb N : Nat) (I : Option Addr) (ci : Nat) (W : Value) (A : Nat → Option Addr) (c : Nat → Nat) (L : Nat → List Int) (K : Nat) (M : Option Addr) (cm : Nat) (h0 : Nat) (k : Nat) (j : Value) (wr : World) : Prop :=
  ∃ T : Nat, j = .int .i64 (T : Int) ∧ T + k = (L K).length ∧ Lists wr B kb N I ci W A c (fun j => if j = K then (marks K 0 (L K).length).take T ++ (L K).drop T else marked L K j) ∧
    wr.ownsRow h0 3 1 (.slice M (L K).length cm) (L K).length (nums (marks K 0 (L K).length)) ∧ Chg (InnerFoot N A) w wr

theorem mix_set (M L : List Int) (T : Nat) (v : Int) (hM : M[T]? = some v) (hl : M.length = L.length) : (M.take T ++ L.drop T).set T v = M.take (T + 1) ++ L.drop (T + 1) := by
  obtain ⟨hT, hv⟩ := List.getElem?_eq_some_iff.1 hM
  have h1 : (M.take T).length = T := by rw [List.length_take]; omega
  rw [List.set_append_right _ _ (by omega), h1, Nat.sub_self, List.drop_eq_getElem_cons (by omega), List.set_cons_zero, List.take_succ_eq_append_getElem hT, hv]
  simp

set_option maxRecDepth 100000 in
theorem put_ints (w : World) (B kb N : Nat) (I : Option Addr) (ci : Nat) (W : Value) (A : Nat → Option Addr) (c : Nat → Nat) (L : Nat → List Int) (h : Lists w B kb N I ci W A c L) (hN : N ≤ 250) :
    Calls Tryz.prog 42 #[.pointer (some ⟨kb, 0, none⟩)] w fun e w' => e = .returned (.tuple #[]) ∧
      Lists w' B kb N I ci W A c (marked L N) ∧ Chg (InnerFoot N A) w w' := by
  have b1 : (N : Int) ≤ 250 := by omega
  go_enter Tryz.func42, Tryz.ntmps42
  go_wp2_with fail
  go_loopg [2] N (fun k j wr => Putting w B kb N I ci W A c L k j wr)
  case atStart => exact ⟨0, rfl, by omega, by rw [marked_zero]; exact h, Chg.refl _ _⟩
  case round =>
    obtain ⟨K, rfl, hk, hr, hc⟩ := hrel
    have Hk := hide hk
    clear hk
    have c2 : wr.cell? ⟨kb, 2, none⟩ = some (.slice I N ci) := hr.blk.cell 2
    by_cases hlt : K < N
    · obtain ⟨gI, hI, _, _⟩ := own_addr hr.outer (by omega)
      have cI := own_cells hr.outer hI K _ (rowCells_get hlt)
      have eK : marked L K K = L K := by simp [marked]
      rw [add_flat, Nat.zero_add, eK] at cI
      rw [hI] at c2
      have hl : ((L K).length : Int) ≤ 100000 := by have := hr.short K hlt; rw [eK] at this; omega
      have hi : (K : Int) < N := by omega
      have HI := hide hI
      have HE := hide eK
      clear hI eK
      go_wp2_with fail
      refine (mark_ints wr K 0 (L K).length (by omega) (by omega) (by omega)).mono ?_
      rintro e w1 ⟨M, cm, rfl, hM, hc1⟩
      have hs1 := hc1.size
      have hr1 := hr.chg hc1 (fun t => t) (fun _ _ t => t) (fun _ _ t => t)
      have hc01 := hc.trans hc1 (T := No) (fun _ _ t => t.elim)
      have hMA : ∀ j k, j < N → blkOf (A j) = some k → blkOf M ≠ some k := fun j k hj hk hm => by
        have h1 := (own_lt hM hm).1
        have h2 := (own_lt (hr.inner j hj) hk).2
        omega
      obtain ⟨wo, hwo⟩ : ∃ wo, wo = wr := ⟨_, rfl⟩
      subst hwo
      go_wp2_with fail
      go_loopg [4] (L K).length (fun k j w5 => PuttingOne w B kb N I ci W A c L K M cm wo.heap.size k j w5)
      case atStart =>
        refine ⟨0, rfl, by omega, ?_, hM, hc01⟩
        have e : (fun j => if j = K then (marks K 0 (L K).length).take 0 ++ (L K).drop 0 else marked L K j) = marked L K := by
          funext j
          by_cases hj : j = K
          · subst hj; simp [HE.out]
          · simp [hj]
        rw [e]; exact hr1
      case round =>
        obtain ⟨T, rfl, hk2, hr2, hM2, hc2⟩ := hrel
        have Hk2 := hide hk2
        clear hk2
        have hlen : ((marks K 0 (L K).length).take T ++ (L K).drop T).length = (L K).length := by
          rw [List.length_append, List.length_take, List.length_drop, marks_length]; have := Hk2.out; omega
        by_cases hT : T < (L K).length
        · have cb := hr2.blk.cell 2
          have cI2 := own_cells hr2.outer HI.out K _ (rowCells_get hlt)
          have ho := hr2.inner K hlt
          simp only [if_pos] at cI2 ho
          rw [hlen] at cI2 ho
          obtain ⟨ga, hA, _, _⟩ := own_addr ho (by omega)
          obtain ⟨gm, hMe, _, _⟩ := own_addr hM2 (by omega)
          have ca := own_cells ho hA T _ (List.getElem?_eq_getElem (by rw [List.length_map, hlen]; exact hT))
          have hmk : (marks K 0 (L K).length)[T]? = some (-1000000 * (K : Int) - (T : Int) - 7) := by simp [marks, hT]
          have cm1 := own_cells hM2 hMe T (.int .i64 (-1000000 * (K : Int) - (T : Int) - 7)) (by rw [List.getElem?_map, hmk]; rfl)
          rw [add_flat, Nat.zero_add] at cI2 ca cm1
          have fa : wr.frozen? ⟨ga, T, none⟩ = false := by have := ho; rw [hA] at this; exact this.frozenAt T
          obtain ⟨old, hold⟩ : ∃ u, wr.cell? ⟨ga, T, none⟩ = some u := ⟨_, ca⟩
          have cb2 : wr.cell? ⟨kb, 2, none⟩ = some (.slice (some ⟨gI, 0, none⟩) N ci) := by rw [← HI.out]; exact cb
          rw [hA] at cI2
          have hTi : (T : Int) < (L K).length := by omega
          have HA := hide hA
          have Hlen := hide hlen
          have Hmk := hide hmk
          subst hMe
          clear ca cb hA hlen hmk
          go_wp2_with fail
          go_region
          all_goals go_wp2_with fail
          all_goals
            have hset := mix_set (marks K 0 (L K).length) (L K) T _ Hmk.out (marks_length _ _ _)
            have ho3 := ho
            rw [HA.out] at ho3
            have hst := (ho3.stored T (.int .i64 (-1000000 * (K : Int) - (T : Int) - 7))).1
            have e3 : (nums ((marks K 0 (L K).length).take T ++ (L K).drop T)).set T (.int .i64 (-1000000 * (K : Int) - (T : Int) - 7)) = nums ((marks K 0 (L K).length).take (T + 1) ++ (L K).drop (T + 1)) := by
              rw [← hset]; simp [nums, List.map_set]
            rw [e3] at hst
            have hch : Chg (fun k => blkOf (A K) = some k) wr ((wr.setCell ⟨ga, T, none⟩ (.int .i64 (-1000000 * (K : Int) - (T : Int) - 7))).drewN 1) :=
              ((Chg.refl _ wr).setCell (p := ⟨ga, T, none⟩) (fun _ => by rw [HA.out]; rfl) _).drewN 1
            have hlen3 : ((marks K 0 (L K).length).take (T + 1) ++ (L K).drop (T + 1)).length = (L K).length := by
              rw [List.length_append, List.length_take, List.length_drop, marks_length]; omega
            have hfK : (if K = K then (marks K 0 (L K).length).take T ++ (L K).drop T else marked L K K).length = (L K).length := by rw [if_pos rfl]; exact Hlen.out
            have hnew := hr2.turn hlt hch _ (by rw [hlen3]; exact hfK.symm) (by rw [hfK, HA.out]; exact hst)
            have ef : (fun j => if j = K then (marks K 0 (L K).length).take (T + 1) ++ (L K).drop (T + 1) else if j = K then (marks K 0 (L K).length).take T ++ (L K).drop T else marked L K j) = (fun j => if j = K then (marks K 0 (L K).length).take (T + 1) ++ (L K).drop (T + 1) else marked L K j) := by
              funext j
              by_cases hj : j = K <;> simp [hj]
            rw [ef] at hnew
            go_roundg ((L K).length - (T + 1))
            case measure => have := Hk2.out; omega
            case rel => exact ⟨T + 1, by go_num, by omega, hnew, own_chg hM2 hch (fun k hk e => by rw [ownBlock_slice] at hk; exact hMA K k hlt e hk), hc2.trans hch (fun k _ e => ⟨K, hlt, e⟩)⟩
        · have hTe : T = (L K).length := by have := Hk2.out; omega
          have ef : (fun j => if j = K then (marks K 0 (L K).length).take T ++ (L K).drop T else marked L K j) = marked L (K + 1) := by
            rw [← marked_succ]
            funext j
            by_cases hj : j = K
            · simp only [hj, if_pos]
              rw [hTe, List.drop_eq_nil_of_le (Nat.le_refl _), List.append_nil, List.take_of_length_le (by rw [marks_length]; exact Nat.le_refl _)]
            · simp [hj]
          rw [ef] at hr2
          clear hTe ef hlen
          go_wp2_with fail
          go_roundg (N - (K + 1))
          case measure => have := Hk.out; omega
          case rel => exact ⟨K + 1, by go_num, by omega, hr2, hc2⟩
    · go_wp2_with fail
      go_end0
      obtain rfl : K = N := by have := Hk.out; omega
      exact ⟨rfl, hr, hc⟩
/-! ### Growing -/

theorem Lists.congr {w : World} {B kb N : Nat} {I : Option Addr} {ci : Nat} {W : Value} {A : Nat → Option Addr} {c : Nat → Nat} {L L' : Nat → List Int} (h : Lists w B kb N I ci W A c L) (e : ∀ i, i < N → L' i = L i) : Lists w B kb N I ci W A c L' :=
  ⟨h.blk, by rw [rowCells_same (L := L) (fun i hi => by rw [e i hi])]; exact h.outer, fun i hi => by rw [e i hi]; exact h.short i hi, fun i hi => by rw [e i hi]; exact h.inner i hi, h.sep⟩

/-- A row of slices. -/
def rowOf (N : Nat) (G : Nat → Option Addr) (n d : Nat → Nat) : List Value := (List.range N).map fun i => Value.slice (G i) (n i) (d i)
theorem rowOf_get {N : Nat} {G : Nat → Option Addr} {n d : Nat → Nat} {i : Nat} (h : i < N) : (rowOf N G n d)[i]? = some (Value.slice (G i) (n i) (d i)) := by simp [rowOf, h]
theorem rowOf_also (N : Nat) (G : Nat → Option Addr) (n d : Nat → Nat) (a : Option Addr) (e : Nat) : rowOf (N + 1) (also N G a) n (also N d e) = rowOf N G n d ++ [Value.slice a (n N) e] := by
  unfold rowOf
  rw [List.range_succ, List.map_append]
  congr 1
  · refine List.map_congr_left fun i hi => ?_
    have hi' : i < N := by simpa using hi
    rw [also_old _ _ hi', also_old _ _ hi']
  · simp [also_new]

/-- The lists of which the first K have grown; all are marked. -/
structure Grown1 (w wr : World) (B kb N : Nat) (I : Option Addr) (ci : Nat) (W : Value) (A : Nat → Option Addr) (c n : Nat → Nat) (K : Nat) (O : Option Addr) (co : Nat) (G : Nat → Option Addr) (d : Nat → Nat) : Prop where
  lists : Lists wr B kb N I ci W A c (fun j => marks j 0 (n j))
  out : wr.ownsRow w.heap.size 27 1 (.slice O K co) K (rowOf K G (fun j => n j + 72) d)
  done : ∀ j, j < K → wr.ownsRow B 3 1 (.slice (G j) (n j + 72) (d j)) (n j + 72) (nums (marks j 0 (n j + 72)))
  place : ∀ j, j < K → ∀ b, blkOf (G j) = some b → blkOf (A j) = some b ∨ w.heap.size ≤ b
  chg : Chg (InnerFoot N A) w wr

/-- And list K is growing: it has m elements. -/
structure Growing (w wr : World) (B kb N : Nat) (I : Option Addr) (ci : Nat) (W : Value) (A : Nat → Option Addr) (c n : Nat → Nat) (K : Nat) (O : Option Addr) (co : Nat) (G : Nat → Option Addr) (d : Nat → Nat) (X : Option Addr) (m cx : Nat) : Prop where
  all : Grown1 w wr B kb N I ci W A c n K O co G d
  own : wr.ownsRow B 3 1 (.slice X m cx) m (nums (marks K 0 m))
  more : n K ≤ m
  way : (X = A K ∧ cx = c K) ∨ ∀ b, blkOf X = some b → w.heap.size ≤ b
  apart : ∀ j, j < K → ∀ b, blkOf X = some b → blkOf (G j) ≠ some b

section
variable {w wr w1 w2 : World} {B kb N : Nat} {I : Option Addr} {ci : Nat} {W : Value} {A : Nat → Option Addr} {c n : Nat → Nat} {K : Nat} {O : Option Addr} {co : Nat} {G : Nat → Option Addr} {d : Nat → Nat} {X X' : Option Addr} {m p cx cx' : Nat}

theorem Grown1.begin (h : Grown1 w wr B kb N I ci W A c n K O co G d) (hl : Lists w B kb N I ci W A c (fun j => marks j 0 (n j))) (hK : K < N) : Growing w wr B kb N I ci W A c n K O co G d (A K) (n K) (c K) := by
  have ho := h.lists.inner K hK
  simp only [marks_length] at ho
  refine ⟨h, ho, Nat.le_refl _, .inl ⟨rfl, rfl⟩, fun j hj b hb hb' => ?_⟩
  rcases h.place j hj b hb' with e | e
  · exact h.lists.sep j K (by omega) hK (by omega) b e hb
  · have := (own_lt (hl.inner K hK) hb).2; omega

theorem Grown1.quiet (h : Grown1 w wr B kb N I ci W A c n K O co G d) (hc : Chg No wr w1) : Grown1 w w1 B kb N I ci W A c n K O co G d :=
  ⟨h.lists.chg hc (fun t => t) (fun _ _ t => t) (fun _ _ t => t), own_chg h.out hc (fun _ _ t => t), fun j hj => own_chg (h.done j hj) hc (fun _ _ t => t), h.place, h.chg.trans hc (fun _ _ t => t.elim)⟩
theorem Growing.quiet (h : Growing w wr B kb N I ci W A c n K O co G d X m cx) (hc : Chg No wr w1) : Growing w w1 B kb N I ci W A c n K O co G d X m cx :=
  ⟨h.all.quiet hc, own_chg h.own hc (fun _ _ t => t), h.more, h.way, h.apart⟩

/-- Some marks are appended. -/
theorem Growing.step (h : Growing w wr B kb N I ci W A c n K O co G d X m cx) (hl : Lists w B kb N I ci W A c (fun j => marks j 0 (n j))) (hK : K < N) (hp : 0 < p)
    (he : Either wr B 3 1 X cx (m + p) (nums (marks K 0 m) ++ nums (marks K m p)) X' cx' w2) : Growing w w2 B kb N I ci W A c n K O co G d X' (m + p) cx' := by
  have hown := he.own
  rw [← List.map_append, marks_add] at hown
  have hlt : ∀ j b, j < N → blkOf (A j) = some b → b < w.heap.size := fun j b hj hb => (own_lt (hl.inner j hj) hb).2
  have hAX : ∀ j, j < N → j ≠ K → ∀ b, blkOf X = some b → blkOf (A j) ≠ some b := fun j hj hne b hb hb' => by
    rcases h.way with ⟨rfl, _⟩ | hw
    · exact h.all.lists.sep j K hj hK hne b hb' hb
    · have := hw b hb; have := hlt j b hj hb'; omega
  have hsz := h.all.chg.size
  rcases he.way with ⟨rfl, rfl, hc⟩ | ⟨hc, hnew⟩
  · -- in its place
    have hAK : w2.ownsRow B 3 1 (.slice (A K) (n K) (c K)) (n K) (nums (marks K 0 (n K))) := by
      rcases h.way with ⟨e1, e2⟩ | hw
      · have := own_prefix hown (n := n K) (by omega) (by have := h.more; omega)
        rw [Nat.mul_one, ← List.map_take, marks_take _ _ _ (by have := h.more; omega), e1, e2] at this
        exact this
      · have ho := h.all.lists.inner K hK
        simp only [marks_length] at ho
        exact own_chg ho hc (fun b hb e => by rw [ownBlock_slice] at hb; have := hw b e; have := hlt K b hK hb; omega)
    have hlists : Lists w2 B kb N I ci W A c (fun j => marks j 0 (n j)) := by
      refine ⟨h.all.lists.blk.chg hc (own_ne h.own h.all.lists.blk (by decide)), own_chg h.all.lists.outer hc (fun b hb e => by rw [ownBlock_slice] at hb; exact own_own_ne h.own h.all.lists.outer (by decide) b e hb), h.all.lists.short, fun j hj => ?_, h.all.lists.sep⟩
      by_cases hjK : j = K
      · subst hjK; simp only [marks_length]; exact hAK
      · exact own_chg (h.all.lists.inner j hj) hc (fun b hb e => by rw [ownBlock_slice] at hb; exact hAX j hj hjK b e hb)
    refine ⟨⟨hlists, own_chg h.all.out hc (fun b hb e => by rw [ownBlock_slice] at hb; exact own_own_ne h.own h.all.out (by decide) b e hb), fun j hj => own_chg (h.all.done j hj) hc (fun b hb e => by rw [ownBlock_slice] at hb; exact h.apart j hj b e hb), h.all.place, h.all.chg.trans hc (fun b hb e => ?_)⟩, hown, by have := h.more; omega, h.way, h.apart⟩
    rcases h.way with ⟨e1, _⟩ | hw
    · exact ⟨K, hK, by rw [← e1]; exact e⟩
    · have := hw b e; omega
  · have h2 := h.quiet hc
    refine ⟨h2.all, hown, by have := h.more; omega, .inr (fun b hb => by have := hnew b hb; omega), fun j hj b hb hb' => ?_⟩
    have h1 := hnew b hb
    have h3 := (own_lt (h.all.done j hj) hb').2
    omega

/-- List K has grown: it is put behind the others. -/
theorem Growing.close {O' : Option Addr} {co' : Nat} (h : Growing w wr B kb N I ci W A c n K O co G d X (n K + 72) cx) (hl : Lists w B kb N I ci W A c (fun j => marks j 0 (n j)))
    (hg : Grew w1 w.heap.size 27 1 O (K + 1) (rowOf K G (fun j => n j + 72) d ++ [.slice X (n K + 72) cx]) O' co' w2) (hc : Chg No wr w1) :
    Grown1 w w2 B kb N I ci W A c n (K + 1) O' co' (also K G X) (also K d cx) := by
  have h1 := h.quiet hc
  have hne : ∀ {Z : Option Addr} {a b : Nat} {zs : List Value}, w1.ownsRow B 3 1 (.slice Z a b) a zs → w2.ownsRow B 3 1 (.slice Z a b) a zs := fun hz =>
    own_chg hz hg.chg (fun k hk e => by rw [ownBlock_slice] at hk; exact own_own_ne hz h1.all.out (by decide) k hk e)
  have hsz := h1.all.chg.size
  refine ⟨h1.all.lists.chg hg.chg (own_ne h1.all.out h1.all.lists.blk (by decide)) (fun k hk e => ?_) (fun k hk e => ?_), ?_, fun j hj => ?_, fun j hj b hb => ?_, h1.all.chg.trans hg.chg (fun k hk e => ?_)⟩
  · have h3 := (own_lt h1.all.out e).1
    have h4 := (own_lt hl.outer hk).2
    omega
  · obtain ⟨j, hj, hk⟩ := hk
    have h3 := (own_lt h1.all.out e).1
    have h4 := (own_lt (hl.inner j hj) hk).2
    omega
  · rw [rowOf_also]; exact hg.own
  · rcases Nat.lt_or_ge j K with h' | h'
    · rw [also_old _ _ h', also_old _ _ h']; exact hne (h1.all.done j h')
    · obtain rfl : j = K := by omega
      rw [also_new, also_new]; exact hne h1.own
  · rcases Nat.lt_or_ge j K with h' | h'
    · rw [also_old _ _ h'] at hb; exact h1.all.place j h' b hb
    · obtain rfl : j = K := by omega
      rw [also_new] at hb
      rcases h.way with ⟨e1, _⟩ | hw
      · exact .inl (by rw [← e1]; exact hb)
      · exact .inr (hw b hb)
  · have := (own_lt h1.all.out e).1; omega
end
/-- The loop over the lists that grow. -/
def GrowAll (w : World) (B kb N : Nat) (I : Option Addr) (ci : Nat) (W : Value) (A : Nat → Option Addr) (c n : Nat → Nat) (k : Nat) (o j : Value) (wr : World) : Prop :=
  ∃ K O co G d, o = .slice O K co ∧ j = .int .i64 (K : Int) ∧ K + k = N ∧ Grown1 w wr B kb N I ci W A c n K O co G d
/-- The loop that appends one mark a round. -/
def GrowOne (w : World) (B kb N : Nat) (I : Option Addr) (ci : Nat) (W : Value) (A : Nat → Option Addr) (c n : Nat → Nat) (K : Nat) (O : Option Addr) (co : Nat) (G : Nat → Option Addr) (d : Nat → Nat) (k : Nat) (l j : Value) (wr : World) : Prop :=
  ∃ T X cx, l = .slice X (n K + T) cx ∧ j = .int .i64 (T : Int) ∧ T + k = 12 ∧ Growing w wr B kb N I ci W A c n K O co G d X (n K + T) cx

set_option maxRecDepth 100000 in
theorem grow_ints (w : World) (B kb N : Nat) (I : Option Addr) (ci : Nat) (W : Value) (A : Nat → Option Addr) (c n : Nat → Nat) (h : Lists w B kb N I ci W A c (fun j => marks j 0 (n j))) (hN : N ≤ 250) (hB : B ≤ w.heap.size) :
    Calls Tryz.prog 54 #[.pointer (some ⟨kb, 0, none⟩)] w fun e w' => ∃ O co G d, e = .returned (.slice O N co) ∧ Grown1 w w' B kb N I ci W A c n N O co G d := by
  obtain ⟨i0, hi0, hz0, hz1, hz2⟩ := info_parts Tryz.info3
  obtain ⟨i1, hi1, hy0, hy1, hy2⟩ := info_parts Tryz.infoS
  have b1 : (N : Int) ≤ 250 := by omega
  go_enter Tryz.func54, Tryz.ntmps54
  go_wp2_with fail
  go_loopg [3, 4] N (fun k o j wr => GrowAll w B kb N I ci W A c n k o j wr)
  case atStart => exact ⟨0, none, 0, fun _ => none, fun _ => 0, rfl, rfl, by omega, h, World.ownsRow_nil _ _ _ _, fun j hj => by omega, fun j hj => by omega, Chg.refl _ _⟩
  case round =>
    obtain ⟨K, O, co, G, d, rfl, rfl, hk, hg⟩ := hrel
    have Hk := hide hk
    clear hk
    have c2 : wr.cell? ⟨kb, 2, none⟩ = some (.slice I N ci) := hg.lists.blk.cell 2
    by_cases hlt : K < N
    · obtain ⟨gI, hI, _, _⟩ := own_addr hg.lists.outer (by omega)
      have cI := own_cells hg.lists.outer hI K _ (rowCells_get hlt)
      simp only [marks_length] at cI
      rw [add_flat, Nat.zero_add] at cI
      rw [hI] at c2
      have hl : ((n K) : Int) ≤ 100000 := by have := hg.lists.short K hlt; simp only [marks_length] at this; omega
      have hi : (K : Int) < N := by omega
      clear hI
      have hbeg := hg.begin h hlt
      have hs0 := hg.chg.size
      obtain ⟨wo, hwo⟩ : ∃ wo, wo = wr := ⟨_, rfl⟩
      subst hwo
      go_wp2_with fail
      go_loopg [5, 6] 12 (fun k l j w5 => GrowOne w B kb N I ci W A c n K O co G d k l j w5)
      case atStart => exact ⟨0, A K, c K, rfl, rfl, by omega, hbeg⟩
      case round =>
        obtain ⟨T, X, cx, rfl, rfl, hk2, hgr⟩ := hrel
        have Hk2 := hide hk2
        have hs1 := hgr.all.chg.size
        by_cases hT : T < 12
        · clear hk2
          have hTi : (T : Int) < 12 := by omega
          have hm := mark_ints wr K (n K + T) 1 (by omega) (by omega) (by omega)
          rw [Int.natCast_add] at hm
          have Hm := hide hm
          clear hm
          go_wp2_with fail
          refine Hm.out.mono ?_
          rintro e w6 ⟨M, cm, rfl, hM, hc6⟩
          have hgr6 := hgr.quiet hc6
          have hs6 := hc6.size
          go_wp2_with (at_builtin; refine wpList_append_either _ rfl (.tmp 27) (.tmp 31) 27 rfl B 3 i0 (.int .i64 0) 1 8 Tryz.underlying27 hi0 hz0 hz1 hz2 rfl (by decide) X (n K + T) cx _ rfl hgr6.own _ M 1 cm _ rfl (Sees.of_own hM) ints_one (by omega) (by unfold maxLen; omega) (by omega) (by omega) ?_; intro X7 cx7 w7 he7)
          have hgr7 := hgr6.step h hlt (by omega) he7
          go_roundg (12 - (T + 1))
          case measure => have := Hk2.out; omega
          case rel => exact ⟨T + 1, X7, cx7, rfl, by go_num, by omega, hgr7⟩
        · obtain rfl : T = 12 := by omega
          clear hk2
          have hm := mark_ints wr K (n K + 12) 60 (by omega) (by omega) (by omega)
          rw [Int.natCast_add] at hm
          have Hm := hide hm
          clear hm
          go_wp2_with fail
          refine Hm.out.mono ?_
          rintro e w6 ⟨M, cm, rfl, hM, hc6⟩
          have hgr6 := hgr.quiet hc6
          have hs6 := hc6.size
          go_wp2_with (first
            | (at_builtin; refine wpList_append_either _ rfl (.tmp 34) (.tmp 38) 27 rfl B 3 i0 (.int .i64 0) 1 8 Tryz.underlying27 hi0 hz0 hz1 hz2 rfl (by decide) X (n K + 12) cx _ rfl hgr6.own _ M 60 cm _ rfl (Sees.of_own hM) ints_one (by omega) (by unfold maxLen; omega) (by omega) (by omega) ?_; intro X7 cx7 w7 he7; have hgr7 := hgr6.step h hlt (by omega) he7; rw [show n K + 12 + 60 = n K + 72 by omega] at hgr7; have hs7 := hgr7.all.chg.size)
            | (at_builtin; refine wpList_append_sees _ rfl (.tmp 33) (.tmp 40) 32 rfl w.heap.size 27 i1 (.slice none 0 0) 1 24 Tryz.underlying32 hi1 hy0 hy1 hy2 rfl (by decide) O K co _ rfl (own_chg hgr7.all.out ((Chg.refl No w7).alloc _) (fun _ _ t => t)) _ (some ⟨w7.heap.size, 0, none⟩) 1 1 [.slice X7 (n K + 72) cx7] rfl (Sees.of_blk (cs := #[.slice X7 (n K + 72) cx7]) (Blk.new _ _ _) rfl) (by simp [Value.oneCell']) (by unfold maxLen; omega) (by omega) (by simp; omega) ?_; intro O8 co8 w8 hg8))
          have hend := hgr7.close h hg8 ((Chg.refl No w7).alloc _)
          go_roundg (N - (K + 1))
          case measure => have := Hk.out; omega
          case rel => exact ⟨K + 1, O8, co8, also K G X7, also K d cx7, rfl, by go_num, by omega, hend⟩
    · obtain rfl : K = N := by have := Hk.out; omega
      go_wp2_with fail
      go_ret
      exact ⟨O, co, G, d, rfl, hg⟩
/-! ### Looking at the marks -/

def Looking (w : World) (N k : Nat) (j : Value) (wr : World) : Prop := ∃ K : Nat, j = .int .i64 (K : Int) ∧ K + k = N ∧ Chg No w wr

set_option maxRecDepth 100000 in
theorem marked_ints (w : World) (B N co : Nat) (O : Option Addr) (G : Nat → Option Addr) (n d : Nat → Nat) (hO : w.ownsRow B 27 1 (.slice O N co) N (rowOf N G n d))
    (hG : ∀ j, j < N → Sees w w.heap.size 1 (G j) (n j) (nums (marks j 0 (n j))) ∧ n j ≤ 200000) (hN : N ≤ 250) :
    Calls Tryz.prog 69 #[.slice O N co] w fun e w' => e = .returned (.bool true) ∧ Chg No w w' := by
  have b1 : (N : Int) ≤ 250 := by omega
  go_enter Tryz.func69, Tryz.ntmps69
  go_wp2_with fail
  rcases Nat.eq_zero_or_pos N with rfl | hp
  · refine wp_loop_rounds 1 ?_
    rw [rounds_succ]
    go_wp2
    go_ret
    exact ⟨rfl, Chg.refl _ _⟩
  · obtain ⟨gO, hOe, _, hOlt⟩ := own_addr hO hp
    subst hOe
    go_loopg [3] N (fun k j wr => Looking w N k j wr)
    case atStart => exact ⟨0, rfl, by omega, Chg.refl _ _⟩
    case round =>
      obtain ⟨K, rfl, hk, hc⟩ := hrel
      have Hk := hide hk
      clear hk
      by_cases hlt : K < N
      · have hO1 := own_chg hO hc (fun _ _ t => t)
        have cO := own_cells hO1 rfl K _ (rowOf_get hlt)
        rw [add_flat, Nat.zero_add] at cO
        obtain ⟨hS, hl⟩ := hG K hlt
        have hS1 := hS.chg hc (Nat.le_refl _) (fun _ _ _ t => t)
        have hi : (K : Int) < N := by omega
        have hl2 : ((n K : Nat) : Int) ≤ 200000 := by omega
        have hm := mark_ints (wr.drewN 1) K 0 (n K) (by omega) (by omega) (by omega)
        have Hm := hide hm
        clear hm
        go_wp2_with fail
        go_region_law (first
          | (go_simp; go_at_call 101; refine Hm.out.mono ?_; rintro e w3 ⟨M, cm, rfl, hM, hc3⟩; have h3c : Chg No wr w3 := hc3.of_drewN; have k2 : w3.cell? ⟨gO, K, none⟩ = some (.slice (G K) (n K) (d K)) := (h3c.cell (p := ⟨gO, K, none⟩) (by have := hc.size; simp; omega) (fun t => t)).trans cO; have hS3 := hS1.chg h3c hc.size (fun _ _ _ t => t))
          | (go_simp; go_at_call 17; refine (i_same w3 _ _ (n K) _ _ (G K) M (marks K 0 (n K)) hS3 (Sees.of_own hM) (by omega)).mono ?_; rintro e w4 ⟨rfl, q, rfl⟩))
        all_goals go_wp2_with fail
        all_goals go_roundg (N - (K + 1))
        all_goals try (case measure => have := Hk.out; omega)
        all_goals exact ⟨K + 1, by go_num, by omega, (hc.trans h3c (fun _ _ t => t)).drewN q⟩
      · go_wp2_with fail
        go_ret
        exact ⟨rfl, hc⟩
end Go.Proofs.YtinklonbkhmpdaaGreat
