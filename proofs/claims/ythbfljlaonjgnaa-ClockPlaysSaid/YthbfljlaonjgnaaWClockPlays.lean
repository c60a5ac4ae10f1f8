/-
  The walk of ClockPlays.
-/
import Derived.Test.YthbfljlaonjgnaaRefClock
import Derived.Deep.RegionLaw
import Derived.IntWalk
namespace Go.Proofs.Ythbfljlaonjgnaa.clockPlays
open Go.RowKit
set_option linter.unusedSimpArgs false

theorem clock_step_at (w : World) (B q : Nat) (F : Nat → Prop) (now real b : Int) (bs : List Int) (br br3 : Bool) (by_ : Int) (h : Clk w B q F now real (last8 bs) br) (hB : B ≤ w.heap.size)
    (h1 : 0 ≤ now) (h2 : now ≤ 100000) (h3 : 0 ≤ real) (h4 : real ≤ 100000) (h5 : ∀ x ∈ last8 bs, 0 ≤ x ∧ x ≤ 8) (hb : b = stepBy by_) (hbr : br3 = (br || badSum (last8 (bs ++ [b])))) :
    Calls Try.prog 12 #[.pointer (some ⟨q, 0, none⟩), .int .i64 by_] w fun e w' => e = .returned (.int .i64 (now + b)) ∧
      ∃ F', Clk w' B q F' (now + b) (real + 1) (last8 (bs ++ [b])) br3 ∧ Chg F w w' ∧ ∀ k, F' k → F k ∨ w.heap.size ≤ k := by
  have := clock_step w B q F now real (last8 bs) br by_ h hB h1 h2 h3 h4 h5
  rw [last8_snoc, ← hb, ← hbr] at this
  exact this
theorem ref_step_at (w : World) (B q : Nat) (X : Option Addr) (d : Nat) (now b : Int) (bs : List Int) (br br3 : Bool) (by_ : Int) (h : RefAt w B q X d now bs (!br)) (hB : B ≤ w.heap.size)
    (h1 : 0 ≤ now) (h2 : now ≤ 100000) (h3 : bs.length ≤ 1000) (h5 : ∀ x ∈ bs, 0 ≤ x ∧ x ≤ 8) (hb : b = stepBy by_) (hbr : br3 = (br || badSum (last8 (bs ++ [b])))) :
    Calls Try.prog 13 #[.pointer (some ⟨q, 0, none⟩), .int .i64 by_] w fun e w' => e = .returned (.int .i64 (now + b)) ∧
      ∃ X' d', RefAt w' B q X' d' (now + b) (bs ++ [b]) (!br3) ∧ Chg (Foot q X) w w' ∧ Fresh w X X' := by
  refine (ref_step w B q X d now bs (!br) by_ h hB h1 h2 h3 h5).mono ?_
  rintro e w' ⟨he, X', d', hr, hc, hf⟩
  rw [← hb] at he hr
  rw [← Bool.not_or, ← hbr] at hr
  exact ⟨he, X', d', hr, hc, hf⟩

/-- Where the two clocks stand. -/
structure Both (w wr : World) (q qr T : Nat) (F : Nat → Prop) (now : Int) (bs : List Int) (X : Option Addr) (d : Nat) (br : Bool) : Prop where
  clk : Clk wr w.heap.size q F now (T : Int) (last8 bs) br
  ref : RefAt wr w.heap.size qr X d now bs (!br)
  apart : ∀ k, F k → ¬ Foot qr X k
  below : Below w.heap.size w wr
  hist : Hist T now (last8 bs) br
def CPlays (w : World) (q qr len k : Nat) (l : List Int) (i : Value) (wr : World) : Prop :=
  ∃ T F now X d br, i = .int .i64 ((T : Nat) : Int) ∧ T + k = len ∧ Both w wr q qr T F now ((l.take T).map stepBy) X d br

theorem both_step {w wr w3 w4 : World} {q qr T d d4 : Nat} {F F3 : Nat → Prop} {now b : Int} {bs : List Int} {X X4 : Option Addr} {br br3 : Bool} (h : Both w wr q qr T F now bs X d br) (hb : 0 ≤ b ∧ b ≤ 8) (hbr : br3 = (br || badSum (last8 (bs ++ [b]))))
    (hk3 : Clk w3 w.heap.size q F3 (now + b) ((T : Int) + 1) (last8 (bs ++ [b])) br3) (hc3 : Chg F wr w3) (hf3 : ∀ k, F3 k → F k ∨ wr.heap.size ≤ k)
    (hr4 : RefAt w4 w.heap.size qr X4 d4 (now + b) (bs ++ [b]) (!br3)) (hc4 : Chg (Foot qr X) w3 w4) (hf4 : Fresh w3 X X4) : Both w w4 q qr (T + 1) F3 (now + b) (bs ++ [b]) X4 d4 br3 := by
  have hap : ∀ k, F3 k → ¬ Foot qr X k := by
    intro k hk hf
    rcases hf3 k hk with e | e
    · exact h.apart k e hf
    · have := h.ref.lt k hf; omega
  refine ⟨?_, hr4, ?_, ?_, ?_⟩
  · have := hk3.chg hc4 hap
    rw [show ((T + 1 : Nat) : Int) = (T : Int) + 1 by omega]
    exact this
  · rintro k hk (rfl | hf)
    · exact hap _ hk (.inl rfl)
    · rcases hf4 k hf with e | e
      · exact hap k hk (.inr e)
      · have := hk3.lt k hk; omega
  · exact (h.below.trans (hc3.below h.below.size h.clk.ge)).trans (hc4.below (Nat.le_trans h.below.size hc3.size) h.ref.ge)
  · have := h.hist.step hb
    rw [last8_snoc, ← hbr] at this
    exact this

set_option maxHeartbeats 0 in
set_option maxRecDepth 100000 in
theorem main (zero : Bool) (len cap : Nat) (L : Option Addr) (l : List Int) (w : World) (hl : len ≤ 300) (hll : l.length = len) (hX : 0 < len → ∃ b off, L = some ⟨b, off, none⟩ ∧ b < w.heap.size ∧ ∀ i z, l[i]? = some z → w.cell? ⟨b, off + i, none⟩ = some (.int .i64 z)) :
    Calls Try.prog 3 #[.bool zero, .slice L len cap] w fun e w' => e = .returned (.bool true) ∧ Below w.heap.size w w' := by
  have h1 : (len : Int) ≤ 300 := by omega
  have HX := hide hX
  have Hl := hide hll
  clear hX hll
  go_enter Try.func3, Try.ntmps3
  go_wp2_with fail
  refine (clock_new _).mono ?_
  rintro e w1 ⟨rfl, hw1⟩
  have hk1 := Clk.made w
  have hc1 := (Chg.refl No w).alloc (.cells (clockCells 0 0 none false) 31)
  have hs1 : w1.heap.size = w.heap.size + 1 := by rw [← hw1]; simp
  rw [hw1] at hk1 hc1
  have Hs1 := hide hs1
  clear hw1 hs1
  go_upto_if 15 with fail
  obtain ⟨w2, hw2⟩ : ∃ w2, w2 = w1.alloc (.cells #[Value.int .i64 0, .slice none 0 0, .bool true] 28) := ⟨_, rfl⟩
  rw [← hw2]
  have hk2 : Clk w2 w.heap.size w.heap.size (fun k => k = w.heap.size) 0 0 [] false := by rw [hw2]; exact hk1.chg ((Chg.refl No w1).alloc _) (fun _ _ t => t)
  have hr2 : RefAt w2 w.heap.size w1.heap.size none 0 0 [] true := by rw [hw2]; exact ⟨Blk.new _ _ _, World.ownsRow_nil _ _ _ _, hc1.size⟩
  have hc2 : Chg No w w2 := by rw [hw2]; exact hc1.alloc _
  have hs2 : w2.heap.size = w1.heap.size + 1 := by rw [hw2]; simp
  have Hs2 := hide hs2
  obtain ⟨qr, hqr⟩ : ∃ qr, qr = w1.heap.size := ⟨_, rfl⟩
  rw [← hqr] at hr2 Hs2 Hs1 ⊢
  have hbel2 := hc2.below (B := w.heap.size) (Nat.le_refl _) (fun _ t => t.elim)
  clear hw2 hk1 hc1 hs2 hqr hc2
  go_cut [5] (fun s5 wx => ∃ q : Nat, s5 = .pointer (some ⟨q, 0, none⟩) ∧ q ≠ qr ∧ Clk wx w.heap.size q (fun k => k = q) 0 0 [] false ∧ RefAt wx w.heap.size qr none 0 0 [] true ∧ Below w.heap.size w wx)
  case first =>
    cases zero with
    | true =>
      go_wp2
      go_meet
      case rel =>
        have hc3 := (Chg.refl No w2).alloc (.cells (clockCells 0 0 none false) 31)
        have hs2 : w.heap.size ≤ w2.heap.size := hbel2.size
        refine ⟨w2.heap.size, rfl, by have := Hs2.out; omega, ⟨hs2, by simp, .inl ⟨rfl, Blk.new _ _ _, fun _ => Iff.rfl⟩⟩, hr2.chg hc3 (fun _ _ t => t), hbel2.trans (hc3.below hs2 (fun _ t => t.elim))⟩
    | false =>
      go_wp2
      go_meet
      case rel => exact ⟨w.heap.size, rfl, by have := Hs1.out; omega, hk2, hr2, hbel2⟩
  case rest =>
    obtain ⟨q, rfl, hne, hk3, hr3, hbel3⟩ := hcut
    have Hne := hide hne
    clear hk2 hr2 hbel2 Hs1 Hs2 hne
    go_wp2_with fail
    refine (clock_kept _ _ _ _ _ _ _ _ hk3).mono ?_
    rintro e w3 ⟨rfl, rfl⟩
    go_wp2_with fail
    go_loopg [7] len (fun k i wr => CPlays w q qr len k l i wr)
    case atStart => exact ⟨0, fun k => k = q, 0, none, 0, false, rfl, by omega, ⟨by simpa [last8] using hk3, by simpa using hr3, by rintro k rfl (e | e); exact Hne.out e; simp [blkOf] at e, hbel3, by simpa [last8] using Hist.start⟩⟩
    case round =>
      clear hk3 hr3 hbel3
      obtain ⟨T, F, now, X, d, br, rfl, hk, hst⟩ := hrel
      have Hk := hide hk
      clear hk
      by_cases hT : T < len
      · obtain ⟨b, off, rfl, hb, hc⟩ := HX.out (by omega)
        obtain ⟨z, hz⟩ : ∃ z, l[T]? = some z := ⟨_, List.getElem?_eq_getElem (by rw [Hl.out]; exact hT)⟩
        have hz' := (hst.below.cell (p := ⟨b, off + T, none⟩) hb).trans (hc T z hz)
        have hbs : (l.take (T + 1)).map stepBy = (l.take T).map stepBy ++ [stepBy z] := by rw [List.take_add_one, hz]; simp
        have hTi : (T : Int) < len := by omega
        have hbz := Nat.lt_of_lt_of_le hb hst.below.size
        obtain ⟨bs, hbsd⟩ : ∃ bs, bs = (l.take T).map stepBy := ⟨_, rfl⟩
        rw [← hbsd] at hbs hst
        have hbl : bs.length ≤ 300 := by rw [hbsd]; simp; omega
        have hin : ∀ x ∈ bs, 0 ≤ x ∧ x ≤ 8 := by
          intro x hx
          rw [hbsd, List.mem_map] at hx
          obtain ⟨y, _, rfl⟩ := hx
          exact stepBy_le y
        obtain ⟨v, hv⟩ : ∃ v, v = stepBy z := ⟨_, rfl⟩
        rw [← hv] at hbs
        obtain ⟨br3, hbr⟩ : ∃ br3, br3 = (br || badSum (last8 (bs ++ [v]))) := ⟨_, rfl⟩
        have hvb : 0 ≤ v ∧ v ≤ 8 := by rw [hv]; exact stepBy_le z
        obtain ⟨hr0, hr1⟩ := hst.hist.range
        have hr2 : now ≤ 100000 := by omega
        have hv0 := hvb.1
        have hv8 := hvb.2
        have Hin := hide hin
        have Hbs := hide hbs
        have Hv := hide hv
        have Hbr := hide hbr
        have Hvb := hide hvb
        have Hc := hide hc
        clear hin hbs hv hbr hvb hbsd hc hz
        have hT0 : (0 : Int) ≤ T := by omega
        have hT1 : (T : Int) ≤ 100000 := by omega
        have hbl' : bs.length ≤ 1000 := by omega
        have hbR : ¬ Foot qr X b := fun t => by have := hst.ref.ge _ t; omega
        have hbF : ¬ F b := fun t => by have := hst.clk.ge _ t; omega
        go_wp2_with fail
        have hwr : IntKind.i64.wrap ((T : Int) + 1) = (T : Int) + 1 := IntWalk.i64_in _ (by omega)
        go_region_law (first
          | (go_simp; go_at_call 12; refine (clock_step_at _ _ _ F now T v bs br br3 z (hst.clk.chg ((Chg.refl No wr).drew) (fun _ _ t => t)) hst.below.size hr0 hr2 hT0 hT1 hst.hist.in_ Hv.out Hbr.out).mono ?_; rintro e w3 ⟨rfl, F3, hk3, hc3', hf3'⟩; have hc3 : Chg F wr w3 := ⟨hc3'.os, hc3'.tape, hc3'.output, hc3'.size, hc3'.block⟩; have hf3 : ∀ k, F3 k → F k ∨ wr.heap.size ≤ k := hf3'; have hr3 := hst.ref.chg hc3 (fun k hf hF => hst.apart k hF hf); have hz3 := (hc3.cell (p := ⟨b, off + T, none⟩) hbz hbF).trans hz')
          | (go_simp; go_at_call 13; refine (ref_step_at _ _ _ X d now v bs br br3 z hr3 (Nat.le_trans hst.below.size hc3.size) hr0 hr2 hbl' Hin.out Hv.out Hbr.out).mono ?_; rintro e w4 ⟨rfl, X4, d4, hr4, hc4, hf4⟩; have hst4 := both_step hst Hvb.out Hbr.out hk3 hc3 hf3 hr4 hc4 hf4; have hz4 := (hc4.cell (p := ⟨b, off + T, none⟩) (Nat.lt_of_lt_of_le hbz hc3.size) hbR).trans hz3; have e0 : w4.cell? ⟨qr, 0, none⟩ = some (.int .i64 (now + v)) := hr4.blk.cell 0; have e2 : w4.cell? ⟨qr, 2, none⟩ = some (.bool (!br3)) := hr4.blk.cell 2)
          | (go_simp; go_at_call 14; refine (clock_now _ _ _ _ _ _ _ _ hst4.clk).mono ?_; rintro e w5 ⟨rfl, rfl⟩)
          | (go_simp; go_at_call 15; refine (clock_real _ _ _ _ _ _ _ _ hst4.clk).mono ?_; rintro e w5 ⟨rfl, rfl⟩)
          | (go_simp; go_at_call 11; refine (clock_kept _ _ _ _ _ _ _ _ hst4.clk).mono ?_; rintro e w5 ⟨rfl, rfl⟩))
        all_goals
          clear hwr
          go_wp2_with fail
          go_roundg (len - (T + 1))
          case measure => have := Hk.out; omega
          case rel => exact ⟨T + 1, F3, now + v, X4, d4, br3, by go_num, by omega, by rw [Hbs.out]; exact hst4⟩
      · obtain rfl : T = len := by have := Hk.out; omega
        have hbel := hst.below
        go_wp2_with fail
        refine (alive_true _).mono ?_
        rintro e w2 ⟨rfl, hb2⟩
        go_wp2_with fail
        go_ret
        exact ⟨rfl, hbel.trans (hb2.mono hbel.size)⟩

theorem out (zero : Bool) (len cap : Nat) (L : Option Addr) (w : World) (h : (300 : Int) < len) :
    Calls Try.prog 3 #[.bool zero, .slice L len cap] w fun e w' => e = .returned (.bool true) ∧ Below w.heap.size w w' := by
  go_enter Try.func3, Try.ntmps3
  go_wp2_with fail
  refine (alive_true _).mono ?_
  rintro e w2 ⟨rfl, hb2⟩
  go_wp2_with fail
  go_ret
  exact ⟨rfl, hb2⟩
end Go.Proofs.Ythbfljlaonjgnaa.clockPlays
