/-
  The walk of NetPlays.
-/
import Derived.Test.YtipdeacaehbbfaaNetQuiet
import Derived.Deep.DeepCutAuto
import Derived.Deep.CutBlock
import Derived.Deep.RegionHeld3
import Derived.Deep.RegionHeld
namespace Go.Proofs.Ytipdeacaehbbfaa.netPlays
open Go.RowKit
set_option linter.unusedSimpArgs false

def NoG : Nat → Prop := fun _ => False
def NoM : World → Prop := fun _ => True
theorem kp_no : Kp NoG NoM := fun _ _ _ _ _ _ => trivial

/-- The loop over the calls. -/
def Plays (w : World) (q r len k : Nat) (i : Value) (wr : World) : Prop :=
  ∃ K F A c D d L ks, i = .int .i64 ((K : Nat) : Int) ∧ K + k = len ∧ ks.length ≤ K ∧ NS w q r F A c D d L L ks ks NoG NoM wr

/-- Behind one call, ahead of the looks. -/
def Done (w : World) (q r K oB : Nat) (cs : Array Value) (a b : Value) (wr : World) : Prop :=
  ∃ F A c D d L ks, ∃ t : Bool, a = .bool t ∧ b = .bool t ∧ ks.length ≤ K + 1 ∧ NS w q r F A c D d L L ks ks (fun k => k = oB) (fun w => Blk w oB 37 cs) wr

theorem op_cells {w : World} {g : Nat} {kind n v : Int} {S : Option Addr} {sl sc : Nat} (h : Blk w g 37 (opCells kind n v S sl sc)) :
    w.cell? ⟨g, 0, none⟩ = some (.int .i64 kind) ∧ w.cell? ⟨g, 1, none⟩ = some (.int .i64 n) ∧ w.cell? ⟨g, 2, none⟩ = some (.int .i64 v) ∧ w.cell? ⟨g, 3, none⟩ = some (.slice S sl sc) :=
  ⟨h.cell 0, h.cell 1, h.cell 2, h.cell 3⟩

theorem cutsAt_len (ks : List (Int × Int)) (a b : Int) (on : Bool) : (cutsAt ks a b on).length ≤ ks.length + 1 := by
  unfold cutsAt
  rw [List.length_append]
  have h1 := List.length_filter_le (fun x => decide (x ≠ endsOf a b)) ks
  have h2 : (if on = true then [endsOf a b] else []).length ≤ 1 := by cases on <;> simp
  omega
theorem at_of {L : List Pk} {m : Nat} {p : Pk} (h : L[m]? = some p) : There (m : Int) L.length = true ∧ at? L (m : Int) = p := by
  obtain ⟨hm, rfl⟩ := List.getElem?_eq_some_iff.1 h
  have ht : There (m : Int) L.length = true := th_in hm
  refine ⟨ht, ?_⟩
  unfold at?
  rw [if_pos ht, Int.toNat_natCast, List.getD_eq_getElem?_getD, h]
  rfl
theorem at_out {L : List Pk} {k : Int} (h : There k L.length = false) : at? L k = ⟨0, 0, ⟨#[]⟩⟩ := by
  unfold at?
  rw [if_neg (by rw [h]; decide)]
  rfl
theorem blk_eq {g j : Nat} (h : blkOf (some (⟨g, 0, none⟩ : Addr)) = some j) : j = g := by
  have e : g = j := by simpa [blkOf] using h
  exact e.symm
theorem held_in {w0 wr : World} {q r g oX c d k : Nat} {n : Int} {F G : Nat → Prop} {D : Option Addr} {L L' : List Pk} {ks ks' : List (Int × Int)} {M : World → Prop} {kind v : Int} {S : Option Addr} {sl sc oB : Nat} {p : Pk} {t : TypeId}
    (h : NS w0 q r F (some ⟨g, 0, none⟩) c D d L L' ks ks' G M wr) (hk : L'[k]? = some p) (ho : Blk wr oB 37 (opCells kind n v S sl sc)) (hx : Blk wr oX t #[.int .i64 p.fr, .int .i64 p.to, .string p.data]) :
    wr.cell? ⟨r, 0, none⟩ = some (.slice (some ⟨g, 0, none⟩) L'.length c) ∧ wr.cell? ⟨oB, 1, none⟩ = some (.int .i64 n) ∧ wr.cell? ⟨oX, 0, none⟩ = some (.int .i64 p.fr) ∧ wr.cell? ⟨oX, 1, none⟩ = some (.int .i64 p.to) ∧ wr.cell? ⟨oX, 2, none⟩ = some (.string p.data) ∧ wr.cell? ⟨g, k * 3, none⟩ = some (.int .i64 p.fr) ∧ wr.cell? ⟨g, k * 3 + 1, none⟩ = some (.int .i64 p.to) ∧ wr.cell? ⟨g, k * 3 + 2, none⟩ = some (.string p.data) :=
  ⟨h.ref.k0, (op_cells ho).2.1, hx.cell 0, hx.cell 1, hx.cell 2, h.ref.spot hk⟩
theorem held_in2 {w0 wr : World} {q r g oX c d k : Nat} {F G : Nat → Prop} {D : Option Addr} {L L' : List Pk} {ks ks' : List (Int × Int)} {M : World → Prop} {p : Pk} {t : TypeId}
    (h : NS w0 q r F (some ⟨g, 0, none⟩) c D d L L' ks ks' G M wr) (hk : L'[k]? = some p) (hx : Blk wr oX t #[.int .i64 p.fr, .int .i64 p.to, .string p.data]) :
    wr.cell? ⟨r, 0, none⟩ = some (.slice (some ⟨g, 0, none⟩) L'.length c) ∧ wr.cell? ⟨oX, 0, none⟩ = some (.int .i64 p.fr) ∧ wr.cell? ⟨oX, 1, none⟩ = some (.int .i64 p.to) ∧ wr.cell? ⟨oX, 2, none⟩ = some (.string p.data) ∧ wr.cell? ⟨g, k * 3, none⟩ = some (.int .i64 p.fr) ∧ wr.cell? ⟨g, k * 3 + 1, none⟩ = some (.int .i64 p.to) ∧ wr.cell? ⟨g, k * 3 + 2, none⟩ = some (.string p.data) :=
  ⟨h.ref.k0, hx.cell 0, hx.cell 1, hx.cell 2, h.ref.spot hk⟩
/-- What is sent in the burst. -/
def onePk : Pk := ⟨1, 2, ⟨#[]⟩⟩
/-- So many of the burst are sent. -/
def Burst (w : World) (q r oB : Nat) (cs : Array Value) (D : Option Addr) (d : Nat) (ks : List (Int × Int)) (k : Nat) (i : Value) (wr : World) : Prop :=
  ∃ J F A c L, i = .int .i64 ((J : Nat) : Int) ∧ J + k = 890 ∧ NS w q r F A c D d L L ks ks (fun k => k = oB) (fun w => Blk w oB 37 cs) wr
/-- So many are looked at, at the end. -/
def Peeked (w : World) (q r : Nat) (A : Option Addr) (c : Nat) (D : Option Addr) (d : Nat) (L : List Pk) (ks : List (Int × Int)) (k : Nat) (i : Value) (wr : World) : Prop :=
  ∃ J F, i = .int .i64 ((J : Nat) : Int) ∧ J + k = L.length ∧ NS w q r F A c D d L L ks ks NoG NoM wr
theorem ref_made (w : World) (B : Nat) (hB : B ≤ w.heap.size) : RefAt (w.alloc (.cells #[.slice none 0 0, .slice none 0 0] 30)) B w.heap.size none 0 [] none 0 [] :=
  ⟨Blk.new _ _ _, hB, World.ownsRow_nil _ _ _ _, World.ownsRow_nil _ _ _ _⟩

set_option maxHeartbeats 4000000 in
set_option maxRecDepth 100000 in
theorem main (zero : Bool) (len cap b off : Nat) (w : World) (hl : len ≤ 120) (hb : b < w.heap.size) (hops : ∀ i, i < len → OpAt w b off i) :
    Calls Try.prog 3 #[.bool zero, .slice (some ⟨b, off, none⟩) len cap] w fun e w' => e = .returned (.bool true) ∧ Below w.heap.size w w' := by
  have h1 : (len : Int) ≤ 120 := by omega
  have Hops := hide hops
  clear hops
  go_enter Try.func3, Try.ntmps3
  go_wp2_with fail
  refine (net_new _).mono ?_
  rintro e w1 ⟨rfl, hw1⟩
  have hn1 := NetAt.made w
  have hc1 := (Chg.refl No w).alloc (.cells (netCells none none) 34)
  rw [hw1] at hn1 hc1
  have hs1 : w1.heap.size = w.heap.size + 1 := by rw [← hw1]; simp
  clear hw1
  have hR2 := ref_made w1 w.heap.size (by omega)
  have hc2 := (Chg.refl No w1).alloc (.cells #[.slice none 0 0, .slice none 0 0] 30)
  have hn2 := hn1.chg hc2 (fun _ _ t => t)
  have hbel2 := (hc1.trans hc2 (fun _ _ t => t)).below (B := w.heap.size) (Nat.le_refl _) (fun _ t => t.elim)
  go_upto_if 30 with fail
  rw [hs1] at hR2
  obtain ⟨w2, hw2⟩ : ∃ w2, w2 = w1.alloc (.cells #[.slice none 0 0, .slice none 0 0] 30) := ⟨_, rfl⟩
  rw [← hw2] at hR2 hn2 hbel2 ⊢
  have hs2 : w2.heap.size = w.heap.size + 2 := by rw [hw2]; simp; omega
  clear hw2 hc1 hc2 hn1
  obtain ⟨r, hr⟩ : ∃ r, r = w.heap.size + 1 := ⟨_, rfl⟩
  rw [← hr] at hR2 ⊢
  go_cut [5] (fun s5 wx => ∃ q F, s5 = .pointer (some ⟨q, 0, none⟩) ∧ NS w q r F none 0 none 0 [] [] [] [] NoG NoM wx)
  case first =>
    cases zero with
    | true =>
      go_wp2
      go_meet
      case rel =>
        have hc3 := (Chg.refl No w2).alloc (.cells (netCells none none) 34)
        refine ⟨w2.heap.size, fun k => k = w2.heap.size, by rw [hs2], ⟨?_, hR2.quiet hc3, ?_, hbel2.trans (hc3.below (by omega) (fun _ t => t.elim)), kp_no, trivial, fun _ t => t.elim, fun _ t => t.elim, fun _ t => t.elim⟩⟩
        · exact .inl ⟨none, rfl, Blk.new _ _ _, by omega, ⟨by simp, by simp, .inl ⟨rfl, rfl⟩⟩, fun k => by simp⟩
        · rintro k rfl (e | e | e)
          · omega
          · simp [blkOf] at e
          · simp [blkOf] at e
    | false =>
      go_wp2
      go_meet
      case rel =>
        refine ⟨w.heap.size, _, rfl, ⟨hn2, hR2, ?_, hbel2, kp_no, trivial, fun _ t => t.elim, fun _ t => t.elim, fun _ t => t.elim⟩⟩
        rintro k rfl (e | e | e)
        · omega
        · simp [blkOf] at e
        · simp [blkOf] at e
  case rest =>
    clear hR2 hn2 hbel2 hs2
    obtain ⟨q, F0, rfl, hst0⟩ := hcut
    have Hr := hide hr
    clear hr
    go_wp2_with fail
    go_loopg [7] len (fun k i wr => Plays w q r len k i wr)
    case atStart => exact ⟨0, F0, none, 0, none, 0, [], [], rfl, by omega, by simp, hst0⟩
    case round =>
      clear hst0
      obtain ⟨K, F, A, c, D, d, L, ks, rfl, hk, hks, hst⟩ := hrel
      have Hk := hide hk
      have Hks := hide hks
      clear hk hks
      by_cases hlt : K < len
      · obtain ⟨kind, n, v, S, sl, sc, zs, c0, c1, c2, c3, hwn, hwv, hzs, hzw⟩ := Hops.out K hlt
        have d0 := (hst.below.cell (p := ⟨b, off + K * 4, none⟩) hb).trans c0
        have d1 := (hst.below.cell (p := ⟨b, off + K * 4 + 1, none⟩) hb).trans c1
        have d2 := (hst.below.cell (p := ⟨b, off + K * 4 + 2, none⟩) hb).trans c2
        have d3 := (hst.below.cell (p := ⟨b, off + K * 4 + 3, none⟩) hb).trans c3
        have hi : (K : Int) < len := by omega
        have hzr := (hzs.below hst.below).more hst.base
        have Hwn := hide hwn
        have Hwv := hide hwv
        have Hzw := hide hzw
        have Hzs := hide hzs
        clear c0 c1 c2 c3 hwn hwv hzw hzs
        have hst1 := hst.addBlk 37 (opCells kind n v S sl sc)
        have hzo : Sees (wr.alloc (.cells (opCells kind n v S sl sc) 37)) (wr.alloc (.cells (opCells kind n v S sl sc) 37)).heap.size 3 S sl (flat zs) :=
          (hzr.chg ((Chg.refl No wr).alloc _) (Nat.le_refl _) (fun _ _ _ t => t)).more (by simp)
        have hop : (NoM wr → True) := fun _ => trivial
        go_wp2_with fail
        refine (small_pk _ sl sc S zs hzo).mono ?_
        rintro e w3 ⟨tb, rfl, htb, hc3⟩
        have hst3 := (hst1.quiet hc3).drop (kp_blk wr.heap.size 37 (opCells kind n v S sl sc)) (fun h => h.2) (fun k hk => .inr hk)
        have hz3 := (hzo.chg hc3 (Nat.le_refl _) (fun _ _ _ t => t)).more hc3.size
        obtain ⟨oB, hoB⟩ : ∃ oB, oB = wr.heap.size := ⟨_, rfl⟩
        rw [← hoB] at hst3 ⊢
        clear hoB hst hst1 hzo hzr hc3 d0 d1 d2 d3 hop
        cases tb with
        | false =>
          go_wp2_with fail
          go_ret
          exact ⟨rfl, hst3.below⟩
        | true =>
          obtain ⟨h60, hsz⟩ := htb rfl
          have Hsz := hide hsz
          clear htb hsz
          obtain ⟨e0, e1, e2, e3⟩ := op_cells hst3.mem
          go_upto_block 2 with fail
          have hL9 := netAt_fits hst3.net
          have hKb : K < 120 := by omega
          have hks9 : ks.length ≤ 100000 := by have := Hks.out; omega
          have HL9 := hide hL9
          have Hks9 := hide hks9
          clear hL9 hks9
          go_cut [9, 10, 11, 12, 13, 14, 15, 16, 17] (fun s9 s10 s11 s12 s13 s14 s15 s16 s17 wx => Done w q r K oB (opCells kind n v S sl sc) s9 s10 wx)
          case first =>
            by_cases k1 : kind = 1
            · as_aux_lemma =>
              subst k1
              have hzl : zs.length = sl := by have := Hzs.out.1; rw [flat_length] at this; omega
              have Hle := hide (show sl ≤ 100000 by omega)
              have Hlm := hide (show sl ≤ 1000000 by omega)
              have Hzl := hide hzl
              have Hwf : Hid (∀ y ∈ zs, wfPk y) := hide (fun y hy => ⟨(Hzw.out y hy).1, (Hzw.out y hy).2, Nat.le_trans (Hsz.out y hy) (by decide)⟩)
              clear hzl
              go_wp2_with fail
              refine (lent_pk w3 _ sl sc S zs hz3 Hlm.out).mono ?_
              rintro e w4 ⟨Y, cy, rfl, hY, hc4⟩
              have hst4 := hst3.addRow hc4 hY
              have hst5 := hst4.addRow (Chg.refl No w4) (w1 := w4) (t := 48) (size := 3) (n := 0) (c1 := 0) (Y := none) (xs := []) (World.ownsRow_nil _ _ _ _)
              have hcur := hst5.quiet ((Chg.refl No w4).drew)
              obtain ⟨a0, a1, a2, a3⟩ := op_cells hst4.mem.1
              clear hst3 hst4 hst5 hY hc4 e0 e1 e2 e3
              go_wp2_with fail
              go_region_held3 (fun w' => w'.cell? ⟨oB, 3, none⟩ = some (.slice S sl sc)) (first | exact (op_cells hcur.mem.1.1).2.2.2 | exact a3) (first
                | (go_at_call 11; refine (hcur.send sl cy zs Y Hzl.out (lent_pk_sees hcur.mem.1.2) (fun j hj => hcur.apN j (.inl (.inr hj))) Hwf.out Hle.out).mono ?_; rintro e w5 ⟨rfl, F5, hcur5⟩; replace hcur := hcur5)
                | (go_at_call 13; refine (plain_pk _ sl sc S zs ((Hzs.out.below hcur.below).more hcur.base) Hlm.out).mono ?_; rintro e w6 ⟨Z, cz, rfl, hZ, hcZ⟩; have hcur6 := (hcur.drop (kp_and (kp_blk oB 37 (opCells 1 n v S sl sc)) (kp_own w.heap.size 3 (sl + 1) cy 45 Y (flat (zs ++ [mark])))) (fun h => h.1) (fun k hk => .inl hk)).addRow hcZ hZ; replace hcur := hcur6)
                | (go_at_call 12; refine (hcur.rsend sl cz zs Z Hzl.out (Sees.of_own hcur.mem.2) (fun j hj => hcur.apR j (.inr hj)) Hle.out HL9.out Hks9.out).mono ?_; rintro e w7 ⟨rfl, A7, c7, hcur7⟩; replace hcur := hcur7)
                | (go_at_call 14; refine (stays_pk _ _ _ sl cy sc Y S zs hcur.mem.1.2 (Hzs.out.below hcur.below) Hlm.out).mono ?_; rintro e w8 ⟨rfl, qn, rfl⟩; replace hcur := hcur.quiet ((Chg.refl No _).drewN qn)))
              all_goals
                have hst9 := hcur.drop (kp_blk oB 37 (opCells 1 n v S sl sc)) (fun h => h.1.1) (fun k hk => .inl (.inl hk))
                clear hcur
                go_wp2_with fail
                go_meet
                case rel => exact ⟨F5, A7, c7, D, d, sendAll ks L zs, ks, false, rfl, rfl, by have := Hks.out; omega, hst9⟩
            have q1 : (kind == 1) = false := by simp [k1]
            by_cases k2 : kind = 2
            · as_aux_lemma =>
              subst k2
              obtain ⟨p4, hp4⟩ : ∃ p4, p4 = at? L n := ⟨_, rfl⟩
              obtain ⟨t4, ht4⟩ : ∃ t4, t4 = There n L.length := ⟨_, rfl⟩
              have hA := hst3.take n
              rw [← hp4, ← ht4] at hA
              have HA := hide hA
              have Hp4 := hide hp4
              have Ht4 := hide ht4
              clear hA hp4 ht4
              go_wp2_with fail
              refine HA.out.mono ?_
              rintro e w4 ⟨rfl, F4, hst4⟩
              obtain ⟨a0, a1, a2, a3⟩ := op_cells hst4.mem
              have hst5 := hst4.addBlk 45 #[.int .i64 p4.fr, .int .i64 p4.to, .string p4.data]
              obtain ⟨b0, b1, b2, b3⟩ := op_cells hst5.mem.1
              have hB := hst5.rtake HL9.out n
              rw [← Hp4.out, ← Ht4.out] at hB
              have HB := hide hB
              clear hB hst5 hst4 hst3 e0 e1 e2 e3 HA
              go_wp2_with fail
              refine HB.out.mono ?_
              rintro e w6 ⟨rfl, A6, c6, hst6⟩
              have hst7 := hst6.addBlk 48 #[.int .i64 p4.fr, .int .i64 p4.to, .string p4.data]
              obtain ⟨x0, x1, x2, _, _, _⟩ := rf_there hst6.mem.2
              obtain ⟨y0, y1, y2, _, _, _⟩ := rf_there hst7.mem.1.2
              obtain ⟨z0, z1, z2, _, _, _⟩ := rf_there hst7.mem.2
              clear a0 a1 a2 a3 b0 b1 b2 b3 HB
              go_wp2_with fail
              refine (hst7.same p4).mono ?_
              rintro e w8 ⟨rfl, hst8⟩
              clear x0 x1 x2 y0 y1 y2 z0 z1 z2 hst7 hst6
              have hst9 := hst8.drop (kp_blk oB 37 (opCells 2 n v S sl sc)) (fun h => h.1.1) (fun k hk => .inl (.inl hk))
              clear hst8
              go_wp2_with fail
              go_meet
              case rel => exact ⟨F4, A6, c6, D, d, lessAt L n, ks, false, rfl, rfl, by have := Hks.out; omega, hst9⟩
            have q2 : (kind == 2) = false := by simp [k2]
            by_cases k3 : kind = 3
            · as_aux_lemma =>
              subst k3
              have hA := hst3.rtake HL9.out n
              have HA := hide hA
              clear hA
              go_wp2_with fail
              refine HA.out.mono ?_
              rintro e w4 ⟨rfl, A4, c4, hst4⟩
              obtain ⟨a0, a1, a2, a3⟩ := op_cells hst4.mem
              have HB := hide (hst4.dropAt n)
              clear hst4 hst3 e0 e1 e2 e3 HA
              go_wp2_with fail
              refine HB.out.mono ?_
              rintro e w5 ⟨rfl, F5, hst5⟩
              clear a0 a1 a2 a3 HB
              go_wp2_with fail
              go_meet
              case rel => exact ⟨F5, A4, c4, D, d, lessAt L n, ks, There n L.length, rfl, rfl, by have := Hks.out; omega, hst5⟩
            have q3 : (kind == 3) = false := by simp [k3]
            by_cases k4 : kind = 4
            · as_aux_lemma =>
              subst k4
              have hcur := hst3.quiet ((Chg.refl No w3).drew)
              clear hst3
              go_wp2_with fail
              go_region_held3 (fun w' => w'.cell? ⟨oB, 1, none⟩ = some (.int .i64 n)) (first | exact (op_cells hcur.mem).2.1 | exact e1) (first
                | (go_at_call 19; refine (hcur.double n).mono ?_; rintro e w4 ⟨rfl, F4, hcur4⟩; replace hcur := hcur4)
                | (go_at_call 20; refine (hcur.rdouble HL9.out n).mono ?_; rintro e w5 ⟨rfl, A5, c5, hcur5⟩; replace hcur := hcur5))
              all_goals
                go_wp2_with fail
                go_meet
                case rel => exact ⟨F4, A5, c5, D, d, dblAt L n, ks, _, rfl, rfl, by have := Hks.out; omega, hcur⟩
            have q4 : (kind == 4) = false := by simp [k4]
            by_cases k5 : kind = 5
            · as_aux_lemma =>
              subst k5
              have hcur := hst3.quiet ((Chg.refl No w3).drew)
              clear hst3
              go_wp2_with fail
              go_region_held3 (fun w' => w'.cell? ⟨oB, 1, none⟩ = some (.int .i64 n) ∧ w'.cell? ⟨oB, 2, none⟩ = some (.int .i64 v)) (first | exact ⟨(op_cells hcur.mem).2.1, (op_cells hcur.mem).2.2.1⟩ | exact ⟨e1, e2⟩) (first
                | (go_at_call 21; refine (hcur.swap n v).mono ?_; rintro e w4 ⟨rfl, F4, hcur4⟩; replace hcur := hcur4)
                | (go_at_call 22; refine (hcur.rswap HL9.out n v).mono ?_; rintro e w5 ⟨rfl, A5, c5, hcur5⟩; replace hcur := hcur5))
              all_goals
                go_wp2_with fail
                go_meet
                case rel => exact ⟨F4, A5, c5, D, d, swapAt L n v, ks, _, rfl, rfl, by have := Hks.out; omega, hcur⟩
            have q5 : (kind == 5) = false := by simp [k5]
            by_cases k6 : kind = 6
            · as_aux_lemma =>
              subst k6
              have HA := hide (hst3.cut n v true Hwn.out Hwv.out)
              clear hst3
              go_wp2_with fail
              refine HA.out.mono ?_
              rintro e w4 ⟨rfl, F4, hst4⟩
              obtain ⟨a0, a1, a2, a3⟩ := op_cells hst4.mem
              have HB := hide (hst4.rcut Hks9.out n v true)
              clear hst4 HA e0 e1 e2 e3
              go_wp2_with fail
              refine HB.out.mono ?_
              rintro e w5 ⟨rfl, D5, d5, hst5⟩
              clear a0 a1 a2 a3 HB
              go_wp2_with fail
              go_meet
              case rel => exact ⟨F4, A, c, D5, d5, L, cutsAt ks n v true, false, rfl, rfl, by have := Hks.out; have := cutsAt_len ks n v true; omega, hst5⟩
            have q6 : (kind == 6) = false := by simp [k6]
            by_cases k7 : kind = 7
            · as_aux_lemma =>
              subst k7
              have HA := hide (hst3.cut n v false Hwn.out Hwv.out)
              clear hst3
              go_wp2_with fail
              refine HA.out.mono ?_
              rintro e w4 ⟨rfl, F4, hst4⟩
              obtain ⟨a0, a1, a2, a3⟩ := op_cells hst4.mem
              have HB := hide (hst4.rcut Hks9.out n v false)
              clear hst4 HA e0 e1 e2 e3
              go_wp2_with fail
              refine HB.out.mono ?_
              rintro e w5 ⟨rfl, D5, d5, hst5⟩
              clear a0 a1 a2 a3 HB
              go_wp2_with fail
              go_meet
              case rel => exact ⟨F4, A, c, D5, d5, L, cutsAt ks n v false, false, rfl, rfl, by have := Hks.out; have := cutsAt_len ks n v false; omega, hst5⟩
            have q7 : (kind == 7) = false := by simp [k7]
            by_cases k8 : kind = 8
            · as_aux_lemma =>
              subst k8
              have k0 := hst3.ref.k0
              have f0 := hst3.ref.blk.frozen 0
              obtain ⟨hR4, hw4⟩ := hst3.ref.setL (L' := []) hst3.base (Chg.refl No w3) (World.ownsRow_nil _ _ _ _) rfl rfl
              have hst4 := hst3.refTurn hR4 hw4
              have HB := hide hst4.clear
              clear hR4 hw4 hst3 hst4
              go_wp2_with fail
              refine HB.out.mono ?_
              rintro e w5 ⟨rfl, F5, hst5⟩
              clear HB k0 f0
              go_wp2_with fail
              go_meet
              case rel => exact ⟨F5, none, 0, D, d, [], ks, true, rfl, rfl, by have := Hks.out; omega, hst5⟩
            have q8 : (kind == 8) = false := by simp [k8]
            as_aux_lemma =>
            go_wp2_with fail
            go_loopg [17] 890 (fun k i wr => Burst w q r oB (opCells kind n v S sl sc) D d ks k i wr)
            case atStart => exact ⟨0, F, A, c, L, rfl, rfl, hst3⟩
            case round =>
              clear hst3
              obtain ⟨J, F1, A1, c1, L1, rfl, hJ, hst1⟩ := hrel
              have HJ := hide hJ
              clear hJ
              by_cases hJ9 : J < 890
              · have hJi : (J : Int) < 890 := by omega
                have H91 := hide (netAt_fits hst1.net)
                have hst2 := hst1.addBlk 45 #[.int .i64 1, .int .i64 2, .string ⟨#[]⟩]
                have HA := hide (hst2.send 1 1 [onePk] (some ⟨wr.heap.size, 0, none⟩) rfl (Sees.of_blk (n := 1) (size := 3) hst2.mem.2 rfl) (fun j hj => hst2.apN j (.inr (blk_eq hj))) (fun y hy => by simp only [List.mem_cons, List.not_mem_nil, or_false] at hy; rw [hy]; exact ⟨by decide, by decide, by decide⟩) (by omega))
                clear hst1 hst2
                go_wp2_with fail
                refine HA.out.mono ?_
                rintro e w4 ⟨rfl, F4, hst4⟩
                have hst5 := hst4.addBlk 48 #[.int .i64 1, .int .i64 2, .string ⟨#[]⟩]
                have HB := hide (hst5.rsend 1 1 [onePk] (some ⟨w4.heap.size, 0, none⟩) rfl (Sees.of_blk (n := 1) (size := 3) hst5.mem.2 rfl) (fun j hj => hst5.apR j (.inr (blk_eq hj))) (by omega) H91.out Hks9.out)
                clear hst4 hst5 HA
                go_wp2_with fail
                refine HB.out.mono ?_
                rintro e w6 ⟨rfl, A6, c6, hst6⟩
                have hst7 := hst6.drop (kp_blk oB 37 (opCells kind n v S sl sc)) (fun h => h.1.1) (fun k hk => .inl (.inl hk))
                clear hst6 HB
                go_wp2_with fail
                go_roundg (890 - (J + 1))
                case measure => have := HJ.out; omega
                case rel => exact ⟨J + 1, F4, A6, c6, _, by go_num, by omega, hst7⟩
              · have hJi : ¬ ((J : Int) < 890) := by omega
                go_wp2_with fail
                go_meet
                case rel => exact ⟨F1, A1, c1, D, d, L1, ks, false, rfl, rfl, by have := Hks.out; omega, hst1⟩
          case rest =>
            clear hst3 hz3 e0 e1 e2 e3
            obtain ⟨F, A, c, D, d, L, ks, tb, rfl, rfl, hks2, hst⟩ := hcut
            have HL := hide (netAt_fits hst.net)
            obtain ⟨e0, e1, e2, e3⟩ := op_cells hst.mem
            cases ht : There n L.length with
            | true =>
              as_aux_lemma =>
              obtain ⟨m, rfl, hm⟩ := at_in ht
              obtain ⟨p4, hp4⟩ : ∃ p4, p4 = at? L (m : Int) := ⟨_, rfl⟩
              rw [← hp4] at hm
              have hA := hst.peek (m : Int)
              rw [ht, ← hp4] at hA
              have HA := hide hA
              have hml : (m : Int) < L.length := by have := (List.getElem?_eq_some_iff.1 hm).1; omega
              obtain ⟨gA, rfl, _, _⟩ := own_addr hst.ref.list (by omega)
              have Hm := hide hm
              have Ht := hide ht
              clear hA hp4 hm hst ht
              go_wp2_with fail
              refine HA.out.mono ?_
              rintro e w4 ⟨rfl, F4, hst4⟩
              have hst5 := hst4.addBlk 45 #[.int .i64 p4.fr, .int .i64 p4.to, .string p4.data]
              obtain ⟨w5, hw5⟩ : ∃ w5, w5 = w4.alloc (.cells #[.int .i64 p4.fr, .int .i64 p4.to, .string p4.data] 45) := ⟨_, rfl⟩
              rw [← hw5] at hst5
              obtain ⟨oX, hoX⟩ : ∃ oX, oX = w4.heap.size := ⟨_, rfl⟩
              rw [← hoX] at hst5
              clear hst4 HA e0 e1 e2 e3
              go_wp2_with fail
              rw [← hw5, ← hoX]
              clear hw5 hoX
              obtain ⟨a0, a1, a2, a3⟩ := op_cells hst5.mem.1
              obtain ⟨x0, x1, x2, _, _, _⟩ := rf_there hst5.mem.2
              obtain ⟨y0, y1, y2⟩ := hst5.ref.spot Hm.out
              have k0 := hst5.ref.k0
              have hcur := hst5.quiet ((Chg.refl No w5).drew)
              clear hst5
              refine wp_region_held_drew (S := fun w' => w'.cell? ⟨r, 0, none⟩ = some (.slice (some ⟨gA, 0, none⟩) L.length c) ∧ w'.cell? ⟨oB, 1, none⟩ = some (.int .i64 (m : Int)) ∧ w'.cell? ⟨oX, 0, none⟩ = some (.int .i64 p4.fr) ∧ w'.cell? ⟨oX, 1, none⟩ = some (.int .i64 p4.to) ∧ w'.cell? ⟨oX, 2, none⟩ = some (.string p4.data) ∧ w'.cell? ⟨gA, m * 3, none⟩ = some (.int .i64 p4.fr) ∧ w'.cell? ⟨gA, m * 3 + 1, none⟩ = some (.int .i64 p4.to) ∧ w'.cell? ⟨gA, m * 3 + 2, none⟩ = some (.string p4.data)) (by kernel_rfl) ⟨k0, a1, x0, x1, x2, y0, y1, y2⟩ (fun hHeld => ?_)
              clear k0 a0 a1 a2 a3 x0 x1 x2 y0 y1 y2
              refine wpAnyH_take (i := 0) (v := ?_) rfl (by kernel_rfl) (by kernel_rfl) (by kernel_rfl) (fun _ _ _ h => h) (Or.inl ⟨by rfl, ?_⟩) hHeld ?_
              rotate_left
              · intro w' hSw; (try dsimp only at hSw); go_simp; try rfl
              (try simp only [Act.put, List.getElem_toArray, List.getElem_cons_zero, List.getElem_cons_succ, List.setIfInBounds_toArray, List.set_cons_zero, List.set_cons_succ])
              refine wpAnyH_take (i := 1) (v := ?_) rfl (by kernel_rfl) (by kernel_rfl) (by kernel_rfl) (fun _ _ _ h => h) (Or.inl ⟨by rfl, ?_⟩) hHeld ?_
              rotate_left
              · intro w' hSw; (try dsimp only at hSw); go_simp; try rfl
              (try simp only [Act.put, List.getElem_toArray, List.getElem_cons_zero, List.getElem_cons_succ, List.setIfInBounds_toArray, List.set_cons_zero, List.set_cons_succ])
              refine wpAnyH_take (i := 2) (v := ?_) rfl (by kernel_rfl) (by kernel_rfl) (by kernel_rfl) (fun _ _ _ h => h) (Or.inl ⟨by rfl, ?_⟩) hHeld ?_
              rotate_left
              · intro w' hSw; (try dsimp only at hSw); go_simp; try rfl
              (try simp only [Act.put, List.getElem_toArray, List.getElem_cons_zero, List.getElem_cons_succ, List.setIfInBounds_toArray, List.set_cons_zero, List.set_cons_succ])
              refine wpAnyH_take (i := 3) (v := ?_) rfl (by kernel_rfl) (by kernel_rfl) (by kernel_rfl) (fun _ _ _ h => h) (Or.inl ⟨by rfl, ?_⟩) hHeld ?_
              rotate_left
              · intro w' hSw; (try dsimp only at hSw); go_simp; try rfl
              (try simp only [Act.put, List.getElem_toArray, List.getElem_cons_zero, List.getElem_cons_succ, List.setIfInBounds_toArray, List.set_cons_zero, List.set_cons_succ])
              refine wpAnyH_take (i := 4) (v := ?_) rfl (by kernel_rfl) (by kernel_rfl) (by kernel_rfl) (fun _ _ _ h => h) (Or.inl ⟨by rfl, ?_⟩) hHeld ?_
              rotate_left
              · intro w' hSw; (try dsimp only at hSw); go_simp; try rfl
              (try simp only [Act.put, List.getElem_toArray, List.getElem_cons_zero, List.getElem_cons_succ, List.setIfInBounds_toArray, List.set_cons_zero, List.set_cons_succ])
              refine wpAnyH_take (i := 6) (v := ?_) rfl (by kernel_rfl) (by kernel_rfl) (by kernel_rfl) (fun _ _ _ h => h) (Or.inl ⟨by rfl, ?_⟩) hHeld ?_
              rotate_left
              · intro w' hSw; (try dsimp only at hSw); go_simp; try rfl
              (try simp only [Act.put, List.getElem_toArray, List.getElem_cons_zero, List.getElem_cons_succ, List.setIfInBounds_toArray, List.set_cons_zero, List.set_cons_succ])
              refine wpAnyH_take (i := 7) (v := ?_) rfl (by kernel_rfl) (by kernel_rfl) (by kernel_rfl) (fun _ _ _ h => h) (Or.inl ⟨by rfl, ?_⟩) hHeld ?_
              rotate_left
              · intro w' hSw; (try dsimp only at hSw); go_simp; try rfl
              (try simp only [Act.put, List.getElem_toArray, List.getElem_cons_zero, List.getElem_cons_succ, List.setIfInBounds_toArray, List.set_cons_zero, List.set_cons_succ])
              refine wpAnyH_take (i := 8) (v := ?_) rfl (by kernel_rfl) (by kernel_rfl) (by kernel_rfl) (fun _ _ _ h => h) (Or.inl ⟨by rfl, ?_⟩) hHeld ?_
              rotate_left
              · intro w' hSw; (try dsimp only at hSw); go_simp; try rfl
              (try simp only [Act.put, List.getElem_toArray, List.getElem_cons_zero, List.getElem_cons_succ, List.setIfInBounds_toArray, List.set_cons_zero, List.set_cons_succ])
              refine wpAnyH_take (i := 9) (v := ?_) rfl (by kernel_rfl) (by kernel_rfl) (by kernel_rfl) (fun _ _ _ h => h) (Or.inl ⟨by rfl, ?_⟩) hHeld ?_
              rotate_left
              · intro w' hSw; (try dsimp only at hSw); go_simp; try rfl
              (try simp only [Act.put, List.getElem_toArray, List.getElem_cons_zero, List.getElem_cons_succ, List.setIfInBounds_toArray, List.set_cons_zero, List.set_cons_succ])
              refine wpAnyH_take (i := 10) (v := ?_) rfl (by kernel_rfl) (by kernel_rfl) (by kernel_rfl) (fun _ _ _ h => h) (Or.inl ⟨by rfl, ?_⟩) hHeld ?_
              rotate_left
              · intro w' hSw; (try dsimp only at hSw); go_simp; try rfl
              (try simp only [Act.put, List.getElem_toArray, List.getElem_cons_zero, List.getElem_cons_succ, List.setIfInBounds_toArray, List.set_cons_zero, List.set_cons_succ])
              refine wpAnyH_ready (rs := [5]) (by kernel_rfl) (by simp) ?_
              refine AllReadyH.cons rfl (fun Kc hKc => ?_) AllReadyH.nil
              (try simp only [List.getElem_toArray, List.getElem_cons_zero, List.getElem_cons_succ])
              go_simp
              refine hcur.len.mono ?_
              rintro e w6 ⟨rfl, F6, hcur6⟩
              replace hcur := hcur6
              go_wp2_with fail
              refine hKc.out _ _ (by exact held_in hcur Hm.out hcur.mem.1 hcur.mem.2) (fun hHeld2 => ?_)
              clear hKc Kc hHeld
              have hHeld := hHeld2
              clear hHeld2
              (try simp only [Act.put, List.getElem_toArray, List.getElem_cons_zero, List.getElem_cons_succ, List.setIfInBounds_toArray, List.set_cons_zero, List.set_cons_succ])
              refine wpAnyH_take (i := 11) (v := ?_) rfl (by kernel_rfl) (by kernel_rfl) (by kernel_rfl) (fun _ _ _ h => h) (Or.inl ⟨by rfl, ?_⟩) hHeld ?_
              rotate_left
              · intro w' hSw; (try dsimp only at hSw); go_simp; try rfl
              (try simp only [Act.put, List.getElem_toArray, List.getElem_cons_zero, List.getElem_cons_succ, List.setIfInBounds_toArray, List.set_cons_zero, List.set_cons_succ])
              refine wpAnyH_take (i := 12) (v := ?_) rfl (by kernel_rfl) (by kernel_rfl) (by kernel_rfl) (fun _ _ _ h => h) (Or.inl ⟨by rfl, ?_⟩) hHeld ?_
              rotate_left
              · intro w' hSw; (try dsimp only at hSw); go_simp; try rfl
              (try simp only [Act.put, List.getElem_toArray, List.getElem_cons_zero, List.getElem_cons_succ, List.setIfInBounds_toArray, List.set_cons_zero, List.set_cons_succ])
              refine wpAnyH_take (i := 13) (v := ?_) rfl (by kernel_rfl) (by kernel_rfl) (by kernel_rfl) (fun _ _ _ h => h) (Or.inl ⟨by rfl, ?_⟩) hHeld ?_
              rotate_left
              · intro w' hSw; (try dsimp only at hSw); go_simp; try rfl
              (try simp only [Act.put, List.getElem_toArray, List.getElem_cons_zero, List.getElem_cons_succ, List.setIfInBounds_toArray, List.set_cons_zero, List.set_cons_succ])
              refine wpAnyH_take (i := 14) (v := ?_) rfl (by kernel_rfl) (by kernel_rfl) (by kernel_rfl) (fun _ _ _ h => h) (Or.inl ⟨by rfl, ?_⟩) hHeld ?_
              rotate_left
              · intro w' hSw; (try dsimp only at hSw); go_simp; try rfl
              (try simp only [Act.put, List.getElem_toArray, List.getElem_cons_zero, List.getElem_cons_succ, List.setIfInBounds_toArray, List.set_cons_zero, List.set_cons_succ])
              refine wpAnyH_take (i := 15) (v := ?_) rfl (by kernel_rfl) (by kernel_rfl) (by kernel_rfl) (fun _ _ _ h => h) (Or.inl ⟨by rfl, ?_⟩) hHeld ?_
              rotate_left
              · intro w' hSw; (try dsimp only at hSw); go_simp; try rfl
              (try simp only [Act.put, List.getElem_toArray, List.getElem_cons_zero, List.getElem_cons_succ, List.setIfInBounds_toArray, List.set_cons_zero, List.set_cons_succ])
              refine wpAnyH_take (i := 16) (v := ?_) rfl (by kernel_rfl) (by kernel_rfl) (by kernel_rfl) (fun _ _ _ h => h) (Or.inl ⟨by rfl, ?_⟩) hHeld ?_
              rotate_left
              · intro w' hSw; (try dsimp only at hSw); go_simp; try rfl
              (try simp only [Act.put, List.getElem_toArray, List.getElem_cons_zero, List.getElem_cons_succ, List.setIfInBounds_toArray, List.set_cons_zero, List.set_cons_succ])
              refine wpAnyH_take (i := 17) (v := ?_) rfl (by kernel_rfl) (by kernel_rfl) (by kernel_rfl) (fun _ _ _ h => h) (Or.inl ⟨by rfl, ?_⟩) hHeld ?_
              rotate_left
              · intro w' hSw; (try dsimp only at hSw); go_simp; try rfl
              (try simp only [Act.put, List.getElem_toArray, List.getElem_cons_zero, List.getElem_cons_succ, List.setIfInBounds_toArray, List.set_cons_zero, List.set_cons_succ])
              refine wpAnyH_ready (rs := [18]) (by kernel_rfl) (by simp) ?_
              refine AllReadyH.cons rfl (fun Kc hKc => ?_) AllReadyH.nil
              (try simp only [List.getElem_toArray, List.getElem_cons_zero, List.getElem_cons_succ])
              go_simp
              refine (hcur.rthere (m : Int)).mono ?_
              rintro e w7 ⟨rfl, hcur7⟩
              replace hcur := hcur7
              rw [Ht.out]
              go_wp2_with fail
              refine hKc.out _ _ (by exact held_in hcur Hm.out hcur.mem.1 hcur.mem.2) (fun hHeld2 => ?_)
              clear hKc Kc hHeld
              have hHeld := hHeld2
              clear hHeld2
              (try simp only [Act.put, List.getElem_toArray, List.getElem_cons_zero, List.getElem_cons_succ, List.setIfInBounds_toArray, List.set_cons_zero, List.set_cons_succ])
              refine wpAnyH_take (i := 19) (v := ?_) rfl (by kernel_rfl) (by kernel_rfl) (by kernel_rfl) (fun _ _ _ h => h) (Or.inl ⟨by rfl, ?_⟩) hHeld ?_
              rotate_left
              · intro w' hSw; (try dsimp only at hSw); go_simp; try rfl
              (try simp only [Act.put, List.getElem_toArray, List.getElem_cons_zero, List.getElem_cons_succ, List.setIfInBounds_toArray, List.set_cons_zero, List.set_cons_succ])
              refine wpAnyH_take (i := 20) (v := ?_) rfl (by kernel_rfl) (by kernel_rfl) (by kernel_rfl) (fun _ _ _ h => h) (Or.inl ⟨by rfl, ?_⟩) hHeld ?_
              rotate_left
              · intro w' hSw; (try dsimp only at hSw); go_simp; try rfl
              (try simp only [Act.put, List.getElem_toArray, List.getElem_cons_zero, List.getElem_cons_succ, List.setIfInBounds_toArray, List.set_cons_zero, List.set_cons_succ])
              refine wpAnyH_take (i := 21) (v := ?_) rfl (by kernel_rfl) (by kernel_rfl) (by kernel_rfl) (fun _ _ _ h => h) (Or.inl ⟨by rfl, ?_⟩) hHeld ?_
              rotate_left
              · intro w' hSw; (try dsimp only at hSw); go_simp; try rfl
              (try simp only [Act.put, List.getElem_toArray, List.getElem_cons_zero, List.getElem_cons_succ, List.setIfInBounds_toArray, List.set_cons_zero, List.set_cons_succ])
              refine wpAnyH_take (i := 22) (v := ?_) rfl (by kernel_rfl) (by kernel_rfl) (by kernel_rfl) (fun _ _ _ h => h) (Or.inl ⟨by rfl, ?_⟩) hHeld ?_
              rotate_left
              · intro w' hSw; (try dsimp only at hSw); go_simp; try rfl
              (try simp only [Act.put, List.getElem_toArray, List.getElem_cons_zero, List.getElem_cons_succ, List.setIfInBounds_toArray, List.set_cons_zero, List.set_cons_succ])
              refine wpAnyH_take (i := 23) (v := ?_) rfl (by kernel_rfl) (by kernel_rfl) (by kernel_rfl) (fun _ _ _ h => h) (Or.inl ⟨by rfl, ?_⟩) hHeld ?_
              rotate_left
              · intro w' hSw; (try dsimp only at hSw); go_simp; try rfl
              (try simp only [Act.put, List.getElem_toArray, List.getElem_cons_zero, List.getElem_cons_succ, List.setIfInBounds_toArray, List.set_cons_zero, List.set_cons_succ])
              refine wpAnyH_take (i := 24) (v := ?_) rfl (by kernel_rfl) (by kernel_rfl) (by kernel_rfl) (fun _ _ _ h => h) (Or.inl ⟨by rfl, ?_⟩) hHeld ?_
              rotate_left
              · intro w' hSw; (try dsimp only at hSw); go_simp; try rfl
              (try simp only [Act.put, List.getElem_toArray, List.getElem_cons_zero, List.getElem_cons_succ, List.setIfInBounds_toArray, List.set_cons_zero, List.set_cons_succ])
              refine wpAnyH_take (i := 25) (v := ?_) rfl (by kernel_rfl) (by kernel_rfl) (by kernel_rfl) (fun _ _ _ h => h) (Or.inl ⟨by rfl, ?_⟩) hHeld ?_
              rotate_left
              · intro w' hSw; (try dsimp only at hSw); go_simp; try rfl
              (try simp only [Act.put, List.getElem_toArray, List.getElem_cons_zero, List.getElem_cons_succ, List.setIfInBounds_toArray, List.set_cons_zero, List.set_cons_succ])
              refine wpAnyH_take (i := 26) (v := ?_) rfl (by kernel_rfl) (by kernel_rfl) (by kernel_rfl) (fun _ _ _ h => h) (Or.inl ⟨by rfl, ?_⟩) hHeld ?_
              rotate_left
              · intro w' hSw; (try dsimp only at hSw); go_simp; try rfl
              (try simp only [Act.put, List.getElem_toArray, List.getElem_cons_zero, List.getElem_cons_succ, List.setIfInBounds_toArray, List.set_cons_zero, List.set_cons_succ])
              refine wpAnyH_take (i := 27) (v := ?_) rfl (by kernel_rfl) (by kernel_rfl) (by kernel_rfl) (fun _ _ _ h => h) (Or.inl ⟨by rfl, ?_⟩) hHeld ?_
              rotate_left
              · intro w' hSw; (try dsimp only at hSw); go_simp; try rfl
              (try simp only [Act.put, List.getElem_toArray, List.getElem_cons_zero, List.getElem_cons_succ, List.setIfInBounds_toArray, List.set_cons_zero, List.set_cons_succ])
              refine wpAnyH_take (i := 28) (v := ?_) rfl (by kernel_rfl) (by kernel_rfl) (by kernel_rfl) (fun _ _ _ h => h) (Or.inl ⟨by rfl, ?_⟩) hHeld ?_
              rotate_left
              · intro w' hSw; (try dsimp only at hSw); go_simp; try rfl
              (try simp only [Act.put, List.getElem_toArray, List.getElem_cons_zero, List.getElem_cons_succ, List.setIfInBounds_toArray, List.set_cons_zero, List.set_cons_succ])
              refine wpAnyH_take (i := 29) (v := ?_) rfl (by kernel_rfl) (by kernel_rfl) (by kernel_rfl) (fun _ _ _ h => h) (Or.inl ⟨by rfl, ?_⟩) hHeld ?_
              rotate_left
              · intro w' hSw; (try dsimp only at hSw); go_simp; try rfl
              (try simp only [Act.put, List.getElem_toArray, List.getElem_cons_zero, List.getElem_cons_succ, List.setIfInBounds_toArray, List.set_cons_zero, List.set_cons_succ])
              refine wpAnyH_take (i := 30) (v := ?_) rfl (by kernel_rfl) (by kernel_rfl) (by kernel_rfl) (fun _ _ _ h => h) (Or.inl ⟨by rfl, ?_⟩) hHeld ?_
              rotate_left
              · intro w' hSw; (try dsimp only at hSw); go_simp; try rfl
              (try simp only [Act.put, List.getElem_toArray, List.getElem_cons_zero, List.getElem_cons_succ, List.setIfInBounds_toArray, List.set_cons_zero, List.set_cons_succ])
              refine wpAnyH_take (i := 31) (v := ?_) rfl (by kernel_rfl) (by kernel_rfl) (by kernel_rfl) (fun _ _ _ h => h) (Or.inl ⟨by rfl, ?_⟩) hHeld ?_
              rotate_left
              · intro w' hSw; (try dsimp only at hSw); go_simp; try rfl
              (try simp only [Act.put, List.getElem_toArray, List.getElem_cons_zero, List.getElem_cons_succ, List.setIfInBounds_toArray, List.set_cons_zero, List.set_cons_succ])
              refine wpAnyH_take (i := 32) (v := ?_) rfl (by kernel_rfl) (by kernel_rfl) (by kernel_rfl) (fun _ _ _ h => h) (Or.inl ⟨by rfl, ?_⟩) hHeld ?_
              rotate_left
              · intro w' hSw; (try dsimp only at hSw); go_simp; try rfl
              (try simp only [Act.put, List.getElem_toArray, List.getElem_cons_zero, List.getElem_cons_succ, List.setIfInBounds_toArray, List.set_cons_zero, List.set_cons_succ])
              refine wpAnyH_ready (rs := [33]) (by kernel_rfl) (by simp) ?_
              refine AllReadyH.cons rfl (fun Kc hKc => ?_) AllReadyH.nil
              (try simp only [List.getElem_toArray, List.getElem_cons_zero, List.getElem_cons_succ])
              go_simp
              refine (hcur.same p4).mono ?_
              rintro e w8 ⟨rfl, hcur8⟩
              replace hcur := hcur8
              go_wp2_with fail
              refine hKc.out _ _ (by exact held_in hcur Hm.out hcur.mem.1 hcur.mem.2) (fun hHeld2 => ?_)
              clear hKc Kc hHeld
              have hHeld := hHeld2
              clear hHeld2
              (try simp only [Act.put, List.getElem_toArray, List.getElem_cons_zero, List.getElem_cons_succ, List.setIfInBounds_toArray, List.set_cons_zero, List.set_cons_succ])
              refine wpAnyH_take (i := 34) (v := ?_) rfl (by kernel_rfl) (by kernel_rfl) (by kernel_rfl) (fun _ _ _ h => h) (Or.inl ⟨by rfl, ?_⟩) hHeld ?_
              rotate_left
              · intro w' hSw; (try dsimp only at hSw); go_simp; try rfl
              (try simp only [Act.put, List.getElem_toArray, List.getElem_cons_zero, List.getElem_cons_succ, List.setIfInBounds_toArray, List.set_cons_zero, List.set_cons_succ])
              refine wpAnyH_take (i := 35) (v := ?_) rfl (by kernel_rfl) (by kernel_rfl) (by kernel_rfl) (fun _ _ _ h => h) (Or.inl ⟨by rfl, ?_⟩) hHeld ?_
              rotate_left
              · intro w' hSw; (try dsimp only at hSw); go_simp; try rfl
              (try simp only [Act.put, List.getElem_toArray, List.getElem_cons_zero, List.getElem_cons_succ, List.setIfInBounds_toArray, List.set_cons_zero, List.set_cons_succ])
              refine wpAnyH_take (i := 36) (v := ?_) rfl (by kernel_rfl) (by kernel_rfl) (by kernel_rfl) (fun _ _ _ h => h) (Or.inl ⟨by rfl, ?_⟩) hHeld ?_
              rotate_left
              · intro w' hSw; (try dsimp only at hSw); go_simp; try rfl
              (try simp only [Act.put, List.getElem_toArray, List.getElem_cons_zero, List.getElem_cons_succ, List.setIfInBounds_toArray, List.set_cons_zero, List.set_cons_succ])
              refine wpAnyH_take (i := 37) (v := ?_) rfl (by kernel_rfl) (by kernel_rfl) (by kernel_rfl) (fun _ _ _ h => h) (Or.inl ⟨by rfl, ?_⟩) hHeld ?_
              rotate_left
              · intro w' hSw; (try dsimp only at hSw); go_simp; try rfl
              (try simp only [Act.put, List.getElem_toArray, List.getElem_cons_zero, List.getElem_cons_succ, List.setIfInBounds_toArray, List.set_cons_zero, List.set_cons_succ])
              refine wpAnyH_take (i := 38) (v := ?_) rfl (by kernel_rfl) (by kernel_rfl) (by kernel_rfl) (fun _ _ _ h => h) (Or.inl ⟨by rfl, ?_⟩) hHeld ?_
              rotate_left
              · intro w' hSw; (try dsimp only at hSw); go_simp; try rfl
              (try simp only [Act.put, List.getElem_toArray, List.getElem_cons_zero, List.getElem_cons_succ, List.setIfInBounds_toArray, List.set_cons_zero, List.set_cons_succ])
              refine wpAnyH_take (i := 39) (v := ?_) rfl (by kernel_rfl) (by kernel_rfl) (by kernel_rfl) (fun _ _ _ h => h) (Or.inl ⟨by rfl, ?_⟩) hHeld ?_
              rotate_left
              · intro w' hSw; (try dsimp only at hSw); go_simp; try rfl
              (try simp only [Act.put, List.getElem_toArray, List.getElem_cons_zero, List.getElem_cons_succ, List.setIfInBounds_toArray, List.set_cons_zero, List.set_cons_succ])
              refine wpAnyH_take (i := 40) (v := ?_) rfl (by kernel_rfl) (by kernel_rfl) (by kernel_rfl) (fun _ _ _ h => h) (Or.inl ⟨by rfl, ?_⟩) hHeld ?_
              rotate_left
              · intro w' hSw; (try dsimp only at hSw); go_simp; try rfl
              (try simp only [Act.put, List.getElem_toArray, List.getElem_cons_zero, List.getElem_cons_succ, List.setIfInBounds_toArray, List.set_cons_zero, List.set_cons_succ])
              refine wpAnyH_take (i := 41) (v := undef) rfl (by kernel_rfl) (by kernel_rfl) (by kernel_rfl) (fun _ _ _ h => h) (Or.inr ⟨by rfl, rfl⟩) hHeld ?_
              (try simp only [Act.put, List.getElem_toArray, List.getElem_cons_zero, List.getElem_cons_succ, List.setIfInBounds_toArray, List.set_cons_zero, List.set_cons_succ])
              refine wpAnyH_take (i := 42) (v := undef) rfl (by kernel_rfl) (by kernel_rfl) (by kernel_rfl) (fun _ _ _ h => h) (Or.inr ⟨by rfl, rfl⟩) hHeld ?_
              (try simp only [Act.put, List.getElem_toArray, List.getElem_cons_zero, List.getElem_cons_succ, List.setIfInBounds_toArray, List.set_cons_zero, List.set_cons_succ])
              refine wpAnyH_take (i := 43) (v := undef) rfl (by kernel_rfl) (by kernel_rfl) (by kernel_rfl) (fun _ _ _ h => h) (Or.inr ⟨by rfl, rfl⟩) hHeld ?_
              (try simp only [Act.put, List.getElem_toArray, List.getElem_cons_zero, List.getElem_cons_succ, List.setIfInBounds_toArray, List.set_cons_zero, List.set_cons_succ])
              refine wpAnyH_take (i := 44) (v := ?_) rfl (by kernel_rfl) (by kernel_rfl) (by kernel_rfl) (fun _ _ _ h => h) (Or.inl ⟨by rfl, ?_⟩) hHeld ?_
              rotate_left
              · intro w' hSw; (try dsimp only at hSw); go_simp; try rfl
              (try simp only [Act.put, List.getElem_toArray, List.getElem_cons_zero, List.getElem_cons_succ, List.setIfInBounds_toArray, List.set_cons_zero, List.set_cons_succ])
              refine wpAnyH_take (i := 45) (v := ?_) rfl (by kernel_rfl) (by kernel_rfl) (by kernel_rfl) (fun _ _ _ h => h) (Or.inl ⟨by rfl, ?_⟩) hHeld ?_
              rotate_left
              · intro w' hSw; (try dsimp only at hSw); go_simp; try rfl
              (try simp only [Act.put, List.getElem_toArray, List.getElem_cons_zero, List.getElem_cons_succ, List.setIfInBounds_toArray, List.set_cons_zero, List.set_cons_succ])
              refine wpAnyH_done (by kernel_rfl) ?_ _
              all_goals
                have hst9 := hcur.drop kp_no (fun _ => trivial) (fun _ t => t.elim)
                clear hcur
                go_wp2_with fail
                go_roundg (len - (K + 1))
                case measure => have := Hk.out; omega
                case rel => exact ⟨K + 1, F6, _, c, D, d, L, ks, by go_num, by omega, hks2, hst9⟩
            | false =>
              as_aux_lemma =>
              have hz := at_out ht
              have hA := net_peek_r _ _ q F L ks hst.net hst.base n
              rw [ht, hz] at hA
              have HA := hide hA
              have Ht := hide ht
              clear hA hz ht
              go_wp2_with fail
              refine HA.out.mono ?_
              rintro e w4 ⟨rfl, p4, A4, c4, C4, hr4, hw4⟩
              have hst4 := hst.netTurn hr4.at_ hw4
              have hst5 := hst4.addBlk 45 #[.int .i64 0, .int .i64 0, .string ⟨#[]⟩]
              have hr5 := hr4.chg ((Chg.refl No w4).alloc (.cells #[.int .i64 0, .int .i64 0, .string ⟨#[]⟩] 45)) (fun _ _ t => t)
              obtain ⟨w5, hw5⟩ : ∃ w5, w5 = w4.alloc (.cells #[.int .i64 0, .int .i64 0, .string ⟨#[]⟩] 45) := ⟨_, rfl⟩
              rw [← hw5] at hst5 hr5
              obtain ⟨oX, hoX⟩ : ∃ oX, oX = w4.heap.size := ⟨_, rfl⟩
              rw [← hoX] at hst5
              clear hst4 HA e0 e1 e2 e3 hr4 hw4 hst
              go_wp2_with fail
              rw [← hw5, ← hoX]
              clear hw5 hoX
              obtain ⟨a0, a1, a2, a3⟩ := op_cells hst5.mem.1
              have x0 : w5.cell? ⟨oX, 0, none⟩ = some (.int .i64 0) := hst5.mem.2.cell 0
              have x1 : w5.cell? ⟨oX, 1, none⟩ = some (.int .i64 0) := hst5.mem.2.cell 1
              have x2 : w5.cell? ⟨oX, 2, none⟩ = some (.string ⟨#[]⟩) := hst5.mem.2.cell 2
              have k0 := hst5.ref.k0
              go_quiet (first
                | (go_at_call 27; exact Calls.quiet_of (len_q hr5 _))
                | (go_at_call 28; exact Calls.quiet_of (there_q hst5.ref n Ht.out _)))
              have hst9 := (hst5.drop kp_no (fun _ => trivial) (fun _ t => t.elim)).quiet ((Chg.refl No w5).drewN nq)
              clear hst5 hr5
              go_wp2_with fail
              go_roundg (len - (K + 1))
              case measure => have := Hk.out; omega
              case rel => exact ⟨K + 1, _, A, c, D, d, L, ks, by go_num, by omega, hks2, hst9⟩
      · obtain rfl : K = len := by have := Hk.out; omega
        have k0 := hst.ref.k0
        have HL := hide (netAt_fits hst.net)
        go_wp2_with fail
        go_loopg [20] L.length (fun k i wr => Peeked w q r A c D d L ks k i wr)
        case atStart => exact ⟨0, F, rfl, by omega, hst⟩
        case round =>
          clear hst k0
          obtain ⟨J, F1, rfl, hJ, hst1⟩ := hrel
          have HJ := hide hJ
          clear hJ
          have k0 := hst1.ref.k0
          by_cases hJl : J < L.length
          · obtain ⟨p4, hp4⟩ : ∃ p4, L[J]? = some p4 := ⟨_, List.getElem?_eq_getElem hJl⟩
            obtain ⟨gA, rfl, _, _⟩ := own_addr hst1.ref.list (by omega)
            obtain ⟨ht, hat⟩ := at_of hp4
            have hA := hst1.peek (J : Int)
            rw [ht, hat] at hA
            have HA := hide hA
            have Hm := hide hp4
            have hJi : (J : Int) < L.length := by omega
            have hJb : J < 900 := by have := HL.out; omega
            clear hA hp4 ht hat hst1
            go_wp2_with fail
            refine HA.out.mono ?_
            rintro e w4 ⟨rfl, F4, hst4⟩
            have hst5 := hst4.addBlk 45 #[.int .i64 p4.fr, .int .i64 p4.to, .string p4.data]
            obtain ⟨w5, hw5⟩ : ∃ w5, w5 = w4.alloc (.cells #[.int .i64 p4.fr, .int .i64 p4.to, .string p4.data] 45) := ⟨_, rfl⟩
            rw [← hw5] at hst5
            obtain ⟨oX, hoX⟩ : ∃ oX, oX = w4.heap.size := ⟨_, rfl⟩
            rw [← hoX] at hst5
            clear hst4 HA k0
            go_wp2_with fail
            rw [← hw5, ← hoX]
            clear hw5 hoX
            obtain ⟨x0, x1, x2, _, _, _⟩ := rf_there hst5.mem.2
            obtain ⟨y0, y1, y2⟩ := hst5.ref.spot Hm.out
            have k0 := hst5.ref.k0
            have hcur := hst5.quiet ((Chg.refl No w5).drew)
            clear hst5
            go_region_held3 (fun w' => w'.cell? ⟨r, 0, none⟩ = some (.slice (some ⟨gA, 0, none⟩) L.length c) ∧ w'.cell? ⟨oX, 0, none⟩ = some (.int .i64 p4.fr) ∧ w'.cell? ⟨oX, 1, none⟩ = some (.int .i64 p4.to) ∧ w'.cell? ⟨oX, 2, none⟩ = some (.string p4.data) ∧ w'.cell? ⟨gA, J * 3, none⟩ = some (.int .i64 p4.fr) ∧ w'.cell? ⟨gA, J * 3 + 1, none⟩ = some (.int .i64 p4.to) ∧ w'.cell? ⟨gA, J * 3 + 2, none⟩ = some (.string p4.data)) (first | exact held_in2 hcur Hm.out hcur.mem.2 | exact ⟨k0, x0, x1, x2, y0, y1, y2⟩) (first
              | (go_at_call 17; refine (hcur.same p4).mono ?_; rintro e w8 ⟨rfl, hcur8⟩; replace hcur := hcur8))
            all_goals
              have hst9 := hcur.drop kp_no (fun _ => trivial) (fun _ t => t.elim)
              clear hcur
              go_wp2_with fail
              go_roundg (L.length - (J + 1))
              case measure => have := HJ.out; omega
              case rel => exact ⟨J + 1, F4, by go_num, by omega, hst9⟩
          · have hJe : J = L.length := by have := HJ.out; omega
            subst hJe
            have hJi : ¬ ((L.length : Int) < L.length) := by omega
            go_wp2_with fail
            refine (alive_true _).mono ?_
            rintro e w2 ⟨rfl, hc2⟩
            go_wp2_with fail
            go_ret
            exact ⟨rfl, (hst1.quiet hc2).below⟩
end Go.Proofs.Ytipdeacaehbbfaa.netPlays
