/-
  The reference's net: Send.
-/
import Derived.Test.YtipdeacaehbbfaaRefCut
import Derived.Test.YtipdeacaehbbfaaNetSend
namespace Go.Proofs.Ytipdeacaehbbfaa
open Go.RowKit
set_option linter.unusedSimpArgs false

/-- So many cuts have been looked at. -/
def Looked (wr : World) (ks : List (Int × Int)) (e : Int × Int) (full : Bool) (k : Nat) (s i : Value) (wx : World) : Prop :=
  ∃ J tl, s = .bool tl ∧ tl = (full || decide (e ∈ ks.take J)) ∧ i = .int .i64 ((J : Nat) : Int) ∧ J + k = ks.length ∧ Chg No wr wx
/-- So many packets have been sent. -/
def RSent (w : World) (B r : Nat) (A D : Option Addr) (d : Nat) (L ys : List Pk) (ks : List (Int × Int)) (k : Nat) (s i : Value) (wr : World) : Prop :=
  ∃ K A' c' L', i = .int .i64 ((K : Nat) : Int) ∧ K + k = ys.length ∧ L' = sendAll ks L (ys.take K) ∧ s = .int .i64 ((L'.length : Int) - L.length) ∧ RefAt wr B r A' c' L' D d ks ∧ Went (RFoot r A D) (RFoot r A' D) w wr ∧ L'.length ≤ 900

theorem looked_snoc {ks : List (Int × Int)} {J : Nat} {x : Int × Int} (hx : ks[J]? = some x) (e : Int × Int) : decide (e ∈ ks.take (J + 1)) = (decide (e ∈ ks.take J) || decide (x = e)) := by
  obtain ⟨hJ, rfl⟩ := List.getElem?_eq_some_iff.1 hx
  rw [List.take_succ_eq_append_getElem hJ]
  simp only [List.mem_append, List.mem_singleton, Bool.decide_or]
  congr 1
  exact decide_eq_decide.2 eq_comm

theorem send_snoc {ks : List (Int × Int)} {ys : List Pk} {K : Nat} {y : Pk} (hy : ys[K]? = some y) (L : List Pk) : sendAll ks L (ys.take (K + 1)) = sendOne ks (sendAll ks L (ys.take K)) y := by
  obtain ⟨hK, rfl⟩ := List.getElem?_eq_some_iff.1 hy
  rw [List.take_succ_eq_append_getElem hK, sendAll_snoc]
theorem send_lost {ks : List (Int × Int)} {L : List Pk} {y : Pk} (h : (decide (900 ≤ L.length) || decide (endsOf y.fr y.to ∈ ks)) = true) : sendOne ks L y = L := by
  unfold sendOne
  by_cases h1 : endsOf y.fr y.to ∈ ks
  · rw [if_pos h1]
  · rw [if_neg h1, if_neg]
    have : decide (900 ≤ L.length) = true := by simpa [h1] using h
    have := of_decide_eq_true this
    omega
theorem send_kept {ks : List (Int × Int)} {L : List Pk} {y : Pk} (h : (decide (900 ≤ L.length) || decide (endsOf y.fr y.to ∈ ks)) = false) : sendOne ks L y = L ++ [y] ∧ L.length < 900 := by
  rw [Bool.or_eq_false_iff] at h
  have h1 := of_decide_eq_false h.1
  have h2 := of_decide_eq_false h.2
  unfold sendOne
  rw [if_neg h2, if_pos (by omega)]
  exact ⟨rfl, by omega⟩

section
variable (w : World) (B r c d : Nat) (A D : Option Addr) (L : List Pk) (ks : List (Int × Int))

set_option maxHeartbeats 4000000 in
set_option maxRecDepth 100000 in
theorem ref_send (h : RefAt w B r A c L D d ks) (hB : B ≤ w.heap.size) (hn : L.length ≤ 900) (hk : ks.length ≤ 100000) (X : Option Addr) (dx : Nat) (ys : List Pk)
    (hX : Sees w w.heap.size 3 X ys.length (flat ys)) (hXF : ∀ j, blkOf X = some j → ¬ RFoot r A D j) (hyl : ys.length ≤ 100000) :
    Calls Try.prog 12 #[.pointer (some ⟨r, 0, none⟩), .slice X ys.length dx] w fun e w' => e = .returned (.int .i64 (((sendAll ks L ys).length : Int) - L.length)) ∧ ∃ A' c', RefAt w' B r A' c' (sendAll ks L ys) D d ks ∧ Went (RFoot r A D) (RFoot r A' D) w w' := by
  obtain ⟨i0, hi, hz0, hz1, hz2⟩ := info_parts Try.info48
  obtain ⟨m, hm⟩ : ∃ m, m = ys.length := ⟨_, rfl⟩
  have h0 : RSent w B r A D d L ys ks m (.int .i64 0) (.int .i64 0) w := ⟨0, A, c, L, rfl, by omega, rfl, by simp, h, Went.refl _ _, hn⟩
  rw [← hm] at hX hyl ⊢
  have Hm := hide hm
  have HX := hide hX
  have HXF := hide hXF
  have Hk := hide hk
  have Hyl := hide hyl
  clear hm hX hXF hk hyl
  go_enter Try.func12, Try.ntmps12
  go_wp2_with fail
  go_loopg [5, 6] m (fun k s i wr => RSent w B r A D d L ys ks k s i wr)
  case atStart => exact h0
  case round =>
    clear h0
    obtain ⟨K, A1, c1, L1, rfl, hK, hL1, rfl, hR, hw, hl9⟩ := hrel
    have HK := hide hK
    have HL1 := hide hL1
    have Hw := hide hw
    clear hK hL1 hw
    by_cases hKm : K < m
    · obtain ⟨y, hy⟩ : ∃ y, ys[K]? = some y := ⟨_, List.getElem?_eq_getElem (by rw [← Hm.out]; exact hKm)⟩
      have HXr := HX.out.chg Hw.out.chg (Nat.le_refl _) (fun _ k hk => HXF.out k hk)
      obtain ⟨gx, ox, rfl, hgx, hcx⟩ := HXr.spot (by omega) (by omega)
      obtain ⟨e0, e1, e2⟩ := flat_get hy
      have y0 := hcx _ _ e0
      have y1 := hcx _ _ e1
      have y2 := hcx _ _ e2
      rw [← Nat.add_assoc] at y1 y2
      have hKi : (K : Int) < m := by omega
      have hKb : K < 100000 := by have := Hyl.out; omega
      have k0 := hR.k0
      obtain ⟨full, hfull⟩ : ∃ full, full = decide (900 ≤ L1.length) := ⟨_, rfl⟩
      have hfi : decide ((900 : Int) ≤ L1.length) = full := by rw [hfull]; exact decide_eq_decide.2 (by omega)
      have Hfull := hide hfull
      have Hy := hide hy
      clear e0 e1 e2 hcx HXr hy hfull
      obtain ⟨wo, hwo⟩ : ∃ wo, wo = wr := ⟨_, rfl⟩
      rw [← hwo] at hR Hw y0 y1 y2 k0 ⊢
      clear hwo wr
      go_wp2_with fail
      go_loopg [7, 8] ks.length (fun k s i wx => Looked wo ks (endsOf y.fr y.to) full k s i wx)
      case atStart => exact ⟨0, full, rfl, by simp, rfl, by omega, Chg.refl _ _⟩
      case round =>
        obtain ⟨J, tl, rfl, htl, rfl, hJ, hc⟩ := hrel
        have Htl := hide htl
        have HJ := hide hJ
        clear htl hJ
        have hgo : gx < wo.heap.size := Nat.lt_of_lt_of_le hgx Hw.out.chg.size
        have z0 := (hc.cell (p := ⟨gx, ox + K * 3, none⟩) hgo (fun t => t)).trans y0
        have z1 := (hc.cell (p := ⟨gx, ox + K * 3 + 1, none⟩) hgo (fun t => t)).trans y1
        have z2 := (hc.cell (p := ⟨gx, ox + K * 3 + 2, none⟩) hgo (fun t => t)).trans y2
        have hRx := hR.quiet hc
        have k0x := hRx.k0
        have k1x := hRx.k1
        by_cases hJk : J < ks.length
        · obtain ⟨x, hx⟩ : ∃ x, ks[J]? = some x := ⟨_, List.getElem?_eq_getElem hJk⟩
          obtain ⟨g, rfl, _, _⟩ := own_addr hRx.cuts (by omega)
          obtain ⟨x0, x1⟩ := hRx.key hx
          have hJi : (J : Int) < ks.length := by omega
          have hJb : J < 100000 := by have := Hk.out; omega
          have hsn := looked_snoc hx (endsOf y.fr y.to)
          have Hx := hide hx
          have Hsn := hide hsn
          clear hx hsn
          cases tl with
          | true =>
            go_wp2_with fail
            go_quiet (fail)
            go_wp2_with fail
            go_roundg (ks.length - (J + 1))
            case measure => have := HJ.out; omega
            case rel => exact ⟨J + 1, true, rfl, by rw [Hsn.out, ← Bool.or_assoc, ← Htl.out, Bool.true_or], by go_num, by omega, hc.trans ((Chg.refl No _).drewN _) (fun _ _ t => t)⟩
          | false =>
            have hq := fun w' => pair_eq x (endsOf y.fr y.to) w'
            obtain ⟨tb, htb⟩ : ∃ tb, tb = decide (x = endsOf y.fr y.to) := ⟨_, rfl⟩
            rw [← htb] at hq
            have Htb := hide htb
            clear htb
            go_wp2_with fail
            go_region_held3 (fun w' => w'.cell? ⟨r, 1, none⟩ = some (.slice (some ⟨g, 0, none⟩) ks.length d) ∧ w'.cell? ⟨g, J * 2, none⟩ = some (.int .i64 x.1) ∧ w'.cell? ⟨g, J * 2 + 1, none⟩ = some (.int .i64 x.2) ∧ w'.cell? ⟨gx, ox + K * 3, none⟩ = some (.int .i64 y.fr) ∧ w'.cell? ⟨gx, ox + K * 3 + 1, none⟩ = some (.int .i64 y.to)) (first | exact ⟨p1, p2, p3, p4, p5⟩ | exact ⟨k1x, x0, x1, z0, z1⟩) (first | (go_at_call 34; refine (ref_ends y.fr y.to _).mono ?_; rintro e w2 ⟨rfl, hc2⟩; have hcd := (Chg.refl No wr).drew.trans hc2 (fun _ _ t => t); have hR2 := hRx.quiet hcd; have p1 := hR2.k1; obtain ⟨p2, p3⟩ := hR2.key Hx.out; have hgr := Nat.lt_of_lt_of_le hgo hc.size; have p4 := (hcd.cell (p := ⟨gx, ox + K * 3, none⟩) hgr (fun t => t)).trans z0; have p5 := (hcd.cell (p := ⟨gx, ox + K * 3 + 1, none⟩) hgr (fun t => t)).trans z1))
            all_goals
              go_wp2_with fail
              go_roundg (ks.length - (J + 1))
              case measure => have := HJ.out; omega
              case rel => exact ⟨J + 1, tb, rfl, by rw [Hsn.out, ← Bool.or_assoc, ← Htl.out, Bool.false_or, Htb.out], by go_num, by omega, hc.trans hcd (fun _ _ t => t)⟩
        · have hJe : J = ks.length := by have := HJ.out; omega
          subst hJe
          have hJi : ¬ ((ks.length : Int) < ks.length) := by omega
          have htl := Htl.out
          rw [List.take_length, Hfull.out] at htl
          cases tl with
          | true =>
            have hs := send_snoc (ks := ks) Hy.out L
            rw [← HL1.out, send_lost htl.symm (ks := ks) (y := y)] at hs
            have Hs := hide hs
            clear hs htl
            go_wp2_with fail
            go_roundg (m - (K + 1))
            case measure => have := HK.out; have := Hm.out; omega
            case rel => exact ⟨K + 1, A1, c1, L1, by go_num, by have := Hm.out; omega, Hs.out.symm, rfl, hRx, Hw.out.trans (Went.no hc), hl9⟩
          | false =>
            obtain ⟨hs1, hs9⟩ := send_kept htl.symm (ks := ks) (y := y)
            have hs := send_snoc (ks := ks) Hy.out L
            rw [← HL1.out, hs1] at hs
            have Hs := hide hs
            have hlL : L.length ≤ L1.length := by rw [HL1.out]; exact (sendAll_len ks _ L).1
            have hgr : gx < wr.heap.size := Nat.lt_of_lt_of_le hgo hc.size
            have hBr : B ≤ wr.heap.size := Nat.le_trans (Nat.le_trans hB Hw.out.chg.size) hc.size
            have hss := Sees.of_own hRx.list
            have hs1 := hss
            have hkz : (wr.alloc (.cells #[.int .i64 y.fr, .int .i64 y.to, .string y.data] 48)).cell? ⟨r, 0, none⟩ = some (.slice A1 L1.length c1) := (hRx.quiet ((Chg.refl No wr).alloc _)).k0
            have hgoal : ((L1.length : Int) - L.length) + 1 = ((L1 ++ [y]).length : Int) - L.length := by simp; omega
            have Hgoal := hide hgoal
            clear hs htl hss hgoal y0 y1 y2 k0
            go_wp2_with fail
            go_region_law (first
              | (refine step_append_sees _ rfl (.const (.slice none 0 0)) (.tmp 58) 27 rfl wr.heap.size 48 i0 (.agg #[.int .i64 0, .int .i64 0, .string ⟨#[]⟩]) 3 32 Try.underlying27 hi hz0 hz1 hz2 rfl (by decide) none 0 0 [] rfl (World.ownsRow_nil _ _ _ _) _ A1 L1.length c1 (flat L1) rfl (show Sees wr.drew wr.heap.size 3 _ L1.length _ from hs1) (flat_one_cell _) (by unfold maxLen; omega) (by omega) (Nat.le_refl _) ?_; intro X4 d4 w4 hg1; rw [Nat.zero_add, List.nil_append] at hg1; have h4c : Chg No wr w4 := ⟨hg1.by_.os, hg1.by_.tape, hg1.by_.output, hg1.by_.size, fun k hk _ => hg1.by_.block k hk (by simp [blkOf])⟩; have z0' := (h4c.cell (p := ⟨gx, ox + K * 3, none⟩) hgr (fun t => t)).trans z0; have z1' := (h4c.cell (p := ⟨gx, ox + K * 3 + 1, none⟩) hgr (fun t => t)).trans z1; have z2' := (h4c.cell (p := ⟨gx, ox + K * 3 + 2, none⟩) hgr (fun t => t)).trans z2; have k04 := (hRx.quiet h4c).k0)
              | (refine step_append_sees _ rfl (.tmp 59) (.tmp 64) 27 rfl wr.heap.size 48 i0 (.agg #[.int .i64 0, .int .i64 0, .string ⟨#[]⟩]) 3 32 Try.underlying27 hi hz0 hz1 hz2 rfl (by decide) X4 L1.length d4 (flat L1) rfl (own_chg hg1.own ((Chg.refl No w4).alloc _) (fun _ _ t => t)) _ (some ⟨w4.heap.size, 0, none⟩) 1 1 [.int .i64 y.fr, .int .i64 y.to, .string y.data] rfl (Sees.of_blk (cs := #[.int .i64 y.fr, .int .i64 y.to, .string y.data]) (Blk.new _ _ _) rfl) (pk_one y) (by unfold maxLen; omega) (by omega) (by have := h4c.size; simp; omega) ?_; intro X5 d5 w5 hg2; have h5c := rf_new_a hg1 h4c hg2; have k05 := (hRx.quiet h5c).k0; have f05 := (hRx.quiet h5c).blk.frozen 0)
              | (refine step_append_sees _ rfl (.const (.slice none 0 0)) (.tmp 58) 27 rfl wr.heap.size 48 i0 (.agg #[.int .i64 0, .int .i64 0, .string ⟨#[]⟩]) 3 32 Try.underlying27 hi hz0 hz1 hz2 rfl (by decide) none 0 0 [] rfl (World.ownsRow_nil _ _ _ _) _ A1 L1.length c1 (flat L1) rfl (show Sees (wr.drew.alloc (.cells #[.int .i64 y.fr, .int .i64 y.to, .string y.data] 48)) _ 3 _ L1.length _ from hs1.chg ((Chg.refl No wr).drew.alloc _) (Nat.le_refl _) (fun _ _ _ t => t)) (flat_one_cell _) (by unfold maxLen; omega) (by omega) (by simp) ?_; intro X4 d4 w4 hg1; rw [Nat.zero_add, List.nil_append] at hg1; obtain ⟨h4c, hbz4⟩ := rf_new_b hg1)
              | (refine step_append_sees _ rfl (.tmp 59) (.tmp 64) 27 rfl wr.heap.size 48 i0 (.agg #[.int .i64 0, .int .i64 0, .string ⟨#[]⟩]) 3 32 Try.underlying27 hi hz0 hz1 hz2 rfl (by decide) X4 L1.length d4 (flat L1) rfl hg1.own _ (some ⟨wr.heap.size, 0, none⟩) 1 1 [.int .i64 y.fr, .int .i64 y.to, .string y.data] rfl (Sees.of_blk (cs := #[.int .i64 y.fr, .int .i64 y.to, .string y.data]) hbz4 rfl) (pk_one y) (by unfold maxLen; omega) (by omega) h4c.size ?_; intro X5 d5 w5 hg2; have h5c := rf_new_c hg1 h4c hg2; have k05 := (hRx.quiet h5c).k0; have f05 := (hRx.quiet h5c).blk.frozen 0))
            all_goals
              obtain ⟨hR6, hw6⟩ := hRx.setL (L' := L1 ++ [y]) hBr h5c hg2.own (by simp) (by rw [flat_append, flat_one])
              have HR6 := hide hR6
              have Hw6 := hide hw6
              clear hR6 hw6 hg1 hg2 h5c h4c k05 f05
              go_wp2_with fail
              go_roundg (m - (K + 1))
              case measure => have := HK.out; have := Hm.out; omega
              case rel => exact ⟨K + 1, X5, d5, L1 ++ [y], by go_num, by have := Hm.out; omega, Hs.out.symm, by rw [Hgoal.out], HR6.out, (Hw.out.trans (Went.no hc)).trans Hw6.out, by simp; omega⟩
    · have hKe : K = ys.length := by have := HK.out; have := Hm.out; omega
      have hall : ys.take K = ys := List.take_of_length_le (by omega)
      have hL2 := HL1.out
      rw [hall] at hL2
      subst hL2
      clear hKe hall
      go_wp2_with fail
      go_ret
      exact ⟨rfl, _, _, hR, Hw.out⟩
end
end Go.Proofs.Ytipdeacaehbbfaa
