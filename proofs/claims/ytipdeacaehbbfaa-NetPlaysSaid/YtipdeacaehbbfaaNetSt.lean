/-
  NetPlays: the net, the reference's net, and what lies beside them; how each call turns them.
-/
import Derived.Test.YtipdeacaehbbfaaRefSend
import Derived.Test.YtipdeacaehbbfaaPlainPk
namespace Go.Proofs.Ytipdeacaehbbfaa.netPlays
open Go.RowKit
set_option linter.unusedSimpArgs false

theorem netAt_fits {w : World} {B q : Nat} {F : Nat → Prop} {L : List Pk} {ks : List (Int × Int)} (h : NetAt w B q F L ks) : L.length ≤ 900 := by
  rcases h with ⟨C, rfl, _⟩ | ⟨p, A, c, C, hr, _⟩
  · simp
  · exact hr.ring.fits

/-- What is kept beside the nets: M holds, and only what turns in G could end it. -/
def Kp (G : Nat → Prop) (M : World → Prop) : Prop := ∀ (S : Nat → Prop) (w w' : World), Chg S w w' → (∀ k, G k → ¬ S k) → M w → M w'

structure NS (w0 : World) (q r : Nat) (F : Nat → Prop) (A : Option Addr) (c : Nat) (D : Option Addr) (d : Nat) (L L' : List Pk) (ks ks' : List (Int × Int)) (G : Nat → Prop) (M : World → Prop) (wr : World) : Prop where
  net : NetAt wr w0.heap.size q F L ks
  ref : RefAt wr w0.heap.size r A c L' D d ks'
  sep : ∀ k, F k → ¬ RFoot r A D k
  below : Below w0.heap.size w0 wr
  kp : Kp G M
  mem : M wr
  apN : ∀ k, G k → ¬ F k
  apR : ∀ k, G k → ¬ RFoot r A D k
  ltG : ∀ k, G k → k < wr.heap.size

section
variable {w0 wr w1 : World} {q r : Nat} {F F' : Nat → Prop} {A A' : Option Addr} {c c' : Nat} {D D' : Option Addr} {d d' : Nat} {L L' L1 : List Pk} {ks ks' ks1 : List (Int × Int)} {G : Nat → Prop} {M : World → Prop}
theorem NS.base (h : NS w0 q r F A c D d L L' ks ks' G M wr) : w0.heap.size ≤ wr.heap.size := h.below.size
theorem NS.quiet (h : NS w0 q r F A c D d L L' ks ks' G M wr) (hc : Chg No wr w1) : NS w0 q r F A c D d L L' ks ks' G M w1 :=
  ⟨h.net.chg hc (fun _ _ t => t), h.ref.quiet hc, h.sep, h.below.trans (hc.below h.base (fun _ t => t.elim)), h.kp, h.kp _ _ _ hc (fun _ _ t => t) h.mem, h.apN, h.apR, fun k hk => Nat.lt_of_lt_of_le (h.ltG k hk) hc.size⟩
theorem NS.netTurn (h : NS w0 q r F A c D d L L' ks ks' G M wr) (hn : NetAt w1 w0.heap.size q F' L1 ks1) (hw : Went F F' wr w1) : NS w0 q r F' A c D d L1 L' ks1 ks' G M w1 := by
  refine ⟨hn, h.ref.chg hw.chg (fun k hk t => h.sep k t hk), fun k hk t => ?_, h.below.trans (hw.below h.net.ge h.base), h.kp, h.kp _ _ _ hw.chg h.apN h.mem, fun k hk t => ?_, h.apR, fun k hk => Nat.lt_of_lt_of_le (h.ltG k hk) hw.chg.size⟩
  · rcases hw.foot k hk with e | e
    · exact h.sep k e t
    · have := h.ref.lt k t; omega
  · rcases hw.foot k t with e | e
    · exact h.apN k hk e
    · have := h.ltG k hk; omega
theorem NS.refTurn (h : NS w0 q r F A c D d L L' ks ks' G M wr) (hn : RefAt w1 w0.heap.size r A' c' L1 D' d' ks1) (hw : Went (RFoot r A D) (RFoot r A' D') wr w1) : NS w0 q r F A' c' D' d' L L1 ks ks1 G M w1 := by
  refine ⟨h.net.chg hw.chg (fun k hk t => h.sep k hk t), hn, fun k hk t => ?_, h.below.trans (hw.below h.ref.ge h.base), h.kp, h.kp _ _ _ hw.chg h.apR h.mem, h.apN, fun k hk t => ?_, fun k hk => Nat.lt_of_lt_of_le (h.ltG k hk) hw.chg.size⟩
  · rcases hw.foot k t with e | e
    · exact h.sep k hk e
    · have := h.net.lt k hk; omega
  · rcases hw.foot k t with e | e
    · exact h.apR k hk e
    · have := h.ltG k hk; omega
theorem NS.keep (h : NS w0 q r F A c D d L L' ks ks' G M wr) {G' : Nat → Prop} {M' : World → Prop} (kp : Kp G' M') (hm : M' wr) (hG : ∀ k, G' k → G k ∨ (k < wr.heap.size ∧ ¬ F k ∧ ¬ RFoot r A D k)) : NS w0 q r F A c D d L L' ks ks' G' M' wr :=
  ⟨h.net, h.ref, h.sep, h.below, kp, hm, fun k hk => (hG k hk).elim (h.apN k) (fun e => e.2.1), fun k hk => (hG k hk).elim (h.apR k) (fun e => e.2.2), fun k hk => (hG k hk).elim (h.ltG k) (fun e => e.1)⟩

theorem kp_and {G G' : Nat → Prop} {M M' : World → Prop} (h : Kp G M) (h' : Kp G' M') : Kp (fun k => G k ∨ G' k) (fun w => M w ∧ M' w) :=
  fun S w w' hc hn hm => ⟨h S w w' hc (fun k hk => hn k (.inl hk)) hm.1, h' S w w' hc (fun k hk => hn k (.inr hk)) hm.2⟩
theorem kp_blk (g : Nat) (t : TypeId) (cs : Array Value) : Kp (fun k => k = g) (fun w => Blk w g t cs) := fun _ _ _ hc hn hm => hm.chg hc (hn g rfl)
theorem kp_own (B size n c : Nat) (t : TypeId) (A : Option Addr) (xs : List Value) : Kp (fun k => blkOf A = some k) (fun w => w.ownsRow B t size (.slice A n c) n xs) :=
  fun _ _ _ hc hn hm => own_chg hm hc (fun k hk => hn k (by rw [ownBlock_slice] at hk; exact hk))
/-- A block that is new is kept too. -/
theorem NS.addBlk (h : NS w0 q r F A c D d L L' ks ks' G M wr) (t : TypeId) (cs : Array Value) : NS w0 q r F A c D d L L' ks ks' (fun k => G k ∨ k = wr.heap.size) (fun w => M w ∧ Blk w wr.heap.size t cs) (wr.alloc (.cells cs t)) := by
  have hq := h.quiet ((Chg.refl No wr).alloc (.cells cs t))
  refine hq.keep (kp_and h.kp (kp_blk _ _ _)) ⟨hq.mem, Blk.new _ _ _⟩ ?_
  rintro k (hk | rfl)
  · exact .inl hk
  · exact .inr ⟨by simp, fun e => by have := h.net.lt _ e; omega, fun e => by have := h.ref.lt _ e; omega⟩
/-- A row that is new is kept too. -/
theorem NS.addRow (h : NS w0 q r F A c D d L L' ks ks' G M wr) (hc : Chg No wr w1) {t : TypeId} {size n c1 : Nat} {Y : Option Addr} {xs : List Value} (ho : w1.ownsRow wr.heap.size t size (.slice Y n c1) n xs) : NS w0 q r F A c D d L L' ks ks' (fun k => G k ∨ blkOf Y = some k) (fun w => M w ∧ w.ownsRow w0.heap.size t size (.slice Y n c1) n xs) w1 := by
  have hq := h.quiet hc
  refine hq.keep (kp_and h.kp (kp_own _ _ _ _ _ _ _)) ⟨hq.mem, rf_own_lower ho h.base⟩ ?_
  rintro k (hk | hk)
  · exact .inl hk
  · exact .inr ⟨(own_lt ho hk).2, fun e => by have := h.net.lt _ e; have := (own_lt ho hk).1; omega, fun e => by have := h.ref.lt _ e; have := (own_lt ho hk).1; omega⟩
/-- What was kept is let go. -/
theorem NS.drop (h : NS w0 q r F A c D d L L' ks ks' G M wr) {G' : Nat → Prop} {M' : World → Prop} (kp : Kp G' M') (hm : M wr → M' wr) (hG : ∀ k, G' k → G k) : NS w0 q r F A c D d L L' ks ks' G' M' wr :=
  h.keep kp (hm h.mem) (fun k hk => .inl (hG k hk))

/-! ### The calls -/
theorem NS.send (h : NS w0 q r F A c D d L L' ks ks' G M wr) (m cy : Nat) (ys : List Pk) (Y : Option Addr) (hm : ys.length = m) (hY : Sees wr wr.heap.size 3 Y m (flat ys)) (hYF : ∀ j, blkOf Y = some j → ¬ F j) (hwf : ∀ y ∈ ys, wfPk y) (hl : m ≤ 100000) :
    Calls Try.prog 11 #[.pointer (some ⟨q, 0, none⟩), .slice Y m cy] wr fun e w' => e = .returned (.int .i64 (((sendAll ks L ys).length : Int) - L.length)) ∧ ∃ F', NS w0 q r F' A c D d (sendAll ks L ys) L' ks ks' G M w' := by
  subst hm
  refine (net_send wr _ q F L ks h.net h.base Y cy ys hY hYF hwf hl).mono ?_
  rintro e w' ⟨he, F', hn, hw⟩
  exact ⟨he, F', h.netTurn hn hw⟩
theorem NS.rsend (h : NS w0 q r F A c D d L L' ks ks' G M wr) (m cy : Nat) (ys : List Pk) (Y : Option Addr) (hm : ys.length = m) (hY : Sees wr wr.heap.size 3 Y m (flat ys)) (hYF : ∀ j, blkOf Y = some j → ¬ RFoot r A D j) (hl : m ≤ 100000) (h9 : L'.length ≤ 900) (hk : ks'.length ≤ 100000) :
    Calls Try.prog 12 #[.pointer (some ⟨r, 0, none⟩), .slice Y m cy] wr fun e w' => e = .returned (.int .i64 (((sendAll ks' L' ys).length : Int) - L'.length)) ∧ ∃ A' c', NS w0 q r F A' c' D d L (sendAll ks' L' ys) ks ks' G M w' := by
  subst hm
  refine (ref_send wr _ r c d A D L' ks' h.ref h.base h9 hk Y cy ys hY hYF hl).mono ?_
  rintro e w' ⟨he, A', c', hn, hw⟩
  exact ⟨he, A', c', h.refTurn hn hw⟩
theorem NS.take (h : NS w0 q r F A c D d L L' ks ks' G M wr) (k : Int) :
    Calls Try.prog 15 #[.pointer (some ⟨q, 0, none⟩), .int .i64 k] wr fun e w' => e = .returned (.tuple #[(at? L k).val, .bool (There k L.length)]) ∧ ∃ F', NS w0 q r F' A c D d (lessAt L k) L' ks ks' G M w' :=
  (net_take wr _ q F L ks h.net h.base k).mono fun _ _ ⟨he, F', hn, hw⟩ => ⟨he, F', h.netTurn hn hw⟩
theorem NS.rtake (h : NS w0 q r F A c D d L L' ks ks' G M wr) (h9 : L'.length ≤ 900) (k : Int) :
    Calls Try.prog 16 #[.pointer (some ⟨r, 0, none⟩), .int .i64 k] wr fun e w' => e = .returned (.tuple #[(at? L' k).val, .bool (There k L'.length)]) ∧ ∃ A' c', NS w0 q r F A' c' D d L (lessAt L' k) ks ks' G M w' :=
  (ref_take wr _ r c d A D L' ks' h.ref h.base h9 k).mono fun _ _ ⟨he, A', c', hn, hw⟩ => ⟨he, A', c', h.refTurn hn hw⟩
theorem NS.dropAt (h : NS w0 q r F A c D d L L' ks ks' G M wr) (k : Int) :
    Calls Try.prog 18 #[.pointer (some ⟨q, 0, none⟩), .int .i64 k] wr fun e w' => e = .returned (.bool (There k L.length)) ∧ ∃ F', NS w0 q r F' A c D d (lessAt L k) L' ks ks' G M w' :=
  (net_drop wr _ q F L ks h.net h.base k).mono fun _ _ ⟨he, F', hn, hw⟩ => ⟨he, F', h.netTurn hn hw⟩
theorem NS.double (h : NS w0 q r F A c D d L L' ks ks' G M wr) (k : Int) :
    Calls Try.prog 19 #[.pointer (some ⟨q, 0, none⟩), .int .i64 k] wr fun e w' => e = .returned (.bool (There k L.length && decide (L.length < 900))) ∧ ∃ F', NS w0 q r F' A c D d (dblAt L k) L' ks ks' G M w' :=
  (net_double wr _ q F L ks h.net h.base k).mono fun _ _ ⟨he, F', hn, hw⟩ => ⟨he, F', h.netTurn hn hw⟩
theorem NS.rdouble (h : NS w0 q r F A c D d L L' ks ks' G M wr) (h9 : L'.length ≤ 900) (k : Int) :
    Calls Try.prog 20 #[.pointer (some ⟨r, 0, none⟩), .int .i64 k] wr fun e w' => e = .returned (.bool (There k L'.length && decide (L'.length < 900))) ∧ ∃ A' c', NS w0 q r F A' c' D d L (dblAt L' k) ks ks' G M w' :=
  (ref_double wr _ r c d A D L' ks' h.ref h.base h9 k).mono fun _ _ ⟨he, A', c', hn, hw⟩ => ⟨he, A', c', h.refTurn hn hw⟩
theorem NS.swap (h : NS w0 q r F A c D d L L' ks ks' G M wr) (k j : Int) :
    Calls Try.prog 21 #[.pointer (some ⟨q, 0, none⟩), .int .i64 k, .int .i64 j] wr fun e w' => e = .returned (.bool (There k L.length && There j L.length)) ∧ ∃ F', NS w0 q r F' A c D d (swapAt L k j) L' ks ks' G M w' :=
  (net_swap wr _ q F L ks h.net h.base k j).mono fun _ _ ⟨he, F', hn, hw⟩ => ⟨he, F', h.netTurn hn hw⟩
theorem NS.rswap (h : NS w0 q r F A c D d L L' ks ks' G M wr) (h9 : L'.length ≤ 900) (k j : Int) :
    Calls Try.prog 22 #[.pointer (some ⟨r, 0, none⟩), .int .i64 k, .int .i64 j] wr fun e w' => e = .returned (.bool (There k L'.length && There j L'.length)) ∧ ∃ A' c', NS w0 q r F A' c' D d L (swapAt L' k j) ks ks' G M w' :=
  (ref_swap wr _ r c d A D L' ks' h.ref h.base h9 k j).mono fun _ _ ⟨he, A', c', hn, hw⟩ => ⟨he, A', c', h.refTurn hn hw⟩
theorem NS.cut (h : NS w0 q r F A c D d L L' ks ks' G M wr) (a b : Int) (on : Bool) (ha : (Lit.int .i64 a).wf = true) (hb : (Lit.int .i64 b).wf = true) :
    Calls Try.prog 23 #[.pointer (some ⟨q, 0, none⟩), .int .i64 a, .int .i64 b, .bool on] wr fun e w' => e = .returned (.tuple #[]) ∧ ∃ F', NS w0 q r F' A c D d L L' (cutsAt ks a b on) ks' G M w' :=
  (net_cut wr _ q F L ks h.net h.base a b on ha hb).mono fun _ _ ⟨he, F', hn, hw⟩ => ⟨he, F', h.netTurn hn hw⟩
theorem NS.rcut (h : NS w0 q r F A c D d L L' ks ks' G M wr) (hk : ks'.length ≤ 100000) (a b : Int) (on : Bool) :
    Calls Try.prog 24 #[.pointer (some ⟨r, 0, none⟩), .int .i64 a, .int .i64 b, .bool on] wr fun e w' => e = .returned (.tuple #[]) ∧ ∃ D' d', NS w0 q r F A c D' d' L L' ks (cutsAt ks' a b on) G M w' :=
  (ref_cut wr _ r c d A D L' ks' h.ref h.base hk a b on).mono fun _ _ ⟨he, D', d', hn, hw⟩ => ⟨he, D', d', h.refTurn hn hw⟩
theorem NS.clear (h : NS w0 q r F A c D d L L' ks ks' G M wr) :
    Calls Try.prog 25 #[.pointer (some ⟨q, 0, none⟩)] wr fun e w' => e = .returned (.int .i64 (L.length : Int)) ∧ ∃ F', NS w0 q r F' A c D d [] L' ks ks' G M w' :=
  (net_clear wr _ q F L ks h.net h.base).mono fun _ _ ⟨he, F', hn, hw⟩ => ⟨he, F', h.netTurn hn hw⟩
theorem NS.len (h : NS w0 q r F A c D d L L' ks ks' G M wr) :
    Calls Try.prog 27 #[.pointer (some ⟨q, 0, none⟩)] wr fun e w' => e = .returned (.int .i64 (L.length : Int)) ∧ ∃ F', NS w0 q r F' A c D d L L' ks ks' G M w' :=
  (net_len wr _ q F L ks h.net h.base).mono fun _ _ ⟨he, F', hn, hw⟩ => ⟨he, F', h.netTurn hn hw⟩
theorem NS.peek (h : NS w0 q r F A c D d L L' ks ks' G M wr) (k : Int) :
    Calls Try.prog 26 #[.pointer (some ⟨q, 0, none⟩), .int .i64 k] wr fun e w' => e = .returned (.tuple #[(at? L k).val, .bool (There k L.length)]) ∧ ∃ F', NS w0 q r F' A c D d L L' ks ks' G M w' :=
  (net_peek wr _ q F L ks h.net h.base k).mono fun _ _ ⟨he, F', hn, hw⟩ => ⟨he, F', h.netTurn hn hw⟩
theorem NS.rthere (h : NS w0 q r F A c D d L L' ks ks' G M wr) (k : Int) :
    Calls Try.prog 28 #[.pointer (some ⟨r, 0, none⟩), .int .i64 k] wr fun e w' => e = .returned (.bool (There k L'.length)) ∧ NS w0 q r F A c D d L L' ks ks' G M w' :=
  (ref_there wr _ r c d A D L' ks' h.ref k).mono fun _ _ ⟨he, hw⟩ => ⟨he, by rw [← hw]; exact h⟩
theorem NS.same (h : NS w0 q r F A c D d L L' ks ks' G M wr) (p : Pk) :
    Calls Try.prog 17 #[p.val, p.val] wr fun e w' => e = .returned (.bool true) ∧ NS w0 q r F A c D d L L' ks ks' G M w' :=
  (same_pk p wr).mono fun _ _ ⟨he, hc⟩ => ⟨he, h.quiet hc⟩
end

/-- One call, as it stands in memory. -/
def opCells (kind n v : Int) (S : Option Addr) (sl sc : Nat) : Array Value := #[.int .i64 kind, .int .i64 n, .int .i64 v, .slice S sl sc]

def OpAt (w : World) (b off i : Nat) : Prop :=
  ∃ kind n v S sl sc zs, w.cell? ⟨b, off + i * 4, none⟩ = some (.int .i64 kind) ∧ w.cell? ⟨b, off + i * 4 + 1, none⟩ = some (.int .i64 n) ∧ w.cell? ⟨b, off + i * 4 + 2, none⟩ = some (.int .i64 v) ∧
    w.cell? ⟨b, off + i * 4 + 3, none⟩ = some (.slice S sl sc) ∧ (Lit.int .i64 n).wf = true ∧ (Lit.int .i64 v).wf = true ∧ Sees w w.heap.size 3 S sl (flat zs) ∧ ∀ y ∈ zs, (Lit.int .i64 y.fr).wf = true ∧ (Lit.int .i64 y.to).wf = true
end Go.Proofs.Ytipdeacaehbbfaa.netPlays
