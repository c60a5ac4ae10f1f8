/-
  The calls of package ring's box, one contract a method: what it returns, what the box holds behind it, and that all else in memory is as it was.
-/
import Derived.Test.YtinklonbkhmpdaaBase
import Derived.Test.YtinklonbkhmpdaaRoom
import Derived.Test.YtinklonbkhmpdaaLocks
import Derived.Test.YtinklonbkhmpdaaComm
import Derived.Conc.SmallLaws
import Derived.Conc.EventLaws
import Derived.Conc.LoneSelectN
import Derived.Outline
namespace Go.Proofs.Ytinklonbkhmpdaa
open Go.RowKit Go.Conc Go.MuLone

theorem run_equalIn_chan_nil {P : Program} (w : World) (n : Nat) (t : TypeId) {d : ChanDir} {e : TypeId} (r : Option Nat) (h : P.underlying t = some (.chan d e)) :
    (Op.equalIn (n + 1) t (.chan r) (.chan none)).run P w = .ok r.isNone w := by
  cases r <;> simp [Op.equalIn, run_underlying h]
theorem run_eql_chan_nil {P : Program} (w : World) (t : TypeId) {d : ChanDir} {e : TypeId} (r : Option Nat) (h : P.underlying t = some (.chan d e)) :
    (binOp .eql t (.chan r) (.chan none)).run P w = .ok (.bool r.isNone) w := by
  simp only [binOp]
  simp [Op.equal, Op.maxDepth, run_equalIn_chan_nil w 9999 t r h]
theorem run_len_nochan {P : Program} (w : World) (t ty : TypeId) {d : ChanDir} {e : TypeId} (h : P.underlying t = some (.chan d e)) :
    (Builtin.len_ #[t] ty #[.chan none]).run P w = .ok (goInt 0) w := by
  simp [Builtin.len_, run_underlying h]

/-- A box's struct: the lock's two words, its channel, has it been closed. -/
def boxCells (st : Int) (c : Option Nat) (cl : Bool) : Array Value := #[.int .i32 st, .int .u32 0, .chan c, .bool cl]
abbrev inbox (l : List Int) : Array Value := (l.map fun x => Value.int .i64 x).toArray

/-- The box in block g, its channel in block c: what is in it, has it been closed. -/
structure BoxAt (w : World) (B g c cap : Nat) (xs : List Int) (cl : Bool) : Prop where
  blk : Blk w g 59 (boxCells 0 (some c) cl)
  ch : ∃ s r, w.heap[c]? = some (.chan cap (inbox xs) cl s r false)
  gb : B ≤ g
  cb : B ≤ c
  fits : xs.length ≤ cap
def BFoot (g c : Nat) : Nat → Prop := fun k => k = g ∨ k = c

section
variable {S : Nat → Prop} {w w' w1 : World} {B g c cap : Nat} {xs : List Int} {cl : Bool}
theorem BoxAt.ne (h : BoxAt w B g c cap xs cl) : g ≠ c := by
  rintro rfl
  obtain ⟨s, r, hc⟩ := h.ch
  have := hc.symm.trans h.blk
  cases this
theorem BoxAt.clt (h : BoxAt w B g c cap xs cl) : c < w.heap.size := by
  obtain ⟨s, r, hc⟩ := h.ch
  exact (Array.getElem?_eq_some_iff.1 hc).1
theorem BoxAt.chg (h : BoxAt w B g c cap xs cl) (hc : Chg S w w') (hn : ∀ k, BFoot g c k → ¬ S k) : BoxAt w' B g c cap xs cl := by
  obtain ⟨s, r, hch⟩ := h.ch
  exact ⟨h.blk.chg hc (hn g (.inl rfl)), ⟨s, r, (hc.block c h.clt (hn c (.inr rfl))).trans hch⟩, h.gb, h.cb, h.fits⟩
theorem Chg.setChan {a : World} (h : Chg S a w) {c : Nat} (hp : c < a.heap.size → S c) (cap : Nat) (buf : Array Value) (cl : Bool) (s r : Nat) (tm : Bool) : Chg S a (w.setChan c cap buf cl s r tm) :=
  h.trans (T := fun k => k = c) ⟨rfl, rfl, rfl, by simp [World.setChan], fun k _ hn => by simp only [World.setChan]; rw [Array.getElem?_setIfInBounds_ne (Ne.symm hn)]⟩ (fun i hi e => by subst e; exact hp hi)
theorem Blk.setChan {t : TypeId} {cs : Array Value} (h : Blk w g t cs) {c : Nat} (hc : g ≠ c) (cap : Nat) (buf : Array Value) (cl : Bool) (s r : Nat) (tm : Bool) : Blk (w.setChan c cap buf cl s r tm) g t cs := by
  unfold Blk at h ⊢
  simp only [World.setChan]
  rw [Array.getElem?_setIfInBounds_ne (Ne.symm hc)]
  exact h
theorem chan_far {o : Obj} (h : w.heap[c]? = some o) {p : Addr} (hp : c ≠ p.block) (u : Value) : (w.setCell p u).heap[c]? = some o := (Below.heap_setCell w p u c hp).trans h
end

/-- The lock is taken. -/
theorem BoxAt.locked {w : World} {B g c cap : Nat} {xs : List Int} {cl : Bool} (h : BoxAt w B g c cap xs cl) :
    Blk (w.setCell ⟨g, 0, none⟩ (.int .i32 1)) g 59 (boxCells 1 (some c) cl) := h.blk.store 0 _

/-- The deferred Unlock, and the result that has been read. -/
theorem box_door {fn : Func} {tmps : Array Value} {R : Ending → World → Prop} {w2 : World} {g : Nat} {C : Option Nat} {cl : Bool} {v : Value} (hb : Blk w2 g 59 (boxCells 1 C cl))
    (hres : ∀ w, (results fn tmps).run Try.prog w = .ok v w) (hR : R (.returned v) (w2.setCell ⟨g, 0, none⟩ (.int .i32 0))) :
    Leaves Try.prog fn tmps R [{ target := Target.fn (Fn.func 40) #[], args := #[Value.pointer (some ⟨g, 0, none⟩)] }] .returning w2 := by
  refine leaves_cons (f := 40) (args := #[.pointer (some ⟨g, 0, none⟩)]) (by simp) (by simp [go_sem]) ?_
  refine (unlock_deferred Try.muLib ⟨g, 0, none⟩ .returning _ (hb.cell 0) (hb.frozen 0)).mono ?_
  rintro e u' w'' ⟨rfl, rfl, rfl⟩
  exact ⟨v, hres _, hR⟩

/-- Behind the Unlock. -/
theorem BoxAt.back {w wx : World} {B g c cap s r : Nat} {xs xs' : List Int} {cl cl' : Bool} (h : BoxAt w B g c cap xs cl) (hb : Blk wx g 59 (boxCells 1 (some c) cl'))
    (hc : wx.heap[c]? = some (.chan cap (inbox xs') cl' s r false)) (hg : Chg (BFoot g c) w wx) (hf : xs'.length ≤ cap) :
    BoxAt (wx.setCell ⟨g, 0, none⟩ (.int .i32 0)) B g c cap xs' cl' ∧ Chg (BFoot g c) w (wx.setCell ⟨g, 0, none⟩ (.int .i32 0)) :=
  ⟨⟨hb.store 0 (.int .i32 0), ⟨_, _, chan_far hc (p := ⟨g, 0, none⟩) (fun e => h.ne e.symm) _⟩, h.gb, h.cb, hf⟩, hg.setCell (p := ⟨g, 0, none⟩) (fun _ => .inl rfl) _⟩

theorem box_send_room (w : World) (B g c cap : Nat) (xs : List Int) (v : Int) (h : BoxAt w B g c cap xs false) (hr : xs.length < cap) :
    Calls Try.prog 33 #[.pointer (some ⟨g, 0, none⟩), .int .i64 v] w fun e w' => e = .returned (.bool true) ∧ BoxAt w' B g c cap (xs ++ [v]) false ∧ Chg (BFoot g c) w w' := by
  obtain ⟨s, r, hch⟩ := h.ch
  have hl := h.locked
  have hch1 := chan_far hch (p := ⟨g, 0, none⟩) (fun e => h.ne e.symm) (.int .i32 1)
  have hg1 : Chg (BFoot g c) w (w.setCell ⟨g, 0, none⟩ (.int .i32 1)) := (Chg.refl (BFoot g c) w).setCell (p := ⟨g, 0, none⟩) (fun _ => .inl rfl) _
  have h0 : w.cell? ⟨g, 0, none⟩ = some (.int .i32 0) := h.blk.cell 0
  have f0 : w.frozen? ⟨g, 0, none⟩ = false := h.blk.frozen 0
  refine calls_of_runs_defers Try.func33 rfl ?_
  simp only [Try.ntmps33, List.size_toArray, List.length_cons, List.length_nil, Nat.reduceAdd, Nat.reduceSub, Array.replicate_succ,
     Array.replicate_zero, List.push_toArray, List.append_toArray, List.nil_append, List.cons_append]
  have Hl := hide hl
  have Hch1 := hide hch1
  clear hl hch hch1
  refine runs_seq (fun K hK => runs_wp ?_)
  go_wp2_with fail
  refine runs_seq (fun K hK => runs_wp ?_)
  go_wp2_with fail
  refine runs_seq (fun K hK => runs_wp ?_)
  go_wp2_with (go_at_call 39; refine (lock_free Try.muLib ⟨g, 0, none⟩ _ h0 f0).mono ?_; rintro e w' ⟨rfl, rfl⟩)
  refine runs_seq (fun K hK => runs_wp ?_)
  go_wp2_with fail
  obtain ⟨w1, hw1⟩ : ∃ w1, w1 = w.setCell ⟨g, 0, none⟩ (.int .i32 1) := ⟨_, rfl⟩
  rw [← hw1] at Hl Hch1 hg1 ⊢
  clear hw1
  have k2 : w1.cell? ⟨g, 2, none⟩ = some (.chan (some c)) := Hl.out.cell 2
  have k3 : w1.cell? ⟨g, 3, none⟩ = some (.bool false) := Hl.out.cell 3
  refine runs_seq (fun K hK => runs_wp ?_)
  go_wp2_with fail
  refine runs_seq (fun K hK => runs_wp ?_)
  go_wp2_with fail
  refine runs_seq (fun K hK => runs_comm (cases := #[scase c (.int .i64 v) (.int .i64 0)]) (blocking := false) (shape := .select) (w₁ := w1) rfl (by simp [go_sem, execOp, scase, Act.eval])
    (fun fr cs es hst => step_lone_select_send_room hst Hch1.out (by simpa using hr)) ?_)
  go_wp2_with fail
  refine runs_wp ?_
  go_wp2_with fail
  have hb2 := Hl.out.setChan h.ne cap (inbox (xs ++ [v])) false (s + 1) r false
  have hc2 : (w1.setChan c cap (inbox (xs ++ [v])) false (s + 1) r false).heap[c]? = some (.chan cap (inbox (xs ++ [v])) false (s + 1) r false) := heap_setChan _ _ _ _ _ _ _ _ (Array.getElem?_eq_some_iff.1 Hch1.out).1
  have hg2 := hg1.setChan (c := c) (fun _ => .inr rfl) cap (inbox (xs ++ [v])) false (s + 1) r false
  have e : (List.map (fun x => Value.int IntKind.i64 x) xs ++ [Value.int IntKind.i64 v]).toArray = inbox (xs ++ [v]) := by simp
  rw [e]
  exact box_door hb2 (results_tmp rfl _ _) ⟨rfl, h.back hb2 hc2 hg2 (by simp; omega)⟩

theorem box_send_full (w : World) (B g c cap : Nat) (xs : List Int) (v : Int) (h : BoxAt w B g c cap xs false) (hr : cap ≤ xs.length) :
    Calls Try.prog 33 #[.pointer (some ⟨g, 0, none⟩), .int .i64 v] w fun e w' => e = .returned (.bool false) ∧ BoxAt w' B g c cap xs false ∧ Chg (BFoot g c) w w' := by
  obtain ⟨s, r, hch⟩ := h.ch
  have hl := h.locked
  have hch1 := chan_far hch (p := ⟨g, 0, none⟩) (fun e => h.ne e.symm) (.int .i32 1)
  have hg1 : Chg (BFoot g c) w (w.setCell ⟨g, 0, none⟩ (.int .i32 1)) := (Chg.refl (BFoot g c) w).setCell (p := ⟨g, 0, none⟩) (fun _ => .inl rfl) _
  have h0 : w.cell? ⟨g, 0, none⟩ = some (.int .i32 0) := h.blk.cell 0
  have f0 : w.frozen? ⟨g, 0, none⟩ = false := h.blk.frozen 0
  refine calls_of_runs_defers Try.func33 rfl ?_
  simp only [Try.ntmps33, List.size_toArray, List.length_cons, List.length_nil, Nat.reduceAdd, Nat.reduceSub, Array.replicate_succ,
     Array.replicate_zero, List.push_toArray, List.append_toArray, List.nil_append, List.cons_append]
  have Hl := hide hl
  have Hch1 := hide hch1
  clear hl hch hch1
  refine runs_seq (fun K hK => runs_wp ?_)
  go_wp2_with fail
  refine runs_seq (fun K hK => runs_wp ?_)
  go_wp2_with fail
  refine runs_seq (fun K hK => runs_wp ?_)
  go_wp2_with (go_at_call 39; refine (lock_free Try.muLib ⟨g, 0, none⟩ _ h0 f0).mono ?_; rintro e w' ⟨rfl, rfl⟩)
  refine runs_seq (fun K hK => runs_wp ?_)
  go_wp2_with fail
  obtain ⟨w1, hw1⟩ : ∃ w1, w1 = w.setCell ⟨g, 0, none⟩ (.int .i32 1) := ⟨_, rfl⟩
  rw [← hw1] at Hl Hch1 hg1 ⊢
  clear hw1
  have k2 : w1.cell? ⟨g, 2, none⟩ = some (.chan (some c)) := Hl.out.cell 2
  have k3 : w1.cell? ⟨g, 3, none⟩ = some (.bool false) := Hl.out.cell 3
  refine runs_seq (fun K hK => runs_wp ?_)
  go_wp2_with fail
  refine runs_seq (fun K hK => runs_wp ?_)
  go_wp2_with fail
  refine runs_seq (fun K hK => runs_comm (cases := #[scase c (.int .i64 v) (.int .i64 0)]) (blocking := false) (shape := .select) (w₁ := w1) rfl (by simp [go_sem, execOp, scase, Act.eval])
    (fun fr cs es hst => step_lone_select_send_full hst Hch1.out (by simpa using hr)) ?_)
  go_wp2_with fail
  refine runs_wp ?_
  go_wp2_with fail
  exact box_door Hl.out (results_tmp rfl _ _) ⟨rfl, h.back Hl.out Hch1.out hg1 h.fits⟩

theorem box_send_shut (w : World) (B g c cap : Nat) (xs : List Int) (v : Int) (h : BoxAt w B g c cap xs true) :
    Calls Try.prog 33 #[.pointer (some ⟨g, 0, none⟩), .int .i64 v] w fun e w' => e = .returned (.bool false) ∧ BoxAt w' B g c cap xs true ∧ Chg (BFoot g c) w w' := by
  obtain ⟨s, r, hch⟩ := h.ch
  have hl := h.locked
  have hch1 := chan_far hch (p := ⟨g, 0, none⟩) (fun e => h.ne e.symm) (.int .i32 1)
  have hg1 : Chg (BFoot g c) w (w.setCell ⟨g, 0, none⟩ (.int .i32 1)) := (Chg.refl (BFoot g c) w).setCell (p := ⟨g, 0, none⟩) (fun _ => .inl rfl) _
  have h0 : w.cell? ⟨g, 0, none⟩ = some (.int .i32 0) := h.blk.cell 0
  have f0 : w.frozen? ⟨g, 0, none⟩ = false := h.blk.frozen 0
  have Hl := hide hl
  have Hch1 := hide hch1
  clear hl hch hch1
  have k3 : (w.setCell ⟨g, 0, none⟩ (.int .i32 1)).cell? ⟨g, 3, none⟩ = some (.bool true) := Hl.out.cell 3
  go_enter_defers Try.func33, Try.ntmps33
  go_wp2_with (go_at_call 39; refine (lock_free Try.muLib ⟨g, 0, none⟩ _ h0 f0).mono ?_; rintro e w' ⟨rfl, rfl⟩)
  exact box_door Hl.out (results_tmp rfl _ _) ⟨rfl, h.back Hl.out Hch1.out hg1 h.fits⟩

/-- A box that is the zero value: it has no channel. -/
structure BoxZ (w : World) (B g : Nat) : Prop where
  blk : Blk w g 59 (boxCells 0 none false)
  gb : B ≤ g
theorem BoxZ.chg {S : Nat → Prop} {w w' : World} {B g : Nat} (h : BoxZ w B g) (hc : Chg S w w') (hn : ¬ S g) : BoxZ w' B g := ⟨h.blk.chg hc hn, h.gb⟩

theorem boxz_send (w : World) (B g : Nat) (v : Int) (h : BoxZ w B g) :
    Calls Try.prog 33 #[.pointer (some ⟨g, 0, none⟩), .int .i64 v] w fun e w' => e = .returned (.bool false) ∧ BoxZ w' B g ∧ Chg (fun k => k = g) w w' := by
  have hl : Blk (w.setCell ⟨g, 0, none⟩ (.int .i32 1)) g 59 (boxCells 1 none false) := h.blk.store 0 _
  have h0 : w.cell? ⟨g, 0, none⟩ = some (.int .i32 0) := h.blk.cell 0
  have f0 : w.frozen? ⟨g, 0, none⟩ = false := h.blk.frozen 0
  have hg1 : Chg (fun k => k = g) w (w.setCell ⟨g, 0, none⟩ (.int .i32 1)) := (Chg.refl (fun k => k = g) w).setCell (p := ⟨g, 0, none⟩) (fun _ => rfl) _
  refine calls_of_runs_defers Try.func33 rfl ?_
  simp only [Try.ntmps33, List.size_toArray, List.length_cons, List.length_nil, Nat.reduceAdd, Nat.reduceSub, Array.replicate_succ,
     Array.replicate_zero, List.push_toArray, List.append_toArray, List.nil_append, List.cons_append]
  have Hl := hide hl
  clear hl
  refine runs_seq (fun K hK => runs_wp ?_)
  go_wp2_with fail
  refine runs_seq (fun K hK => runs_wp ?_)
  go_wp2_with fail
  refine runs_seq (fun K hK => runs_wp ?_)
  go_wp2_with (go_at_call 39; refine (lock_free Try.muLib ⟨g, 0, none⟩ _ h0 f0).mono ?_; rintro e w' ⟨rfl, rfl⟩)
  refine runs_seq (fun K hK => runs_wp ?_)
  go_wp2_with fail
  obtain ⟨w1, hw1⟩ : ∃ w1, w1 = w.setCell ⟨g, 0, none⟩ (.int .i32 1) := ⟨_, rfl⟩
  rw [← hw1] at Hl hg1 ⊢
  clear hw1
  have k2 : w1.cell? ⟨g, 2, none⟩ = some (.chan none) := Hl.out.cell 2
  have k3 : w1.cell? ⟨g, 3, none⟩ = some (.bool false) := Hl.out.cell 3
  refine runs_seq (fun K hK => runs_wp ?_)
  go_wp2_with fail
  refine runs_seq (fun K hK => runs_wp ?_)
  go_wp2_with fail
  refine runs_seq (fun K hK => runs_comm (cases := #[scaseNil (.int .i64 v) (.int .i64 0)]) (blocking := false) (shape := .select) (w₁ := w1) rfl (by simp [go_sem, execOp, scaseNil, Act.eval])
    (fun fr cs es hst => step_lone_select_send_nil hst) ?_)
  go_wp2_with fail
  refine runs_wp ?_
  go_wp2_with fail
  exact box_door Hl.out (results_tmp rfl _ _) ⟨rfl, ⟨Hl.out.store 0 (.int .i32 0), h.gb⟩, hg1.setCell (p := ⟨g, 0, none⟩) (fun _ => rfl) _⟩

theorem box_take_some (w : World) (B g c cap : Nat) (x : Int) (xs : List Int) (cl : Bool) (h : BoxAt w B g c cap (x :: xs) cl) :
    Calls Try.prog 32 #[.pointer (some ⟨g, 0, none⟩)] w fun e w' => e = .returned (.tuple #[.int .i64 x, .bool true]) ∧ BoxAt w' B g c cap xs cl ∧ Chg (BFoot g c) w w' := by
  obtain ⟨s, r, hch⟩ := h.ch
  have k2 : w.cell? ⟨g, 2, none⟩ = some (.chan (some c)) := h.blk.cell 2
  refine calls_of_runs Try.func32 rfl ?_
  simp only [Try.ntmps32, List.size_toArray, List.length_cons, List.length_nil, Nat.reduceAdd, Nat.reduceSub, Array.replicate_succ,
     Array.replicate_zero, List.push_toArray, List.append_toArray, List.nil_append, List.cons_append]
  have Hch := hide hch
  clear hch
  refine runs_seq (fun K hK => runs_wp ?_)
  go_wp2_with fail
  refine runs_seq (fun K hK => runs_wp ?_)
  go_wp2_with fail
  refine runs_seq (fun K hK => runs_wp ?_)
  go_wp2_with fail
  refine runs_seq (fun K hK => runs_wp ?_)
  go_wp2_with fail
  refine runs_seq (fun K hK => runs_comm (cases := #[rcase c (.int .i64 0)]) (blocking := false) (shape := .select) (w₁ := w) rfl (by simp [go_sem, execOp, rcase, Act.eval])
    (fun fr cs es hst => step_lone_select_recv_buf hst Hch.out (by simp)) ?_)
  go_wp2_with fail
  refine runs_wp ?_
  go_wp2_with fail
  have e : (List.take xs.length (List.map (fun x => Value.int IntKind.i64 x) xs)).toArray = inbox xs := by rw [List.take_of_length_le (by simp)]
  rw [e]
  go_ret2
  exact ⟨rfl, ⟨h.blk.setChan h.ne _ _ _ _ _ _, ⟨s, r + 1, heap_setChan _ _ _ _ _ _ _ _ h.clt⟩, h.gb, h.cb, by have := h.fits; simp at this; omega⟩, (Chg.refl (BFoot g c) w).setChan (fun _ => .inr rfl) _ _ _ _ _ _⟩

theorem box_take_none_open (w : World) (B g c cap : Nat) (h : BoxAt w B g c cap [] false) :
    Calls Try.prog 32 #[.pointer (some ⟨g, 0, none⟩)] w fun e w' => e = .returned (.tuple #[.int .i64 0, .bool false]) ∧ w = w' := by
  obtain ⟨s, r, hch⟩ := h.ch
  have k2 : w.cell? ⟨g, 2, none⟩ = some (.chan (some c)) := h.blk.cell 2
  refine calls_of_runs Try.func32 rfl ?_
  simp only [Try.ntmps32, List.size_toArray, List.length_cons, List.length_nil, Nat.reduceAdd, Nat.reduceSub, Array.replicate_succ,
     Array.replicate_zero, List.push_toArray, List.append_toArray, List.nil_append, List.cons_append]
  have Hch := hide hch
  clear hch
  refine runs_seq (fun K hK => runs_wp ?_)
  go_wp2_with fail
  refine runs_seq (fun K hK => runs_wp ?_)
  go_wp2_with fail
  refine runs_seq (fun K hK => runs_wp ?_)
  go_wp2_with fail
  refine runs_seq (fun K hK => runs_wp ?_)
  go_wp2_with fail
  refine runs_seq (fun K hK => runs_comm (cases := #[rcase c (.int .i64 0)]) (blocking := false) (shape := .select) (w₁ := w) rfl (by simp [go_sem, execOp, rcase, Act.eval])
    (fun fr cs es hst => step_lone_select_default hst Hch.out) ?_)
  go_wp2_with fail
  refine runs_wp ?_
  go_wp2_with fail
  go_ret2
  exact ⟨rfl, rfl⟩

theorem box_take_none_shut (w : World) (B g c cap : Nat) (h : BoxAt w B g c cap [] true) :
    Calls Try.prog 32 #[.pointer (some ⟨g, 0, none⟩)] w fun e w' => e = .returned (.tuple #[.int .i64 0, .bool false]) ∧ w = w' := by
  obtain ⟨s, r, hch⟩ := h.ch
  have k2 : w.cell? ⟨g, 2, none⟩ = some (.chan (some c)) := h.blk.cell 2
  refine calls_of_runs Try.func32 rfl ?_
  simp only [Try.ntmps32, List.size_toArray, List.length_cons, List.length_nil, Nat.reduceAdd, Nat.reduceSub, Array.replicate_succ,
     Array.replicate_zero, List.push_toArray, List.append_toArray, List.nil_append, List.cons_append]
  have Hch := hide hch
  clear hch
  refine runs_seq (fun K hK => runs_wp ?_)
  go_wp2_with fail
  refine runs_seq (fun K hK => runs_wp ?_)
  go_wp2_with fail
  refine runs_seq (fun K hK => runs_wp ?_)
  go_wp2_with fail
  refine runs_seq (fun K hK => runs_wp ?_)
  go_wp2_with fail
  refine runs_seq (fun K hK => runs_comm (cases := #[rcase c (.int .i64 0)]) (blocking := false) (shape := .select) (w₁ := w) rfl (by simp [go_sem, execOp, rcase, Act.eval])
    (fun fr cs es hst => step_lone_select_recv_shut hst Hch.out) ?_)
  go_wp2_with fail
  refine runs_wp ?_
  go_wp2_with fail
  go_ret2
  exact ⟨rfl, rfl⟩

theorem box_take_none (w : World) (B g c cap : Nat) (cl : Bool) (h : BoxAt w B g c cap [] cl) :
    Calls Try.prog 32 #[.pointer (some ⟨g, 0, none⟩)] w fun e w' => e = .returned (.tuple #[.int .i64 0, .bool false]) ∧ w = w' := by
  cases cl
  · exact box_take_none_open w B g c cap h
  · exact box_take_none_shut w B g c cap h

theorem boxz_take (w : World) (B g : Nat) (h : BoxZ w B g) :
    Calls Try.prog 32 #[.pointer (some ⟨g, 0, none⟩)] w fun e w' => e = .returned (.tuple #[.int .i64 0, .bool false]) ∧ w = w' := by
  have k2 : w.cell? ⟨g, 2, none⟩ = some (.chan none) := h.blk.cell 2
  refine calls_of_runs Try.func32 rfl ?_
  simp only [Try.ntmps32, List.size_toArray, List.length_cons, List.length_nil, Nat.reduceAdd, Nat.reduceSub, Array.replicate_succ,
     Array.replicate_zero, List.push_toArray, List.append_toArray, List.nil_append, List.cons_append]
  refine runs_seq (fun K hK => runs_wp ?_)
  go_wp2_with fail
  refine runs_seq (fun K hK => runs_wp ?_)
  go_wp2_with fail
  refine runs_seq (fun K hK => runs_wp ?_)
  go_wp2_with fail
  refine runs_seq (fun K hK => runs_wp ?_)
  go_wp2_with fail
  refine runs_seq (fun K hK => runs_comm (cases := #[rcaseNil (.int .i64 0)]) (blocking := false) (shape := .select) (w₁ := w) rfl (by simp [go_sem, execOp, rcaseNil, Act.eval])
    (fun fr cs es hst => step_lone_select_recv_nil hst) ?_)
  go_wp2_with fail
  refine runs_wp ?_
  go_wp2_with fail
  go_ret2
  exact ⟨rfl, rfl⟩

theorem box_len (w : World) (B g c cap : Nat) (xs : List Int) (cl : Bool) (h : BoxAt w B g c cap xs cl) :
    Calls Try.prog 34 #[.pointer (some ⟨g, 0, none⟩)] w fun e w' => e = .returned (.int .i64 (xs.length : Int)) ∧ w = w' := by
  obtain ⟨s, r, hch⟩ := h.ch
  have k2 : w.cell? ⟨g, 2, none⟩ = some (.chan (some c)) := h.blk.cell 2
  have hlen := fun ty => run_len_chan (P := Try.prog) 57 ty Try.underlying57 hch
  simp only [List.size_toArray, List.length_map] at hlen
  clear hch
  go_enter Try.func34, Try.ntmps34
  go_wp2
  go_ret
  exact ⟨rfl, rfl⟩

theorem boxz_len (w : World) (B g : Nat) (h : BoxZ w B g) :
    Calls Try.prog 34 #[.pointer (some ⟨g, 0, none⟩)] w fun e w' => e = .returned (.int .i64 0) ∧ w = w' := by
  have k2 : w.cell? ⟨g, 2, none⟩ = some (.chan none) := h.blk.cell 2
  have hlen := fun ty => run_len_nochan (P := Try.prog) w 57 ty Try.underlying57
  go_enter Try.func34, Try.ntmps34
  go_wp2
  go_ret
  exact ⟨rfl, rfl⟩

theorem boxz_close (w : World) (B g : Nat) (h : BoxZ w B g) :
    Calls Try.prog 31 #[.pointer (some ⟨g, 0, none⟩)] w fun e w' => e = .returned (.bool false) ∧ w = w' := by
  have k2 : w.cell? ⟨g, 2, none⟩ = some (.chan none) := h.blk.cell 2
  have qc : ∀ (w : World) (r : Option Nat), (binOp .eql 57 (.chan r) (.chan none)).run Try.prog w = .ok (.bool r.isNone) w := fun w r => run_eql_chan_nil w _ r Try.underlying57
  go_enter Try.func31, Try.ntmps31
  go_wp2
  go_ret
  exact ⟨rfl, rfl⟩

theorem box_close_shut (w : World) (B g c cap : Nat) (xs : List Int) (h : BoxAt w B g c cap xs true) :
    Calls Try.prog 31 #[.pointer (some ⟨g, 0, none⟩)] w fun e w' => e = .returned (.bool false) ∧ BoxAt w' B g c cap xs true ∧ Chg (BFoot g c) w w' := by
  obtain ⟨s, r, hch⟩ := h.ch
  have hl := h.locked
  have hch1 := chan_far hch (p := ⟨g, 0, none⟩) (fun e => h.ne e.symm) (.int .i32 1)
  have hg1 : Chg (BFoot g c) w (w.setCell ⟨g, 0, none⟩ (.int .i32 1)) := (Chg.refl (BFoot g c) w).setCell (p := ⟨g, 0, none⟩) (fun _ => .inl rfl) _
  have h0 : w.cell? ⟨g, 0, none⟩ = some (.int .i32 0) := h.blk.cell 0
  have f0 : w.frozen? ⟨g, 0, none⟩ = false := h.blk.frozen 0
  have Hl := hide hl
  have Hch1 := hide hch1
  clear hl hch hch1
  have k2 : w.cell? ⟨g, 2, none⟩ = some (.chan (some c)) := h.blk.cell 2
  have k3 : (w.setCell ⟨g, 0, none⟩ (.int .i32 1)).cell? ⟨g, 3, none⟩ = some (.bool true) := Hl.out.cell 3
  have qc : ∀ (w : World) (r : Option Nat), (binOp .eql 57 (.chan r) (.chan none)).run Try.prog w = .ok (.bool r.isNone) w := fun w r => run_eql_chan_nil w _ r Try.underlying57
  go_enter_defers Try.func31, Try.ntmps31
  go_wp2_with (go_at_call 39; refine (lock_free Try.muLib ⟨g, 0, none⟩ _ h0 f0).mono ?_; rintro e w' ⟨rfl, rfl⟩)
  exact box_door Hl.out (results_tmp rfl _ _) ⟨rfl, h.back Hl.out Hch1.out hg1 h.fits⟩

theorem box_close_open (w : World) (B g c cap : Nat) (xs : List Int) (h : BoxAt w B g c cap xs false) :
    Calls Try.prog 31 #[.pointer (some ⟨g, 0, none⟩)] w fun e w' => e = .returned (.bool true) ∧ BoxAt w' B g c cap xs true ∧ Chg (BFoot g c) w w' := by
  obtain ⟨s, r, hch⟩ := h.ch
  have hl := h.locked
  have hch1 := chan_far hch (p := ⟨g, 0, none⟩) (fun e => h.ne e.symm) (.int .i32 1)
  have hg1 : Chg (BFoot g c) w (w.setCell ⟨g, 0, none⟩ (.int .i32 1)) := (Chg.refl (BFoot g c) w).setCell (p := ⟨g, 0, none⟩) (fun _ => .inl rfl) _
  have h0 : w.cell? ⟨g, 0, none⟩ = some (.int .i32 0) := h.blk.cell 0
  have f0 : w.frozen? ⟨g, 0, none⟩ = false := h.blk.frozen 0
  have Hl := hide hl
  have Hch1 := hide hch1
  clear hl hch hch1
  have k2 : w.cell? ⟨g, 2, none⟩ = some (.chan (some c)) := h.blk.cell 2
  have qc : ∀ (w : World) (r : Option Nat), (binOp .eql 57 (.chan r) (.chan none)).run Try.prog w = .ok (.bool r.isNone) w := fun w r => run_eql_chan_nil w _ r Try.underlying57
  go_enter_defers Try.func31, Try.ntmps31
  go_wp2_with fail
  refine (lock_free Try.muLib ⟨g, 0, none⟩ _ h0 f0).mono ?_
  rintro e w' ⟨rfl, rfl⟩
  obtain ⟨w1, hw1⟩ : ∃ w1, w1 = w.setCell ⟨g, 0, none⟩ (.int .i32 1) := ⟨_, rfl⟩
  rw [← hw1] at Hl Hch1 hg1 ⊢
  clear hw1
  have k3 : w1.cell? ⟨g, 3, none⟩ = some (.bool false) := Hl.out.cell 3
  have f3 : w1.frozen? ⟨g, 3, none⟩ = false := Hl.out.frozen 3
  have hl2 : Blk (w1.setCell ⟨g, 3, none⟩ (.bool true)) g 59 (boxCells 1 (some c) true) := Hl.out.store 3 (.bool true)
  have k2' : (w1.setCell ⟨g, 3, none⟩ (.bool true)).cell? ⟨g, 2, none⟩ = some (.chan (some c)) := hl2.cell 2
  have Hl2 := hide hl2
  have hch2 := chan_far Hch1.out (p := ⟨g, 3, none⟩) (fun e => h.ne e.symm) (.bool true)
  have hcl := fun ats ty => run_close_open (P := Try.prog) ats ty hch2
  have Hch2 := hide hch2
  clear hl2 hch2
  go_wp2_with fail
  have hb3 := Hl2.out.setChan h.ne cap (inbox xs) true s r false
  have hc3 := heap_setChan (w1.setCell ⟨g, 3, none⟩ (.bool true)) c cap (inbox xs) true s r false (Array.getElem?_eq_some_iff.1 Hch2.out).1
  have hg3 := (hg1.setCell (p := ⟨g, 3, none⟩) (fun _ => .inl rfl) (.bool true)).setChan (c := c) (fun _ => .inr rfl) cap (inbox xs) true s r false
  exact box_door hb3 (results_tmp rfl _ _) ⟨rfl, h.back hb3 hc3 hg3 h.fits⟩

theorem box_new (k : Int) (w : World) : Calls Try.prog 29 #[.int .i64 k] w fun e w' => e = .returned (.pointer (some ⟨w.heap.size + 1, 0, none⟩)) ∧ BoxAt w' w.heap.size (w.heap.size + 1) w.heap.size (roomOf k) [] false ∧ Chg No w w' ∧ w.heap.size < w'.heap.size := by
  obtain ⟨i, hi, hib⟩ : ∃ i, Try.prog.info? 3 = some i ∧ i.bytes = 8 := by
    have h : (Try.prog.info? 3).map (·.bytes) = some 8 := by kernel_rfl
    obtain ⟨i, hi, hb⟩ := Option.map_eq_some_iff.1 h
    exact ⟨i, hi, hb⟩
  have hm := run_makeChan (P := Try.prog) (w := w) Try.underlying57 hi .i64 (roomOf k) (by unfold roomOf; omega) (by rw [hib]; unfold roomOf; omega)
  clear hi
  go_enter Try.func29, Try.ntmps29
  go_wp2_with (go_at_call 35; refine (room_fn _ _).mono ?_; rintro e w' ⟨rfl, rfl⟩)
  go_ret
  have e := Blk.new (w.alloc (.chan (roomOf k) #[] false 0 0 false)) 59 (boxCells 0 (some w.heap.size) false)
  rw [World.size_alloc] at e
  refine ⟨rfl, ⟨e, ⟨0, 0, ?_⟩, by omega, Nat.le_refl _, by simp⟩, ((Chg.refl No w).alloc _).alloc _, by simp; omega⟩
  rw [Below.heap_alloc _ _ _ (by simp)]
  exact heap_alloc_new w _

/-! ### A nil box -/
theorem nobox_send (v : Int) (w : World) : Calls Try.prog 33 #[.pointer none, .int .i64 v] w fun e w' => e = .returned (.bool false) ∧ w = w' := by
  go_enter Try.func33, Try.ntmps33
  go_wp2
  go_ret
  exact ⟨rfl, rfl⟩
theorem nobox_take (w : World) : Calls Try.prog 32 #[.pointer none] w fun e w' => e = .returned (.tuple #[.int .i64 0, .bool false]) ∧ w = w' := by
  go_enter Try.func32, Try.ntmps32
  go_wp2
  go_ret2
  exact ⟨rfl, rfl⟩
theorem nobox_len (w : World) : Calls Try.prog 34 #[.pointer none] w fun e w' => e = .returned (.int .i64 0) ∧ w = w' := by
  go_enter Try.func34, Try.ntmps34
  go_wp2
  go_ret
  exact ⟨rfl, rfl⟩
theorem nobox_close (w : World) : Calls Try.prog 31 #[.pointer none] w fun e w' => e = .returned (.bool false) ∧ w = w' := by
  go_enter Try.func31, Try.ntmps31
  go_wp2
  go_ret
  exact ⟨rfl, rfl⟩

theorem boxed_true (w : World) : Calls Try.prog 28 #[] w fun e w' => e = .returned (.bool true) ∧ Chg No w w' := by
  have e1 : roomOf 1 = 1 := rfl
  have E1 := hide e1
  clear e1
  go_enter Try.func28, Try.ntmps28
  go_wp2_with fail
  refine (box_new _ _).mono ?_
  rintro e w1 ⟨rfl, h1, hc1, hs1⟩
  rw [E1.out] at h1
  have hn : ∀ k, BFoot (w.heap.size + 1) w.heap.size k → w.heap.size ≤ k := by rintro k (rfl | rfl) <;> omega
  obtain ⟨g, hg⟩ : ∃ g, g = w.heap.size + 1 := ⟨_, rfl⟩
  obtain ⟨c, hc⟩ : ∃ c, c = w.heap.size := ⟨_, rfl⟩
  rw [← hg, ← hc] at h1 hn
  rw [← hg]
  have Hg := hide hg
  have Hc := hide hc
  clear hg hc
  go_wp2_with fail
  refine (box_send_room _ _ _ _ _ _ 5 h1 (by simp)).mono ?_
  rintro e w2 ⟨rfl, h2, hc2⟩
  go_wp2_with fail
  refine (box_send_full _ _ _ _ _ _ 6 h2 (by simp)).mono ?_
  rintro e w3 ⟨rfl, h3, hc3⟩
  go_wp2_with fail
  refine (box_take_some _ _ _ _ _ 5 [] _ h3).mono ?_
  rintro e w4 ⟨rfl, h4, hc4⟩
  go_wp2_with fail
  refine (box_take_none _ _ _ _ _ _ h4).mono ?_
  rintro e w5 ⟨rfl, rfl⟩
  go_wp2_with fail
  go_ret
  refine ⟨rfl, ?_⟩
  have h24 := (hc2.trans hc3 (fun _ _ t => t)).trans hc4 (fun _ _ t => t)
  exact hc1.trans h24 (fun k hk t => by have := hn k t; have := Hc.out; omega)
end Go.Proofs.Ytinklonbkhmpdaa
