/-
  The calls of package tick's clock, one contract a method: what it returns, what the clock holds behind it, and that all else in memory is as it was.
-/
import Derived.Test.YthbfljlaonjgnaaRingInt
import Derived.Deep.LoopGhost
import Derived.Deep.DeepCutAuto
import Derived.Outline
namespace Go.Proofs.Ythbfljlaonjgnaa
open Go.RowKit

abbrev nums (l : List Int) : List Value := l.map fun x => Value.int .i64 x

/-- A clock's struct. -/
def clockCells (now real : Int) (p : Option Addr) (br : Bool) : Array Value := #[.int .i64 now, .int .i64 real, .pointer p, .bool br]

/-- The clock in block q: its time, its real ticks, its last steps (at most eight), has it broken its bound; F: the blocks that are its own. -/
def Clk (w : World) (B q : Nat) (F : Nat → Prop) (now real : Int) (ls : List Int) (br : Bool) : Prop :=
  B ≤ q ∧ ls.length ≤ 8 ∧
  ((ls = [] ∧ Blk w q 31 (clockCells now real none br) ∧ (∀ k, F k ↔ k = q)) ∨
   ∃ p A c, Blk w q 31 (clockCells now real (some ⟨p, 0, none⟩) br) ∧ riAt w B p A ls.length c (nums ls) 8 ∧ (∀ k, F k ↔ (k = q ∨ Foot p A k)))

section
variable {w w' : World} {B q : Nat} {F : Nat → Prop} {now real : Int} {ls : List Int} {br : Bool}
theorem Clk.ge (h : Clk w B q F now real ls br) : ∀ k, F k → B ≤ k := by
  obtain ⟨hq, _, ⟨_, _, hF⟩ | ⟨p, A, c, _, hr, hF⟩⟩ := h
  · intro k hk; rw [hF] at hk; omega
  · intro k hk
    rcases (hF k).1 hk with rfl | h
    · exact hq
    · exact hr.foot_ge k h
theorem Clk.lt (h : Clk w B q F now real ls br) : ∀ k, F k → k < w.heap.size := by
  obtain ⟨hq, _, ⟨_, hb, hF⟩ | ⟨p, A, c, hb, hr, hF⟩⟩ := h
  · intro k hk; rw [hF] at hk; subst hk; exact hb.lt
  · intro k hk
    rcases (hF k).1 hk with rfl | h
    · exact hb.lt
    · exact hr.foot_lt k h
theorem Clk.chg {S : Nat → Prop} (h : Clk w B q F now real ls br) (hc : Chg S w w') (hn : ∀ k, F k → ¬ S k) : Clk w' B q F now real ls br := by
  obtain ⟨hq, hl, ⟨e, hb, hF⟩ | ⟨p, A, c, hb, hr, hF⟩⟩ := h
  · exact ⟨hq, hl, .inl ⟨e, hb.chg hc (hn q ((hF q).2 rfl)), hF⟩⟩
  · exact ⟨hq, hl, .inr ⟨p, A, c, hb.chg hc (hn q ((hF q).2 (.inl rfl))), hr.chg hc (fun k hk => hn k ((hF k).2 (.inr hk))), hF⟩⟩
theorem Clk.drewN (h : Clk w B q F now real ls br) (n : Nat) : Clk (w.drewN n) B q F now real ls br := h.chg ((Chg.refl No w).drewN n) (fun _ _ t => t)
theorem Clk.blk (h : Clk w B q F now real ls br) : ∃ p, Blk w q 31 (clockCells now real p br) := by
  obtain ⟨_, _, ⟨_, hb, _⟩ | ⟨p, A, c, hb, _, _⟩⟩ := h
  · exact ⟨_, hb⟩
  · exact ⟨_, hb⟩
end

/-- A clock that has just been made. -/
theorem Clk.made (w : World) : Clk (w.alloc (.cells (clockCells 0 0 none false) 31)) w.heap.size w.heap.size (fun k => k = w.heap.size) 0 0 [] false :=
  ⟨Nat.le_refl _, by simp, .inl ⟨rfl, Blk.new _ _ _, fun _ => Iff.rfl⟩⟩

theorem clock_new (w : World) : Calls Try.prog 10 #[] w fun e w' => e = .returned (.pointer (some ⟨w.heap.size, 0, none⟩)) ∧ w.alloc (.cells (clockCells 0 0 none false) 31) = w' := by
  go_enter Try.func10, Try.ntmps10
  go_wp2
  go_ret
  exact ⟨rfl, rfl⟩

section
variable (w : World) (B q : Nat) (F : Nat → Prop) (now real : Int) (ls : List Int) (br : Bool)
theorem clock_now (h : Clk w B q F now real ls br) : Calls Try.prog 14 #[.pointer (some ⟨q, 0, none⟩)] w fun e w' => e = .returned (.int .i64 now) ∧ w = w' := by
  obtain ⟨p, hb⟩ := h.blk
  have c0 := hb.cell 0
  simp only [clockCells] at c0
  simp at c0
  go_enter Try.func14, Try.ntmps14
  go_wp2
  go_ret
  exact ⟨rfl, rfl⟩
theorem clock_real (h : Clk w B q F now real ls br) : Calls Try.prog 15 #[.pointer (some ⟨q, 0, none⟩)] w fun e w' => e = .returned (.int .i64 real) ∧ w = w' := by
  obtain ⟨p, hb⟩ := h.blk
  have c0 := hb.cell 1
  simp only [clockCells] at c0
  simp at c0
  go_enter Try.func15, Try.ntmps15
  go_wp2
  go_ret
  exact ⟨rfl, rfl⟩
theorem clock_kept (h : Clk w B q F now real ls br) : Calls Try.prog 11 #[.pointer (some ⟨q, 0, none⟩)] w fun e w' => e = .returned (.bool (!br)) ∧ w = w' := by
  obtain ⟨p, hb⟩ := h.blk
  have c0 := hb.cell 3
  simp only [clockCells] at c0
  simp at c0
  go_enter Try.func11, Try.ntmps11
  go_wp2
  go_ret
  exact ⟨rfl, rfl⟩
end

end Go.Proofs.Ythbfljlaonjgnaa
