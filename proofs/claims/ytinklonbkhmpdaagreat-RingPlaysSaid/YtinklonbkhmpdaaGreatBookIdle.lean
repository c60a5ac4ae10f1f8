/-
  The book's calls at the kinds of which nothing is kept; then Apart.
-/
import Derived.Test.YtinklonbkhmpdaaGreatBookLists
namespace Go.Proofs.YtinklonbkhmpdaaGreat
open Go.RowKit

theorem still_Texts (w : World) (kb : Nat) (I W : Value) (h : Blk w kb 47 (bookCells I W)) : Calls Tryz.prog 23 #[.pointer (some ⟨kb, 0, none⟩)] w fun e w' => e = .returned (.bool true) ∧ w = w' := by
  have c : w.cell? ⟨kb, 0, none⟩ = some (.slice none 0 0) := h.cell 0
  go_enter Tryz.func23, Tryz.ntmps23
  go_wp2
  refine wp_loop_rounds 1 ?_
  rw [rounds_succ]
  go_wp2
  go_ret
  exact ⟨rfl, rfl⟩
theorem put_Texts (w : World) (kb : Nat) (I W : Value) (h : Blk w kb 47 (bookCells I W)) : Calls Tryz.prog 41 #[.pointer (some ⟨kb, 0, none⟩)] w fun e w' => e = .returned (.tuple #[]) ∧ w = w' := by
  have c : w.cell? ⟨kb, 0, none⟩ = some (.slice none 0 0) := h.cell 0
  go_enter Tryz.func41, Tryz.ntmps41
  go_wp2
  refine wp_loop_rounds 1 ?_
  rw [rounds_succ]
  go_wp2
  go_end0
  exact ⟨rfl, rfl⟩
theorem grow_Texts (w : World) (kb : Nat) (I W : Value) (h : Blk w kb 47 (bookCells I W)) : Calls Tryz.prog 53 #[.pointer (some ⟨kb, 0, none⟩)] w fun e w' => e = .returned (.slice none 0 0) ∧ w = w' := by
  have c : w.cell? ⟨kb, 0, none⟩ = some (.slice none 0 0) := h.cell 0
  go_enter Tryz.func53, Tryz.ntmps53
  go_wp2
  refine wp_loop_rounds 1 ?_
  rw [rounds_succ]
  go_wp2
  go_ret
  exact ⟨rfl, rfl⟩
theorem marked_Texts (w : World) : Calls Tryz.prog 68 #[.slice none 0 0] w fun e w' => e = .returned (.bool true) ∧ w = w' := by
  go_enter Tryz.func68, Tryz.ntmps68
  go_wp2
  refine wp_loop_rounds 1 ?_
  rw [rounds_succ]
  go_wp2
  go_ret
  exact ⟨rfl, rfl⟩
theorem still_Nums (w : World) (kb : Nat) (I W : Value) (h : Blk w kb 47 (bookCells I W)) : Calls Tryz.prog 25 #[.pointer (some ⟨kb, 0, none⟩)] w fun e w' => e = .returned (.bool true) ∧ w = w' := by
  have c : w.cell? ⟨kb, 4, none⟩ = some (.slice none 0 0) := h.cell 4
  go_enter Tryz.func25, Tryz.ntmps25
  go_wp2
  refine wp_loop_rounds 1 ?_
  rw [rounds_succ]
  go_wp2
  go_ret
  exact ⟨rfl, rfl⟩
theorem put_Nums (w : World) (kb : Nat) (I W : Value) (h : Blk w kb 47 (bookCells I W)) : Calls Tryz.prog 43 #[.pointer (some ⟨kb, 0, none⟩)] w fun e w' => e = .returned (.tuple #[]) ∧ w = w' := by
  have c : w.cell? ⟨kb, 4, none⟩ = some (.slice none 0 0) := h.cell 4
  go_enter Tryz.func43, Tryz.ntmps43
  go_wp2
  refine wp_loop_rounds 1 ?_
  rw [rounds_succ]
  go_wp2
  go_end0
  exact ⟨rfl, rfl⟩
theorem grow_Nums (w : World) (kb : Nat) (I W : Value) (h : Blk w kb 47 (bookCells I W)) : Calls Tryz.prog 55 #[.pointer (some ⟨kb, 0, none⟩)] w fun e w' => e = .returned (.slice none 0 0) ∧ w = w' := by
  have c : w.cell? ⟨kb, 4, none⟩ = some (.slice none 0 0) := h.cell 4
  go_enter Tryz.func55, Tryz.ntmps55
  go_wp2
  refine wp_loop_rounds 1 ?_
  rw [rounds_succ]
  go_wp2
  go_ret
  exact ⟨rfl, rfl⟩
theorem marked_Nums (w : World) : Calls Tryz.prog 70 #[.slice none 0 0] w fun e w' => e = .returned (.bool true) ∧ w = w' := by
  go_enter Tryz.func70, Tryz.ntmps70
  go_wp2
  refine wp_loop_rounds 1 ?_
  rw [rounds_succ]
  go_wp2
  go_ret
  exact ⟨rfl, rfl⟩
theorem still_Spans (w : World) (kb : Nat) (I W : Value) (h : Blk w kb 47 (bookCells I W)) : Calls Tryz.prog 26 #[.pointer (some ⟨kb, 0, none⟩)] w fun e w' => e = .returned (.bool true) ∧ w = w' := by
  have c : w.cell? ⟨kb, 6, none⟩ = some (.slice none 0 0) := h.cell 6
  go_enter Tryz.func26, Tryz.ntmps26
  go_wp2
  refine wp_loop_rounds 1 ?_
  rw [rounds_succ]
  go_wp2
  go_ret
  exact ⟨rfl, rfl⟩
theorem put_Spans (w : World) (kb : Nat) (I W : Value) (h : Blk w kb 47 (bookCells I W)) : Calls Tryz.prog 44 #[.pointer (some ⟨kb, 0, none⟩)] w fun e w' => e = .returned (.tuple #[]) ∧ w = w' := by
  have c : w.cell? ⟨kb, 6, none⟩ = some (.slice none 0 0) := h.cell 6
  go_enter Tryz.func44, Tryz.ntmps44
  go_wp2
  refine wp_loop_rounds 1 ?_
  rw [rounds_succ]
  go_wp2
  go_end0
  exact ⟨rfl, rfl⟩
theorem grow_Spans (w : World) (kb : Nat) (I W : Value) (h : Blk w kb 47 (bookCells I W)) : Calls Tryz.prog 56 #[.pointer (some ⟨kb, 0, none⟩)] w fun e w' => e = .returned (.slice none 0 0) ∧ w = w' := by
  have c : w.cell? ⟨kb, 6, none⟩ = some (.slice none 0 0) := h.cell 6
  go_enter Tryz.func56, Tryz.ntmps56
  go_wp2
  refine wp_loop_rounds 1 ?_
  rw [rounds_succ]
  go_wp2
  go_ret
  exact ⟨rfl, rfl⟩
theorem marked_Spans (w : World) : Calls Tryz.prog 71 #[.slice none 0 0] w fun e w' => e = .returned (.bool true) ∧ w = w' := by
  go_enter Tryz.func71, Tryz.ntmps71
  go_wp2
  refine wp_loop_rounds 1 ?_
  rw [rounds_succ]
  go_wp2
  go_ret
  exact ⟨rfl, rfl⟩
theorem still_Locks (w : World) (kb : Nat) (I W : Value) (h : Blk w kb 47 (bookCells I W)) : Calls Tryz.prog 27 #[.pointer (some ⟨kb, 0, none⟩)] w fun e w' => e = .returned (.bool true) ∧ w = w' := by
  have c : w.cell? ⟨kb, 8, none⟩ = some (.slice none 0 0) := h.cell 8
  go_enter Tryz.func27, Tryz.ntmps27
  go_wp2
  refine wp_loop_rounds 1 ?_
  rw [rounds_succ]
  go_wp2
  go_ret
  exact ⟨rfl, rfl⟩
theorem put_Locks (w : World) (kb : Nat) (I W : Value) (h : Blk w kb 47 (bookCells I W)) : Calls Tryz.prog 45 #[.pointer (some ⟨kb, 0, none⟩)] w fun e w' => e = .returned (.tuple #[]) ∧ w = w' := by
  have c : w.cell? ⟨kb, 8, none⟩ = some (.slice none 0 0) := h.cell 8
  go_enter Tryz.func45, Tryz.ntmps45
  go_wp2
  refine wp_loop_rounds 1 ?_
  rw [rounds_succ]
  go_wp2
  go_end0
  exact ⟨rfl, rfl⟩
theorem grow_Locks (w : World) (kb : Nat) (I W : Value) (h : Blk w kb 47 (bookCells I W)) : Calls Tryz.prog 57 #[.pointer (some ⟨kb, 0, none⟩)] w fun e w' => e = .returned (.slice none 0 0) ∧ w = w' := by
  have c : w.cell? ⟨kb, 8, none⟩ = some (.slice none 0 0) := h.cell 8
  go_enter Tryz.func57, Tryz.ntmps57
  go_wp2
  refine wp_loop_rounds 1 ?_
  rw [rounds_succ]
  go_wp2
  go_ret
  exact ⟨rfl, rfl⟩
theorem marked_Locks (w : World) : Calls Tryz.prog 72 #[.slice none 0 0] w fun e w' => e = .returned (.bool true) ∧ w = w' := by
  go_enter Tryz.func72, Tryz.ntmps72
  go_wp2
  refine wp_loop_rounds 1 ?_
  rw [rounds_succ]
  go_wp2
  go_ret
  exact ⟨rfl, rfl⟩
theorem still_Images (w : World) (kb : Nat) (I W : Value) (h : Blk w kb 47 (bookCells I W)) : Calls Tryz.prog 28 #[.pointer (some ⟨kb, 0, none⟩)] w fun e w' => e = .returned (.bool true) ∧ w = w' := by
  have c : w.cell? ⟨kb, 10, none⟩ = some (.slice none 0 0) := h.cell 10
  go_enter Tryz.func28, Tryz.ntmps28
  go_wp2
  refine wp_loop_rounds 1 ?_
  rw [rounds_succ]
  go_wp2
  go_ret
  exact ⟨rfl, rfl⟩
theorem put_Images (w : World) (kb : Nat) (I W : Value) (h : Blk w kb 47 (bookCells I W)) : Calls Tryz.prog 46 #[.pointer (some ⟨kb, 0, none⟩)] w fun e w' => e = .returned (.tuple #[]) ∧ w = w' := by
  have c : w.cell? ⟨kb, 10, none⟩ = some (.slice none 0 0) := h.cell 10
  go_enter Tryz.func46, Tryz.ntmps46
  go_wp2
  refine wp_loop_rounds 1 ?_
  rw [rounds_succ]
  go_wp2
  go_end0
  exact ⟨rfl, rfl⟩
theorem grow_Images (w : World) (kb : Nat) (I W : Value) (h : Blk w kb 47 (bookCells I W)) : Calls Tryz.prog 58 #[.pointer (some ⟨kb, 0, none⟩)] w fun e w' => e = .returned (.slice none 0 0) ∧ w = w' := by
  have c : w.cell? ⟨kb, 10, none⟩ = some (.slice none 0 0) := h.cell 10
  go_enter Tryz.func58, Tryz.ntmps58
  go_wp2
  refine wp_loop_rounds 1 ?_
  rw [rounds_succ]
  go_wp2
  go_ret
  exact ⟨rfl, rfl⟩
theorem marked_Images (w : World) : Calls Tryz.prog 73 #[.slice none 0 0] w fun e w' => e = .returned (.bool true) ∧ w = w' := by
  go_enter Tryz.func73, Tryz.ntmps73
  go_wp2
  refine wp_loop_rounds 1 ?_
  rw [rounds_succ]
  go_wp2
  go_ret
  exact ⟨rfl, rfl⟩
theorem still_Records (w : World) (kb : Nat) (I W : Value) (h : Blk w kb 47 (bookCells I W)) : Calls Tryz.prog 29 #[.pointer (some ⟨kb, 0, none⟩)] w fun e w' => e = .returned (.bool true) ∧ w = w' := by
  have c : w.cell? ⟨kb, 12, none⟩ = some (.slice none 0 0) := h.cell 12
  go_enter Tryz.func29, Tryz.ntmps29
  go_wp2
  refine wp_loop_rounds 1 ?_
  rw [rounds_succ]
  go_wp2
  go_ret
  exact ⟨rfl, rfl⟩
theorem put_Records (w : World) (kb : Nat) (I W : Value) (h : Blk w kb 47 (bookCells I W)) : Calls Tryz.prog 38 #[.pointer (some ⟨kb, 0, none⟩)] w fun e w' => e = .returned (.tuple #[]) ∧ w = w' := by
  have c : w.cell? ⟨kb, 12, none⟩ = some (.slice none 0 0) := h.cell 12
  go_enter Tryz.func38, Tryz.ntmps38
  go_wp2
  refine wp_loop_rounds 1 ?_
  rw [rounds_succ]
  go_wp2
  go_end0
  exact ⟨rfl, rfl⟩
theorem grow_Records (w : World) (kb : Nat) (I W : Value) (h : Blk w kb 47 (bookCells I W)) : Calls Tryz.prog 59 #[.pointer (some ⟨kb, 0, none⟩)] w fun e w' => e = .returned (.slice none 0 0) ∧ w = w' := by
  have c : w.cell? ⟨kb, 12, none⟩ = some (.slice none 0 0) := h.cell 12
  go_enter Tryz.func59, Tryz.ntmps59
  go_wp2
  refine wp_loop_rounds 1 ?_
  rw [rounds_succ]
  go_wp2
  go_ret
  exact ⟨rfl, rfl⟩
theorem marked_Records (w : World) : Calls Tryz.prog 74 #[.slice none 0 0] w fun e w' => e = .returned (.bool true) ∧ w = w' := by
  go_enter Tryz.func74, Tryz.ntmps74
  go_wp2
  refine wp_loop_rounds 1 ?_
  rw [rounds_succ]
  go_wp2
  go_ret
  exact ⟨rfl, rfl⟩
theorem still_Packets (w : World) (kb : Nat) (I W : Value) (h : Blk w kb 47 (bookCells I W)) : Calls Tryz.prog 30 #[.pointer (some ⟨kb, 0, none⟩)] w fun e w' => e = .returned (.bool true) ∧ w = w' := by
  have c : w.cell? ⟨kb, 14, none⟩ = some (.slice none 0 0) := h.cell 14
  go_enter Tryz.func30, Tryz.ntmps30
  go_wp2
  refine wp_loop_rounds 1 ?_
  rw [rounds_succ]
  go_wp2
  go_ret
  exact ⟨rfl, rfl⟩
theorem put_Packets (w : World) (kb : Nat) (I W : Value) (h : Blk w kb 47 (bookCells I W)) : Calls Tryz.prog 47 #[.pointer (some ⟨kb, 0, none⟩)] w fun e w' => e = .returned (.tuple #[]) ∧ w = w' := by
  have c : w.cell? ⟨kb, 14, none⟩ = some (.slice none 0 0) := h.cell 14
  go_enter Tryz.func47, Tryz.ntmps47
  go_wp2
  refine wp_loop_rounds 1 ?_
  rw [rounds_succ]
  go_wp2
  go_end0
  exact ⟨rfl, rfl⟩
theorem grow_Packets (w : World) (kb : Nat) (I W : Value) (h : Blk w kb 47 (bookCells I W)) : Calls Tryz.prog 60 #[.pointer (some ⟨kb, 0, none⟩)] w fun e w' => e = .returned (.slice none 0 0) ∧ w = w' := by
  have c : w.cell? ⟨kb, 14, none⟩ = some (.slice none 0 0) := h.cell 14
  go_enter Tryz.func60, Tryz.ntmps60
  go_wp2
  refine wp_loop_rounds 1 ?_
  rw [rounds_succ]
  go_wp2
  go_ret
  exact ⟨rfl, rfl⟩
theorem marked_Packets (w : World) : Calls Tryz.prog 75 #[.slice none 0 0] w fun e w' => e = .returned (.bool true) ∧ w = w' := by
  go_enter Tryz.func75, Tryz.ntmps75
  go_wp2
  refine wp_loop_rounds 1 ?_
  rw [rounds_succ]
  go_wp2
  go_ret
  exact ⟨rfl, rfl⟩
theorem still_Frames (w : World) (kb : Nat) (I W : Value) (h : Blk w kb 47 (bookCells I W)) : Calls Tryz.prog 31 #[.pointer (some ⟨kb, 0, none⟩)] w fun e w' => e = .returned (.bool true) ∧ w = w' := by
  have c : w.cell? ⟨kb, 16, none⟩ = some (.slice none 0 0) := h.cell 16
  go_enter Tryz.func31, Tryz.ntmps31
  go_wp2
  refine wp_loop_rounds 1 ?_
  rw [rounds_succ]
  go_wp2
  go_ret
  exact ⟨rfl, rfl⟩
theorem put_Frames (w : World) (kb : Nat) (I W : Value) (h : Blk w kb 47 (bookCells I W)) : Calls Tryz.prog 48 #[.pointer (some ⟨kb, 0, none⟩)] w fun e w' => e = .returned (.tuple #[]) ∧ w = w' := by
  have c : w.cell? ⟨kb, 16, none⟩ = some (.slice none 0 0) := h.cell 16
  go_enter Tryz.func48, Tryz.ntmps48
  go_wp2
  refine wp_loop_rounds 1 ?_
  rw [rounds_succ]
  go_wp2
  go_end0
  exact ⟨rfl, rfl⟩
theorem grow_Frames (w : World) (kb : Nat) (I W : Value) (h : Blk w kb 47 (bookCells I W)) : Calls Tryz.prog 61 #[.pointer (some ⟨kb, 0, none⟩)] w fun e w' => e = .returned (.slice none 0 0) ∧ w = w' := by
  have c : w.cell? ⟨kb, 16, none⟩ = some (.slice none 0 0) := h.cell 16
  go_enter Tryz.func61, Tryz.ntmps61
  go_wp2
  refine wp_loop_rounds 1 ?_
  rw [rounds_succ]
  go_wp2
  go_ret
  exact ⟨rfl, rfl⟩
theorem marked_Frames (w : World) : Calls Tryz.prog 76 #[.slice none 0 0] w fun e w' => e = .returned (.bool true) ∧ w = w' := by
  go_enter Tryz.func76, Tryz.ntmps76
  go_wp2
  refine wp_loop_rounds 1 ?_
  rw [rounds_succ]
  go_wp2
  go_ret
  exact ⟨rfl, rfl⟩
theorem still_Waits (w : World) (kb : Nat) (I W : Value) (h : Blk w kb 47 (bookCells I W)) : Calls Tryz.prog 32 #[.pointer (some ⟨kb, 0, none⟩)] w fun e w' => e = .returned (.bool true) ∧ w = w' := by
  have c : w.cell? ⟨kb, 18, none⟩ = some (.slice none 0 0) := h.cell 18
  go_enter Tryz.func32, Tryz.ntmps32
  go_wp2
  refine wp_loop_rounds 1 ?_
  rw [rounds_succ]
  go_wp2
  go_ret
  exact ⟨rfl, rfl⟩
theorem put_Waits (w : World) (kb : Nat) (I W : Value) (h : Blk w kb 47 (bookCells I W)) : Calls Tryz.prog 49 #[.pointer (some ⟨kb, 0, none⟩)] w fun e w' => e = .returned (.tuple #[]) ∧ w = w' := by
  have c : w.cell? ⟨kb, 18, none⟩ = some (.slice none 0 0) := h.cell 18
  go_enter Tryz.func49, Tryz.ntmps49
  go_wp2
  refine wp_loop_rounds 1 ?_
  rw [rounds_succ]
  go_wp2
  go_end0
  exact ⟨rfl, rfl⟩
theorem grow_Waits (w : World) (kb : Nat) (I W : Value) (h : Blk w kb 47 (bookCells I W)) : Calls Tryz.prog 62 #[.pointer (some ⟨kb, 0, none⟩)] w fun e w' => e = .returned (.slice none 0 0) ∧ w = w' := by
  have c : w.cell? ⟨kb, 18, none⟩ = some (.slice none 0 0) := h.cell 18
  go_enter Tryz.func62, Tryz.ntmps62
  go_wp2
  refine wp_loop_rounds 1 ?_
  rw [rounds_succ]
  go_wp2
  go_ret
  exact ⟨rfl, rfl⟩
theorem marked_Waits (w : World) : Calls Tryz.prog 77 #[.slice none 0 0] w fun e w' => e = .returned (.bool true) ∧ w = w' := by
  go_enter Tryz.func77, Tryz.ntmps77
  go_wp2
  refine wp_loop_rounds 1 ?_
  rw [rounds_succ]
  go_wp2
  go_ret
  exact ⟨rfl, rfl⟩
theorem still_Revokes (w : World) (kb : Nat) (I W : Value) (h : Blk w kb 47 (bookCells I W)) : Calls Tryz.prog 33 #[.pointer (some ⟨kb, 0, none⟩)] w fun e w' => e = .returned (.bool true) ∧ w = w' := by
  have c : w.cell? ⟨kb, 20, none⟩ = some (.slice none 0 0) := h.cell 20
  go_enter Tryz.func33, Tryz.ntmps33
  go_wp2
  refine wp_loop_rounds 1 ?_
  rw [rounds_succ]
  go_wp2
  go_ret
  exact ⟨rfl, rfl⟩
theorem put_Revokes (w : World) (kb : Nat) (I W : Value) (h : Blk w kb 47 (bookCells I W)) : Calls Tryz.prog 50 #[.pointer (some ⟨kb, 0, none⟩)] w fun e w' => e = .returned (.tuple #[]) ∧ w = w' := by
  have c : w.cell? ⟨kb, 20, none⟩ = some (.slice none 0 0) := h.cell 20
  go_enter Tryz.func50, Tryz.ntmps50
  go_wp2
  refine wp_loop_rounds 1 ?_
  rw [rounds_succ]
  go_wp2
  go_end0
  exact ⟨rfl, rfl⟩
theorem grow_Revokes (w : World) (kb : Nat) (I W : Value) (h : Blk w kb 47 (bookCells I W)) : Calls Tryz.prog 63 #[.pointer (some ⟨kb, 0, none⟩)] w fun e w' => e = .returned (.slice none 0 0) ∧ w = w' := by
  have c : w.cell? ⟨kb, 20, none⟩ = some (.slice none 0 0) := h.cell 20
  go_enter Tryz.func63, Tryz.ntmps63
  go_wp2
  refine wp_loop_rounds 1 ?_
  rw [rounds_succ]
  go_wp2
  go_ret
  exact ⟨rfl, rfl⟩
theorem marked_Revokes (w : World) : Calls Tryz.prog 78 #[.slice none 0 0] w fun e w' => e = .returned (.bool true) ∧ w = w' := by
  go_enter Tryz.func78, Tryz.ntmps78
  go_wp2
  refine wp_loop_rounds 1 ?_
  rw [rounds_succ]
  go_wp2
  go_ret
  exact ⟨rfl, rfl⟩
theorem still_Entries (w : World) (kb : Nat) (I W : Value) (h : Blk w kb 47 (bookCells I W)) : Calls Tryz.prog 34 #[.pointer (some ⟨kb, 0, none⟩)] w fun e w' => e = .returned (.bool true) ∧ w = w' := by
  have c : w.cell? ⟨kb, 22, none⟩ = some (.slice none 0 0) := h.cell 22
  go_enter Tryz.func34, Tryz.ntmps34
  go_wp2
  refine wp_loop_rounds 1 ?_
  rw [rounds_succ]
  go_wp2
  go_ret
  exact ⟨rfl, rfl⟩
theorem put_Entries (w : World) (kb : Nat) (I W : Value) (h : Blk w kb 47 (bookCells I W)) : Calls Tryz.prog 51 #[.pointer (some ⟨kb, 0, none⟩)] w fun e w' => e = .returned (.tuple #[]) ∧ w = w' := by
  have c : w.cell? ⟨kb, 22, none⟩ = some (.slice none 0 0) := h.cell 22
  go_enter Tryz.func51, Tryz.ntmps51
  go_wp2
  refine wp_loop_rounds 1 ?_
  rw [rounds_succ]
  go_wp2
  go_end0
  exact ⟨rfl, rfl⟩
theorem grow_Entries (w : World) (kb : Nat) (I W : Value) (h : Blk w kb 47 (bookCells I W)) : Calls Tryz.prog 64 #[.pointer (some ⟨kb, 0, none⟩)] w fun e w' => e = .returned (.slice none 0 0) ∧ w = w' := by
  have c : w.cell? ⟨kb, 22, none⟩ = some (.slice none 0 0) := h.cell 22
  go_enter Tryz.func64, Tryz.ntmps64
  go_wp2
  refine wp_loop_rounds 1 ?_
  rw [rounds_succ]
  go_wp2
  go_ret
  exact ⟨rfl, rfl⟩
theorem marked_Entries (w : World) : Calls Tryz.prog 79 #[.slice none 0 0] w fun e w' => e = .returned (.bool true) ∧ w = w' := by
  go_enter Tryz.func79, Tryz.ntmps79
  go_wp2
  refine wp_loop_rounds 1 ?_
  rw [rounds_succ]
  go_wp2
  go_ret
  exact ⟨rfl, rfl⟩
theorem still_Parts (w : World) (kb : Nat) (I W : Value) (h : Blk w kb 47 (bookCells I W)) : Calls Tryz.prog 35 #[.pointer (some ⟨kb, 0, none⟩)] w fun e w' => e = .returned (.bool true) ∧ w = w' := by
  have c : w.cell? ⟨kb, 24, none⟩ = some (.slice none 0 0) := h.cell 24
  go_enter Tryz.func35, Tryz.ntmps35
  go_wp2
  refine wp_loop_rounds 1 ?_
  rw [rounds_succ]
  go_wp2
  go_ret
  exact ⟨rfl, rfl⟩
theorem put_Parts (w : World) (kb : Nat) (I W : Value) (h : Blk w kb 47 (bookCells I W)) : Calls Tryz.prog 52 #[.pointer (some ⟨kb, 0, none⟩)] w fun e w' => e = .returned (.tuple #[]) ∧ w = w' := by
  have c : w.cell? ⟨kb, 24, none⟩ = some (.slice none 0 0) := h.cell 24
  go_enter Tryz.func52, Tryz.ntmps52
  go_wp2
  refine wp_loop_rounds 1 ?_
  rw [rounds_succ]
  go_wp2
  go_end0
  exact ⟨rfl, rfl⟩
theorem grow_Parts (w : World) (kb : Nat) (I W : Value) (h : Blk w kb 47 (bookCells I W)) : Calls Tryz.prog 65 #[.pointer (some ⟨kb, 0, none⟩)] w fun e w' => e = .returned (.slice none 0 0) ∧ w = w' := by
  have c : w.cell? ⟨kb, 24, none⟩ = some (.slice none 0 0) := h.cell 24
  go_enter Tryz.func65, Tryz.ntmps65
  go_wp2
  refine wp_loop_rounds 1 ?_
  rw [rounds_succ]
  go_wp2
  go_ret
  exact ⟨rfl, rfl⟩
theorem marked_Parts (w : World) : Calls Tryz.prog 80 #[.slice none 0 0] w fun e w' => e = .returned (.bool true) ∧ w = w' := by
  go_enter Tryz.func80, Tryz.ntmps80
  go_wp2
  refine wp_loop_rounds 1 ?_
  rw [rounds_succ]
  go_wp2
  go_ret
  exact ⟨rfl, rfl⟩
theorem still_Msgs (w : World) (kb : Nat) (I W : Value) (h : Blk w kb 47 (bookCells I W)) : Calls Tryz.prog 36 #[.pointer (some ⟨kb, 0, none⟩)] w fun e w' => e = .returned (.bool true) ∧ w = w' := by
  have c : w.cell? ⟨kb, 26, none⟩ = some (.slice none 0 0) := h.cell 26
  go_enter Tryz.func36, Tryz.ntmps36
  go_wp2
  refine wp_loop_rounds 1 ?_
  rw [rounds_succ]
  go_wp2
  go_ret
  exact ⟨rfl, rfl⟩
theorem put_Msgs (w : World) (kb : Nat) (I W : Value) (h : Blk w kb 47 (bookCells I W)) : Calls Tryz.prog 39 #[.pointer (some ⟨kb, 0, none⟩)] w fun e w' => e = .returned (.tuple #[]) ∧ w = w' := by
  have c : w.cell? ⟨kb, 26, none⟩ = some (.slice none 0 0) := h.cell 26
  go_enter Tryz.func39, Tryz.ntmps39
  go_wp2
  refine wp_loop_rounds 1 ?_
  rw [rounds_succ]
  go_wp2
  go_end0
  exact ⟨rfl, rfl⟩
theorem grow_Msgs (w : World) (kb : Nat) (I W : Value) (h : Blk w kb 47 (bookCells I W)) : Calls Tryz.prog 66 #[.pointer (some ⟨kb, 0, none⟩)] w fun e w' => e = .returned (.slice none 0 0) ∧ w = w' := by
  have c : w.cell? ⟨kb, 26, none⟩ = some (.slice none 0 0) := h.cell 26
  go_enter Tryz.func66, Tryz.ntmps66
  go_wp2
  refine wp_loop_rounds 1 ?_
  rw [rounds_succ]
  go_wp2
  go_ret
  exact ⟨rfl, rfl⟩
theorem marked_Msgs (w : World) : Calls Tryz.prog 81 #[.slice none 0 0] w fun e w' => e = .returned (.bool true) ∧ w = w' := by
  go_enter Tryz.func81, Tryz.ntmps81
  go_wp2
  refine wp_loop_rounds 1 ?_
  rw [rounds_succ]
  go_wp2
  go_ret
  exact ⟨rfl, rfl⟩
theorem still_Steps (w : World) (kb : Nat) (I W : Value) (h : Blk w kb 47 (bookCells I W)) : Calls Tryz.prog 37 #[.pointer (some ⟨kb, 0, none⟩)] w fun e w' => e = .returned (.bool true) ∧ w = w' := by
  have c : w.cell? ⟨kb, 28, none⟩ = some (.slice none 0 0) := h.cell 28
  go_enter Tryz.func37, Tryz.ntmps37
  go_wp2
  refine wp_loop_rounds 1 ?_
  rw [rounds_succ]
  go_wp2
  go_ret
  exact ⟨rfl, rfl⟩
theorem put_Steps (w : World) (kb : Nat) (I W : Value) (h : Blk w kb 47 (bookCells I W)) : Calls Tryz.prog 40 #[.pointer (some ⟨kb, 0, none⟩)] w fun e w' => e = .returned (.tuple #[]) ∧ w = w' := by
  have c : w.cell? ⟨kb, 28, none⟩ = some (.slice none 0 0) := h.cell 28
  go_enter Tryz.func40, Tryz.ntmps40
  go_wp2
  refine wp_loop_rounds 1 ?_
  rw [rounds_succ]
  go_wp2
  go_end0
  exact ⟨rfl, rfl⟩
theorem grow_Steps (w : World) (kb : Nat) (I W : Value) (h : Blk w kb 47 (bookCells I W)) : Calls Tryz.prog 67 #[.pointer (some ⟨kb, 0, none⟩)] w fun e w' => e = .returned (.slice none 0 0) ∧ w = w' := by
  have c : w.cell? ⟨kb, 28, none⟩ = some (.slice none 0 0) := h.cell 28
  go_enter Tryz.func67, Tryz.ntmps67
  go_wp2
  refine wp_loop_rounds 1 ?_
  rw [rounds_succ]
  go_wp2
  go_ret
  exact ⟨rfl, rfl⟩
theorem marked_Steps (w : World) : Calls Tryz.prog 82 #[.slice none 0 0] w fun e w' => e = .returned (.bool true) ∧ w = w' := by
  go_enter Tryz.func82, Tryz.ntmps82
  go_wp2
  refine wp_loop_rounds 1 ?_
  rw [rounds_succ]
  go_wp2
  go_ret
  exact ⟨rfl, rfl⟩
set_option maxHeartbeats 4000000 in
set_option maxRecDepth 100000 in
theorem book_apart (w : World) (B kb N : Nat) (F : Nat → Prop) (h : BookAt w B kb N F) (hN : N ≤ 250) (hB : B ≤ w.heap.size) :
    Calls Tryz.prog 20 #[.pointer (some ⟨kb, 0, none⟩)] w fun e w' => e = .returned (.bool true) ∧ Chg F w w' := by
  obtain ⟨I, W, ci, cw, A, A', c, c', L, h, hF⟩ := h
  have hb0 := h.blk
  have hinner : ∀ k, k < w.heap.size → InnerFoot N A k → F k := fun k _ ⟨i, hi, e⟩ => (hF k).2 (.inr (.inr (.inr ⟨i, hi, .inl e⟩)))
  have Hinner := hide hinner
  have HF := hide hF
  clear hinner hF
  go_enter Tryz.func20, Tryz.ntmps20
  go_wp2_with (first
    | (go_at_call 23; refine (still_Texts _ kb _ _ hb0).mono ?_; rintro e w' ⟨rfl, rfl⟩)
    | (go_at_call 25; refine (still_Nums _ kb _ _ hb0).mono ?_; rintro e w' ⟨rfl, rfl⟩)
    | (go_at_call 26; refine (still_Spans _ kb _ _ hb0).mono ?_; rintro e w' ⟨rfl, rfl⟩)
    | (go_at_call 27; refine (still_Locks _ kb _ _ hb0).mono ?_; rintro e w' ⟨rfl, rfl⟩)
    | (go_at_call 28; refine (still_Images _ kb _ _ hb0).mono ?_; rintro e w' ⟨rfl, rfl⟩)
    | (go_at_call 29; refine (still_Records _ kb _ _ hb0).mono ?_; rintro e w' ⟨rfl, rfl⟩)
    | (go_at_call 30; refine (still_Packets _ kb _ _ hb0).mono ?_; rintro e w' ⟨rfl, rfl⟩)
    | (go_at_call 31; refine (still_Frames _ kb _ _ hb0).mono ?_; rintro e w' ⟨rfl, rfl⟩)
    | (go_at_call 32; refine (still_Waits _ kb _ _ hb0).mono ?_; rintro e w' ⟨rfl, rfl⟩)
    | (go_at_call 33; refine (still_Revokes _ kb _ _ hb0).mono ?_; rintro e w' ⟨rfl, rfl⟩)
    | (go_at_call 34; refine (still_Entries _ kb _ _ hb0).mono ?_; rintro e w' ⟨rfl, rfl⟩)
    | (go_at_call 35; refine (still_Parts _ kb _ _ hb0).mono ?_; rintro e w' ⟨rfl, rfl⟩)
    | (go_at_call 36; refine (still_Msgs _ kb _ _ hb0).mono ?_; rintro e w' ⟨rfl, rfl⟩)
    | (go_at_call 37; refine (still_Steps _ kb _ _ hb0).mono ?_; rintro e w' ⟨rfl, rfl⟩))
  refine (still_ints w B kb N I W ci cw A A' c c' L h hN).mono ?_
  rintro e w1 ⟨rfl, q, rfl⟩
  have hb1 : Blk (w.drewN q) kb _ _ := hb0.drewN q
  go_wp2_with (first
    | (go_at_call 23; refine (still_Texts _ kb _ _ hb1).mono ?_; rintro e w' ⟨rfl, rfl⟩)
    | (go_at_call 25; refine (still_Nums _ kb _ _ hb1).mono ?_; rintro e w' ⟨rfl, rfl⟩)
    | (go_at_call 26; refine (still_Spans _ kb _ _ hb1).mono ?_; rintro e w' ⟨rfl, rfl⟩)
    | (go_at_call 27; refine (still_Locks _ kb _ _ hb1).mono ?_; rintro e w' ⟨rfl, rfl⟩)
    | (go_at_call 28; refine (still_Images _ kb _ _ hb1).mono ?_; rintro e w' ⟨rfl, rfl⟩)
    | (go_at_call 29; refine (still_Records _ kb _ _ hb1).mono ?_; rintro e w' ⟨rfl, rfl⟩)
    | (go_at_call 30; refine (still_Packets _ kb _ _ hb1).mono ?_; rintro e w' ⟨rfl, rfl⟩)
    | (go_at_call 31; refine (still_Frames _ kb _ _ hb1).mono ?_; rintro e w' ⟨rfl, rfl⟩)
    | (go_at_call 32; refine (still_Waits _ kb _ _ hb1).mono ?_; rintro e w' ⟨rfl, rfl⟩)
    | (go_at_call 33; refine (still_Revokes _ kb _ _ hb1).mono ?_; rintro e w' ⟨rfl, rfl⟩)
    | (go_at_call 34; refine (still_Entries _ kb _ _ hb1).mono ?_; rintro e w' ⟨rfl, rfl⟩)
    | (go_at_call 35; refine (still_Parts _ kb _ _ hb1).mono ?_; rintro e w' ⟨rfl, rfl⟩)
    | (go_at_call 36; refine (still_Msgs _ kb _ _ hb1).mono ?_; rintro e w' ⟨rfl, rfl⟩)
    | (go_at_call 37; refine (still_Steps _ kb _ _ hb1).mono ?_; rintro e w' ⟨rfl, rfl⟩)
    | (go_at_call 38; refine (put_Records _ kb _ _ hb1).mono ?_; rintro e w' ⟨rfl, rfl⟩)
    | (go_at_call 39; refine (put_Msgs _ kb _ _ hb1).mono ?_; rintro e w' ⟨rfl, rfl⟩)
    | (go_at_call 40; refine (put_Steps _ kb _ _ hb1).mono ?_; rintro e w' ⟨rfl, rfl⟩)
    | (go_at_call 41; refine (put_Texts _ kb _ _ hb1).mono ?_; rintro e w' ⟨rfl, rfl⟩)
    | (go_at_call 43; refine (put_Nums _ kb _ _ hb1).mono ?_; rintro e w' ⟨rfl, rfl⟩)
    | (go_at_call 44; refine (put_Spans _ kb _ _ hb1).mono ?_; rintro e w' ⟨rfl, rfl⟩)
    | (go_at_call 45; refine (put_Locks _ kb _ _ hb1).mono ?_; rintro e w' ⟨rfl, rfl⟩)
    | (go_at_call 46; refine (put_Images _ kb _ _ hb1).mono ?_; rintro e w' ⟨rfl, rfl⟩)
    | (go_at_call 47; refine (put_Packets _ kb _ _ hb1).mono ?_; rintro e w' ⟨rfl, rfl⟩)
    | (go_at_call 48; refine (put_Frames _ kb _ _ hb1).mono ?_; rintro e w' ⟨rfl, rfl⟩)
    | (go_at_call 49; refine (put_Waits _ kb _ _ hb1).mono ?_; rintro e w' ⟨rfl, rfl⟩)
    | (go_at_call 50; refine (put_Revokes _ kb _ _ hb1).mono ?_; rintro e w' ⟨rfl, rfl⟩)
    | (go_at_call 51; refine (put_Entries _ kb _ _ hb1).mono ?_; rintro e w' ⟨rfl, rfl⟩)
    | (go_at_call 52; refine (put_Parts _ kb _ _ hb1).mono ?_; rintro e w' ⟨rfl, rfl⟩))
  refine (put_ints (w.drewN q) B kb N I ci (.slice W N cw) A c L ⟨h.blk, h.outer, h.short, h.inner, h.sep⟩ hN).mono ?_
  rintro e w2 ⟨rfl, hl2, hc2⟩
  have hl2' := hl2.congr (L' := fun j => marks j 0 (L j).length) (fun i hi => by simp [marked, hi])
  have hb2 := hl2.blk
  have hs2 := hc2.size
  go_wp2_with (first
    | (go_at_call 38; refine (put_Records _ kb _ _ hb2).mono ?_; rintro e w' ⟨rfl, rfl⟩)
    | (go_at_call 39; refine (put_Msgs _ kb _ _ hb2).mono ?_; rintro e w' ⟨rfl, rfl⟩)
    | (go_at_call 40; refine (put_Steps _ kb _ _ hb2).mono ?_; rintro e w' ⟨rfl, rfl⟩)
    | (go_at_call 41; refine (put_Texts _ kb _ _ hb2).mono ?_; rintro e w' ⟨rfl, rfl⟩)
    | (go_at_call 43; refine (put_Nums _ kb _ _ hb2).mono ?_; rintro e w' ⟨rfl, rfl⟩)
    | (go_at_call 44; refine (put_Spans _ kb _ _ hb2).mono ?_; rintro e w' ⟨rfl, rfl⟩)
    | (go_at_call 45; refine (put_Locks _ kb _ _ hb2).mono ?_; rintro e w' ⟨rfl, rfl⟩)
    | (go_at_call 46; refine (put_Images _ kb _ _ hb2).mono ?_; rintro e w' ⟨rfl, rfl⟩)
    | (go_at_call 47; refine (put_Packets _ kb _ _ hb2).mono ?_; rintro e w' ⟨rfl, rfl⟩)
    | (go_at_call 48; refine (put_Frames _ kb _ _ hb2).mono ?_; rintro e w' ⟨rfl, rfl⟩)
    | (go_at_call 49; refine (put_Waits _ kb _ _ hb2).mono ?_; rintro e w' ⟨rfl, rfl⟩)
    | (go_at_call 50; refine (put_Revokes _ kb _ _ hb2).mono ?_; rintro e w' ⟨rfl, rfl⟩)
    | (go_at_call 51; refine (put_Entries _ kb _ _ hb2).mono ?_; rintro e w' ⟨rfl, rfl⟩)
    | (go_at_call 52; refine (put_Parts _ kb _ _ hb2).mono ?_; rintro e w' ⟨rfl, rfl⟩)
    | (go_at_call 53; refine (grow_Texts _ kb _ _ hb2).mono ?_; rintro e w' ⟨rfl, rfl⟩)
    | (go_at_call 55; refine (grow_Nums _ kb _ _ hb2).mono ?_; rintro e w' ⟨rfl, rfl⟩)
    | (go_at_call 56; refine (grow_Spans _ kb _ _ hb2).mono ?_; rintro e w' ⟨rfl, rfl⟩)
    | (go_at_call 57; refine (grow_Locks _ kb _ _ hb2).mono ?_; rintro e w' ⟨rfl, rfl⟩)
    | (go_at_call 58; refine (grow_Images _ kb _ _ hb2).mono ?_; rintro e w' ⟨rfl, rfl⟩)
    | (go_at_call 59; refine (grow_Records _ kb _ _ hb2).mono ?_; rintro e w' ⟨rfl, rfl⟩)
    | (go_at_call 60; refine (grow_Packets _ kb _ _ hb2).mono ?_; rintro e w' ⟨rfl, rfl⟩)
    | (go_at_call 61; refine (grow_Frames _ kb _ _ hb2).mono ?_; rintro e w' ⟨rfl, rfl⟩)
    | (go_at_call 62; refine (grow_Waits _ kb _ _ hb2).mono ?_; rintro e w' ⟨rfl, rfl⟩)
    | (go_at_call 63; refine (grow_Revokes _ kb _ _ hb2).mono ?_; rintro e w' ⟨rfl, rfl⟩)
    | (go_at_call 64; refine (grow_Entries _ kb _ _ hb2).mono ?_; rintro e w' ⟨rfl, rfl⟩)
    | (go_at_call 65; refine (grow_Parts _ kb _ _ hb2).mono ?_; rintro e w' ⟨rfl, rfl⟩)
    | (go_at_call 66; refine (grow_Msgs _ kb _ _ hb2).mono ?_; rintro e w' ⟨rfl, rfl⟩)
    | (go_at_call 67; refine (grow_Steps _ kb _ _ hb2).mono ?_; rintro e w' ⟨rfl, rfl⟩))
  refine (grow_ints w2 B kb N I ci (.slice W N cw) A c (fun j => (L j).length) hl2' hN (by simp at hs2; omega)).mono ?_
  rintro e w3 ⟨O, co, G, d, rfl, hg⟩
  have hb3 := hg.lists.blk
  have cw30 : w3.cell? ⟨kb, 0, none⟩ = some (.slice none 0 0) := hb3.cell 0
  have cw34 : w3.cell? ⟨kb, 4, none⟩ = some (.slice none 0 0) := hb3.cell 4
  have cw36 : w3.cell? ⟨kb, 6, none⟩ = some (.slice none 0 0) := hb3.cell 6
  have cw38 : w3.cell? ⟨kb, 8, none⟩ = some (.slice none 0 0) := hb3.cell 8
  have cw310 : w3.cell? ⟨kb, 10, none⟩ = some (.slice none 0 0) := hb3.cell 10
  have cw312 : w3.cell? ⟨kb, 12, none⟩ = some (.slice none 0 0) := hb3.cell 12
  have cw314 : w3.cell? ⟨kb, 14, none⟩ = some (.slice none 0 0) := hb3.cell 14
  have cw316 : w3.cell? ⟨kb, 16, none⟩ = some (.slice none 0 0) := hb3.cell 16
  have cw318 : w3.cell? ⟨kb, 18, none⟩ = some (.slice none 0 0) := hb3.cell 18
  have cw320 : w3.cell? ⟨kb, 20, none⟩ = some (.slice none 0 0) := hb3.cell 20
  have cw322 : w3.cell? ⟨kb, 22, none⟩ = some (.slice none 0 0) := hb3.cell 22
  have cw324 : w3.cell? ⟨kb, 24, none⟩ = some (.slice none 0 0) := hb3.cell 24
  have cw326 : w3.cell? ⟨kb, 26, none⟩ = some (.slice none 0 0) := hb3.cell 26
  have cw328 : w3.cell? ⟨kb, 28, none⟩ = some (.slice none 0 0) := hb3.cell 28
  go_wp2_with (first
    | (go_at_call 53; refine (grow_Texts _ kb _ _ hb3).mono ?_; rintro e w' ⟨rfl, rfl⟩)
    | (go_at_call 55; refine (grow_Nums _ kb _ _ hb3).mono ?_; rintro e w' ⟨rfl, rfl⟩)
    | (go_at_call 56; refine (grow_Spans _ kb _ _ hb3).mono ?_; rintro e w' ⟨rfl, rfl⟩)
    | (go_at_call 57; refine (grow_Locks _ kb _ _ hb3).mono ?_; rintro e w' ⟨rfl, rfl⟩)
    | (go_at_call 58; refine (grow_Images _ kb _ _ hb3).mono ?_; rintro e w' ⟨rfl, rfl⟩)
    | (go_at_call 59; refine (grow_Records _ kb _ _ hb3).mono ?_; rintro e w' ⟨rfl, rfl⟩)
    | (go_at_call 60; refine (grow_Packets _ kb _ _ hb3).mono ?_; rintro e w' ⟨rfl, rfl⟩)
    | (go_at_call 61; refine (grow_Frames _ kb _ _ hb3).mono ?_; rintro e w' ⟨rfl, rfl⟩)
    | (go_at_call 62; refine (grow_Waits _ kb _ _ hb3).mono ?_; rintro e w' ⟨rfl, rfl⟩)
    | (go_at_call 63; refine (grow_Revokes _ kb _ _ hb3).mono ?_; rintro e w' ⟨rfl, rfl⟩)
    | (go_at_call 64; refine (grow_Entries _ kb _ _ hb3).mono ?_; rintro e w' ⟨rfl, rfl⟩)
    | (go_at_call 65; refine (grow_Parts _ kb _ _ hb3).mono ?_; rintro e w' ⟨rfl, rfl⟩)
    | (go_at_call 66; refine (grow_Msgs _ kb _ _ hb3).mono ?_; rintro e w' ⟨rfl, rfl⟩)
    | (go_at_call 67; refine (grow_Steps _ kb _ _ hb3).mono ?_; rintro e w' ⟨rfl, rfl⟩)
    | (go_at_call 68; refine (marked_Texts _).mono ?_; rintro e w' ⟨rfl, rfl⟩)
    | (go_at_call 70; refine (marked_Nums _).mono ?_; rintro e w' ⟨rfl, rfl⟩)
    | (go_at_call 71; refine (marked_Spans _).mono ?_; rintro e w' ⟨rfl, rfl⟩)
    | (go_at_call 72; refine (marked_Locks _).mono ?_; rintro e w' ⟨rfl, rfl⟩)
    | (go_at_call 73; refine (marked_Images _).mono ?_; rintro e w' ⟨rfl, rfl⟩)
    | (go_at_call 74; refine (marked_Records _).mono ?_; rintro e w' ⟨rfl, rfl⟩)
    | (go_at_call 75; refine (marked_Packets _).mono ?_; rintro e w' ⟨rfl, rfl⟩)
    | (go_at_call 76; refine (marked_Frames _).mono ?_; rintro e w' ⟨rfl, rfl⟩)
    | (go_at_call 77; refine (marked_Waits _).mono ?_; rintro e w' ⟨rfl, rfl⟩)
    | (go_at_call 78; refine (marked_Revokes _).mono ?_; rintro e w' ⟨rfl, rfl⟩)
    | (go_at_call 79; refine (marked_Entries _).mono ?_; rintro e w' ⟨rfl, rfl⟩)
    | (go_at_call 80; refine (marked_Parts _).mono ?_; rintro e w' ⟨rfl, rfl⟩)
    | (go_at_call 81; refine (marked_Msgs _).mono ?_; rintro e w' ⟨rfl, rfl⟩)
    | (go_at_call 82; refine (marked_Steps _).mono ?_; rintro e w' ⟨rfl, rfl⟩))
  refine (marked_ints w3 w2.heap.size N co O G (fun j => (L j).length + 72) d hg.out (fun j hj => ⟨Sees.of_own (hg.done j hj), by have := h.short j hj; omega⟩) hN).mono ?_
  rintro e w4 ⟨rfl, hc4⟩
  have hb4 := hb3.chg hc4 (fun t => t)
  have hl4 := hg.lists.chg hc4 (fun t => t) (fun _ _ t => t) (fun _ _ t => t)
  have cw40 : w4.cell? ⟨kb, 0, none⟩ = some (.slice none 0 0) := hb4.cell 0
  have cw44 : w4.cell? ⟨kb, 4, none⟩ = some (.slice none 0 0) := hb4.cell 4
  have cw46 : w4.cell? ⟨kb, 6, none⟩ = some (.slice none 0 0) := hb4.cell 6
  have cw48 : w4.cell? ⟨kb, 8, none⟩ = some (.slice none 0 0) := hb4.cell 8
  have cw410 : w4.cell? ⟨kb, 10, none⟩ = some (.slice none 0 0) := hb4.cell 10
  have cw412 : w4.cell? ⟨kb, 12, none⟩ = some (.slice none 0 0) := hb4.cell 12
  have cw414 : w4.cell? ⟨kb, 14, none⟩ = some (.slice none 0 0) := hb4.cell 14
  have cw416 : w4.cell? ⟨kb, 16, none⟩ = some (.slice none 0 0) := hb4.cell 16
  have cw418 : w4.cell? ⟨kb, 18, none⟩ = some (.slice none 0 0) := hb4.cell 18
  have cw420 : w4.cell? ⟨kb, 20, none⟩ = some (.slice none 0 0) := hb4.cell 20
  have cw422 : w4.cell? ⟨kb, 22, none⟩ = some (.slice none 0 0) := hb4.cell 22
  have cw424 : w4.cell? ⟨kb, 24, none⟩ = some (.slice none 0 0) := hb4.cell 24
  have cw426 : w4.cell? ⟨kb, 26, none⟩ = some (.slice none 0 0) := hb4.cell 26
  have cw428 : w4.cell? ⟨kb, 28, none⟩ = some (.slice none 0 0) := hb4.cell 28
  have ci4 : w4.cell? ⟨kb, 2, none⟩ = some (.slice I N ci) := hb4.cell 2
  go_wp2_with fail
  refine (marked_ints w4 B N ci I A (fun j => (marks j 0 (L j).length).length) c hl4.outer (fun j hj => ⟨by have := Sees.of_own (hl4.inner j hj); simpa only [marks_length] using this, by simp only [marks_length]; have := h.short j hj; omega⟩) hN).mono ?_
  rintro e w5 ⟨rfl, hc5⟩
  have hb5 := hb4.chg hc5 (fun t => t)
  have cw50 : w5.cell? ⟨kb, 0, none⟩ = some (.slice none 0 0) := hb5.cell 0
  have cw54 : w5.cell? ⟨kb, 4, none⟩ = some (.slice none 0 0) := hb5.cell 4
  have cw56 : w5.cell? ⟨kb, 6, none⟩ = some (.slice none 0 0) := hb5.cell 6
  have cw58 : w5.cell? ⟨kb, 8, none⟩ = some (.slice none 0 0) := hb5.cell 8
  have cw510 : w5.cell? ⟨kb, 10, none⟩ = some (.slice none 0 0) := hb5.cell 10
  have cw512 : w5.cell? ⟨kb, 12, none⟩ = some (.slice none 0 0) := hb5.cell 12
  have cw514 : w5.cell? ⟨kb, 14, none⟩ = some (.slice none 0 0) := hb5.cell 14
  have cw516 : w5.cell? ⟨kb, 16, none⟩ = some (.slice none 0 0) := hb5.cell 16
  have cw518 : w5.cell? ⟨kb, 18, none⟩ = some (.slice none 0 0) := hb5.cell 18
  have cw520 : w5.cell? ⟨kb, 20, none⟩ = some (.slice none 0 0) := hb5.cell 20
  have cw522 : w5.cell? ⟨kb, 22, none⟩ = some (.slice none 0 0) := hb5.cell 22
  have cw524 : w5.cell? ⟨kb, 24, none⟩ = some (.slice none 0 0) := hb5.cell 24
  have cw526 : w5.cell? ⟨kb, 26, none⟩ = some (.slice none 0 0) := hb5.cell 26
  have cw528 : w5.cell? ⟨kb, 28, none⟩ = some (.slice none 0 0) := hb5.cell 28
  go_wp2_with (first
    | (go_at_call 68; refine (marked_Texts _).mono ?_; rintro e w' ⟨rfl, rfl⟩)
    | (go_at_call 70; refine (marked_Nums _).mono ?_; rintro e w' ⟨rfl, rfl⟩)
    | (go_at_call 71; refine (marked_Spans _).mono ?_; rintro e w' ⟨rfl, rfl⟩)
    | (go_at_call 72; refine (marked_Locks _).mono ?_; rintro e w' ⟨rfl, rfl⟩)
    | (go_at_call 73; refine (marked_Images _).mono ?_; rintro e w' ⟨rfl, rfl⟩)
    | (go_at_call 74; refine (marked_Records _).mono ?_; rintro e w' ⟨rfl, rfl⟩)
    | (go_at_call 75; refine (marked_Packets _).mono ?_; rintro e w' ⟨rfl, rfl⟩)
    | (go_at_call 76; refine (marked_Frames _).mono ?_; rintro e w' ⟨rfl, rfl⟩)
    | (go_at_call 77; refine (marked_Waits _).mono ?_; rintro e w' ⟨rfl, rfl⟩)
    | (go_at_call 78; refine (marked_Revokes _).mono ?_; rintro e w' ⟨rfl, rfl⟩)
    | (go_at_call 79; refine (marked_Entries _).mono ?_; rintro e w' ⟨rfl, rfl⟩)
    | (go_at_call 80; refine (marked_Parts _).mono ?_; rintro e w' ⟨rfl, rfl⟩)
    | (go_at_call 81; refine (marked_Msgs _).mono ?_; rintro e w' ⟨rfl, rfl⟩)
    | (go_at_call 82; refine (marked_Steps _).mono ?_; rintro e w' ⟨rfl, rfl⟩))
  go_ret
  refine ⟨rfl, ?_⟩
  have h1 : Chg (InnerFoot N A) w w5 := (((Chg.refl (InnerFoot N A) w).drewN q).trans hc2 (fun _ _ t => t)).trans hg.chg (fun _ _ t => t) |>.trans (T := No) (hc4.trans hc5 (fun _ _ t => t)) (fun _ _ t => t.elim)
  exact h1.mono Hinner.out
end Go.Proofs.YtinklonbkhmpdaaGreat
