/-
  The box of BoxPlays: the zero value, or one that was made; its calls, and where the walk stands.
-/
import Derived.Test.YtinklonbkhmpdaaBox
import Derived.Test.YtinklonbkhmpdaaLies
namespace Go.Proofs.Ytinklonbkhmpdaa.boxPlays
open Go.RowKit

abbrev nums (l : List Int) : List Value := l.map fun x => Value.int .i64 x

def Bx (w : World) (B : Nat) (zero : Bool) (g c cap : Nat) (xs : List Int) (cl : Bool) : Prop :=
  (zero = true ∧ BoxZ w B g ∧ c = g ∧ xs = [] ∧ cap = 0) ∨ (zero = false ∧ BoxAt w B g c cap xs cl)

section
variable {S : Nat → Prop} {w w' : World} {B g c cap : Nat} {zero cl : Bool} {xs : List Int}
theorem Bx.chg (h : Bx w B zero g c cap xs cl) (hc : Chg S w w') (hn : ∀ k, BFoot g c k → ¬ S k) : Bx w' B zero g c cap xs cl := by
  rcases h with ⟨h0, hz, h1⟩ | ⟨h0, hb⟩
  · exact .inl ⟨h0, hz.chg hc (hn g (.inl rfl)), h1⟩
  · exact .inr ⟨h0, hb.chg hc hn⟩
theorem Bx.ge (h : Bx w B zero g c cap xs cl) : ∀ k, BFoot g c k → B ≤ k := by
  rcases h with ⟨h0, hz, rfl, h1⟩ | ⟨h0, hb⟩
  · rintro k (rfl | rfl) <;> exact hz.gb
  · rintro k (rfl | rfl)
    · exact hb.gb
    · exact hb.cb
theorem Bx.lt (h : Bx w B zero g c cap xs cl) : ∀ k, BFoot g c k → k < w.heap.size := by
  rcases h with ⟨h0, hz, rfl, h1⟩ | ⟨h0, hb⟩
  · rintro k (rfl | rfl) <;> exact hz.blk.lt
  · rintro k (rfl | rfl)
    · exact hb.blk.lt
    · exact hb.clt
theorem Bx.fits (h : Bx w B zero g c cap xs cl) : xs.length ≤ cap := by
  rcases h with ⟨h0, hz, _, rfl, h1⟩ | ⟨h0, hb⟩
  · simp
  · exact hb.fits
end

section
variable (w : World) (B g c cap : Nat) (zero cl : Bool) (xs : List Int)
theorem bx_close (h : Bx w B zero g c cap xs cl) :
    Calls Try.prog 31 #[.pointer (some ⟨g, 0, none⟩)] w fun e w' => e = .returned (.bool (!zero && !cl)) ∧ Bx w' B zero g c cap xs true ∧ Chg (BFoot g c) w w' := by
  rcases h with ⟨rfl, hz, rfl, h1⟩ | ⟨rfl, hb⟩
  · exact (boxz_close w B c hz).mono fun e w' ⟨he, hw⟩ => ⟨he, by subst hw; exact ⟨.inl ⟨rfl, hz, rfl, h1⟩, Chg.refl _ _⟩⟩
  · cases cl
    · exact (box_close_open w B g c cap xs hb).mono fun e w' ⟨he, hb', hc⟩ => ⟨he, .inr ⟨rfl, hb'⟩, hc⟩
    · exact (box_close_shut w B g c cap xs hb).mono fun e w' ⟨he, hb', hc⟩ => ⟨he, .inr ⟨rfl, hb'⟩, hc⟩
theorem bx_send_yes (v : Int) (h : Bx w B zero g c cap xs false) (hr : xs.length < cap) :
    Calls Try.prog 33 #[.pointer (some ⟨g, 0, none⟩), .int .i64 v] w fun e w' => e = .returned (.bool true) ∧ Bx w' B zero g c cap (xs ++ [v]) false ∧ Chg (BFoot g c) w w' := by
  rcases h with ⟨rfl, hz, rfl, _, h1⟩ | ⟨rfl, hb⟩
  · omega
  · exact (box_send_room w B g c cap xs v hb hr).mono fun e w' ⟨he, hb', hc⟩ => ⟨he, .inr ⟨rfl, hb'⟩, hc⟩
theorem bx_send_no (v : Int) (h : Bx w B zero g c cap xs cl) (hr : cl = true ∨ cap ≤ xs.length) :
    Calls Try.prog 33 #[.pointer (some ⟨g, 0, none⟩), .int .i64 v] w fun e w' => e = .returned (.bool false) ∧ Bx w' B zero g c cap xs cl ∧ Chg (BFoot g c) w w' := by
  rcases h with ⟨rfl, hz, rfl, h1⟩ | ⟨rfl, hb⟩
  · exact (boxz_send w B c v hz).mono fun e w' ⟨he, hb', hc⟩ => ⟨he, .inl ⟨rfl, hb', rfl, h1⟩, hc.mono (fun k _ e => .inl e)⟩
  · cases cl
    · exact (box_send_full w B g c cap xs v hb (hr.resolve_left (by simp))).mono fun e w' ⟨he, hb', hc⟩ => ⟨he, .inr ⟨rfl, hb'⟩, hc⟩
    · exact (box_send_shut w B g c cap xs v hb).mono fun e w' ⟨he, hb', hc⟩ => ⟨he, .inr ⟨rfl, hb'⟩, hc⟩
theorem bx_take_some (x : Int) (h : Bx w B zero g c cap (x :: xs) cl) :
    Calls Try.prog 32 #[.pointer (some ⟨g, 0, none⟩)] w fun e w' => e = .returned (.tuple #[.int .i64 x, .bool true]) ∧ Bx w' B zero g c cap xs cl ∧ Chg (BFoot g c) w w' := by
  rcases h with ⟨rfl, hz, rfl, h1, _⟩ | ⟨rfl, hb⟩
  · cases h1
  · exact (box_take_some w B g c cap x xs cl hb).mono fun e w' ⟨he, hb', hc⟩ => ⟨he, .inr ⟨rfl, hb'⟩, hc⟩
theorem bx_take_none (h : Bx w B zero g c cap [] cl) :
    Calls Try.prog 32 #[.pointer (some ⟨g, 0, none⟩)] w fun e w' => e = .returned (.tuple #[.int .i64 0, .bool false]) ∧ w = w' := by
  rcases h with ⟨rfl, hz, rfl, h1, _⟩ | ⟨rfl, hb⟩
  · exact boxz_take w B c hz
  · exact box_take_none w B g c cap cl hb
theorem bx_len (h : Bx w B zero g c cap xs cl) :
    Calls Try.prog 34 #[.pointer (some ⟨g, 0, none⟩)] w fun e w' => e = .returned (.int .i64 (xs.length : Int)) ∧ w = w' := by
  rcases h with ⟨rfl, hz, rfl, rfl, _⟩ | ⟨rfl, hb⟩
  · exact boxz_len w B c hz
  · exact box_len w B g c cap xs cl hb
end

/-- Where the walk stands: the box and the list hold the same. -/
structure St (w wr : World) (zero : Bool) (g c cap : Nat) (X : Option Addr) (d : Nat) (xs : List Int) (cl : Bool) : Prop where
  box : Bx wr w.heap.size zero g c cap xs cl
  x : Lies wr w.heap.size 1 X xs.length d (nums xs)
  apart : ∀ j, blkOf X = some j → ¬ BFoot g c j
  below : Below w.heap.size w wr

theorem St.quiet {w wr w1 : World} {zero cl : Bool} {g c cap d : Nat} {X : Option Addr} {xs : List Int} (h : St w wr zero g c cap X d xs cl) (hc : Chg No wr w1) : St w w1 zero g c cap X d xs cl :=
  ⟨h.box.chg hc (fun _ _ t => t), h.x.chg hc (fun _ _ t => t), h.apart, h.below.trans (hc.below h.below.size (fun _ t => t.elim))⟩
/-- The box turns, the list not yet. -/
theorem St.turn {w wr w1 : World} {zero cl : Bool} {g c cap d : Nat} {X : Option Addr} {xs : List Int} (h : St w wr zero g c cap X d xs cl) (hc : Chg (BFoot g c) wr w1) :
    Lies w1 w.heap.size 1 X xs.length d (nums xs) ∧ Below w.heap.size w w1 :=
  ⟨h.x.chg hc h.apart, h.below.trans (hc.below h.below.size h.box.ge)⟩

def BPlays (w : World) (zero : Bool) (g c cap len k : Nat) (x cl i : Value) (wr : World) : Prop :=
  ∃ K X d xs b, x = .slice X (List.length xs) d ∧ cl = .bool b ∧ i = .int .i64 ((K : Nat) : Int) ∧ K + k = len ∧ St w wr zero g c cap X d xs b
def BDone (w : World) (zero : Bool) (g c cap : Nat) (x cl : Value) (wr : World) : Prop :=
  ∃ X d xs b, x = .slice X (List.length xs) d ∧ cl = .bool b ∧ St w wr zero g c cap X d xs b
end Go.Proofs.Ytinklonbkhmpdaa.boxPlays
