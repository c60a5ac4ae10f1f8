/-
  RingPlays: the state between two calls, and how it turns. (The plain part.)
-/
import Derived.Test.YtinklonbkhmpdaaGreatBookIdle
import Derived.Test.YtinklonbkhmpdaaGreatRingAlive
namespace Go.Proofs.YtinklonbkhmpdaaGreat.ringPlays
open Go.RowKit

theorem own_lower {w : World} {B B' n size : Nat} {E : TypeId} {v : Value} {xs : List Value} (h : w.ownsRow B E size v n xs) (hB : B' ≤ B) : w.ownsRow B' E size v n xs := by
  refine ⟨h.1, ?_⟩
  rcases h.2 with h0 | ⟨g, cap, cur, e, hb, r⟩
  · exact .inl h0
  · exact .inr ⟨g, cap, cur, e, Nat.le_trans hB hb, r⟩

theorem _root_.Go.Proofs.YtinklonbkhmpdaaGreat.BookAt.lower {w : World} {B B' kb N : Nat} {F : Nat → Prop} (h : BookAt w B kb N F) (hB : B' ≤ B) : BookAt w B' kb N F := by
  obtain ⟨I, W, ci, cw, A, A', c, c', L, h, hF⟩ := h
  exact ⟨I, W, ci, cw, A, A', c, c', L, ⟨Nat.le_trans hB h.base, h.blk, own_lower h.outer hB, own_lower h.was hB, h.apart, h.short, fun i hi => own_lower (h.inner i hi) hB, fun i hi => own_lower (h.copy i hi) hB, h.sep⟩, hF⟩

/-- The ring holds lr, the slice x holds lx, the book K lists: each in blocks of its own. -/
structure St (w wr : World) (B p kb M K : Nat) (F : Nat → Prop) (A : Option Addr) (c : Nat) (X : Option Addr) (d : Nat) (lr lx : List Int) : Prop where
  ring : riAt wr B p A lr.length c (nums lr) M
  x : wr.ownsRow B 3 1 (.slice X lx.length d) lx.length (nums lx)
  xr : ∀ j, blkOf X = some j → ¬ Foot p A j
  book : BookAt wr B kb K F
  fr : ∀ j, F j → ¬ Foot p A j
  fx : ∀ j, F j → blkOf X ≠ some j
  below : Below B w wr
  base : B ≤ wr.heap.size

section
variable {w wr w1 : World} {B p kb M K : Nat} {F F' : Nat → Prop} {A X Y : Option Addr} {c d : Nat} {lr lx lr' lx' : List Int}

theorem St.quiet (h : St w wr B p kb M K F A c X d lr lx) (hc : Chg No wr w1) : St w w1 B p kb M K F A c X d lr lx :=
  ⟨h.ring.chg hc (fun _ _ t => t), own_chg h.x hc (fun _ _ t => t), h.xr, h.book.chg hc (fun _ _ t => t), h.fr, h.fx, h.below.trans (hc.below h.base (fun _ t => t.elim)), Nat.le_trans h.base hc.size⟩

theorem St.notFoot (h : St w wr B p kb M K F A c X d lr lx) {g : Nat} {t : TypeId} {cs : Array Value} (hb : Blk wr g t cs) (h1 : 29 ≠ t) (h2 : 3 ≠ t) : ¬ Foot p A g := by
  rintro (e | e)
  · exact h.ring.blk.ne_of_type hb h1 e.symm
  · exact own_ne h.ring.own hb h2 e

theorem St.turn (h : St w wr B p kb M K F A c X d lr lx) {n : Nat} {xs : List Value} (hm : Moved 29 3 1 wr w1 B p A n xs M) (hn : n = lr'.length) (hx : xs = nums lr') :
    ∃ A' c', St w w1 B p kb M K F A' c' X d lr' lx ∧ Chg (Foot p A) wr w1 := by
  subst hn hx
  obtain ⟨A', c', hr, hc, hf⟩ := hm
  refine ⟨A', c', ⟨hr, own_chg h.x hc (fun k hk => h.xr k (by rw [ownBlock_slice] at hk; exact hk)), ?_, h.book.chg hc h.fr, ?_, h.fx, h.below.trans (hc.below h.base h.ring.foot_ge), Nat.le_trans h.base hc.size⟩, hc⟩
  · rintro j hj (rfl | e)
    · exact h.xr _ hj (.inl rfl)
    · rcases hf j e with e' | e'
      · exact h.xr j hj (.inr e')
      · have := (own_lt h.x hj).2; omega
  · rintro j hj (rfl | e)
    · exact h.fr _ hj (.inl rfl)
    · rcases hf j e with e' | e'
      · exact h.fr j hj (.inr e')
      · have := h.book.lt j hj; omega

theorem St.newX (h : St w wr B p kb M K F A c X d lr lx) (hc : Chg No wr w1) {n d' C : Nat} {X' : Option Addr} {xs : List Value} (ho : w1.ownsRow C 3 1 (.slice X' n d') n xs) (hC : wr.heap.size ≤ C) (hn : n = lx'.length) (hx : xs = nums lx') :
    St w w1 B p kb M K F A c X' d' lr lx' := by
  subst hn hx
  have hq := h.quiet hc
  refine ⟨hq.ring, own_lower ho (Nat.le_trans h.base hC), ?_, hq.book, h.fr, ?_, hq.below, hq.base⟩
  · intro j hj hf
    have := (own_lt ho hj).1
    have := h.ring.foot_lt j hf
    omega
  · intro j hj hx
    have := (own_lt ho hx).1
    have := h.book.lt j hj
    omega

theorem St.noX (h : St w wr B p kb M K F A c X d lr lx) : St w wr B p kb M K F A c none 0 lr [] :=
  ⟨h.ring, World.ownsRow_nil _ _ _ _, by simp [blkOf], h.book, h.fr, by simp [blkOf], h.below, h.base⟩

theorem St.storeX {g : Nat} (h : St w wr B p kb M K F A c (some ⟨g, 0, none⟩) d lr lx) (k : Nat) (v : Int) :
    St w (wr.setCell ⟨g, k, none⟩ (.int .i64 v)) B p kb M K F A c (some ⟨g, 0, none⟩) d lr (lx.set k v) := by
  have hc : Chg (fun j => j = g) wr (wr.setCell ⟨g, k, none⟩ (.int .i64 v)) := (Chg.refl (fun j => j = g) wr).setCell (p := ⟨g, k, none⟩) (fun _ => rfl) _
  have hg : blkOf (some ⟨g, 0, none⟩) = some g := rfl
  have hx := (h.x.stored k (.int .i64 v)).1
  refine ⟨h.ring.chg hc ?_, ?_, h.xr, h.book.chg hc ?_, h.fr, h.fx, h.below.trans (hc.below h.base ?_), Nat.le_trans h.base hc.size⟩
  · rintro j hj rfl
    exact h.xr _ hg hj
  · rw [List.length_set]
    unfold nums at hx ⊢
    rw [List.map_set]
    exact hx
  · rintro j hj rfl
    exact h.fx _ hj hg
  · rintro j rfl
    exact (own_lt h.x hg).1

theorem St.kept (h : St w wr B p kb M K F A c X d lr lx) (hc : Chg F wr w1) (hb : BookAt w1 B kb (K + 1) F') (hF : ∀ k, F' k → F k ∨ blkOf Y = some k ∨ wr.heap.size ≤ k)
    (hY : ∀ k, blkOf Y = some k → ¬ Foot p A k ∧ blkOf X ≠ some k) : St w w1 B p kb M (K + 1) F' A c X d lr lx := by
  refine ⟨h.ring.chg hc (fun j hj t => h.fr j t hj), own_chg h.x hc (fun k hk t => h.fx k t (by rw [ownBlock_slice] at hk; exact hk)), h.xr, hb, fun j hj => ?_, fun j hj => ?_, h.below.trans (hc.below h.base h.book.ge), Nat.le_trans h.base hc.size⟩
  · rcases hF j hj with e | e | e
    · exact h.fr j e
    · exact (hY j e).1
    · intro hf; have := h.ring.foot_lt j hf; omega
  · rcases hF j hj with e | e | e
    · exact h.fx j e
    · exact (hY j e).2
    · intro hf; have := (own_lt h.x hf).2; omega
end

/-- Two appends onto nil, one behind the other: all is new. -/
theorem fresh2 {w w1 w2 : World} {E : TypeId} {size n n2 c1 c2 : Nat} {A1 A2 : Option Addr} {xs ys : List Value} (h1 : Grew w w.heap.size E size none n xs A1 c1 w1) (h2 : Grew w1 w.heap.size E size A1 n2 ys A2 c2 w2) : Chg No w w2 := by
  have hc1 : Chg No w w1 := h1.chg.mono (by simp [blkOf])
  exact hc1.trans h2.chg (fun i hi hs => by have := (own_lt h1.own hs).1; omega) |>.mono (fun _ _ t => t)

/-- The loop over the calls. -/
def Plays (w : World) (B p kb M len k : Nat) (x i : Value) (wr : World) : Prop :=
  ∃ K F A c X d ls, x = .slice X (List.length ls) d ∧ i = .int .i64 ((K : Nat) : Int) ∧ K + k = len ∧ St w wr B p kb M K F A c X d ls ls

/-- Behind one call, ahead of the looks: x and good. -/
def Done (w : World) (B p kb M K oB : Nat) (cs : Array Value) (x good : Value) (wr : World) : Prop :=
  ∃ F A c X d ls, x = .slice X (List.length ls) d ∧ good = .bool true ∧ St w wr B p kb M K F A c X d ls ls ∧ Blk wr oB 49 cs

/-- One call, as it stands in memory. -/
def opCells (kind n v : Int) (S : Option Addr) (sl sc : Nat) : Array Value := #[.int .i64 kind, .int .i64 n, .int .i64 v, .slice S sl sc]

def OpAt (w : World) (b off i : Nat) : Prop :=
  ∃ kind n v S sl sc zs, w.cell? ⟨b, off + i * 4, none⟩ = some (.int .i64 kind) ∧ w.cell? ⟨b, off + i * 4 + 1, none⟩ = some (.int .i64 n) ∧ w.cell? ⟨b, off + i * 4 + 2, none⟩ = some (.int .i64 v) ∧
    w.cell? ⟨b, off + i * 4 + 3, none⟩ = some (.slice S sl sc) ∧ sl ≤ sc ∧ sc ≤ maxLen ∧ Sees w w.heap.size 1 S sl (nums zs)

theorem ref_room (k : Int) (w : World) : Calls Tryz.prog 6 #[.int .i64 k] w fun e w' => e = .returned (.int .i64 (roomOf k)) ∧ w = w' := by
  have e : roomOf k = (min (max k 0) 100000).toNat := rfl
  rcases Int.lt_or_le k 0 with h | h
  · obtain e' : (roomOf k : Int) = 0 := by omega
    have E := hide e'
    clear e e'
    go_enter Tryz.func6, Tryz.ntmps6
    go_wp2
    all_goals go_ret
    all_goals exact ⟨by rw [E.out]; rfl, rfl⟩
  · rcases Int.lt_or_le 100000 k with h' | h'
    · obtain e' : (roomOf k : Int) = 100000 := by omega
      have E := hide e'
      clear e e'
      go_enter Tryz.func6, Tryz.ntmps6
      go_wp2
      all_goals go_ret
      all_goals exact ⟨by rw [E.out]; rfl, rfl⟩
    · obtain e' : (roomOf k : Int) = k := by omega
      have E := hide e'
      clear e e'
      go_enter Tryz.func6, Tryz.ntmps6
      go_wp2
      all_goals go_ret
      all_goals exact ⟨by rw [E.out]; rfl, rfl⟩
end Go.Proofs.YtinklonbkhmpdaaGreat.ringPlays
