/-
  The walk of the seat's Choose.
-/
import Derived.Test.YtfbakelpplpomaaGreatDoorWalkSeatD
namespace Go.Proofs.YtfbakelpplpomaaGreatDoor.WalkSeat
open Go.RowKit Go.Proofs.YtfbakelpplpomaaGreatDoor.WalkVar Go.Proofs.YtfbakelpplpomaaGreatDoor.WalkScan Go.Proofs.YtfbakelpplpomaaGreatDoor.WalkCrc
open Pl.Seat (numV numR txtV txtR numP txtP Head isH putH openS)
set_option linter.unusedVariables false
set_option linter.unusedSimpArgs false
set_option maxRecDepth 100000

/-- a block that has a head -/
structure HeadAt (b : Nat) (H : Head) (w : World) : Prop where
  c0 : w.cell? ⟨b, 0, none⟩ = some (.int .i64 H.epoch)
  c1 : w.cell? ⟨b, 1, none⟩ = some (.int .i64 H.half)
  c2 : w.cell? ⟨b, 2, none⟩ = some (.int .i64 H.pack)
  c3 : w.cell? ⟨b, 3, none⟩ = some (.int .i64 H.num)
  fz : ∀ o, w.frozen? ⟨b, o, none⟩ = false
theorem HeadAt.lt {b : Nat} {H : Head} {w : World} (h : HeadAt b H w) : b < w.heap.size := World.block_lt_of_cell? w _ h.c0
theorem HeadAt.kept {b : Nat} {H : Head} {w w' : World} (h : HeadAt b H w) (hb : w'.heap[b]? = w.heap[b]?) : HeadAt b H w' := by
  have hc : ∀ o, w'.cell? ⟨b, o, none⟩ = w.cell? ⟨b, o, none⟩ := fun o => World.cell?_of_block (w := w) hb
  have hf : ∀ o, w'.frozen? ⟨b, o, none⟩ = w.frozen? ⟨b, o, none⟩ := fun o => World.frozen?_of_block (w := w) hb
  exact ⟨by rw [hc]; exact h.c0, by rw [hc]; exact h.c1, by rw [hc]; exact h.c2, by rw [hc]; exact h.c3, fun o => by rw [hf]; exact h.fz o⟩
theorem HeadAt.after {b : Nat} {H : Head} {w w' : World} (h : HeadAt b H w) (hB : Below w.heap.size w w') : HeadAt b H w' := h.kept (hB.block b h.lt)
theorem HeadAt.alloc {b : Nat} {H : Head} {w : World} (h : HeadAt b H w) (o : Obj) : HeadAt b H (w.alloc o) := h.kept (Below.heap_alloc w o b h.lt)
theorem HeadAt.new (w : World) (a b c d : Int) (T : TypeId) : HeadAt w.heap.size ⟨a, b, c, d⟩ (w.alloc (.cells #[.int .i64 a, .int .i64 b, .int .i64 c, .int .i64 d] T)) := ⟨by go_simp, by go_simp, by go_simp, by go_simp, fun o => by go_simp⟩
theorem HeadAt.cell4 {b : Nat} {H : Head} {w : World} (h : HeadAt b H w) : Cell4 b w := ⟨fun i hi => by
  have : i = 0 ∨ i = 1 ∨ i = 2 ∨ i = 3 := by omega
  rcases this with rfl | rfl | rfl | rfl
  · exact ⟨_, h.c0⟩
  · exact ⟨_, h.c1⟩
  · exact ⟨_, h.c2⟩
  · exact ⟨_, h.c3⟩, h.fz⟩
/-- four stores into a block -/
def put4 (w : World) (b : Nat) (x0 x1 x2 x3 : Value) : World := (((w.setCell ⟨b, 0, none⟩ x0).setCell ⟨b, 1, none⟩ x1).setCell ⟨b, 2, none⟩ x2).setCell ⟨b, 3, none⟩ x3
theorem put4_head {b : Nat} {w : World} (h : Cell4 b w) (H : Head) : HeadAt b H (put4 w b (.int .i64 H.epoch) (.int .i64 H.half) (.int .i64 H.pack) (.int .i64 H.num)) := by
  obtain ⟨k0, k1, k2, k3, _⟩ := h.stored
  unfold put4
  refine ⟨?_, ?_, ?_, k3 _ _ _ _, fun o => by rw [World.frozen?_setCell, World.frozen?_setCell, World.frozen?_setCell, World.frozen?_setCell]; exact h.2 o⟩
  · rw [World.cell?_setCell_other _ _ _ _ (by simp), World.cell?_setCell_other _ _ _ _ (by simp), World.cell?_setCell_other _ _ _ _ (by simp)]; exact k0 _
  · rw [World.cell?_setCell_other _ _ _ _ (by simp), World.cell?_setCell_other _ _ _ _ (by simp)]; exact k1 _ _
  · rw [World.cell?_setCell_other _ _ _ _ (by simp)]; exact k2 _ _ _
theorem put4_block {b c : Nat} (w : World) (hne : c ≠ b) (x0 x1 x2 x3 : Value) : (put4 w b x0 x1 x2 x3).heap[c]? = w.heap[c]? := by
  unfold put4
  rw [Below.heap_setCell _ _ _ _ hne, Below.heap_setCell _ _ _ _ hne, Below.heap_setCell _ _ _ _ hne, Below.heap_setCell _ _ _ _ hne]

/-- is a sector's head one of the slot? -/
def okS (l : List UInt8) (i : Int) : Bool := takeB l && decide ((takeV l).epoch % 2 = i)
def best1 (l : List UInt8) : Head := if okS l 0 = true then takeV l else Pl.Seat.Head.zero
def best2 (l m : List UInt8) : Head := if okS m 1 = true ∧ (best1 l).epoch < (takeV m).epoch then takeV m else best1 l
theorem takeV_is (l : List UInt8) : (takeB l = true ∧ isH (takeV l) = true) ∨ (takeB l = false ∧ takeV l = Pl.Seat.Head.zero) := by
  unfold takeB takeV
  cases h : Pl.Seat.takeH tailU l with
  | none => right; exact ⟨rfl, rfl⟩
  | some x => left; exact ⟨rfl, ((Pl.Seat.takeH_iff tailU tailU_len l x).1 h).1⟩
theorem takeV_pos (l : List UInt8) (h : takeB l = true) : 1 ≤ (takeV l).epoch := by
  rcases takeV_is l with ⟨_, h2⟩ | ⟨h1, _⟩
  · exact ((Pl.Seat.isH_iff _).1 h2).1
  · rw [h] at h1; simp at h1
theorem best2_zero (l m : List UInt8) : (best2 l m = Pl.Seat.Head.zero) ∨ 1 ≤ (best2 l m).epoch := by
  unfold best2 best1 okS
  by_cases h1 : (takeB m && decide ((takeV m).epoch % 2 = 1)) = true ∧ (if (takeB l && decide ((takeV l).epoch % 2 = 0)) = true then takeV l else Pl.Seat.Head.zero).epoch < (takeV m).epoch
  · rw [if_pos h1]
    right
    have := h1.1
    rw [Bool.and_eq_true] at this
    exact takeV_pos m this.1
  · rw [if_neg h1]
    by_cases h2 : (takeB l && decide ((takeV l).epoch % 2 = 0)) = true
    · rw [if_pos h2]
      right
      rw [Bool.and_eq_true] at h2
      exact takeV_pos l h2.1
    · rw [if_neg h2]
      left; rfl
/-- the best head behind k sectors -/
def bestK (l m : List UInt8) : Nat → Head
  | 0 => Pl.Seat.Head.zero
  | 1 => best1 l
  | _ => best2 l m

end Go.Proofs.YtfbakelpplpomaaGreatDoor.WalkSeat
