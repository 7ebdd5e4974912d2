/-
  The walks of the document's Bare, Take of the seat.
-/
import Derived.Test.YtfbakelpplpomaaDoorWalkSeatF
import Derived.Test.YtfbakelpplpomaaDoorWalkSeatE
namespace Go.Proofs.YtfbakelpplpomaaDoor.WalkSeat
open Go.RowKit Go.Proofs.YtfbakelpplpomaaDoor.WalkVar Go.Proofs.YtfbakelpplpomaaDoor.WalkScan Go.Proofs.YtfbakelpplpomaaDoor.WalkCrc
open Pl.Seat (numV numR txtV txtR numP txtP Head isH putH openS)
set_option linter.unusedVariables false
set_option linter.unusedSimpArgs false
set_option maxRecDepth 100000

theorem all_zero_drop (l : List UInt8) (a : Nat) : (l.drop a).all (· == 0) = true ↔ ∀ j, a ≤ j → j < l.length → l.getD j 0 = 0 := by
  rw [List.all_eq_true]
  constructor
  · intro h j h1 h2
    have hm : l[j] ∈ l.drop a := by
      rw [List.mem_drop_iff_getElem]
      exact ⟨j - a, by omega, by congr 1; omega⟩
    have := h _ hm
    simp only [List.getD_eq_getElem?_getD, List.getElem?_eq_getElem h2, Option.getD_some]
    simpa using this
  · intro h x hx
    rw [List.mem_drop_iff_getElem] at hx
    obtain ⟨i, hi, rfl⟩ := hx
    have := h (a + i) (by omega) (by omega)
    simp only [List.getD_eq_getElem?_getD] at this
    rw [List.getElem?_eq_getElem (by omega)] at this
    simpa using this
/-- a block that has the document's scan -/
structure Sc3 (b : Nat) (s : ByteArray) (a e : Nat) (w : World) : Prop where
  c0 : w.cell? ⟨b, 0, none⟩ = some (.string s)
  c1 : w.cell? ⟨b, 1, none⟩ = some (.int .i64 a)
  c2 : w.cell? ⟨b, 2, none⟩ = some (.int .i64 e)
  fz : ∀ o, w.frozen? ⟨b, o, none⟩ = false
theorem Sc3.lt {b : Nat} {s : ByteArray} {a e : Nat} {w : World} (h : Sc3 b s a e w) : b < w.heap.size := World.block_lt_of_cell? w _ h.c0
theorem Sc3.kept {b : Nat} {s : ByteArray} {a e : Nat} {w w' : World} (h : Sc3 b s a e w) (hb : w'.heap[b]? = w.heap[b]?) : Sc3 b s a e w' := by
  have hc : ∀ o, w'.cell? ⟨b, o, none⟩ = w.cell? ⟨b, o, none⟩ := fun o => World.cell?_of_block (w := w) hb
  have hf : ∀ o, w'.frozen? ⟨b, o, none⟩ = w.frozen? ⟨b, o, none⟩ := fun o => World.frozen?_of_block (w := w) hb
  exact ⟨by rw [hc]; exact h.c0, by rw [hc]; exact h.c1, by rw [hc]; exact h.c2, fun o => by rw [hf]; exact h.fz o⟩
theorem Sc3.after {b : Nat} {s : ByteArray} {a e : Nat} {w w' : World} (h : Sc3 b s a e w) (hB : Below w.heap.size w w') : Sc3 b s a e w' := h.kept (hB.block b h.lt)
theorem Sc3.new (w : World) (s : ByteArray) (a e : Nat) (T : TypeId) : Sc3 w.heap.size s a e (w.alloc (.cells #[.string s, .int .i64 a, .int .i64 e] T)) := ⟨by go_simp, by go_simp, by go_simp, fun o => by go_simp⟩
/-- three stores into a block -/
def put3 (w : World) (b : Nat) (x0 x1 x2 : Value) : World := ((w.setCell ⟨b, 0, none⟩ x0).setCell ⟨b, 1, none⟩ x1).setCell ⟨b, 2, none⟩ x2
theorem put3_sc {b : Nat} {s : ByteArray} {a e : Nat} {w : World} (h : Sc3 b s a e w) (s' : ByteArray) (a' e' : Nat) : Sc3 b s' a' e' (put3 w b (.string s') (.int .i64 a') (.int .i64 e')) := by
  unfold put3
  obtain ⟨k0, k1, k2⟩ := stored3 (three h.c0 h.c1 h.c2)
  refine ⟨?_, ?_, k2 _ _ _, fun o => by rw [World.frozen?_setCell, World.frozen?_setCell, World.frozen?_setCell]; exact h.fz o⟩
  · rw [World.cell?_setCell_other _ _ _ _ (by simp), World.cell?_setCell_other _ _ _ _ (by simp)]; exact k0 _
  · rw [World.cell?_setCell_other _ _ _ _ (by simp)]; exact k1 _ _
theorem put3_block {b c : Nat} (w : World) (hne : c ≠ b) (x0 x1 x2 : Value) : (put3 w b x0 x1 x2).heap[c]? = w.heap[c]? := by
  unfold put3
  rw [Below.heap_setCell _ _ _ _ hne, Below.heap_setCell _ _ _ _ hne, Below.heap_setCell _ _ _ _ hne]
theorem below_three {w W : World} {B b : Nat} (h : Below B w W) (hb : B ≤ b) (v x y : Value) : Below B w (put3 W b v x y) :=
  ((h.setCell (p := ⟨b, 0, none⟩) hb v).setCell (p := ⟨b, 1, none⟩) hb x).setCell (p := ⟨b, 2, none⟩) hb y
theorem put3_size (W : World) (b : Nat) (v x y : Value) : (put3 W b v x y).heap.size = W.heap.size := by simp [put3, World.setCell]

end Go.Proofs.YtfbakelpplpomaaDoor.WalkSeat
