/-
  Two blocks of a function over the document's disk: the argument's, the result's.
-/
import Derived.Test.YtmehehiobcpeoaaRefDone
namespace Go.Proofs.Ytmehehiobcpeoaa.Disk
open Go.RowKit Go.Proofs.Ytmehehiobcpeoaa.DiskRows
set_option linter.unusedVariables false
set_option linter.unusedSimpArgs false
set_option maxRecDepth 100000

structure Bx (w : World) (b0 b1 b2 b3 b4 : Value) (W : World) : Prop where
  box : W.heap[w.heap.size]? = some (.cells #[b0, b1, b2, b3, b4] 35 (0, 0))
  res : W.heap[w.heap.size + 1]? = some (.cells #[.slice none 0 0, .slice none 0 0, .int .i64 0, .bool false, .int .i64 0] 35 (0, 0))
  bel : Below w.heap.size w W
theorem Bx.start (w : World) (b0 b1 b2 b3 b4 : Value) : Bx w b0 b1 b2 b3 b4 ((w.alloc (.cells #[b0, b1, b2, b3, b4] 35)).alloc (.cells #[.slice none 0 0, .slice none 0 0, .int .i64 0, .bool false, .int .i64 0] 35)) := by
  have e : (w.alloc (.cells #[b0, b1, b2, b3, b4] 35)).heap.size = w.heap.size + 1 := by simp
  refine ⟨?_, ?_, ((Below.refl _ _).alloc (Nat.le_refl _) _).alloc (by simp) _⟩
  · rw [Below.heap_alloc _ _ _ (by simp)]; exact heap_alloc_last _ _
  · rw [← e]; exact heap_alloc_last _ _
theorem Bx.lt {w W : World} {b0 b1 b2 b3 b4 : Value} (h : Bx w b0 b1 b2 b3 b4 W) : w.heap.size + 2 ≤ W.heap.size := (Array.getElem?_eq_some_iff.1 h.res).1
theorem Bx.later {w W W' : World} {b0 b1 b2 b3 b4 : Value} (h : Bx w b0 b1 b2 b3 b4 W) (k : Below W.heap.size W W') : Bx w b0 b1 b2 b3 b4 W' := by
  have := h.lt
  exact ⟨by rw [k.block _ (by omega)]; exact h.box, by rw [k.block _ (by omega)]; exact h.res, h.bel.trans (k.mono (by omega))⟩
theorem Bx.drew {w W : World} {b0 b1 b2 b3 b4 : Value} (h : Bx w b0 b1 b2 b3 b4 W) : Bx w b0 b1 b2 b3 b4 W.drew := h.later (Below.refl _ _).drew
theorem Bx.cells {w W : World} {b0 b1 b2 b3 b4 : Value} (h : Bx w b0 b1 b2 b3 b4 W) : W.cell? ⟨w.heap.size, 0, none⟩ = some b0 ∧ W.cell? ⟨w.heap.size, 1, none⟩ = some b1 ∧ W.cell? ⟨w.heap.size, 2, none⟩ = some b2 ∧ W.cell? ⟨w.heap.size, 3, none⟩ = some b3 ∧ W.cell? ⟨w.heap.size, 4, none⟩ = some b4 ∧ W.cell? ⟨w.heap.size + 1, 0, none⟩ = some (.slice none 0 0) ∧ W.cell? ⟨w.heap.size + 1, 1, none⟩ = some (.slice none 0 0) ∧ W.cell? ⟨w.heap.size + 1, 2, none⟩ = some (.int .i64 0) ∧ W.cell? ⟨w.heap.size + 1, 3, none⟩ = some (.bool false) ∧ W.cell? ⟨w.heap.size + 1, 4, none⟩ = some (.int .i64 0) ∧ (∀ i, W.frozen? ⟨w.heap.size, i, none⟩ = false) ∧ ∀ i, W.frozen? ⟨w.heap.size + 1, i, none⟩ = false :=
  ⟨(cell_of_row W _ 0 _ _ _ h.box).trans rfl, (cell_of_row W _ 1 _ _ _ h.box).trans rfl, (cell_of_row W _ 2 _ _ _ h.box).trans rfl, (cell_of_row W _ 3 _ _ _ h.box).trans rfl, (cell_of_row W _ 4 _ _ _ h.box).trans rfl, (cell_of_row W _ 0 _ _ _ h.res).trans rfl, (cell_of_row W _ 1 _ _ _ h.res).trans rfl, (cell_of_row W _ 2 _ _ _ h.res).trans rfl, (cell_of_row W _ 3 _ _ _ h.res).trans rfl, (cell_of_row W _ 4 _ _ _ h.res).trans rfl, fun i => frozen_of_row W _ i _ _ h.box, fun i => frozen_of_row W _ i _ _ h.res⟩
theorem Bx.put0 {w W : World} {b0 b1 b2 b3 b4 : Value} (h : Bx w b0 b1 b2 b3 b4 W) (u : Value) : Bx w u b1 b2 b3 b4 (W.setCell ⟨w.heap.size, 0, none⟩ u) :=
  ⟨by rw [Joins.block_setCell (i := 0) h.box]; rfl, by rw [Below.heap_setCell _ _ _ _ (by simp)]; exact h.res, h.bel.setCell (p := ⟨w.heap.size, 0, none⟩) (Nat.le_refl _) _⟩
theorem Bx.put1 {w W : World} {b0 b1 b2 b3 b4 : Value} (h : Bx w b0 b1 b2 b3 b4 W) (u : Value) : Bx w b0 u b2 b3 b4 (W.setCell ⟨w.heap.size, 1, none⟩ u) :=
  ⟨by rw [Joins.block_setCell (i := 1) h.box]; rfl, by rw [Below.heap_setCell _ _ _ _ (by simp)]; exact h.res, h.bel.setCell (p := ⟨w.heap.size, 1, none⟩) (Nat.le_refl _) _⟩
theorem Bx.put2 {w W : World} {b0 b1 b2 b3 b4 : Value} (h : Bx w b0 b1 b2 b3 b4 W) (u : Value) : Bx w b0 b1 u b3 b4 (W.setCell ⟨w.heap.size, 2, none⟩ u) :=
  ⟨by rw [Joins.block_setCell (i := 2) h.box]; rfl, by rw [Below.heap_setCell _ _ _ _ (by simp)]; exact h.res, h.bel.setCell (p := ⟨w.heap.size, 2, none⟩) (Nat.le_refl _) _⟩
theorem Bx.put3 {w W : World} {b0 b1 b2 b3 b4 : Value} (h : Bx w b0 b1 b2 b3 b4 W) (u : Value) : Bx w b0 b1 b2 u b4 (W.setCell ⟨w.heap.size, 3, none⟩ u) :=
  ⟨by rw [Joins.block_setCell (i := 3) h.box]; rfl, by rw [Below.heap_setCell _ _ _ _ (by simp)]; exact h.res, h.bel.setCell (p := ⟨w.heap.size, 3, none⟩) (Nat.le_refl _) _⟩
theorem Bx.put4 {w W : World} {b0 b1 b2 b3 b4 : Value} (h : Bx w b0 b1 b2 b3 b4 W) (u : Value) : Bx w b0 b1 b2 b3 u (W.setCell ⟨w.heap.size, 4, none⟩ u) :=
  ⟨by rw [Joins.block_setCell (i := 4) h.box]; rfl, by rw [Below.heap_setCell _ _ _ _ (by simp)]; exact h.res, h.bel.setCell (p := ⟨w.heap.size, 4, none⟩) (Nat.le_refl _) _⟩
theorem Bx.fin {w W : World} {b0 b1 b2 b3 b4 : Value} (h : Bx w b0 b1 b2 b3 b4 W) (u0 u1 u2 u3 u4 : Value) :
    ((((((W.setCell ⟨w.heap.size + 1, 0, none⟩ u0).setCell ⟨w.heap.size + 1, 1, none⟩ u1).setCell ⟨w.heap.size + 1, 2, none⟩ u2).setCell ⟨w.heap.size + 1, 3, none⟩ u3).setCell ⟨w.heap.size + 1, 4, none⟩ u4).cell? ⟨w.heap.size + 1, 0, none⟩ = some u0 ∧ (((((W.setCell ⟨w.heap.size + 1, 0, none⟩ u0).setCell ⟨w.heap.size + 1, 1, none⟩ u1).setCell ⟨w.heap.size + 1, 2, none⟩ u2).setCell ⟨w.heap.size + 1, 3, none⟩ u3).setCell ⟨w.heap.size + 1, 4, none⟩ u4).cell? ⟨w.heap.size + 1, 1, none⟩ = some u1 ∧ (((((W.setCell ⟨w.heap.size + 1, 0, none⟩ u0).setCell ⟨w.heap.size + 1, 1, none⟩ u1).setCell ⟨w.heap.size + 1, 2, none⟩ u2).setCell ⟨w.heap.size + 1, 3, none⟩ u3).setCell ⟨w.heap.size + 1, 4, none⟩ u4).cell? ⟨w.heap.size + 1, 2, none⟩ = some u2 ∧ (((((W.setCell ⟨w.heap.size + 1, 0, none⟩ u0).setCell ⟨w.heap.size + 1, 1, none⟩ u1).setCell ⟨w.heap.size + 1, 2, none⟩ u2).setCell ⟨w.heap.size + 1, 3, none⟩ u3).setCell ⟨w.heap.size + 1, 4, none⟩ u4).cell? ⟨w.heap.size + 1, 3, none⟩ = some u3 ∧ (((((W.setCell ⟨w.heap.size + 1, 0, none⟩ u0).setCell ⟨w.heap.size + 1, 1, none⟩ u1).setCell ⟨w.heap.size + 1, 2, none⟩ u2).setCell ⟨w.heap.size + 1, 3, none⟩ u3).setCell ⟨w.heap.size + 1, 4, none⟩ u4).cell? ⟨w.heap.size + 1, 4, none⟩ = some u4) ∧ Below w.heap.size w (((((W.setCell ⟨w.heap.size + 1, 0, none⟩ u0).setCell ⟨w.heap.size + 1, 1, none⟩ u1).setCell ⟨w.heap.size + 1, 2, none⟩ u2).setCell ⟨w.heap.size + 1, 3, none⟩ u3).setCell ⟨w.heap.size + 1, 4, none⟩ u4) ∧ (∀ A c l, OwnT (w.heap.size + 2) W A c l → OwnT (w.heap.size + 2) (((((W.setCell ⟨w.heap.size + 1, 0, none⟩ u0).setCell ⟨w.heap.size + 1, 1, none⟩ u1).setCell ⟨w.heap.size + 1, 2, none⟩ u2).setCell ⟨w.heap.size + 1, 3, none⟩ u3).setCell ⟨w.heap.size + 1, 4, none⟩ u4) A c l) ∧ (∀ A c C, OwnW (w.heap.size + 2) W A c C → OwnW (w.heap.size + 2) (((((W.setCell ⟨w.heap.size + 1, 0, none⟩ u0).setCell ⟨w.heap.size + 1, 1, none⟩ u1).setCell ⟨w.heap.size + 1, 2, none⟩ u2).setCell ⟨w.heap.size + 1, 3, none⟩ u3).setCell ⟨w.heap.size + 1, 4, none⟩ u4) A c C) := by
  have hc := Joins.block_setCell (i := 4) (Joins.block_setCell (i := 3) (Joins.block_setCell (i := 2) (Joins.block_setCell (i := 1) (Joins.block_setCell (i := 0) h.res u0) u1) u2) u3) u4
  refine ⟨⟨(cell_of_row _ _ 0 _ _ _ hc).trans rfl, (cell_of_row _ _ 1 _ _ _ hc).trans rfl, (cell_of_row _ _ 2 _ _ _ hc).trans rfl, (cell_of_row _ _ 3 _ _ _ hc).trans rfl, (cell_of_row _ _ 4 _ _ _ hc).trans rfl⟩, ?_, fun A c l hl => ?_, fun A c C hl => ?_⟩
  · exact ((((h.bel.setCell (p := ⟨w.heap.size + 1, 0, none⟩) (by simp) _).setCell (p := ⟨w.heap.size + 1, 1, none⟩) (by simp) _).setCell (p := ⟨w.heap.size + 1, 2, none⟩) (by simp) _).setCell (p := ⟨w.heap.size + 1, 3, none⟩) (by simp) _).setCell (p := ⟨w.heap.size + 1, 4, none⟩) (by simp) _
  · exact ((((hl.store (by simp) _).store (by simp) _).store (by simp) _).store (by simp) _).store (by simp) _
  · exact ((((hl.store (by simp) _).store (by simp) _).store (by simp) _).store (by simp) _).store (by simp) _
/-- its rows -/
def RAt (w : World) (A A' : Option Addr) (d : Dk) : Prop := Txs w A d.S ∧ Wrs w A' (ints d.C)
theorem RAt.later {w w' : World} {A A' : Option Addr} {d : Dk} (h : RAt w A A' d) (k : Below w.heap.size w w') : RAt w' A A' d := ⟨h.1.later k, h.2.later k⟩
/-- a row is the one that came, or lies in a new block -/
def Fresh (w : World) (A A1 : Option Addr) (n0 n : Nat) : Prop := n = 0 ∨ (A1 = A ∧ n = n0) ∨ ∃ g, A1 = some ⟨g, 0, none⟩ ∧ w.heap.size ≤ g
theorem OwnT.fresh {w W : World} {A A1 : Option Addr} {c n0 : Nat} {l : List ByteArray} (h : OwnT (w.heap.size + 2) W A1 c l) : Fresh w A A1 n0 l.length := by
  rcases h with rfl | ⟨g, rfl, hg, _⟩
  · exact .inl rfl
  · exact .inr (.inr ⟨g, rfl, by omega⟩)
theorem OwnW.fresh {w W : World} {A A1 : Option Addr} {c n n0 : Nat} {C : List (Int × ByteArray)} (h : OwnW (w.heap.size + 2) W A1 c C) (hn : C.length = n) : Fresh w A A1 n0 n := by
  subst hn
  rcases h with ⟨rfl, _⟩ | ⟨g, rfl, hg, _⟩
  · exact .inl rfl
  · exact .inr (.inr ⟨g, rfl, by omega⟩)
/-- the rows behind a call -/
structure RNew (w w' : World) (A A' A1 A2 : Option Addr) (d0 d : Dk) : Prop where
  rows : RAt w' A1 A2 d
  one : Fresh w A A1 d0.S.length d.S.length
  two : Fresh w A' A2 d0.C.length d.C.length
/-- a disk as small as it must be -/
structure Dk.Ok (d : Dk) : Prop where
  pos : 16 ≤ d.S.length
  most : d.S.length ≤ 4096
  few : d.C.length ≤ 100000
  ats : ∀ x ∈ d.C, x.1 < d.S.length
  low : d.armed ≤ 9223372036854775807 ∧ d.ops ≤ 1000000000000
theorem DiskAt.ok {base : Nat → Prop} {b : Nat} {d : Dk} {w : World} (h : DiskAt base b d w) : d.Ok := by
  obtain ⟨gS, cS, gH, cH, vC, h⟩ := h
  exact ⟨h.pos, h.most, h.few, h.ats, h.low⟩
end Go.Proofs.Ytmehehiobcpeoaa.Disk
