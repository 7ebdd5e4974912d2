/-
  JournalPlays: the document's Append.
-/
import Derived.Test.YtfbakelpplpomaaGreatDoorJplE
namespace Go.Proofs.YtfbakelpplpomaaGreatDoor.Disk
open Go.RowKit Go.Proofs.YtfbakelpplpomaaGreatDoor.DiskRows Go.Proofs.YtfbakelpplpomaaGreatDoor.WalkCrc
open Go.Proofs.YtfbakelpplpomaaGreatDoor.WalkSeat (putRV isRB isRV takeRB takeRV)
open Pl.Seat (Rec isR)
set_option linter.unusedVariables false
set_option linter.unusedSimpArgs false
set_option maxRecDepth 100000

theorem refFull0 (w : World) : Calls Tryz.prog 77 #[.string ⟨#[]⟩] w fun e w' => e = .returned (.string (bs (zeros 128))) ∧ w = w' := WalkSeat.refFull_any [] w (by simp)
theorem Dk.Ok.step {d : Dk} (h : d.Ok) (ho : d.ops < 1000000000000) : d.step.1.Ok := by
  unfold Dk.step
  have := h.low
  split
  · exact ⟨h.pos, h.most, h.few, h.ats, by dsimp only; omega, by dsimp only; omega⟩
  · exact ⟨h.pos, h.most, h.few, h.ats, by dsimp only; omega, by dsimp only; omega⟩
theorem Dk.Ok.write {d : Dk} (h : d.Ok) (ho : d.ops < 1000000000000) (hC : d.C.length < 100000) (i : Int) (s : ByteArray) : (d.write i s).1.Ok := by
  have hs := h.step ho
  obtain ⟨eS, eH, eC⟩ := step_same d
  unfold Dk.write
  split
  · exact h
  · split
    · rename_i hi
      split
      · split
        · exact hs
        · refine ⟨hs.pos, hs.most, by simp; omega, fun x hx => ?_, hs.low⟩
          show x.1 < d.step.1.S.length
          rw [eS]
          rcases List.mem_append.1 hx with q | q
          · exact h.ats x q
          · simp at q; subst q; have := hi; unfold Dk.has at this; dsimp only; omega
      · exact h
    · exact h
theorem Dk.Ok.flush {d : Dk} (h : d.Ok) (ho : d.ops < 1000000000000) : d.flush.1.Ok := by
  have hs := h.step ho
  unfold Dk.flush
  split
  · exact h
  · split
    · exact hs
    · exact ⟨by rw [shows_length]; exact h.pos, by rw [shows_length]; exact h.most, by simp, fun x hx => by simp at hx, hs.low⟩
theorem RNew.trans {w w1 w2 : World} {A A' A1 A2 A3 A4 : Option Addr} {d d1 d2 : Dk} (h : RNew w w1 A A' A1 A2 d d1) (k : RNew w1 w2 A1 A2 A3 A4 d1 d2) (hs : w.heap.size ≤ w1.heap.size) : RNew w w2 A A' A3 A4 d d2 := by
  refine ⟨k.rows, ?_, ?_⟩
  · rcases k.one with q | ⟨rfl, q⟩ | ⟨g, rfl, q⟩
    · exact .inl q
    · rw [q]; exact h.one
    · exact .inr (.inr ⟨g, rfl, by omega⟩)
  · rcases k.two with q | ⟨rfl, q⟩ | ⟨g, rfl, q⟩
    · exact .inl q
    · rw [q]; exact h.two
    · exact .inr (.inr ⟨g, rfl, by omega⟩)
theorem RNew.refl {w w' : World} {A A' : Option Addr} {d : Dk} (h : RAt w A A' d) (k : Below w.heap.size w w') : RNew w w' A A' A A' d d := ⟨h.later k, .inr (.inl ⟨rfl, rfl⟩), .inr (.inl ⟨rfl, rfl⟩)⟩
theorem RNew.later {w w1 w2 : World} {A A' A1 A2 : Option Addr} {d d1 : Dk} (h : RNew w w1 A A' A1 A2 d d1) (k : Below w1.heap.size w1 w2) : RNew w w2 A A' A1 A2 d d1 := ⟨h.rows.later k, h.one, h.two⟩
/-- rows of a disk that lie above some blocks -/
theorem RAt.up {w w' : World} {A A' : Option Addr} {d : Dk} {n : Nat} (h : RAt w A A' d) (hs : w.heap.size ≤ w'.heap.size) (hk : ∀ g, g ≠ n → w'.heap[g]? = w.heap[g]?) (h1 : ∀ g off, A = some ⟨g, off, none⟩ → d.S.length ≠ 0 → g ≠ n) (h2 : ∀ g off, A' = some ⟨g, off, none⟩ → d.C.length ≠ 0 → g ≠ n) : RAt w' A A' d :=
  ⟨h.1.keep hs (fun g off e hn => hk g (h1 g off e hn)), h.2.keep hs (fun g off e hn => hk g (h2 g off e (by rw [ints_length] at hn; exact hn)))⟩
/-- the blocks of Append: the disk, the record, the result -/
structure Ax (w : World) (b0 b1 b2 b3 b4 : Value) (e q k : Int) (N O M : ByteArray) (t u : Int) (W : World) : Prop where
  disk : W.heap[w.heap.size]? = some (.cells #[b0, b1, b2, b3, b4] 54 (0, 0))
  rcd : W.heap[w.heap.size + 1]? = some (.cells #[.int .i64 e, .int .i64 q, .int .i64 k, .string N, .string O, .string M, .int .i64 t, .int .i64 u] 24 (0, 0))
  res : W.heap[w.heap.size + 2]? = some (.cells #[.slice none 0 0, .slice none 0 0, .int .i64 0, .bool false, .int .i64 0] 54 (0, 0))
  bel : Below w.heap.size w W
section
variable {w W W' : World} {b0 b1 b2 b3 b4 : Value} {e q k : Int} {N O M : ByteArray} {t u : Int}
theorem Ax.start (w : World) (b0 b1 b2 b3 b4 : Value) (e q k : Int) (N O M : ByteArray) (t u : Int) : Ax w b0 b1 b2 b3 b4 e q k N O M t u (((w.alloc (.cells #[b0, b1, b2, b3, b4] 54)).alloc (.cells #[.int .i64 e, .int .i64 q, .int .i64 k, .string N, .string O, .string M, .int .i64 t, .int .i64 u] 24)).alloc (.cells #[.slice none 0 0, .slice none 0 0, .int .i64 0, .bool false, .int .i64 0] 54)) := by
  have e1 : (w.alloc (.cells #[b0, b1, b2, b3, b4] 54)).heap.size = w.heap.size + 1 := by simp
  have e2 : ((w.alloc (.cells #[b0, b1, b2, b3, b4] 54)).alloc (.cells #[.int .i64 e, .int .i64 q, .int .i64 k, .string N, .string O, .string M, .int .i64 t, .int .i64 u] 24)).heap.size = w.heap.size + 2 := by simp
  refine ⟨?_, ?_, ?_, (((Below.refl _ w).alloc (Nat.le_refl _) _).alloc (by simp) _).alloc (by simp; omega) _⟩
  · rw [Below.heap_alloc _ _ _ (by rw [e2]; omega), Below.heap_alloc _ _ _ (by rw [e1]; omega)]; exact heap_alloc_last _ _
  · rw [Below.heap_alloc _ _ _ (by rw [e2]; omega), ← e1]; exact heap_alloc_last _ _
  · rw [← e2]; exact heap_alloc_last _ _
theorem Ax.lt (h : Ax w b0 b1 b2 b3 b4 e q k N O M t u W) : w.heap.size + 3 ≤ W.heap.size := (Array.getElem?_eq_some_iff.1 h.res).1
theorem Ax.later (h : Ax w b0 b1 b2 b3 b4 e q k N O M t u W) (b : Below W.heap.size W W') : Ax w b0 b1 b2 b3 b4 e q k N O M t u W' := by
  have := h.lt
  exact ⟨by rw [b.block _ (by omega)]; exact h.disk, by rw [b.block _ (by omega)]; exact h.rcd, by rw [b.block _ (by omega)]; exact h.res, h.bel.trans (b.mono h.bel.size)⟩
theorem Ax.cells (h : Ax w b0 b1 b2 b3 b4 e q k N O M t u W) : (W.cell? ⟨w.heap.size, 0, none⟩ = some b0 ∧ W.cell? ⟨w.heap.size, 1, none⟩ = some b1 ∧ W.cell? ⟨w.heap.size, 2, none⟩ = some b2 ∧ W.cell? ⟨w.heap.size, 3, none⟩ = some b3 ∧ W.cell? ⟨w.heap.size, 4, none⟩ = some b4) ∧ ∀ i, W.frozen? ⟨w.heap.size, i, none⟩ = false :=
  ⟨⟨(cell_of_row _ _ 0 _ _ _ h.disk).trans rfl, (cell_of_row _ _ 1 _ _ _ h.disk).trans rfl, (cell_of_row _ _ 2 _ _ _ h.disk).trans rfl, (cell_of_row _ _ 3 _ _ _ h.disk).trans rfl, (cell_of_row _ _ 4 _ _ _ h.disk).trans rfl⟩, fun i => frozen_of_row _ _ i _ _ h.disk⟩
theorem Ax.recs (h : Ax w b0 b1 b2 b3 b4 e q k N O M t u W) : (W.cell? ⟨w.heap.size + 1, 0, none⟩ = some (.int .i64 e) ∧ W.cell? ⟨w.heap.size + 1, 1, none⟩ = some (.int .i64 q) ∧ W.cell? ⟨w.heap.size + 1, 2, none⟩ = some (.int .i64 k) ∧ W.cell? ⟨w.heap.size + 1, 3, none⟩ = some (.string N) ∧ W.cell? ⟨w.heap.size + 1, 4, none⟩ = some (.string O) ∧ W.cell? ⟨w.heap.size + 1, 5, none⟩ = some (.string M) ∧ W.cell? ⟨w.heap.size + 1, 6, none⟩ = some (.int .i64 t) ∧ W.cell? ⟨w.heap.size + 1, 7, none⟩ = some (.int .i64 u)) ∧ ∀ i, W.frozen? ⟨w.heap.size + 1, i, none⟩ = false :=
  ⟨⟨(cell_of_row _ _ 0 _ _ _ h.rcd).trans rfl, (cell_of_row _ _ 1 _ _ _ h.rcd).trans rfl, (cell_of_row _ _ 2 _ _ _ h.rcd).trans rfl, (cell_of_row _ _ 3 _ _ _ h.rcd).trans rfl, (cell_of_row _ _ 4 _ _ _ h.rcd).trans rfl, (cell_of_row _ _ 5 _ _ _ h.rcd).trans rfl, (cell_of_row _ _ 6 _ _ _ h.rcd).trans rfl, (cell_of_row _ _ 7 _ _ _ h.rcd).trans rfl⟩, fun i => frozen_of_row _ _ i _ _ h.rcd⟩
theorem Ax.ress (h : Ax w b0 b1 b2 b3 b4 e q k N O M t u W) : (W.cell? ⟨w.heap.size + 2, 0, none⟩ = some (.slice none 0 0) ∧ W.cell? ⟨w.heap.size + 2, 1, none⟩ = some (.slice none 0 0) ∧ W.cell? ⟨w.heap.size + 2, 2, none⟩ = some (.int .i64 0) ∧ W.cell? ⟨w.heap.size + 2, 3, none⟩ = some (.bool false) ∧ W.cell? ⟨w.heap.size + 2, 4, none⟩ = some (.int .i64 0)) ∧ ∀ i, W.frozen? ⟨w.heap.size + 2, i, none⟩ = false :=
  ⟨⟨(cell_of_row _ _ 0 _ _ _ h.res).trans rfl, (cell_of_row _ _ 1 _ _ _ h.res).trans rfl, (cell_of_row _ _ 2 _ _ _ h.res).trans rfl, (cell_of_row _ _ 3 _ _ _ h.res).trans rfl, (cell_of_row _ _ 4 _ _ _ h.res).trans rfl⟩, fun i => frozen_of_row _ _ i _ _ h.res⟩
theorem Ax.rec0 (h : Ax w b0 b1 b2 b3 b4 e q k N O M t u W) (v : Int) : Ax w b0 b1 b2 b3 b4 v q k N O M t u (W.setCell ⟨w.heap.size + 1, 0, none⟩ (.int .i64 v)) :=
  ⟨by rw [Below.heap_setCell _ _ _ _ (by simp)]; exact h.disk, by rw [Joins.block_setCell (i := 0) h.rcd]; rfl, by rw [Below.heap_setCell _ _ _ _ (by simp)]; exact h.res, h.bel.setCell (p := ⟨w.heap.size + 1, 0, none⟩) (by simp) _⟩
theorem Ax.rec1 (h : Ax w b0 b1 b2 b3 b4 e q k N O M t u W) (v : Int) : Ax w b0 b1 b2 b3 b4 e v k N O M t u (W.setCell ⟨w.heap.size + 1, 1, none⟩ (.int .i64 v)) :=
  ⟨by rw [Below.heap_setCell _ _ _ _ (by simp)]; exact h.disk, by rw [Joins.block_setCell (i := 1) h.rcd]; rfl, by rw [Below.heap_setCell _ _ _ _ (by simp)]; exact h.res, h.bel.setCell (p := ⟨w.heap.size + 1, 1, none⟩) (by simp) _⟩
/-- another disk in its place -/
abbrev put5 (w W : World) (u0 u1 u2 u3 u4 : Value) : World := ((((W.setCell ⟨w.heap.size, 0, none⟩ u0).setCell ⟨w.heap.size, 1, none⟩ u1).setCell ⟨w.heap.size, 2, none⟩ u2).setCell ⟨w.heap.size, 3, none⟩ u3).setCell ⟨w.heap.size, 4, none⟩ u4
theorem put5_other {u0 u1 u2 u3 u4 : Value} {g : Nat} (h : g ≠ w.heap.size) : (put5 w W u0 u1 u2 u3 u4).heap[g]? = W.heap[g]? := by
  unfold put5
  rw [Below.heap_setCell _ _ _ _ h, Below.heap_setCell _ _ _ _ h, Below.heap_setCell _ _ _ _ h, Below.heap_setCell _ _ _ _ h, Below.heap_setCell _ _ _ _ h]
theorem put5_size {u0 u1 u2 u3 u4 : Value} : (put5 w W u0 u1 u2 u3 u4).heap.size = W.heap.size := by simp [put5, World.setCell]
theorem Ax.put (h : Ax w b0 b1 b2 b3 b4 e q k N O M t u W) (u0 u1 u2 u3 u4 : Value) : Ax w u0 u1 u2 u3 u4 e q k N O M t u (put5 w W u0 u1 u2 u3 u4) :=
  ⟨box5 h.disk _ _ _ _ _, (put5_other (by omega)).trans h.rcd, (put5_other (by omega)).trans h.res, below5 h.bel (Nat.le_refl _) _ _ _ _ _⟩
/-- what a region that loads and stores the disk is told -/
def AxS (w W : World) : Prop := (W.cell? ⟨w.heap.size, 0, none⟩ = some (curOf W ⟨w.heap.size, 0, none⟩) ∧ W.cell? ⟨w.heap.size, 1, none⟩ = some (curOf W ⟨w.heap.size, 1, none⟩) ∧ W.cell? ⟨w.heap.size, 2, none⟩ = some (curOf W ⟨w.heap.size, 2, none⟩) ∧ W.cell? ⟨w.heap.size, 3, none⟩ = some (curOf W ⟨w.heap.size, 3, none⟩) ∧ W.cell? ⟨w.heap.size, 4, none⟩ = some (curOf W ⟨w.heap.size, 4, none⟩)) ∧ W.frozen? ⟨w.heap.size, 0, none⟩ = false ∧ W.frozen? ⟨w.heap.size, 1, none⟩ = false ∧ W.frozen? ⟨w.heap.size, 2, none⟩ = false ∧ W.frozen? ⟨w.heap.size, 3, none⟩ = false ∧ W.frozen? ⟨w.heap.size, 4, none⟩ = false
theorem Ax.all (h : Ax w b0 b1 b2 b3 b4 e q k N O M t u W) : AxS w W := by
  obtain ⟨⟨x0, x1, x2, x3, x4⟩, f⟩ := h.cells
  exact ⟨⟨cur_some x0, cur_some x1, cur_some x2, cur_some x3, cur_some x4⟩, f 0, f 1, f 2, f 3, f 4⟩
theorem cur_of {a : Addr} {v : Value} (h : W.cell? a = some v) : curOf W a = v := by unfold curOf; rw [h]; rfl
theorem Ax.curs (h : Ax w b0 b1 b2 b3 b4 e q k N O M t u W) : curOf W ⟨w.heap.size, 0, none⟩ = b0 ∧ curOf W ⟨w.heap.size, 1, none⟩ = b1 ∧ curOf W ⟨w.heap.size, 2, none⟩ = b2 ∧ curOf W ⟨w.heap.size, 3, none⟩ = b3 ∧ curOf W ⟨w.heap.size, 4, none⟩ = b4 := by
  obtain ⟨⟨x0, x1, x2, x3, x4⟩, -⟩ := h.cells
  exact ⟨cur_of x0, cur_of x1, cur_of x2, cur_of x3, cur_of x4⟩
/-- the result, stored -/
theorem Ax.fin (h : Ax w b0 b1 b2 b3 b4 e q k N O M t u W) (u0 u1 u2 u3 u4 : Value) :
    ((((((W.setCell ⟨w.heap.size + 2, 0, none⟩ u0).setCell ⟨w.heap.size + 2, 1, none⟩ u1).setCell ⟨w.heap.size + 2, 2, none⟩ u2).setCell ⟨w.heap.size + 2, 3, none⟩ u3).setCell ⟨w.heap.size + 2, 4, none⟩ u4).cell? ⟨w.heap.size + 2, 0, none⟩ = some u0 ∧ (((((W.setCell ⟨w.heap.size + 2, 0, none⟩ u0).setCell ⟨w.heap.size + 2, 1, none⟩ u1).setCell ⟨w.heap.size + 2, 2, none⟩ u2).setCell ⟨w.heap.size + 2, 3, none⟩ u3).setCell ⟨w.heap.size + 2, 4, none⟩ u4).cell? ⟨w.heap.size + 2, 1, none⟩ = some u1 ∧ (((((W.setCell ⟨w.heap.size + 2, 0, none⟩ u0).setCell ⟨w.heap.size + 2, 1, none⟩ u1).setCell ⟨w.heap.size + 2, 2, none⟩ u2).setCell ⟨w.heap.size + 2, 3, none⟩ u3).setCell ⟨w.heap.size + 2, 4, none⟩ u4).cell? ⟨w.heap.size + 2, 2, none⟩ = some u2 ∧ (((((W.setCell ⟨w.heap.size + 2, 0, none⟩ u0).setCell ⟨w.heap.size + 2, 1, none⟩ u1).setCell ⟨w.heap.size + 2, 2, none⟩ u2).setCell ⟨w.heap.size + 2, 3, none⟩ u3).setCell ⟨w.heap.size + 2, 4, none⟩ u4).cell? ⟨w.heap.size + 2, 3, none⟩ = some u3 ∧ (((((W.setCell ⟨w.heap.size + 2, 0, none⟩ u0).setCell ⟨w.heap.size + 2, 1, none⟩ u1).setCell ⟨w.heap.size + 2, 2, none⟩ u2).setCell ⟨w.heap.size + 2, 3, none⟩ u3).setCell ⟨w.heap.size + 2, 4, none⟩ u4).cell? ⟨w.heap.size + 2, 4, none⟩ = some u4) ∧ (∀ g, g ≠ w.heap.size + 2 → (((((W.setCell ⟨w.heap.size + 2, 0, none⟩ u0).setCell ⟨w.heap.size + 2, 1, none⟩ u1).setCell ⟨w.heap.size + 2, 2, none⟩ u2).setCell ⟨w.heap.size + 2, 3, none⟩ u3).setCell ⟨w.heap.size + 2, 4, none⟩ u4).heap[g]? = W.heap[g]?) ∧ W.heap.size ≤ (((((W.setCell ⟨w.heap.size + 2, 0, none⟩ u0).setCell ⟨w.heap.size + 2, 1, none⟩ u1).setCell ⟨w.heap.size + 2, 2, none⟩ u2).setCell ⟨w.heap.size + 2, 3, none⟩ u3).setCell ⟨w.heap.size + 2, 4, none⟩ u4).heap.size ∧ Below w.heap.size w (((((W.setCell ⟨w.heap.size + 2, 0, none⟩ u0).setCell ⟨w.heap.size + 2, 1, none⟩ u1).setCell ⟨w.heap.size + 2, 2, none⟩ u2).setCell ⟨w.heap.size + 2, 3, none⟩ u3).setCell ⟨w.heap.size + 2, 4, none⟩ u4) := by
  have hc := box5 h.res u0 u1 u2 u3 u4
  exact ⟨⟨(cell_of_row _ _ 0 _ _ _ hc).trans rfl, (cell_of_row _ _ 1 _ _ _ hc).trans rfl, (cell_of_row _ _ 2 _ _ _ hc).trans rfl, (cell_of_row _ _ 3 _ _ _ hc).trans rfl, (cell_of_row _ _ 4 _ _ _ hc).trans rfl⟩, fun g hg => by rw [Below.heap_setCell _ _ _ _ hg, Below.heap_setCell _ _ _ _ hg, Below.heap_setCell _ _ _ _ hg, Below.heap_setCell _ _ _ _ hg, Below.heap_setCell _ _ _ _ hg], by simp [World.setCell], below5 h.bel (by omega) _ _ _ _ _⟩
/-- the rows of the disk lie in none of the first three blocks made since -/
def Away (w : World) (A A' : Option Addr) (d : Dk) : Prop := (∀ g off, A = some ⟨g, off, none⟩ → d.S.length ≠ 0 → g < w.heap.size ∨ w.heap.size + 3 ≤ g) ∧ ∀ g off, A' = some ⟨g, off, none⟩ → d.C.length ≠ 0 → g < w.heap.size ∨ w.heap.size + 3 ≤ g
theorem Away.start {A A' : Option Addr} {d : Dk} (h : RAt w A A' d) : Away w A A' d :=
  ⟨fun g off e hn => by subst e; exact .inl (h.1.lt hn), fun g off e hn => by subst e; exact .inl (h.2.lt (by rw [ints_length]; exact hn))⟩
theorem Away.new {A A' A1 A2 : Option Addr} {d d1 : Dk} {W1 W2 : World} (h : Away w A A' d) (hs : w.heap.size + 3 ≤ W1.heap.size) (k : RNew W1 W2 A A' A1 A2 d d1) : Away w A1 A2 d1 := by
  refine ⟨fun g off e hn => ?_, fun g off e hn => ?_⟩
  · rcases k.one with q | ⟨rfl, q⟩ | ⟨g', rfl, q⟩
    · exact absurd q hn
    · exact h.1 g off e (q ▸ hn)
    · simp at e; right; omega
  · rcases k.two with q | ⟨rfl, q⟩ | ⟨g', rfl, q⟩
    · exact absurd q hn
    · exact h.2 g off e (q ▸ hn)
    · simp at e; right; omega
theorem RAt.mv {A A' : Option Addr} {d : Dk} {W W' : World} (h : RAt W A A' d) (ha : Away w A A' d) (n : Nat) (hn : w.heap.size ≤ n ∧ n < w.heap.size + 3) (hs : W.heap.size ≤ W'.heap.size) (hk : ∀ g, g ≠ n → W'.heap[g]? = W.heap[g]?) : RAt W' A A' d :=
  h.up hs hk (fun g off e q => by have := ha.1 g off e q; omega) (fun g off e q => by have := ha.2 g off e q; omega)
theorem RNew.of {A A' A1 A2 : Option Addr} {d d1 : Dk} {W W' : World} (h : RNew w W A A' A1 A2 d d1) (r : RAt W' A1 A2 d1) : RNew w W' A A' A1 A2 d d1 := ⟨r, h.one, h.two⟩
end
end Go.Proofs.YtfbakelpplpomaaGreatDoor.Disk
/-
  JournalPlays: the play's open and at.
-/
namespace Go.Proofs.YtfbakelpplpomaaGreatDoor.Disk
open Go.RowKit Go.Proofs.YtfbakelpplpomaaGreatDoor.DiskRows Go.Proofs.YtfbakelpplpomaaGreatDoor.WalkCrc
open Pl.Seat (Rec isR)
set_option linter.unusedVariables false
set_option linter.unusedSimpArgs false
set_option maxRecDepth 100000

section
variable {F Q : Nat → Prop} {b gw : Nat} {d d' r r' : Dk} {A1 A2 A3 A4 : Option Addr} {c1 c2 c3 c4 : Nat} {jv : Value} {half epoch count : Nat} {w w' : World}
/-- the disk behind a call that made blocks -/
theorem JX.goP (h : JX F Q b gw d r A1 A2 c1 c2 jv half epoch count w) (hd : DiskAt (Plus F w.heap.size w'.heap.size) b d' w') (k : Kp F w w') : JX (Plus F w.heap.size w'.heap.size) Q b gw d' r A1 A2 c1 c2 jv half epoch count w' :=
  ⟨hd, h.rows.kp k (fun g hg _ => h.sub g hg), fun j hj => .inl (h.sub j hj), Plus.top h.top k.size, .inl h.gwF, h.gwQ, h.gwT, by rw [k.block _ h.lt h.gwF]; exact h.box, tab_kp h.tab k h.tabF, .inl h.tabF⟩
theorem own_set5 {T : TypeId} {base size m : Nat} {v : Value} {xs : List Value} (h : w.ownsRow base T size v m xs) (hg : gw < base) : (set5 w gw A1 A2 c1 c2 r).ownsRow base T size v m xs := by
  have hk : ∀ k, v.ownBlock = some k → k ≠ gw := fun k hk => by have := (h.lt k hk).1; omega
  exact own_other (own_other (own_other (own_other (own_other h _ _ hk) _ _ hk) _ _ hk) _ _ hk) _ _ hk
/-- the same, with a journal in block w.heap.size -/
def WN (F Q : Nat → Prop) (b gw : Nat) (d' : Dk) (half epoch count : Nat) (w : World) (w' : World) : Prop := ∃ F' Q' A1 A2 c1 c2, JX F' Q' b gw d' d' A1 A2 c1 c2 (.pointer (some ⟨w.heap.size, 0, none⟩)) half epoch count w' ∧ (∀ j, F j → F' j) ∧ (∀ j, Q' j → Q j ∨ w.heap.size ≤ j) ∧ Kp (fun j => F j ∧ j ≠ gw) w w' ∧ F' w.heap.size ∧ (¬ Q' w.heap.size) ∧ JnAt w.heap.size b half epoch count w'
/-- what the play's calls answer: both disks alike again -/
def WP (F Q : Nat → Prop) (b gw : Nat) (d' : Dk) (jv : Value) (half epoch count : Nat) (w : World) (w' : World) : Prop := ∃ F' Q' A1 A2 c1 c2, JX F' Q' b gw d' d' A1 A2 c1 c2 jv half epoch count w' ∧ (∀ j, F j → F' j) ∧ (∀ j, Q' j → Q j ∨ w.heap.size ≤ j) ∧ Kp (fun j => F j ∧ j ≠ gw) w w'
end
set_option maxHeartbeats 3200000 in
theorem wopen_fail (F Q : Nat → Prop) (b gw : Nat) (d : Dk) (A1 A2 : Option Addr) (c1 c2 : Nat) (jv : Value) (h0 e0 n0 : Nat) (w : World) (h : JX F Q b gw d d A1 A2 c1 c2 jv h0 e0 n0 w) (half epoch e : Int) (he : e ≠ 0)
    (HJ : Calls Tryz.prog 8 #[.pointer (some ⟨b, 0, none⟩), .int .i64 half, .int .i64 epoch] w fun x w' => x = .returned (.tuple #[.pointer none, .slice none 0 0, .int .i64 e]) ∧ DiskAt F b d w' ∧ Kp F w w')
    (HR : ∀ W, RAt W A1 A2 d → Calls Tryz.prog 49 #[.agg #[.slice A1 d.S.length c1, .slice A2 d.C.length c2, .int .i64 (d.armed : Nat), .bool d.down, .int .i64 (d.ops : Nat)], .int .i64 half, .int .i64 epoch] W fun x w' =>
      x = .returned (.tuple #[.agg #[.slice A1 d.S.length c1, .slice A2 d.C.length c2, .int .i64 (d.armed : Nat), .bool d.down, .int .i64 (d.ops : Nat)], .slice none 0 0, .int .i64 e]) ∧ Below W.heap.size W w') :
    Calls Tryz.prog 20 #[.pointer (some ⟨gw, 0, none⟩), .int .i64 half, .int .i64 epoch] w fun x w' => x = .returned (.bool true) ∧ WP F Q b gw d jv h0 e0 n0 w w' := by
  have H := Lib.hid h
  have HJ := Lib.hid HJ
  have HR := Lib.hid HR
  have q1 : (e == 0) = false := by simpa using he
  have q2 : (e != 0) = true := by simpa using he
  obtain ⟨x0, -⟩ := h.cells.1
  clear h he
  go_enter Tryz.func20, Tryz.ntmps20
  go_wp2_with fail
  refine HJ.out.mono ?_
  rintro x w1 ⟨rfl, hd1, k1⟩
  have H1 := Lib.hid (H.out.go hd1 k1)
  have K1 := Lib.hid k1
  clear x0 hd1 k1
  obtain ⟨⟨x0, x1, x2, x3, x4, x5, x6, x7, x8, x9⟩, f⟩ := H1.out.cells
  have f1 := f 1
  have f2 := f 2
  have f3 := f 3
  have f4 := f 4
  have f5 := f 5
  have f6 := f 6
  have f7 := f 7
  have f8 := f 8
  have f9 := f 9
  clear f
  go_wp2_with fail
  refine (HR.out _ H1.out.rows.rows).mono ?_
  rintro x w2 ⟨rfl, b2⟩
  have hb := b2.alloc b2.size (.cells #[.slice A1 d.S.length c1, .slice A2 d.C.length c2, .int .i64 (d.armed : Nat), .bool d.down, .int .i64 (d.ops : Nat)] 54)
  have H2 := Lib.hid (H1.out.later hb)
  have h3 := H1.out.ref (c3 := c1) (c4 := c2) hb (RNew.refl H1.out.rows.rows hb)
  have HB := Lib.hid hb
  clear x0 x1 x2 x3 x4 x5 x6 x7 x8 x9 f1 f2 f3 f4 f5 f6 f7 f8 f9
  clear hb b2
  go_upto_region 3 with fail
  obtain ⟨⟨x0, x1, x2, x3, x4, x5, x6, x7, x8, x9⟩, f⟩ := H2.out.cells
  have f1 := f 1
  have f2 := f 2
  have f3 := f 3
  have f4 := f 4
  have f5 := f 5
  have f6 := f 6
  have f7 := f 7
  have f8 := f 8
  have f9 := f 9
  clear f
  go_upto_region 4 with fail
  clear x0 x1 x2 x3 x4 x5 x6 x7 x8 x9 f1 f2 f3 f4 f5 f6 f7 f8 f9
  have K3 := Lib.hid ((K1.out.trans HB.out.kp).sub (G := fun j => F j ∧ j ≠ gw) (fun j q => q.1))
  have K4 := Lib.hid (K3.out.trans (set5_kp (w := w2.alloc (.cells #[.slice A1 d.S.length c1, .slice A2 d.C.length c2, .int .i64 (d.armed : Nat), .bool d.down, .int .i64 (d.ops : Nat)] 54)) (gw := gw) (A1 := A1) (A2 := A2) (c1 := c1) (c2 := c2) (r := d) (G := fun j => F j ∧ j ≠ gw) (fun q => q.2 rfl)))
  have HS := Lib.hid K1.out.size
  clear HB
  obtain ⟨F3, hF3⟩ : ∃ F3, Plus F w1.heap.size (w2.alloc (.cells #[.slice A1 d.S.length c1, .slice A2 d.C.length c2, .int .i64 (d.armed : Nat), .bool d.down, .int .i64 (d.ops : Nat)] 54)).heap.size = F3 := ⟨_, rfl⟩
  obtain ⟨Q3, hQ3⟩ : ∃ Q3, Plus Q w1.heap.size (w2.alloc (.cells #[.slice A1 d.S.length c1, .slice A2 d.C.length c2, .int .i64 (d.armed : Nat), .bool d.down, .int .i64 (d.ops : Nat)] 54)).heap.size = Q3 := ⟨_, rfl⟩
  have HF3 := Lib.hid (show ∀ j, F j → F3 j from fun j q => by rw [← hF3]; exact .inl q)
  have HQ3 := Lib.hid (show ∀ j, Q3 j → Q j ∨ w.heap.size ≤ j from fun j q => by
    rw [← hQ3] at q
    rcases q with q | q
    · exact .inl q
    · exact .inr (Nat.le_trans HS.out q.1))
  rw [hF3, hQ3] at h3
  have k4 := K4.out
  unfold set5 at h3 k4
  have H3 := Lib.hid h3
  have K5 := Lib.hid k4
  clear hF3 hQ3 h3 k4 K3 K4 H2
  generalize World.setCell _ _ _ = w5 at *
  have HSm := Lib.hid (refSame_any none none 0 0 [] [] w5 (.inl rfl) (.inl rfl) (by simp) (by simp) true (by simp))
  go_wp2_with fail
  refine HSm.out.mono ?_
  rintro x w6 ⟨rfl, b6⟩
  go_wp2
  go_ret
  exact ⟨rfl, F3, Q3, A1, A2, c1, c2, H3.out.later b6, HF3.out, HQ3.out, K5.out.trans b6.kp⟩
set_option maxHeartbeats 3200000 in
theorem wopen_ok (F Q : Nat → Prop) (b gw : Nat) (d : Dk) (A1 A2 : Option Addr) (c1 c2 : Nat) (jv : Value) (h0 e0 n0 : Nat) (w : World) (h : JX F Q b gw d d A1 A2 c1 c2 jv h0 e0 n0 w) (hjv : ∃ p, jv = .pointer p) (hI : Inv d) (hdn : d.down = false) (half epoch : Nat) (h1 : half ≤ 1) (h2 : 1 ≤ epoch) (h3 : epoch ≤ 4294967295) (ho : d.ops ≤ 1000000) (L : List Rec) (hL : jrecs d half epoch = L) (r : Nat) (hr : jreads d half epoch = r) (hlen : L.length ≤ 5000) :
    Calls Tryz.prog 20 #[.pointer (some ⟨gw, 0, none⟩), .int .i64 half, .int .i64 epoch] w fun x w' => x = .returned (.bool true) ∧ WN F Q b gw { d with ops := d.ops + r } half epoch L.length w w' := by
  have hk := h.disk.ok
  have hJ := jopen_ok F b d half epoch w h.disk h.top hdn h1 h2 h3 ho hI.len hI.sz.H h.tab h.tabF L hL r hr
  have hR := fun W (q : RAt W A1 A2 d) => refOpen_ok A1 A2 c1 c2 d half epoch W q hk hI hdn h1 h2 h3 ho L hL r hr
  obtain ⟨o9, ho9⟩ : ∃ o, d.ops + r = o := ⟨_, rfl⟩
  simp only [ho9, rc] at hJ hR ⊢
  have HJ := Lib.hid hJ
  have HR := Lib.hid hR
  have H := Lib.hid h
  have HL := Lib.hid hlen
  obtain ⟨x0, -⟩ := h.cells.1
  obtain ⟨jp, rfl⟩ := hjv
  clear h hI hdn h1 h2 h3 ho hL hr hk hJ hR ho9
  go_enter Tryz.func20, Tryz.ntmps20
  go_wp2_with fail
  refine HJ.out.mono ?_
  rintro x w1 ⟨⟨lv, rfl, hj1, ow1, hd1⟩, k1⟩
  have H1 := Lib.hid (H.out.goP hd1 k1)
  have K1 := Lib.hid k1
  obtain ⟨av, ac, hv1⟩ := (own_lenOf ow1).2
  subst hv1
  have OW1 := Lib.hid ow1
  have HJ1 := Lib.hid hj1
  clear x0 hd1 k1 ow1 hj1
  obtain ⟨⟨x0, x1, x2, x3, x4, x5, x6, x7, x8, x9⟩, f⟩ := H1.out.cells
  have f1 := f 1
  have f2 := f 2
  have f3 := f 3
  have f4 := f 4
  have f5 := f 5
  have f6 := f 6
  have f7 := f 7
  have f8 := f 8
  have f9 := f 9
  clear f
  go_wp2_with fail
  refine (HR.out _ H1.out.rows.rows).mono ?_
  rintro x w2 ⟨⟨mv, rfl, ow2⟩, b2⟩
  obtain ⟨bv, bc, hv2⟩ := (own_lenOf ow2).2
  subst hv2
  have hba := Joins.below_alloc1 w2 (.cells #[.slice A1 d.S.length c1, .slice A2 d.C.length c2, .int .i64 (d.armed : Nat), .bool d.down, .int .i64 (o9 : Nat)] 54)
  have hb := b2.alloc b2.size (.cells #[.slice A1 d.S.length c1, .slice A2 d.C.length c2, .int .i64 (d.armed : Nat), .bool d.down, .int .i64 (o9 : Nat)] 54)
  have hrn : RNew w1 (w2.alloc (.cells #[.slice A1 d.S.length c1, .slice A2 d.C.length c2, .int .i64 (d.armed : Nat), .bool d.down, .int .i64 (o9 : Nat)] 54)) A1 A2 A1 A2 d { d with ops := o9 } := ⟨H1.out.rows.rows.later hb, .inr (.inl ⟨rfl, rfl⟩), .inr (.inl ⟨rfl, rfl⟩)⟩
  have H2 := Lib.hid (H1.out.later hb)
  have h3 := H1.out.ref (c3 := c1) (c4 := c2) hb hrn
  have HB := Lib.hid hb
  have OW2 := Lib.hid (own_below ow2 hba (fun g hg => (ow2.lt g hg).2))
  have OW1b := Lib.hid (own_below OW1.out hb (fun g hg => (OW1.out.lt g hg).2))
  clear x0 x1 x2 x3 x4 x5 x6 x7 x8 x9 f1 f2 f3 f4 f5 f6 f7 f8 f9
  clear hb b2 hba hrn ow2
  go_upto_region 3 with fail
  obtain ⟨⟨x0, x1, x2, x3, x4, x5, x6, x7, x8, x9⟩, f⟩ := H2.out.cells
  have f1 := f 1
  have f2 := f 2
  have f3 := f 3
  have f4 := f 4
  have f5 := f 5
  have f6 := f 6
  have f7 := f 7
  have f8 := f 8
  have f9 := f 9
  clear f
  go_upto_region 4 with fail
  clear x0 x1 x2 x3 x4 x5 x6 x7 x8 x9 f1 f2 f3 f4 f5 f6 f7 f8 f9
  have hgl := H.out.lt
  have hsz1 := K1.out.size
  have k3 := (K1.out.trans HB.out.kp).sub (G := fun j => F j ∧ j ≠ gw) (fun j q => q.1)
  have k4 := k3.trans (set5_kp (w := w2.alloc (.cells #[.slice A1 d.S.length c1, .slice A2 d.C.length c2, .int .i64 (d.armed : Nat), .bool d.down, .int .i64 (o9 : Nat)] 54)) (gw := gw) (A1 := A1) (A2 := A2) (c1 := c1) (c2 := c2) (r := { d with ops := o9 }) (G := fun j => F j ∧ j ≠ gw) (fun q => q.2 rfl))
  have hj2 := HJ1.out.later HB.out
  have hj3 : JnAt w.heap.size b half epoch L.length (set5 (w2.alloc (.cells #[.slice A1 d.S.length c1, .slice A2 d.C.length c2, .int .i64 (d.armed : Nat), .bool d.down, .int .i64 (o9 : Nat)] 54)) gw A1 A2 c1 c2 { d with ops := o9 }) := ⟨(set5_other (by omega)).trans hj2.box⟩
  have ow5 := own_set5 (gw := gw) (A1 := A1) (A2 := A2) (c1 := c1) (c2 := c2) (r := { d with ops := o9 }) OW1b.out (by omega)
  have ow6 := own_set5 (gw := gw) (A1 := A1) (A2 := A2) (c1 := c1) (c2 := c2) (r := { d with ops := o9 }) OW2.out (by omega)
  obtain ⟨F3, hF3⟩ : ∃ F3, Plus (Plus F w.heap.size w1.heap.size) w1.heap.size (w2.alloc (.cells #[.slice A1 d.S.length c1, .slice A2 d.C.length c2, .int .i64 (d.armed : Nat), .bool d.down, .int .i64 (o9 : Nat)] 54)).heap.size = F3 := ⟨_, rfl⟩
  obtain ⟨Q3, hQ3⟩ : ∃ Q3, Plus Q w1.heap.size (w2.alloc (.cells #[.slice A1 d.S.length c1, .slice A2 d.C.length c2, .int .i64 (d.armed : Nat), .bool d.down, .int .i64 (o9 : Nat)] 54)).heap.size = Q3 := ⟨_, rfl⟩
  have HF3 := Lib.hid (show ∀ j, F j → F3 j from fun j q => by rw [← hF3]; exact .inl (.inl q))
  have HQ3 := Lib.hid (show ∀ j, Q3 j → Q j ∨ w.heap.size ≤ j from fun j q => by
    rw [← hQ3] at q
    rcases q with q | q
    · exact .inl q
    · exact .inr (Nat.le_trans hsz1 q.1))
  have HF4 := Lib.hid (show F3 w.heap.size from by rw [← hF3]; exact .inl (.inr ⟨Nat.le_refl _, HJ1.out.lt⟩))
  have HQ4 := Lib.hid (show ¬ Q3 w.heap.size from fun q => by
    rw [← hQ3] at q
    have := HJ1.out.lt
    rcases q with q | q
    · have := H.out.top _ (H.out.sub _ q); omega
    · omega)
  rw [hF3, hQ3] at h3
  unfold set5 at h3 k4 hj3 ow5 ow6
  dsimp only at h3 k4 hj3 ow5 ow6
  have H3 := Lib.hid h3
  have K4 := Lib.hid k4
  have HJ3 := Lib.hid hj3
  have OW5 := Lib.hid ow5
  have OW6 := Lib.hid ow6
  clear hF3 hQ3 h3 k3 k4 H2 hj2 hj3 ow5 ow6 OW1 OW2 OW1b HB HJ1 hsz1
  generalize World.setCell _ _ _ = w5 at *
  have hsm : Calls Tryz.prog 17 #[.slice av L.length ac, .slice bv L.length bc] w5 fun x w' => x = .returned (.bool true) ∧ Below w5.heap.size w5 w' := by
    obtain ⟨X1, Y1, e1, r1⟩ := RecRow.of_own OW5.out
    obtain ⟨X2, Y2, e2, r2⟩ := RecRow.of_own OW6.out
    injection e1 with e11 e12 e13
    injection e2 with e21 e22 e23
    subst e11 e13 e21 e23
    exact refSame_any _ _ _ _ L L w5 r1 r2 (by have := HL.out; omega) (by have := HL.out; omega) true (by simp)
  have HSm := Lib.hid hsm
  clear hsm
  obtain ⟨n, hn⟩ : ∃ n, L.length = n := ⟨_, rfl⟩
  have HN := Lib.hid hn
  rw [hn] at HSm HJ3 ⊢
  clear hn
  go_wp2_with fail
  refine HSm.out.mono ?_
  rintro x w6 ⟨rfl, b6⟩
  have H6 := Lib.hid (H3.out.later b6)
  have HJ6 := Lib.hid (HJ3.out.later b6)
  have K6 := Lib.hid (K4.out.trans b6.kp)
  obtain ⟨⟨x0, x1, x2, x3, x4, x5, x6, x7, x8, x9⟩, f⟩ := H6.out.cells
  have f1 := f 1
  have f2 := f 2
  have f3 := f 3
  have f4 := f 4
  have f5 := f 5
  have f6 := f 6
  have f7 := f 7
  have f8 := f 8
  have f9 := f 9
  clear f
  have h7 := H6.out.journal (.pointer (some ⟨w.heap.size, 0, none⟩)) half epoch n
  have k7 := K6.out.trans (set4_kp (gw := gw) (jv := .pointer (some ⟨w.heap.size, 0, none⟩)) (half := half) (epoch := epoch) (count := n) (G := fun j => F j ∧ j ≠ gw) (fun q => q.2 rfl))
  have hj7 : JnAt w.heap.size b half epoch n (set4 w6 gw (.pointer (some ⟨w.heap.size, 0, none⟩)) half epoch n) := ⟨(set4_other (by omega)).trans HJ6.out.box⟩
  unfold set4 at h7 k7 hj7
  have H7 := Lib.hid h7
  have K7 := Lib.hid k7
  have HJ7 := Lib.hid hj7
  clear h7 k7 hj7 hgl b6
  go_wp2
  go_ret
  have hn := HN.out
  subst hn
  exact ⟨rfl, F3, Q3, A1, A2, c1, c2, H7.out, HF3.out, HQ3.out, K7.out, HF4.out, HQ4.out, HJ7.out⟩
theorem wat_bad (F Q : Nat → Prop) (b gw : Nat) (d : Dk) (A1 A2 : Option Addr) (c1 c2 : Nat) (jv : Value) (h0 e0 n0 : Nat) (w : World) (h : JX F Q b gw d d A1 A2 c1 c2 jv h0 e0 n0 w) (half epoch count : Int) (hbd : atBad d.S.length half epoch count) :
    Calls Tryz.prog 55 #[.pointer (some ⟨gw, 0, none⟩), .int .i64 half, .int .i64 epoch, .int .i64 count] w fun x w' => x = .returned (.bool true) ∧ WP F Q b gw d jv h0 e0 n0 w w' := by
  have hk := h.disk.ok
  have HA := Lib.hid (at_bad F b d half epoch count w h.disk hbd)
  have HW := Lib.hid (fun W => refWrong_bad d.S.length half epoch count W ⟨hk.pos, hk.most⟩ hbd)
  have H := Lib.hid h
  obtain ⟨⟨x0, x1, x2, x3, x4, x5, x6, x7, x8, x9⟩, f⟩ := h.cells
  have f1 := f 1
  have f2 := f 2
  have f3 := f 3
  have f4 := f 4
  have f5 := f 5
  have f6 := f 6
  have f7 := f 7
  have f8 := f 8
  have f9 := f 9
  clear f
  clear h hbd hk
  go_enter Tryz.func55, Tryz.ntmps55
  go_wp2_with fail
  refine HA.out.mono ?_
  rintro x w1 ⟨rfl, rfl⟩
  go_wp2_with fail
  refine (HW.out _).mono ?_
  rintro x w1 ⟨rfl, rfl⟩
  go_wp2
  go_ret
  exact ⟨rfl, F, Q, A1, A2, c1, c2, H.out, fun j q => q, fun j q => .inl q, Kp.refl _ _⟩
theorem wat_ok (F Q : Nat → Prop) (b gw : Nat) (d : Dk) (A1 A2 : Option Addr) (c1 c2 : Nat) (jp : Option Addr) (h0 e0 n0 : Nat) (w : World) (h : JX F Q b gw d d A1 A2 c1 c2 (.pointer jp) h0 e0 n0 w) (half epoch count : Nat) (h1 : half ≤ 1) (h2 : 1 ≤ epoch) (h3 : epoch ≤ 4294967295) (h4 : count ≤ halfV d.S.length) :
    Calls Tryz.prog 55 #[.pointer (some ⟨gw, 0, none⟩), .int .i64 half, .int .i64 epoch, .int .i64 count] w fun x w' => x = .returned (.bool true) ∧ WN F Q b gw d half epoch count w w' := by
  have hk := h.disk.ok
  have HA := Lib.hid (at_ok F b d half epoch count w h.disk h1 h2 h3 h4)
  have HW := Lib.hid (fun W => refWrong_ok d.S.length half epoch count W ⟨hk.pos, hk.most⟩ h1 h2 h3 h4)
  have H := Lib.hid h
  obtain ⟨x0, -⟩ := h.cells.1
  clear h hk h1 h2 h3 h4
  go_enter Tryz.func55, Tryz.ntmps55
  go_wp2_with fail
  refine HA.out.mono ?_
  rintro x w1 ⟨rfl, hj1, z1, b1⟩
  have H1 := Lib.hid (H.out.grow b1)
  have HJ1 := Lib.hid hj1
  have hgl := H.out.lt
  have K1 := Lib.hid ((b1.kp (F := F)).sub (G := fun j => F j ∧ j ≠ gw) (fun j q => q.1))
  clear x0 hj1 b1 z1
  obtain ⟨⟨x0, x1, x2, x3, x4, x5, x6, x7, x8, x9⟩, f⟩ := H1.out.cells
  have f1 := f 1
  have f2 := f 2
  have f3 := f 3
  have f4 := f 4
  have f5 := f 5
  have f6 := f 6
  have f7 := f 7
  have f8 := f 8
  have f9 := f 9
  clear f
  go_wp2_with fail
  refine (HW.out _).mono ?_
  rintro x w2 ⟨rfl, rfl⟩
  have h7 := H1.out.journal (.pointer (some ⟨w.heap.size, 0, none⟩)) half epoch count
  have k7 := K1.out.trans (set4_kp (gw := gw) (jv := .pointer (some ⟨w.heap.size, 0, none⟩)) (half := half) (epoch := epoch) (count := count) (G := fun j => F j ∧ j ≠ gw) (fun q => q.2 rfl))
  have hj7 : JnAt w.heap.size b half epoch count (set4 w1 gw (.pointer (some ⟨w.heap.size, 0, none⟩)) half epoch count) := ⟨(set4_other (by omega)).trans HJ1.out.box⟩
  unfold set4 at h7 k7 hj7
  have H7 := Lib.hid h7
  have K7 := Lib.hid k7
  have HJ7 := Lib.hid hj7
  clear h7 k7 hj7 hgl
  go_wp2
  go_ret
  exact ⟨rfl, _, Q, A1, A2, c1, c2, H7.out, fun j q => .inl q, fun j q => .inl q, K7.out, .inr ⟨Nat.le_refl _, HJ1.out.lt⟩, fun q => by have := H.out.top _ (H.out.sub _ q); omega, HJ7.out⟩
end Go.Proofs.YtfbakelpplpomaaGreatDoor.Disk
