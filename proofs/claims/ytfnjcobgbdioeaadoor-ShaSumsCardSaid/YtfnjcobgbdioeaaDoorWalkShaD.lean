/-
  The walks of sha.New, there, Put, Len: a sum on its way.
-/
import Derived.Test.YtfnjcobgbdioeaaDoorWalkShaC
import Derived.Deep.RegionHeld3
namespace Go.Proofs.YtfnjcobgbdioeaaDoor.WalkSha
open Go.RowKit Go.Proofs.YtfnjcobgbdioeaaDoor.BytesRow
set_option linter.unusedVariables false
set_option linter.unusedSimpArgs false
set_option maxRecDepth 100000

/-- a sum's cells -/
def hV (s : Pl.Sha.St) (v : Value) (n : Nat) : Array Value := #[.int .u32 (s.a : Nat), .int .u32 (s.b : Nat), .int .u32 (s.c : Nat), .int .u32 (s.d : Nat), .int .u32 (s.e : Nat), .int .u32 (s.f : Nat), .int .u32 (s.g : Nat), .int .u32 (s.h : Nat), v, .int .i64 (n : Nat), .bool true]
/-- block b is a sum on its way: this state, these bytes left, so many put -/
structure HAt (b : Nat) (s : Pl.Sha.St) (v : Value) (n : Nat) (r : List UInt8) (w : World) : Prop where
  heap : w.heap[b]? = some (.cells (hV s v n) 39)
  row : Sl w (b + 1) v r
  ok : Ok s
theorem HAt.lt {b n : Nat} {s : Pl.Sha.St} {v : Value} {r : List UInt8} {w : World} (h : HAt b s v n r w) : b < w.heap.size := (Array.getElem?_eq_some_iff.1 h.heap).1
theorem HAt.below {b n : Nat} {s : Pl.Sha.St} {v : Value} {r : List UInt8} {w w' : World} (h : HAt b s v n r w) (k : Below w.heap.size w w') : HAt b s v n r w' :=
  ⟨by rw [k.block b h.lt]; exact h.heap, h.row.below k (fun g off n c e => h.row.lt g off n c e), h.ok⟩
theorem Ok.first : Ok Pl.Sha.first := ⟨by decide, by decide, by decide, by decide, by decide, by decide, by decide, by decide⟩
theorem Ok.plus (s t : Pl.Sha.St) : Ok (Pl.Sha.plus s t) := ⟨Nat.mod_lt _ (by decide), Nat.mod_lt _ (by decide), Nat.mod_lt _ (by decide), Nat.mod_lt _ (by decide), Nat.mod_lt _ (by decide), Nat.mod_lt _ (by decide), Nat.mod_lt _ (by decide), Nat.mod_lt _ (by decide)⟩
theorem Ok.blocks {s : Pl.Sha.St} (h : Ok s) (l : List UInt8) (k : Nat) : Ok (Pl.Sha.blocks s l k) := by
  cases k with
  | zero => exact h
  | succ k => exact Ok.plus _ _
/-- block b is a sum of l on its way -/
def HashAt (b : Nat) (l : List UInt8) (w : World) : Prop := ∃ v, HAt b (Pl.Sha.blocks Pl.Sha.first l (l.length / 64)) v l.length (Pl.Sha.rest l) w
theorem HashAt.lt {b : Nat} {l : List UInt8} {w : World} (h : HashAt b l w) : b < w.heap.size := by obtain ⟨v, h⟩ := h; exact h.lt
theorem HashAt.below {b : Nat} {l : List UInt8} {w w' : World} (h : HashAt b l w) (k : Below w.heap.size w w') : HashAt b l w' := by obtain ⟨v, h⟩ := h; exact ⟨v, h.below k⟩

theorem new_any (w : World) (ht : Tab w) : Calls Tryd.prog 11 #[] w fun e w' => e = .returned (.pointer (some ⟨w.heap.size, 0, none⟩)) ∧ HashAt w.heap.size [] w' ∧ Below w.heap.size w w' := by
  have c0 : w.cell? ⟨0, 0, none⟩ = some (.int .u32 1779033703) := ht.first 0 (by decide)
  have c1 : w.cell? ⟨0, 1, none⟩ = some (.int .u32 3144134277) := ht.first 1 (by decide)
  have c2 : w.cell? ⟨0, 2, none⟩ = some (.int .u32 1013904242) := ht.first 2 (by decide)
  have c3 : w.cell? ⟨0, 3, none⟩ = some (.int .u32 2773480762) := ht.first 3 (by decide)
  have c4 : w.cell? ⟨0, 4, none⟩ = some (.int .u32 1359893119) := ht.first 4 (by decide)
  have c5 : w.cell? ⟨0, 5, none⟩ = some (.int .u32 2600822924) := ht.first 5 (by decide)
  have c6 : w.cell? ⟨0, 6, none⟩ = some (.int .u32 528734635) := ht.first 6 (by decide)
  have c7 : w.cell? ⟨0, 7, none⟩ = some (.int .u32 1541459225) := ht.first 7 (by decide)
  go_enter Tryd.func11, Tryd.ntmps11
  go_wp2
  go_ret
  refine ⟨rfl, ⟨_, heap_alloc_last _ _, ?_, Ok.first⟩, Joins.below_alloc1 _ _⟩
  exact Sl.nil _ _

theorem there_yes (b : Nat) (w : World) (h : w.cell? ⟨b, 10, none⟩ = some (.bool true)) : Calls Tryd.prog 23 #[.pointer (some ⟨b, 0, none⟩)] w fun e w' => e = .returned (.bool true) ∧ w = w' := by
  go_enter Tryd.func23, Tryd.ntmps23
  go_wp2
  go_ret
  exact ⟨rfl, rfl⟩
theorem there_no (b : Nat) (w : World) (h : w.cell? ⟨b, 10, none⟩ = some (.bool false)) : Calls Tryd.prog 23 #[.pointer (some ⟨b, 0, none⟩)] w fun e w' => e = .returned (.bool false) ∧ w = w' := by
  go_enter Tryd.func23, Tryd.ntmps23
  go_wp2
  go_ret
  exact ⟨rfl, rfl⟩
theorem there_nil (w : World) : Calls Tryd.prog 23 #[.pointer none] w fun e w' => e = .returned (.bool false) ∧ w = w' := by
  go_enter Tryd.func23, Tryd.ntmps23
  go_wp2
  go_ret
  exact ⟨rfl, rfl⟩
theorem len_any (b : Nat) (l : List UInt8) (w : World) (h : HashAt b l w) : Calls Tryd.prog 14 #[.pointer (some ⟨b, 0, none⟩)] w fun e w' => e = .returned (.int .i64 (l.length : Nat)) ∧ w = w' := by
  obtain ⟨v, h, -, -⟩ := h
  have c9 : w.cell? ⟨b, 9, none⟩ = some (.int .i64 (l.length : Nat)) := by rw [cell_of_row w b 9 _ _ _ h]; rfl
  have c10 : w.cell? ⟨b, 10, none⟩ = some (.bool true) := by rw [cell_of_row w b 10 _ _ _ h]; rfl
  clear h
  go_enter Tryd.func14, Tryd.ntmps14
  go_wp2_with fail
  refine (there_yes b w c10).mono ?_
  rintro e w' ⟨rfl, rfl⟩
  go_wp2
  go_ret
  exact ⟨rfl, rfl⟩
end Go.Proofs.YtfnjcobgbdioeaaDoor.WalkSha
