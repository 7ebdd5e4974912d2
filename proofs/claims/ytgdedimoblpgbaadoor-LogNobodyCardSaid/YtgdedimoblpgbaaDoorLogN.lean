/-
  A log that no call made.
-/
import Derived.Test.YtgdedimoblpgbaaDoorLogF
import Derived.BigQuiet
namespace Go.Proofs.YtgdedimoblpgbaaDoor.Disk
open Go.RowKit Go.Proofs.YtgdedimoblpgbaaDoor.DiskRows
set_option linter.unusedVariables false
set_option linter.unusedSimpArgs false
set_option maxRecDepth 100000

/-- no log, or one over no disk -/
def NoLog (w : World) (p : Option Addr) : Prop := p = none ∨ ∃ bl, p = some ⟨bl, 0, none⟩ ∧ w.heap[bl]? = some (.cells #[.pointer none, .int .i64 0, .int .i64 0, .string ⟨#[]⟩] 26 (0, 0))
theorem NoLog.later {w w' : World} {p : Option Addr} (h : NoLog w p) (k : Below w.heap.size w w') : NoLog w' p := by
  rcases h with rfl | ⟨bl, rfl, h⟩
  · exact .inl rfl
  · exact .inr ⟨bl, rfl, by rw [k.block bl (Array.getElem?_eq_some_iff.1 h).1]; exact h⟩
theorem NoLog.cells {w : World} {bl : Nat} (h : w.heap[bl]? = some (.cells #[.pointer none, .int .i64 0, .int .i64 0, .string ⟨#[]⟩] 26 (0, 0))) :
    w.cell? ⟨bl, 0, none⟩ = some (.pointer none) ∧ w.cell? ⟨bl, 1, none⟩ = some (.int .i64 0) ∧ w.cell? ⟨bl, 2, none⟩ = some (.int .i64 0) ∧ w.cell? ⟨bl, 3, none⟩ = some (.string ⟨#[]⟩) :=
  ⟨(cell_of_row w _ 0 _ _ _ h).trans rfl, (cell_of_row w _ 1 _ _ _ h).trans rfl, (cell_of_row w _ 2 _ _ _ h).trans rfl, (cell_of_row w _ 3 _ _ _ h).trans rfl⟩
theorem all_no (p : Option Addr) (w : World) (h : NoLog w p) : Calls Tryd.prog 5 #[.pointer p] w fun x w' => x = .returned (.tuple #[.slice none 0 0, .int .i64 1]) ∧ Below w.heap.size w w' := by
  rcases h with rfl | ⟨bl, rfl, h⟩
  · go_enter Tryd.func5, Tryd.ntmps5
    go_wp2
    go_ret2
    exact ⟨rfl, Below.refl _ _⟩
  · obtain ⟨x0, x1, x2, x3⟩ := NoLog.cells h
    clear h
    go_enter Tryd.func5, Tryd.ntmps5
    go_wp2
    go_ret2
    exact ⟨rfl, Below.refl _ _⟩
theorem tail_no (p : Option Addr) (w : World) (h : NoLog w p) : Calls Tryd.prog 7 #[.pointer p] w fun x w' => x = .returned (.int .i64 0) ∧ Below w.heap.size w w' := by
  rcases h with rfl | ⟨bl, rfl, h⟩
  · go_enter Tryd.func7, Tryd.ntmps7
    go_wp2
    go_ret
    exact ⟨rfl, Below.refl _ _⟩
  · obtain ⟨x0, x1, x2, x3⟩ := NoLog.cells h
    clear h
    go_enter Tryd.func7, Tryd.ntmps7
    go_wp2
    go_ret
    exact ⟨rfl, Below.refl _ _⟩
theorem text_no (p : Option Addr) (w : World) (h : NoLog w p) : Calls Tryd.prog 8 #[.pointer p] w fun x w' => x = .returned (.string ⟨#[]⟩) ∧ Below w.heap.size w w' := by
  rcases h with rfl | ⟨bl, rfl, h⟩
  · go_enter Tryd.func8, Tryd.ntmps8
    go_wp2
    go_ret
    exact ⟨rfl, Below.refl _ _⟩
  · obtain ⟨x0, x1, x2, x3⟩ := NoLog.cells h
    clear h
    go_enter Tryd.func8, Tryd.ntmps8
    go_wp2
    go_ret
    exact ⟨rfl, Below.refl _ _⟩
theorem grow_no (p : Option Addr) (s : ByteArray) (w : World) (h : NoLog w p) : Calls Tryd.prog 9 #[.pointer p, .string s] w fun x w' => x = .returned (.int .i64 1) ∧ Below w.heap.size w w' := by
  rcases h with rfl | ⟨bl, rfl, h⟩
  · go_enter Tryd.func9, Tryd.ntmps9
    go_wp2
    go_ret
    exact ⟨rfl, Below.refl _ _⟩
  · obtain ⟨x0, x1, x2, x3⟩ := NoLog.cells h
    clear h
    go_enter Tryd.func9, Tryd.ntmps9
    go_wp2
    go_ret
    exact ⟨rfl, Below.refl _ _⟩
theorem put_no (p : Option Addr) (A : Option Addr) (n c : Nat) (w : World) (h : NoLog w p) : Calls Tryd.prog 10 #[.pointer p, .slice A n c] w fun x w' => x = .returned (.int .i64 1) ∧ Below w.heap.size w w' := by
  rcases h with rfl | ⟨bl, rfl, h⟩
  · go_enter Tryd.func10, Tryd.ntmps10
    go_wp2
    go_ret
    exact ⟨rfl, Below.refl _ _⟩
  · obtain ⟨x0, x1, x2, x3⟩ := NoLog.cells h
    clear h
    go_enter Tryd.func10, Tryd.ntmps10
    go_wp2
    go_ret
    exact ⟨rfl, Below.refl _ _⟩
theorem cut_no (p : Option Addr) (n : Int) (w : World) (h : NoLog w p) : Calls Tryd.prog 12 #[.pointer p, .int .i64 n] w fun x w' => x = .returned (.int .i64 1) ∧ Below w.heap.size w w' := by
  rcases h with rfl | ⟨bl, rfl, h⟩
  · go_enter Tryd.func12, Tryd.ntmps12
    go_wp2
    go_ret
    exact ⟨rfl, Below.refl _ _⟩
  · obtain ⟨x0, x1, x2, x3⟩ := NoLog.cells h
    clear h
    go_enter Tryd.func12, Tryd.ntmps12
    go_wp2
    go_ret
    exact ⟨rfl, Below.refl _ _⟩
theorem limit_no (p : Option Addr) (n : Int) (w : World) (h : NoLog w p) : Calls Tryd.prog 13 #[.pointer p, .int .i64 n] w fun x w' => x = .returned (.int .i64 1) ∧ Below w.heap.size w w' := by
  rcases h with rfl | ⟨bl, rfl, h⟩
  · go_enter Tryd.func13, Tryd.ntmps13
    go_wp2
    go_ret
    exact ⟨rfl, Below.refl _ _⟩
  · obtain ⟨x0, x1, x2, x3⟩ := NoLog.cells h
    clear h
    go_enter Tryd.func13, Tryd.ntmps13
    go_wp2
    go_ret
    exact ⟨rfl, Below.refl _ _⟩
theorem openNo_any (n : Int) (w : World) : Calls Tryd.prog 6 #[.pointer none, .int .i64 n, .int .i64 n, .int .i64 n] w fun x w' => x = .returned (.tuple #[.pointer none, .int .i64 1]) ∧ Below w.heap.size w w' := by
  have HS := Lib.hid (size_no none w (.inl rfl))
  go_enter Tryd.func6, Tryd.ntmps6
  go_wp2_with fail
  refine HS.out.mono ?_
  rintro x w1 ⟨rfl, rfl⟩
  go_wp2
  go_ret2
  exact ⟨rfl, Below.refl _ _⟩
theorem writes_no (p : Option Addr) (n : Int) (w : World) (h : NoLog w p) : Calls Tryd.prog 11 #[.pointer p, .int .i64 n] w fun x w' => x = .returned (.int .i64 0) ∧ Below w.heap.size w w' := by
  rcases h with rfl | ⟨bl, rfl, h⟩
  · go_enter Tryd.func11, Tryd.ntmps11
    go_upto_region 1 with fail
    go_region
    go_wp2
    go_ret
    exact ⟨rfl, (Below.refl _ w).drew⟩
  · obtain ⟨x0, x1, x2, x3⟩ := NoLog.cells h
    clear h
    go_enter Tryd.func11, Tryd.ntmps11
    go_upto_region 1 with fail
    go_region
    go_wp2
    go_ret
    exact ⟨rfl, (Below.refl _ w).drew⟩
end Go.Proofs.YtgdedimoblpgbaaDoor.Disk
