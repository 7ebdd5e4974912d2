/-
  The walks of pleachref07: in, step.
-/
import Derived.Test.YtmehehiobcpeoaaWalkDiskM
namespace Go.Proofs.Ytmehehiobcpeoaa.Disk
open Go.RowKit Go.Proofs.Ytmehehiobcpeoaa.DiskRows
set_option linter.unusedVariables false
set_option linter.unusedSimpArgs false
set_option maxRecDepth 100000

/-- the document's disk, as cells -/
def rc (vS vC : Value) (d : Dk) : List Value := [vS, vC, .int .i64 (d.armed : Nat), .bool d.down, .int .i64 (d.ops : Nat)]
theorem in_any (A : Option Addr) (c : Nat) (vC : Value) (d : Dk) (i : Int) (w : World) :
    Calls Try.prog 47 #[.agg (rc (.slice A d.S.length c) vC d).toArray, .int .i64 i] w fun x w' => x = .returned (.bool (decide (d.has i))) ∧ Below w.heap.size w w' := by
  have kb := Joins.below_alloc1 w (.cells #[.slice A d.S.length c, vC, .int .i64 (d.armed : Nat), .bool d.down, .int .i64 (d.ops : Nat)] 35)
  have HK := Lib.hid kb
  clear kb
  simp only [rc]
  by_cases hi : 0 ≤ i
  · by_cases hl : i < (d.S.length : Int)
    · rw [show decide (d.has i) = true from decide_eq_true (And.intro hi hl)]
      go_enter Try.func47, Try.ntmps47
      go_wp2
      go_ret
      exact ⟨by simp [hl], HK.out⟩
    · rw [show decide (d.has i) = false from decide_eq_false (fun k : d.has i => hl k.2)]
      go_enter Try.func47, Try.ntmps47
      go_wp2
      go_ret
      exact ⟨by simp, HK.out⟩
  · rw [show decide (d.has i) = false from decide_eq_false (fun k : d.has i => hi k.1)]
    go_enter Try.func47, Try.ntmps47
    go_wp2
    go_ret
    exact ⟨rfl, HK.out⟩
theorem refStep_any (A A' : Option Addr) (n c n' c' : Nat) (d : Dk) (w : World) (ha : (d.armed : Int) ≤ 9223372036854775807) (ho : (d.ops : Int) < 1000000000000) :
    Calls Try.prog 48 #[.agg (rc (.slice A n c) (.slice A' n' c') d).toArray] w fun x w' => x = .returned (.tuple #[.agg (rc (.slice A n c) (.slice A' n' c') d.step.1).toArray, .bool d.step.2]) ∧ Below w.heap.size w w' := by
  obtain ⟨S, Hs, C, a, dn, o⟩ := d
  simp only [rc, Dk.step] at ha ho ⊢
  have hw : IntKind.i64.wrap ((o : Int) + 1) = (o : Int) + 1 := by rw [IntKind.wrap_i64]; omega
  by_cases h1 : a = 1
  · subst h1
    simp only [if_pos]
    go_enter Try.func48, Try.ntmps48
    go_wp2
    refine bodyPost_ret (by simp [results, Try.results48, go_sem]; try rfl) rfl ?_
    exact ⟨rfl, ((Below.refl _ _).alloc (Nat.le_refl _) _).alloc (by simp) _⟩
  · by_cases h2 : 1 < a
    · rw [if_neg h1]
      have hz : ((a - 1 : Nat) : Int) = (a : Int) - 1 := by omega
      rw [hz]
      have h1i : ((a : Int) == 1) = false := by simp; omega
      have h2i : decide ((1 : Int) < (a : Int)) = true := decide_eq_true (by omega)
      have ha0 : 0 < (a : Int) := by omega
      have hw2 : IntKind.i64.wrap ((a : Int) - 1) = (a : Int) - 1 := by rw [IntKind.wrap_i64]; omega
      clear h1 h2 hz ha
      generalize (a : Int) = a at *
      go_enter Try.func48, Try.ntmps48
      go_wp2
      refine bodyPost_ret (by simp [results, Try.results48, go_sem]; try rfl) rfl ?_
      exact ⟨rfl, ((Below.refl _ _).alloc (Nat.le_refl _) _).alloc (by simp) _⟩
    · obtain rfl : a = 0 := by omega
      rw [if_neg h1]
      clear h1 h2
      go_enter Try.func48, Try.ntmps48
      go_wp2
      refine bodyPost_ret (by simp [results, Try.results48, go_sem]; try rfl) rfl ?_
      exact ⟨rfl, ((Below.refl _ _).alloc (Nat.le_refl _) _).alloc (by simp) _⟩
end Go.Proofs.Ytmehehiobcpeoaa.Disk
