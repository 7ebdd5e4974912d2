/-
  Rows of numbers ([]int): those that came in or were made, read.
-/
import Derived.Test.YtfbakelpplpomaaGreatDoorProg
import Derived.WalkKit
import Derived.KernelRfl
import Derived.Lib.Hide
import Derived.Deep.QuietTactic
import Derived.BigQuiet
import Derived.IntWalk
import Derived.DataReads
import Derived.Below
import Derived.Maps.AppendAt
namespace Go.Proofs.YtfbakelpplpomaaGreatDoor.WalkInts
open Go.RowKit
set_option linter.unusedVariables false
set_option linter.unusedSimpArgs false

/-- a slice of numbers that reads as l -/
def Ints (w : World) (A : Option Addr) (l : List Int) : Prop :=
  l = [] ∨ ∃ b off, A = some ⟨b, off, none⟩ ∧ ∀ i, i < l.length → w.cell? ⟨b, off + i, none⟩ = some (.int .i64 (l.getD i 0))
def nums (l : List Int) : List Value := l.map fun n => Value.int .i64 n
/-- an own row of numbers -/
def Own (w : World) (base : Nat) (v : Value) (l : List Int) : Prop := w.ownsRow base 3 1 v l.length (nums l)
theorem own_reads {w : World} {base : Nat} {v : Value} {l : List Int} (h : Own w base v l) : ∃ A c, v = .slice A l.length c ∧ Ints w A l ∧ (∀ b off, A = some ⟨b, off, none⟩ → base ≤ b ∧ b < w.heap.size) ∧ l.length ≤ maxLen ∧ (A = none ∨ ∃ b, A = some ⟨b, 0, none⟩) := by
  rcases h.2 with ⟨rfl, h0⟩ | ⟨g, cap, cur, rfl, hb, hg, hn, hm, hs, ht⟩
  · exact ⟨none, 0, by rw [h0], .inl (List.eq_nil_of_length_eq_zero h0), by simp, by omega, .inl rfl⟩
  · refine ⟨_, _, rfl, .inr ⟨g, 0, rfl, ?_⟩, ?_, by omega, .inr ⟨g, rfl⟩⟩
    · intro i hi
      have h1 : cur.toList[i]? = (nums l)[i]? := by rw [← ht, List.getElem?_take, if_pos (by omega)]
      have h2 : (nums l)[i]? = some (.int .i64 (l.getD i 0)) := by simp [nums, List.getD_eq_getElem?_getD, hi]
      rw [h2] at h1
      simp [World.cell?, hg]
      simpa using h1
    · rintro b off hx
      simp at hx
      obtain ⟨rfl, _⟩ := hx
      exact ⟨hb, (Array.getElem?_eq_some_iff.1 hg).1⟩
theorem Ints.block {w w' : World} {A : Option Addr} {l : List Int} (h : Ints w A l) (hB : ∀ g off, A = some ⟨g, off, none⟩ → l ≠ [] → w'.heap[g]? = w.heap[g]?) : Ints w' A l := by
  rcases h with rfl | ⟨g, off, rfl, hc⟩
  · exact .inl rfl
  · rcases List.eq_nil_or_concat l with rfl | ⟨k, a, rfl⟩
    · exact .inl rfl
    · exact .inr ⟨g, off, rfl, fun i hi => by rw [World.cell?_of_block (w := w) (a := ⟨g, off + i, none⟩) (hB g off rfl (by simp))]; exact hc i hi⟩
theorem Ints.below {w w' : World} {A : Option Addr} {l : List Int} (h : Ints w A l) {B : Nat} (b : Below B w w') (hB : ∀ g off, A = some ⟨g, off, none⟩ → g < B) : Ints w' A l :=
  h.block fun g off e _ => b.block g (hB g off e)
theorem Ints.drop {w : World} {b off : Nat} {l : List Int} (h : Ints w (some ⟨b, off, none⟩) l) (k : Nat) : Ints w (some ⟨b, off + k, none⟩) (l.drop k) := by
  rcases h with rfl | ⟨g, o, hx, hc⟩
  · left; simp
  · simp at hx
    obtain ⟨rfl, rfl⟩ := hx
    refine .inr ⟨_, _, rfl, fun i hi => ?_⟩
    rw [List.length_drop] at hi
    rw [Nat.add_assoc, hc (k + i) (by omega)]
    simp [List.getD_eq_getElem?_getD]
theorem Ints.cell {w : World} {g off : Nat} {l : List Int} (h : Ints w (some ⟨g, off, none⟩) l) {k : Nat} (hk : k < l.length) : w.cell? ⟨g, off + k, none⟩ = some (.int .i64 (l.getD k 0)) := by
  rcases h with rfl | ⟨b, o, e, hc⟩
  · simp at hk
  · simp at e
    obtain ⟨rfl, rfl⟩ := e
    exact hc k hk
theorem Ints.addr {w : World} {A : Option Addr} {l : List Int} (h : Ints w A l) (hk : l ≠ []) : ∃ g off, A = some ⟨g, off, none⟩ := by
  rcases h with rfl | ⟨b, o, e, hc⟩
  · exact absurd rfl hk
  · exact ⟨b, o, e⟩

theorem nums_append (l : List Int) (x : Int) : nums l ++ [.int .i64 x] = nums (l ++ [x]) := by simp [nums]
theorem Own.app {w : World} {base : Nat} {v : Value} {l : List Int} {x : Int} (h : w.ownsRow base 3 1 v (l.length + 1) (nums l ++ [.int .i64 x])) : Own w base v (l ++ [x]) := by
  unfold Own
  rw [List.length_append, ← nums_append]
  exact h
theorem Own.nil (w : World) (base : Nat) : Own w base (.slice none 0 0) [] := World.ownsRow_nil w base 3 1
theorem Own.kept {w w' : World} {base : Nat} {v : Value} {l : List Int} {row : Option Nat} (h : Own w base v l) (hg : w.grownBy w' row) (hne : v.ownBlock = none ∨ v.ownBlock ≠ row) : Own w' base v l := World.ownsRow.kept h hg hne
theorem Own.lt {w : World} {base : Nat} {v : Value} {l : List Int} (h : Own w base v l) : ∀ g, v.ownBlock = some g → base ≤ g ∧ g < w.heap.size := fun g e => World.ownsRow.lt h g e
theorem Own.apart {w : World} {base b : Nat} {v : Value} {l : List Int} (h : Own w base v l) (hb : b < base) : v.ownBlock = none ∨ v.ownBlock ≠ some b := by
  cases hx : v.ownBlock with
  | none => exact .inl rfl
  | some g => right; have := h.lt g hx; intro e; simp at e; omega
theorem Own.ne {w : World} {base b : Nat} {v : Value} {l : List Int} (h : Own w base v l) (hb : b < base) : some b ≠ v.ownBlock := fun e => by
  have := h.lt b e.symm
  omega
theorem Own.below {w w' : World} {base : Nat} {v : Value} {l : List Int} (h : Own w base v l) (hb : Below w.heap.size w w') : Own w' base v l := by
  refine h.kept (row := none) ⟨hb.os, hb.tape, hb.output, hb.size, fun k hk _ => hb.block k hk⟩ ?_
  cases v.ownBlock <;> simp
theorem Own.mono {w : World} {base base' : Nat} {v : Value} {l : List Int} (h : Own w base v l) (hb : base' ≤ base) : Own w base' v l := by
  refine ⟨h.1, h.2.imp id ?_⟩
  rintro ⟨g, cap, cur, e, hg, r⟩
  exact ⟨g, cap, cur, e, by omega, r⟩
theorem info_int : (Tryz.prog.info? 3).map (fun i => (i.zero, i.size, i.bytes)) = some (some (.int .i64 0), 1, 8) := by kernel_rfl
theorem heap_new (w : World) (o : Obj) : (w.alloc o).heap[w.heap.size]? = some o := by
  unfold World.alloc
  simp
theorem Own.one (w : World) (x : Int) : Own (w.alloc (.cells #[.int .i64 x] 3)) w.heap.size (.slice (some ⟨w.heap.size, 0, none⟩) 1 1) [x] :=
  ⟨by simp [nums], .inr ⟨w.heap.size, 1, #[.int .i64 x], rfl, Nat.le_refl _, heap_new w _, by simp, by unfold maxLen; omega, by simp, by simp [nums]⟩⟩
end Go.Proofs.YtfbakelpplpomaaGreatDoor.WalkInts
