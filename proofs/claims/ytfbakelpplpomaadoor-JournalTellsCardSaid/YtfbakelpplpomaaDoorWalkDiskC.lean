/-
  The walk of the disk's Crash.
-/
import Derived.Test.YtfbakelpplpomaaDoorWalkDiskB
import Derived.Maps.OwnOps
import Derived.Maps.OwnSet
namespace Go.Proofs.YtfbakelpplpomaaDoor.Disk
open Go.RowKit Go.Proofs.YtfbakelpplpomaaDoor.DiskRows
open Go.Maps (Keyed)
set_option linter.unusedVariables false
set_option linter.unusedSimpArgs false
set_option maxRecDepth 100000

/-- the numbers that are kept, as a map -/
def kmap (l : List Int) : DataW Unit := l.foldl (fun D z => D.put (.int .i64 z) (.lit (.int .i64 1))) (.map [])
theorem kmap_snoc (l : List Int) (z : Int) : kmap (l ++ [z]) = (kmap l).put (.int .i64 z) (.lit (.int .i64 1)) := by simp [kmap, List.foldl_append]
theorem kmap_isMap (l : List Int) : Maps.IsMap (kmap l) := by
  have : ∀ (l : List Int) (D : DataW Unit), Maps.IsMap D → Maps.IsMap (l.foldl (fun D z => D.put (.int .i64 z) (.lit (.int .i64 1))) D) := by
    intro l
    induction l with
    | nil => intro D h; exact h
    | cons z l ih => intro D h; exact ih _ (h.put _ _)
  exact this l _ Maps.isMap_empty
theorem kmap_at (l : List Int) (x : Int) : (kmap l).atKey (.int .i64 x) (.lit (.int .i64 0)) = .lit (.int .i64 (if l.contains x then 1 else 0)) := by
  have : ∀ (n : Nat) (l : List Int), l.length = n → (kmap l).atKey (.int .i64 x) (.lit (.int .i64 0)) = .lit (.int .i64 (if l.contains x then 1 else 0)) := by
    intro n
    induction n with
    | zero => intro l h; rw [List.eq_nil_of_length_eq_zero h]; rfl
    | succ n ih =>
      intro l h
      rcases List.eq_nil_or_concat l with rfl | ⟨l', z, rfl⟩
      · simp at h
      · rw [List.concat_eq_append] at h ⊢
        rw [kmap_snoc]
        by_cases hz : x = z
        · subst hz
          rw [Maps.atKey_put_same (kmap_isMap l') (by trivial)]
          simp
        · rw [Maps.atKey_put_other (by intro e; cases e; exact hz rfl), ih l' (by simpa using h)]
          have : (l' ++ [z]).contains x = l'.contains x := by simp [hz]
          rw [this]
  exact this _ l rfl
/-- of the first n writes those of some numbers -/
def keeps (S : List ByteArray) (C : List (Nat × ByteArray)) (l : List Int) : Nat → List ByteArray
  | 0 => S
  | n + 1 => if l.contains (n : Int) then (keeps S C l n).set (C.getD n (0, ByteArray.empty)).1 (C.getD n (0, ByteArray.empty)).2 else keeps S C l n
theorem keeps_length (S : List ByteArray) (C : List (Nat × ByteArray)) (l : List Int) (n : Nat) : (keeps S C l n).length = S.length := by
  induction n with
  | zero => rfl
  | succ n ih => rw [keeps]; split <;> simp [ih]
/-- a row of numbers lies there -/
def Nums (w : World) (A : Option Addr) (l : List Int) : Prop := l = [] ∨ ∃ g off, A = some ⟨g, off, none⟩ ∧ g < w.heap.size ∧ ∀ i, i < l.length → w.cell? ⟨g, off + i, none⟩ = some (.int .i64 (l.getD i 0))
theorem Nums.later {w w' : World} {A : Option Addr} {l : List Int} (h : Nums w A l) (k : Below w.heap.size w w') : Nums w' A l := by
  rcases h with rfl | ⟨g, off, rfl, hg, hc⟩
  · exact .inl rfl
  · exact .inr ⟨g, off, rfl, Nat.lt_of_lt_of_le hg k.size, fun i hi => by rw [k.cell (p := ⟨g, off + i, none⟩) hg]; exact hc i hi⟩
theorem keyI : Keyed Tryd.prog 3 := Maps.int_keyed Tryd.underlying3
theorem zeroI (w : World) : (zeroValue 3).run Tryd.prog w = .ok (.int .i64 0) w := (zero_of_info (P := Tryd.prog) (t := 3) (v := .int .i64 0) (n := 1) (by kernel_rfl)).1 w
end Go.Proofs.YtfbakelpplpomaaDoor.Disk
