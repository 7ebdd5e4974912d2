/-
  Every sector has 128 bytes (LogSafe): the plain law.
-/
import Derived.Test.YtgdedimoblpgbaaLogU
namespace Go.Proofs.Ytgdedimoblpgbaa.Disk
set_option linter.unusedVariables false

/-- every sector, and every one that was written, has 128 bytes -/
structure Sz (d : Dk) : Prop where
  S : ∀ x ∈ d.S, x.size = 128
  H : ∀ x ∈ d.H, x.size = 128
  C : ∀ c ∈ d.C, c.2.size = 128
theorem set_sz {S : List ByteArray} (h : ∀ x ∈ S, x.size = 128) (p : Nat) {y : ByteArray} (hy : y.size = 128) : ∀ x ∈ S.set p y, x.size = 128 := by
  intro x hx
  rcases List.mem_or_eq_of_mem_set hx with hx | rfl
  · exact h x hx
  · exact hy
theorem keeps_sz {S : List ByteArray} {C : List (Nat × ByteArray)} (h : ∀ x ∈ S, x.size = 128) (hC : ∀ c ∈ C, c.2.size = 128) (l : List Int) : ∀ n, n ≤ C.length → ∀ x ∈ keeps S C l n, x.size = 128 := by
  intro n
  induction n with
  | zero => intro _; exact h
  | succ n ih =>
    intro hn
    rw [keeps]
    split
    · refine set_sz (ih (by omega)) _ ?_
      have e : C.getD n (0, ByteArray.empty) = C[n] := by simp [List.getD, List.getElem?_eq_getElem (show n < C.length by omega)]
      rw [e]
      exact hC _ (List.getElem_mem _)
    · exact ih (by omega)
theorem Sz.crash {d : Dk} (h : Sz d) (l : List Int) : Sz (d.crash l) :=
  ⟨keeps_sz h.S h.C l _ (Nat.le_refl _), keeps_sz h.S h.C l _ (Nat.le_refl _), fun c hc => by cases hc⟩
theorem Sz.boot {d : Dk} (h : Sz d) : Sz d.boot := ⟨h.S, h.S, fun c hc => by cases hc⟩
theorem Sz.step {d : Dk} (h : Sz d) : Sz d.step.1 := by
  unfold Dk.step
  split
  · exact ⟨h.S, h.H, h.C⟩
  · exact ⟨h.S, h.H, h.C⟩
theorem Sz.arm {d : Dk} (h : Sz d) (n : Int) : Sz (d.arm n).1 := by
  unfold Dk.arm
  split
  · exact h
  · split
    · exact h
    · exact ⟨h.S, h.H, h.C⟩
theorem Sz.write {d : Dk} (h : Sz d) (i : Int) (x : ByteArray) : Sz (d.write i x).1 := by
  unfold Dk.write
  split
  · exact h
  · split
    · split
      · rename_i hx
        split
        · exact h.step
        · refine ⟨h.step.S, set_sz h.H _ hx, ?_⟩
          intro c hc
          rcases List.mem_append.1 hc with hc | hc
          · exact h.C c hc
          · obtain rfl : c = (i.toNat, x) := by simpa using hc
            exact hx
      · exact h
    · exact h
theorem Sz.putk {d : Dk} (h : Sz d) (p : Nat) (r : ByteArray) (k : Nat) : Sz (d.putk p r k).1 := by
  induction k with
  | zero => exact h
  | succ k ih =>
    rw [Dk.putk]
    split
    · exact ih.write _ _
    · exact ih
theorem Sz.grow {d : Dk} (h : Sz d) (first most : Nat) (t s : ByteArray) : Sz (growV d first most t s).1 := by
  unfold growV
  split
  · exact h
  · split
    · exact h
    · exact h.putk _ _ _
end Go.Proofs.Ytgdedimoblpgbaa.Disk
