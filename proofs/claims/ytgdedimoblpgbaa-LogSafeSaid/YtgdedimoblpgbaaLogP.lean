/-
  What lies on the disk below a log's tail is kept (LogSafe): the plain law.
-/
import Derived.Test.YtgdedimoblpgbaaLogF
namespace Go.Proofs.Ytgdedimoblpgbaa.Disk
set_option linter.unusedVariables false

/-- a text at a place agrees with the log's bytes -/
def Agr (first : Nat) (t : ByteArray) (p : Nat) (x : ByteArray) : Prop := ∀ i j, p = first + i → j < 128 → i * 128 + j < t.size → x.data[j]? = t.data[i * 128 + j]?
def Hold (first : Nat) (t : ByteArray) (S : List ByteArray) : Prop := ∀ p x, S[p]? = some x → Agr first t p x
structure Safe (first : Nat) (t : ByteArray) (d : Dk) : Prop where
  S : Hold first t d.S
  H : Hold first t d.H
  C : ∀ c ∈ d.C, Agr first t c.1 c.2
theorem Hold.set {first : Nat} {t : ByteArray} {S : List ByteArray} (h : Hold first t S) {p : Nat} {x : ByteArray} (hx : Agr first t p x) : Hold first t (S.set p x) := by
  intro q y hy
  rw [List.getElem?_set] at hy
  split at hy
  · rename_i e
    subst e
    split at hy
    · obtain rfl : x = y := by simpa using hy
      exact hx
    · cases hy
  · exact h q y hy
theorem keeps_hold {first : Nat} {t : ByteArray} {S : List ByteArray} {C : List (Nat × ByteArray)} (h : Hold first t S) (hC : ∀ c ∈ C, Agr first t c.1 c.2) (l : List Int) : ∀ n, n ≤ C.length → Hold first t (keeps S C l n) := by
  intro n
  induction n with
  | zero => intro _; exact h
  | succ n ih =>
    intro hn
    rw [keeps]
    split
    · refine (ih (by omega)).set ?_
      have e : C.getD n (0, ByteArray.empty) = C[n] := by simp [List.getD, List.getElem?_eq_getElem (show n < C.length by omega)]
      rw [e]
      exact hC _ (List.getElem_mem _)
    · exact ih (by omega)
theorem Safe.crash {first : Nat} {t : ByteArray} {d : Dk} (h : Safe first t d) (l : List Int) : Safe first t (d.crash l) :=
  ⟨keeps_hold h.S h.C l _ (Nat.le_refl _), keeps_hold h.S h.C l _ (Nat.le_refl _), fun c hc => by cases hc⟩
theorem Safe.boot {first : Nat} {t : ByteArray} {d : Dk} (h : Safe first t d) : Safe first t d.boot :=
  ⟨h.S, h.S, fun c hc => by cases hc⟩
theorem Safe.arm {first : Nat} {t : ByteArray} {d : Dk} (h : Safe first t d) (n : Int) : Safe first t (d.arm n).1 := by
  unfold Dk.arm
  split
  · exact h
  · split
    · exact h
    · exact ⟨h.S, h.H, h.C⟩
theorem Safe.step {first : Nat} {t : ByteArray} {d : Dk} (h : Safe first t d) : Safe first t d.step.1 := by
  unfold Dk.step
  split
  · exact ⟨h.S, h.H, h.C⟩
  · exact ⟨h.S, h.H, h.C⟩
theorem Safe.write {first : Nat} {t : ByteArray} {d : Dk} (h : Safe first t d) (p : Nat) (x : ByteArray) (hx : Agr first t p x) : Safe first t (d.write p x).1 := by
  unfold Dk.write
  split
  · exact h
  · split
    · split
      · split
        · exact h.step
        · refine ⟨h.step.S, ?_, ?_⟩
          · exact h.H.set (by simpa using hx)
          · intro c hc
            rcases List.mem_append.1 hc with hc | hc
            · exact h.C c hc
            · obtain rfl : c = ((p : Int).toNat, x) := by simpa using hc
              simpa using hx
      · exact h
    · exact h
theorem Safe.putk {first : Nat} {t : ByteArray} {d : Dk} (h : Safe first t d) (p : Nat) (r : ByteArray) (K : Nat) (hx : ∀ k, k < K → Agr first t (p + k) (sect r k)) : ∀ k, k ≤ K → Safe first t (d.putk p r k).1 := by
  intro k
  induction k with
  | zero => intro _; exact h
  | succ k ih =>
    intro hk
    rw [Dk.putk]
    split
    · exact (ih (by omega)).write (p + k) _ (hx k (by omega))
    · exact ih (by omega)
end Go.Proofs.Ytgdedimoblpgbaa.Disk
