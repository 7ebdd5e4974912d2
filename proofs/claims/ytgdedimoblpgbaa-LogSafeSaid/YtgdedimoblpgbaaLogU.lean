/-
  The sectors, read one after the other (LogSafe): the plain law.
-/
import Derived.Test.YtgdedimoblpgbaaLogS
namespace Go.Proofs.Ytgdedimoblpgbaa.Disk
set_option linter.unusedVariables false

/-- n sectors from a place on -/
def rdV (H : List ByteArray) (p : Nat) : Nat → ByteArray
  | 0 => ByteArray.empty
  | n + 1 => rdV H p n ++ H.getD (p + n) ByteArray.empty
theorem rdV_get (H : List ByteArray) (p : Nat) (hz : ∀ x ∈ H, x.size = 128) : ∀ n, p + n ≤ H.length → (rdV H p n).size = n * 128 ∧ ∀ i j, i < n → j < 128 → (rdV H p n).data[i * 128 + j]? = (H.getD (p + i) ByteArray.empty).data[j]? := by
  intro n
  induction n with
  | zero => intro _; exact ⟨rfl, fun i j hi => absurd hi (by omega)⟩
  | succ n ih =>
    intro hn
    obtain ⟨h1, h2⟩ := ih (by omega)
    have hs : (H.getD (p + n) ByteArray.empty).size = 128 := by
      have e : H.getD (p + n) ByteArray.empty = H[p + n] := by simp [List.getD, List.getElem?_eq_getElem (show p + n < H.length by omega)]
      rw [e]
      exact hz _ (List.getElem_mem _)
    refine ⟨by rw [rdV, ByteArray.size_append, h1, hs]; omega, fun i j hi hj => ?_⟩
    have hd : (rdV H p n).data.size = n * 128 := h1
    rw [rdV, ByteArray.data_append]
    by_cases q : i < n
    · rw [Array.getElem?_append_left (by omega)]
      exact h2 i j q hj
    · obtain rfl : i = n := by omega
      rw [Array.getElem?_append_right (by omega), hd]
      congr 1
      omega
theorem rdV_text (H : List ByteArray) (p : Nat) (t : ByteArray) (hz : ∀ x ∈ H, x.size = 128) (n : Nat) (hn : p + n ≤ H.length) (ht : t.size ≤ n * 128) (h : Hold p t H) : (rdV H p n).extract 0 t.size = t := by
  obtain ⟨h1, h2⟩ := rdV_get H p hz n hn
  apply ByteArray.ext
  apply Array.ext_getElem?
  intro k
  have hts : t.data.size = t.size := rfl
  have hrs : (rdV H p n).data.size = n * 128 := h1
  rw [ByteArray.data_extract, Array.getElem?_extract]
  by_cases q : k < t.size
  · rw [if_pos (by omega)]
    have e := h2 (k / 128) (k % 128) (by omega) (Nat.mod_lt _ (by omega))
    have e2 : k / 128 * 128 + k % 128 = k := by omega
    rw [e2] at e
    rw [Nat.zero_add, e]
    have hx : H[p + k / 128]? = some (H.getD (p + k / 128) ByteArray.empty) := by
      simp [List.getD, List.getElem?_eq_getElem (show p + k / 128 < H.length by omega)]
    have := h _ _ hx (k / 128) (k % 128) rfl (Nat.mod_lt _ (by omega)) (by omega)
    rw [this, e2]
  · rw [if_neg (by omega), Array.getElem?_eq_none (by omega)]
end Go.Proofs.Ytgdedimoblpgbaa.Disk
