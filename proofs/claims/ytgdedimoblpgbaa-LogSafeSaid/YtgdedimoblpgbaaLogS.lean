/-
  What a Grow of a disk not armed lays (LogSafe): the plain law.
-/
import Derived.Test.YtgdedimoblpgbaaLogR
namespace Go.Proofs.Ytgdedimoblpgbaa.Disk
set_option linter.unusedVariables false

theorem putk_lay (d : Dk) (p : Nat) (r : ByteArray) (K : Nat) (h0 : d.armed = 0) (hd : d.down = false) (hp : p + K ≤ d.S.length) (hl : d.H.length = d.S.length) (hr : r.size = K * 128) : ∀ k, k ≤ K → (d.putk p r k).1.H.length = d.S.length ∧ ∀ i, i < k → (d.putk p r k).1.H[p + i]? = some (sect r i) := by
  intro k
  induction k with
  | zero => intro _; exact ⟨hl, fun i hi => absurd hi (by omega)⟩
  | succ k ih =>
    intro hk
    obtain ⟨j1, j2⟩ := ih (by omega)
    obtain ⟨i1, i2, i3, i4, -, -⟩ := putk_free d p r K h0 hd hp hr k (by omega)
    rw [Dk.putk, if_pos i1]
    generalize (d.putk p r k).1 = dk at i2 i3 i4 j1 j2 ⊢
    have hs : (sect r k).size = 128 := by unfold sect; rw [ByteArray.size_extract, hr]; omega
    have e : (dk.write ((p + k : Nat) : Int) (sect r k)).1.H = dk.H.set (p + k) (sect r k) := by
      unfold Dk.write
      rw [if_neg (by simp [i3]), if_pos (by unfold Dk.has; rw [i4]; omega), if_pos hs, if_neg (by simp [Dk.step, i2])]
      show dk.H.set (((p + k : Nat) : Int)).toNat (sect r k) = _
      rw [Int.toNat_natCast]
    rw [e]
    refine ⟨by rw [List.length_set]; exact j1, fun i hi => ?_⟩
    rw [List.getElem?_set]
    by_cases q : k = i
    · subst q
      rw [if_pos rfl, if_pos (by omega)]
    · rw [if_neg (by omega)]
      exact j2 i (by omega)
/-- bytes that grew on an empty log lie on the disk -/
theorem grow_hold (first most : Nat) (s : ByteArray) (d : Dk) (h0 : d.armed = 0) (hd : d.down = false) (hl : d.H.length = d.S.length) (hfm : first + most ≤ d.S.length) (hs : s.size ≤ most * 128) :
    Hold first s (growV d first most ByteArray.empty s).1.H := by
  have hem : ByteArray.empty.size = 0 := rfl
  unfold growV
  rw [if_neg (by rw [hem]; omega)]
  split
  · rename_i hz
    intro p x hx i j _ _ hlt
    omega
  · have hE : (ByteArray.empty.extract (ByteArray.empty.size / 128 * 128) ByteArray.empty.size ++ s) = s := by
      have : (ByteArray.empty.extract (ByteArray.empty.size / 128 * 128) ByteArray.empty.size) = ByteArray.empty := rfl
      rw [this]
      exact ByteArray.empty_append
    rw [hE]
    obtain ⟨K, hK⟩ : ∃ K, secs s.size = K := ⟨_, rfl⟩
    have hz : (padV s).size = K * 128 := by rw [padV_size, hK]
    have hKb : K ≤ most ∧ s.size ≤ K * 128 := by
      unfold secs at hK
      omega
    have hd1 : (padV s).size / 128 = K := by omega
    have hf0 : first + ByteArray.empty.size / 128 = first := by rw [hem]; omega
    show Hold first s (d.putk (first + ByteArray.empty.size / 128) (padV s) ((padV s).size / 128)).1.H
    rw [hd1, hf0]
    obtain ⟨-, hj⟩ := putk_lay d first (padV s) K h0 hd (by omega) hl hz K (Nat.le_refl _)
    intro p x hx i j hp hj2 hlt
    subst hp
    have := hj i (by omega)
    rw [hx] at this
    obtain rfl : x = sect (padV s) i := by simpa using this
    rw [sect_get _ _ _ hj2, padV_get _ _ hlt]
end Go.Proofs.Ytgdedimoblpgbaa.Disk
