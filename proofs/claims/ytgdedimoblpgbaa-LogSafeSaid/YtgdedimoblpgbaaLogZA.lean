/-
  LogSafe, the plain law joined.
-/
import Derived.Test.YtgdedimoblpgbaaLogZ
namespace Go.Proofs.Ytgdedimoblpgbaa.Disk
set_option linter.unusedVariables false

theorem growV_free (first most : Nat) (s : ByteArray) (d : Dk) (h0 : d.armed = 0) (hd : d.down = false) (hfm : first + most ≤ d.S.length) (hs : s.size ≤ most * 128) :
    (growV d first most ByteArray.empty s).1.armed = 0 ∧ (growV d first most ByteArray.empty s).1.down = false := by
  have hem : ByteArray.empty.size = 0 := rfl
  unfold growV
  rw [if_neg (by rw [hem]; omega)]
  split
  · exact ⟨h0, hd⟩
  · have hE : (ByteArray.empty.extract (ByteArray.empty.size / 128 * 128) ByteArray.empty.size ++ s) = s := ByteArray.empty_append
    rw [hE]
    obtain ⟨K, hK⟩ : ∃ K, secs s.size = K := ⟨_, rfl⟩
    have hz : (padV s).size = K * 128 := by rw [padV_size, hK]
    have hKb : K ≤ most := by
      unfold secs at hK
      omega
    have hd1 : (padV s).size / 128 = K := by omega
    have hf0 : first + ByteArray.empty.size / 128 = first := by rw [hem]; omega
    show (d.putk (first + ByteArray.empty.size / 128) (padV s) ((padV s).size / 128)).1.armed = 0 ∧ (d.putk (first + ByteArray.empty.size / 128) (padV s) ((padV s).size / 128)).1.down = false
    rw [hd1, hf0]
    obtain ⟨-, h1, h2, -⟩ := putk_free d first (padV s) K h0 hd (by omega) hz K (Nat.le_refl _)
    exact ⟨h1, h2⟩
/-- what was flushed is read again -/
theorem logSafe_plain (a b : ByteArray) (step : Int) (l : List Int) (N first most : Nat) (hN : first + most ≤ N) (ha : a.size ≤ most * 128) (d1 d2 d3 d4 : Dk) (e1 : (growV (fresh N) first most ByteArray.empty a).1 = d1) (e2 : d1.flush.1 = d2) (e3 : (d2.arm step).1 = d3) (e4 : (growV d3 first most a b).1 = d4) :
    (rdV ((d4.crash l).boot).H first (secs a.size)).extract 0 a.size = a ∧ d1.flush.2 = 0 := by
  have hl0 := fresh_len N
  obtain ⟨q1, q2⟩ := growV_free first most a (fresh N) rfl rfl (by rw [hl0.1]; exact hN) ha
  have hh := grow_hold first most a (fresh N) rfl rfl (by rw [hl0.1, hl0.2]) (by rw [hl0.1]; exact hN) ha
  have ht := (fresh_told N).grow first most ByteArray.empty a
  have hz := (fresh_sz N).grow first most ByteArray.empty a
  have hl := hl0.grow first most ByteArray.empty a
  rw [e1] at q1 q2 hh ht hz hl
  obtain ⟨hs, hf⟩ := flush_safe ht hh q1 q2
  have hz2 := hz.flush ht
  have hl2 := hl.flush
  rw [e2] at hs hz2 hl2
  have hs3 := hs.arm step
  have hz3 := hz2.arm step
  have hl3 := hl2.arm step
  rw [e3] at hs3 hz3 hl3
  have hs4 := growV_safe (most := most) (s := b) hs3
  have hz4 := hz3.grow first most a b
  have hl4 := hl3.grow first most a b
  rw [e4] at hs4 hz4 hl4
  have hsec : secs a.size ≤ most ∧ a.size ≤ secs a.size * 128 := by unfold secs; omega
  exact ⟨rdV_text _ first a ((hz4.crash l).boot).H _ (by rw [((hl4.crash l).boot).2]; omega) hsec.2 ((hs4.crash l).boot).H, hf⟩
end Go.Proofs.Ytgdedimoblpgbaa.Disk
