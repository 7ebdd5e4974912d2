/-
  LogSafe: all that the plain law says, in one place.
-/
import Derived.Test.YtgdedimoblpgbaaLogZD
namespace Go.Proofs.Ytgdedimoblpgbaa.Disk
set_option linter.unusedVariables false

theorem secs_sm (n : Nat) : secs n ≤ n + 1 := by
  unfold secs
  omega
theorem flush_ops (d : Dk) : d.flush.1.ops ≤ d.ops + 1 ∧ d.flush.1.C.length ≤ d.C.length := by
  obtain ⟨eS, eH, eC⟩ := step_same d
  have eo : d.step.1.ops ≤ d.ops + 1 := by unfold Dk.step; split <;> simp
  unfold Dk.flush
  split
  · simp
  · split
    · exact ⟨eo, by rw [eC]; omega⟩
    · exact ⟨eo, by simp⟩
theorem arm_ops (d : Dk) (n : Int) : (d.arm n).1.ops = d.ops ∧ (d.arm n).1.C = d.C := by
  unfold Dk.arm
  split
  · exact ⟨rfl, rfl⟩
  · split
    · exact ⟨rfl, rfl⟩
    · exact ⟨rfl, rfl⟩
/-- how it ends -/
structure SafeEnd (a : ByteArray) (N first : Nat) (d : Dk) : Prop where
  text : (rdV d.H first (secs a.size)).extract 0 a.size = a
  down : d.down = false
  len : Len N d
  sz : Sz d
  ops : d.ops ≤ 1000000
theorem logSafe_all (a b : ByteArray) (step : Int) (l : List Int) (N first most : Nat) (hN : first + most ≤ N) (ha : a.size ≤ most * 128) (ha2 : a.size ≤ 1000) (hb2 : b.size ≤ 1000) (q1 q4 : Dk × ByteArray × Int) (d2 d3 : Dk) (e1 : growV (fresh N) first most ByteArray.empty a = q1) (e2 : q1.1.flush.1 = d2) (e3 : (d2.arm step).1 = d3) (e4 : growV d3 first most a b = q4) :
    q1.2 = (a, 0) ∧ q1.1.flush.2 = 0 ∧ (q1.1.ops ≤ 100000 ∧ q1.1.C.length ≤ 10000) ∧ d2.ops ≤ 100000 ∧ (d3.ops ≤ 100000 ∧ d3.C.length ≤ 10000) ∧ SafeEnd a N first ((q4.1.crash l).boot) := by
  have hl0 := fresh_len N
  have hem : ByteArray.empty.size = 0 := rfl
  have hp := logSafe_plain a b step l N first most hN ha q1.1 d2 d3 q4.1 (by rw [e1]) e2 e3 (by rw [e4])
  have hf := growV_fits (fresh N) first most ByteArray.empty a rfl rfl (by rw [hl0.1]; exact hN) (by rw [hem]; omega)
  have ho := growV_ops (fresh N) first most ByteArray.empty a
  have ht := (fresh_told N).grow first most ByteArray.empty a
  have hz := (fresh_sz N).grow first most ByteArray.empty a
  have hl := hl0.grow first most ByteArray.empty a
  rw [e1] at ho ht hz hl hf
  have hfo : (fresh N).ops = 0 := rfl
  have hfc : (fresh N).C.length = 0 := rfl
  have s1 := secs_sm a.size
  rw [hem, Nat.zero_add, hfo, hfc] at ho
  have hz2 := hz.flush ht
  have hl2 := hl.flush
  have ho2 := flush_ops q1.1
  rw [e2] at hz2 hl2 ho2
  have hz3 := hz2.arm step
  have hl3 := hl2.arm step
  have ho3 := arm_ops d2 step
  rw [e3] at hz3 hl3 ho3
  have hz4 := hz3.grow first most a b
  have hl4 := hl3.grow first most a b
  have ho4 := growV_ops d3 first most a b
  rw [e4] at hz4 hl4 ho4
  have s2 := secs_sm (a.size + b.size)
  have hoe : ((q4.1.crash l).boot).ops = q4.1.ops := rfl
  have hCe : d3.C.length = d2.C.length := by rw [ho3.2]
  refine ⟨by rw [hf, ByteArray.empty_append], hp.2, ⟨by omega, by omega⟩, by omega, ⟨by omega, by omega⟩, ⟨hp.1, rfl, (hl4.crash l).boot, (hz4.crash l).boot, by rw [hoe]; omega⟩⟩
end Go.Proofs.Ytgdedimoblpgbaa.Disk
