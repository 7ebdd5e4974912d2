/-
  What each call leaves; what does answers..
-/
import Derived.Test.YtmehehiobcpeoaaDoesA
namespace Go.Proofs.Ytmehehiobcpeoaa.Disk
open Go.RowKit Go.Proofs.Ytmehehiobcpeoaa.DiskRows
set_option linter.unusedVariables false
set_option linter.unusedSimpArgs false
set_option maxRecDepth 100000

theorem inv_write (d : Dk) (i : Int) (s : ByteArray) (h : d.H = shows d.S d.C) : (d.write i s).1.H = shows (d.write i s).1.S (d.write i s).1.C ∧ (d.write i s).1.S.length = d.S.length ∧ (d.write i s).1.ops ≤ d.ops + 1 ∧ (d.write i s).1.C.length ≤ d.C.length + 1 := by
  obtain ⟨eS, eH, eC⟩ := step_same d
  have eo : d.step.1.ops ≤ d.ops + 1 := by unfold Dk.step; split <;> simp
  unfold Dk.write
  split
  · exact ⟨h, rfl, by simp, by simp⟩
  · split
    · split
      · split
        · exact ⟨by rw [eS, eH, eC]; exact h, by rw [eS], eo, by rw [eC]; simp⟩
        · refine ⟨?_, by simp [eS], eo, by simp⟩
          show d.H.set i.toNat s = shows d.step.1.S (d.C ++ [(i.toNat, s)])
          rw [eS, h]
          simp [shows]
      · exact ⟨h, rfl, by simp, by simp⟩
    · exact ⟨h, rfl, by simp, by simp⟩
theorem inv_flush (d : Dk) (h : d.H = shows d.S d.C) : d.flush.1.H = shows d.flush.1.S d.flush.1.C ∧ d.flush.1.S.length = d.S.length ∧ d.flush.1.ops ≤ d.ops + 1 ∧ d.flush.1.C.length ≤ d.C.length + 1 := by
  obtain ⟨eS, eH, eC⟩ := step_same d
  have eo : d.step.1.ops ≤ d.ops + 1 := by unfold Dk.step; split <;> simp
  unfold Dk.flush
  split
  · exact ⟨h, rfl, by simp, by simp⟩
  · split
    · exact ⟨by rw [eS, eH, eC]; exact h, by rw [eS], eo, by rw [eC]; simp⟩
    · refine ⟨?_, shows_length _ _, eo, by simp⟩
      show d.step.1.H = shows (shows d.S d.C) []
      rw [eH, h]
      rfl
theorem inv_read (d : Dk) (i : Int) (h : d.H = shows d.S d.C) : (d.read i).1.H = shows (d.read i).1.S (d.read i).1.C ∧ (d.read i).1.S.length = d.S.length ∧ (d.read i).1.ops ≤ d.ops + 1 ∧ (d.read i).1.C.length ≤ d.C.length + 1 := by
  unfold Dk.read
  split
  · exact ⟨h, rfl, by simp, by simp⟩
  · split
    · exact ⟨h, rfl, by simp, by simp⟩
    · exact ⟨h, rfl, by simp, by simp⟩
theorem inv_arm (d : Dk) (i : Int) (h : d.H = shows d.S d.C) : (d.arm i).1.H = shows (d.arm i).1.S (d.arm i).1.C ∧ (d.arm i).1.S.length = d.S.length ∧ (d.arm i).1.ops ≤ d.ops + 1 ∧ (d.arm i).1.C.length ≤ d.C.length + 1 := by
  unfold Dk.arm
  split
  · exact ⟨h, rfl, by simp, by simp⟩
  · split
    · exact ⟨h, rfl, by simp, by simp⟩
    · exact ⟨h, rfl, by simp, by simp⟩
theorem inv_crash (d : Dk) (K : List Int) : (d.crash K).H = shows (d.crash K).S (d.crash K).C ∧ (d.crash K).S.length = d.S.length ∧ (d.crash K).ops ≤ d.ops + 1 ∧ (d.crash K).C.length ≤ d.C.length + 1 :=
  ⟨rfl, keeps_length _ _ _ _, by simp [Dk.crash], by simp [Dk.crash]⟩
theorem inv_boot (d : Dk) : d.boot.H = shows d.boot.S d.boot.C ∧ d.boot.S.length = d.S.length ∧ d.boot.ops ≤ d.ops + 1 ∧ d.boot.C.length ≤ d.C.length + 1 :=
  ⟨rfl, rfl, by simp [Dk.boot], by simp [Dk.boot]⟩
theorem inv_over (d : Dk) (i : Int) (s : ByteArray) (h : d.H = shows d.S d.C) : (d.over i s).1.H = shows (d.over i s).1.S (d.over i s).1.C ∧ (d.over i s).1.S.length = d.S.length ∧ (d.over i s).1.ops ≤ d.ops + 1 ∧ (d.over i s).1.C.length ≤ d.C.length + 1 := by
  unfold Dk.over
  split
  · split
    · exact ⟨rfl, by simp, by simp, by simp⟩
    · exact ⟨h, rfl, by simp, by simp⟩
  · exact ⟨h, rfl, by simp, by simp⟩
theorem pl3_off {F : Nat → Prop} {n m : Nat} (h : Top F n) : ¬ Pl3 F n m n := fun q => by
  rcases q with q | q
  · have := h _ q; omega
  · omega
theorem pl3_old {F : Nat → Prop} {n m : Nat} : ∀ k, Pl3 F n m k → F k ∨ n ≤ k := fun k q => by
  rcases q with q | q
  · exact .inl q
  · exact .inr (by omega)
theorem topQ {F Q : Nat → Prop} {b : Nat} {d : Dk} {A A' : Option Addr} {w : World} (h : Both F Q b d A A' w) : Top Q w.heap.size := fun k hk => h.top k (h.sub k hk)
/-- what does answers -/
def DoesPost (F Q : Nat → Prop) (b : Nat) (d : Dk) (w : World) : Ending → World → Prop := fun x w' => ∃ F' Q' d' A1 c1 A2 c2, x = .returned (.tuple #[.agg (rc (.slice A1 d'.S.length c1) (.slice A2 d'.C.length c2) d').toArray, .bool true]) ∧ (Both F' Q' b d' A1 A2 w' ∧ Kp F w w') ∧ ((∀ k, F k → F' k) ∧ ∀ k, Q' k → Q k ∨ w.heap.size ≤ k) ∧ d'.S.length = d.S.length ∧ d'.ops ≤ d.ops + 1 ∧ d'.C.length ≤ d.C.length + 1
theorem txt_size (a : Ac) (h : a.text.size ≤ reachBytes) : (a.txt.size : Int) ≤ 9223372036854775807 := by
  unfold Ac.txt
  have : reachBytes ≤ 140737488355328 := by decide
  split
  · omega
  · rw [full_size]; decide
theorem RQ.same {Q : Nat → Prop} {w : World} {A A' : Option Addr} {d d' : Dk} (h : RQ Q w A A' d) (hS : d'.S = d.S) (hC : d'.C = d.C) : RQ Q w A A' d' :=
  ⟨⟨by rw [hS]; exact h.rows.1, by rw [hC]; exact h.rows.2⟩, by rw [hS]; exact h.one, by rw [hC]; exact h.two⟩
theorem arm_same (d : Dk) (n : Int) : (d.arm n).1.S = d.S ∧ (d.arm n).1.C = d.C := by
  unfold Dk.arm
  split
  · exact ⟨rfl, rfl⟩
  · split <;> exact ⟨rfl, rfl⟩
theorem read_same (d : Dk) (n : Int) : (d.read n).1.S = d.S ∧ (d.read n).1.C = d.C := by
  unfold Dk.read
  split
  · exact ⟨rfl, rfl⟩
  · split <;> exact ⟨rfl, rfl⟩
theorem wf_le {n : Int} (h : (Lit.int .i64 n).wf = true) : n ≤ 9223372036854775807 := by
  simp [Lit.wf, IntKind.wrap_i64] at h
  omega
end Go.Proofs.Ytmehehiobcpeoaa.Disk
