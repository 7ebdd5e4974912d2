/-
  Values: value.Check, and the document's Is of a value.
-/
import Derived.Test.YtpaegpbabfohcaaPathRow
namespace Go.Proofs.Ytpaegpbabfohcaa.Paths
open Go.RowKit Go.Proofs.Ytpaegpbabfohcaa.WalkBytes
set_option linter.unusedVariables false
set_option linter.unusedSimpArgs false
set_option maxRecDepth 100000

def valOk (k n : Int) (t : ByteArray) : Bool :=
  if k = 1 then decide (n = 0 ∨ n = 1) && decide (t.size = 0) else if k = 2 then decide (t.size = 0) else if k = 3 then decide (n = 0) && decide (t.size ≤ 64) else false
theorem empty_of {t : ByteArray} (h : t.size = 0) : t = ByteArray.empty := by
  apply ByteArray.ext
  apply Array.ext'
  have hsl : t.data.toList.length = t.size := by simp
  have : t.data.toList = [] := List.eq_nil_of_length_eq_zero (by omega)
  rw [this]; rfl
theorem not_empty {t : ByteArray} (h : ¬ t.size = 0) : t.toList.isEmpty = false ∧ (t.toList == (⟨#[]⟩ : ByteArray).toList) = false := by
  have hsl : t.data.toList.length = t.size := by simp
  have hemp : t.toList.isEmpty = false := by
    rw [ByteArray.toList_eq]
    cases hq : t.data.toList with
    | nil => rw [hq] at hsl; simp at hsl; omega
    | cons c l => rfl
  refine ⟨hemp, ?_⟩
  rw [show (⟨#[]⟩ : ByteArray).toList = [] from bs_toList []]
  cases hq : t.toList with
  | nil => rw [hq] at hemp; simp at hemp
  | cons c l => rfl
set_option maxHeartbeats 3200000 in
theorem valueCheck_any (k n : Int) (t : ByteArray) (w : World) :
    Calls Try.prog 108 #[.agg #[.int .i64 k, .int .i64 n, .string t]] w fun e w' => e = .returned (.int .i64 (arg (valOk k n t))) ∧ Below w.heap.size w w' := by
  have hB := Joins.below_alloc1 w (.cells #[.int .i64 k, .int .i64 n, .string t] 125)
  have HB := Lib.hid hB
  obtain ⟨V, hV⟩ : ∃ V, V = valOk k n t := ⟨_, rfl⟩
  rw [← hV]
  have HV := Lib.hid hV
  clear hB hV
  by_cases k1 : k = 1
  · subst k1
    by_cases n0 : n = 0
    · subst n0
      by_cases hT : t.size = 0
      · obtain rfl := empty_of hT
        have hv : V = true := by rw [HV.out]; unfold valOk; rfl
        subst hv
        clear HV
        clear hT
        go_enter Try.func108, Try.ntmps108
        go_wp2_with fail
        go_ret
        exact ⟨rfl, HB.out⟩
      · obtain ⟨g1, g2⟩ := not_empty hT
        have hv : V = false := by rw [HV.out]; unfold valOk; simp [hT]
        subst hv
        clear HV
        clear hT
        go_enter Try.func108, Try.ntmps108
        go_wp2_with fail
        go_ret
        exact ⟨rfl, HB.out⟩
    · by_cases n1 : n = 1
      · subst n1
        by_cases hT : t.size = 0
        · obtain rfl := empty_of hT
          have hv : V = true := by rw [HV.out]; unfold valOk; rfl
          subst hv
          clear HV
          clear hT n0
          go_enter Try.func108, Try.ntmps108
          go_wp2_with fail
          go_ret
          exact ⟨rfl, HB.out⟩
        · obtain ⟨g1, g2⟩ := not_empty hT
          have hv : V = false := by rw [HV.out]; unfold valOk; simp [hT]
          subst hv
          clear HV
          clear hT n0
          go_enter Try.func108, Try.ntmps108
          go_wp2_with fail
          go_ret
          exact ⟨rfl, HB.out⟩
      · have e0 : (n == 0) = false := by simpa using n0
        have e1 : (n == 1) = false := by simpa using n1
        have d1 : (decide (0 ≤ n) && decide (n ≤ 1)) = false := by rw [Bool.and_eq_false_iff, decide_eq_false_iff_not, decide_eq_false_iff_not]; omega
        rcases (by omega : n < 0 ∨ 1 < n) with hn | hn
        all_goals
          have hv : V = false := by rw [HV.out]; unfold valOk; simp [n0, n1]
          subst hv
          clear HV
          clear n0 n1
          go_enter Try.func108, Try.ntmps108
          go_wp2_with fail
          go_ret
          exact ⟨rfl, HB.out⟩
  · have q1 : (k == 1) = false := by simpa using k1
    by_cases k2 : k = 2
    · subst k2
      by_cases hT : t.size = 0
      · obtain rfl := empty_of hT
        have hv : V = true := by rw [HV.out]; unfold valOk; rfl
        subst hv
        clear HV
        clear hT k1
        go_enter Try.func108, Try.ntmps108
        go_wp2_with fail
        go_ret
        exact ⟨rfl, HB.out⟩
      · obtain ⟨g1, g2⟩ := not_empty hT
        have hv : V = false := by rw [HV.out]; unfold valOk; simp [hT]
        subst hv
        clear HV
        clear hT k1
        go_enter Try.func108, Try.ntmps108
        go_wp2_with fail
        go_ret
        exact ⟨rfl, HB.out⟩
    · have q2 : (k == 2) = false := by simpa using k2
      by_cases k3 : k = 3
      · subst k3
        by_cases n0 : n = 0
        · subst n0
          by_cases h64 : t.size ≤ 64
          · have hi : decide ((t.size : Int) ≤ 64) = true := by simp; omega
            have hv : V = true := by rw [HV.out]; unfold valOk; simp [h64]
            subst hv
            clear HV
            clear h64 k1 k2
            go_enter Try.func108, Try.ntmps108
            go_wp2_with fail
            go_ret
            exact ⟨rfl, HB.out⟩
          · have hi : decide ((t.size : Int) ≤ 64) = false := by simp; omega
            have hv : V = false := by rw [HV.out]; unfold valOk; simp [h64]
            subst hv
            clear HV
            clear h64 k1 k2
            go_enter Try.func108, Try.ntmps108
            go_wp2_with fail
            go_ret
            exact ⟨rfl, HB.out⟩
        · have e0 : (n == 0) = false := by simpa using n0
          have hv : V = false := by rw [HV.out]; unfold valOk; simp [n0]
          subst hv
          clear HV
          clear n0 k1 k2
          go_enter Try.func108, Try.ntmps108
          go_wp2_with fail
          go_ret
          exact ⟨rfl, HB.out⟩
      · have q3 : (k == 3) = false := by simpa using k3
        have hv : V = false := by rw [HV.out]; unfold valOk; simp [k1, k2, k3]
        subst hv
        clear HV
        clear k1 k2 k3
        go_enter Try.func108, Try.ntmps108
        go_wp2_with fail
        go_ret
        exact ⟨rfl, HB.out⟩
set_option maxHeartbeats 3200000 in
theorem refVal_any (k n : Int) (t : ByteArray) (w : World) :
    Calls Try.prog 107 #[.agg #[.int .i64 k, .int .i64 n, .string t]] w fun e w' => e = .returned (.bool (valOk k n t)) ∧ Below w.heap.size w w' := by
  have hB := Joins.below_alloc1 w (.cells #[.int .i64 k, .int .i64 n, .string t] 125)
  have HB := Lib.hid hB
  obtain ⟨V, hV⟩ : ∃ V, V = valOk k n t := ⟨_, rfl⟩
  rw [← hV]
  have HV := Lib.hid hV
  clear hB hV
  by_cases k1 : k = 1
  · subst k1
    by_cases n0 : n = 0
    · subst n0
      by_cases hT : t.size = 0
      · obtain rfl := empty_of hT
        have hv : V = true := by rw [HV.out]; unfold valOk; rfl
        subst hv
        clear HV
        clear hT
        go_enter Try.func107, Try.ntmps107
        go_wp2_with fail
        go_ret
        exact ⟨rfl, HB.out⟩
      · obtain ⟨g1, g2⟩ := not_empty hT
        have hv : V = false := by rw [HV.out]; unfold valOk; simp [hT]
        subst hv
        clear HV
        clear hT
        go_enter Try.func107, Try.ntmps107
        go_wp2_with fail
        go_ret
        exact ⟨rfl, HB.out⟩
    · by_cases n1 : n = 1
      · subst n1
        by_cases hT : t.size = 0
        · obtain rfl := empty_of hT
          have hv : V = true := by rw [HV.out]; unfold valOk; rfl
          subst hv
          clear HV
          clear hT n0
          go_enter Try.func107, Try.ntmps107
          go_wp2_with fail
          go_ret
          exact ⟨rfl, HB.out⟩
        · obtain ⟨g1, g2⟩ := not_empty hT
          have hv : V = false := by rw [HV.out]; unfold valOk; simp [hT]
          subst hv
          clear HV
          clear hT n0
          go_enter Try.func107, Try.ntmps107
          go_wp2_with fail
          go_ret
          exact ⟨rfl, HB.out⟩
      · have e0 : (n == 0) = false := by simpa using n0
        have e1 : (n == 1) = false := by simpa using n1
        have d1 : (decide (0 ≤ n) && decide (n ≤ 1)) = false := by rw [Bool.and_eq_false_iff, decide_eq_false_iff_not, decide_eq_false_iff_not]; omega
        rcases (by omega : n < 0 ∨ 1 < n) with hn | hn
        all_goals
          have hv : V = false := by rw [HV.out]; unfold valOk; simp [n0, n1]
          subst hv
          clear HV
          clear n0 n1
          go_enter Try.func107, Try.ntmps107
          go_wp2_with fail
          go_ret
          exact ⟨rfl, HB.out⟩
  · have q1 : (k == 1) = false := by simpa using k1
    by_cases k2 : k = 2
    · subst k2
      by_cases hT : t.size = 0
      · obtain rfl := empty_of hT
        have hv : V = true := by rw [HV.out]; unfold valOk; rfl
        subst hv
        clear HV
        clear hT k1
        go_enter Try.func107, Try.ntmps107
        go_wp2_with fail
        go_ret
        exact ⟨rfl, HB.out⟩
      · obtain ⟨g1, g2⟩ := not_empty hT
        have hv : V = false := by rw [HV.out]; unfold valOk; simp [hT]
        subst hv
        clear HV
        clear hT k1
        go_enter Try.func107, Try.ntmps107
        go_wp2_with fail
        go_ret
        exact ⟨rfl, HB.out⟩
    · have q2 : (k == 2) = false := by simpa using k2
      by_cases k3 : k = 3
      · subst k3
        by_cases n0 : n = 0
        · subst n0
          by_cases h64 : t.size ≤ 64
          · have hi : decide ((t.size : Int) ≤ 64) = true := by simp; omega
            have hv : V = true := by rw [HV.out]; unfold valOk; simp [h64]
            subst hv
            clear HV
            clear h64 k1 k2
            go_enter Try.func107, Try.ntmps107
            go_wp2_with fail
            go_ret
            exact ⟨rfl, HB.out⟩
          · have hi : decide ((t.size : Int) ≤ 64) = false := by simp; omega
            have hv : V = false := by rw [HV.out]; unfold valOk; simp [h64]
            subst hv
            clear HV
            clear h64 k1 k2
            go_enter Try.func107, Try.ntmps107
            go_wp2_with fail
            go_ret
            exact ⟨rfl, HB.out⟩
        · have e0 : (n == 0) = false := by simpa using n0
          have hv : V = false := by rw [HV.out]; unfold valOk; simp [n0]
          subst hv
          clear HV
          clear n0 k1 k2
          go_enter Try.func107, Try.ntmps107
          go_wp2_with fail
          go_ret
          exact ⟨rfl, HB.out⟩
      · have q3 : (k == 3) = false := by simpa using k3
        have hv : V = false := by rw [HV.out]; unfold valOk; simp [k1, k2, k3]
        subst hv
        clear HV
        clear k1 k2 k3
        go_enter Try.func107, Try.ntmps107
        go_wp2_with fail
        go_ret
        exact ⟨rfl, HB.out⟩
end Go.Proofs.Ytpaegpbabfohcaa.Paths
