/-
  The walks of entry.Check and of the document's Is of a record.
-/
import Derived.Test.YtfbakelpplpomaaGreatDoorWalkNameB
namespace Go.Proofs.YtfbakelpplpomaaGreatDoor.WalkSeat
open Go.RowKit Go.Proofs.YtfbakelpplpomaaGreatDoor.WalkVar Go.Proofs.YtfbakelpplpomaaGreatDoor.WalkScan Go.Proofs.YtfbakelpplpomaaGreatDoor.WalkCrc
open Pl.Seat (numV numR txtV txtR numP txtP Head isH putH openS isName nameByte isHash Rec isR)
set_option linter.unusedVariables false
set_option linter.unusedSimpArgs false
set_option maxRecDepth 100000

/-- a record out of its parts -/
def rc (e q k : Int) (N O M : ByteArray) (t u : Int) : Rec := ⟨e, q, k, N.data.toList, O.data.toList, M.data.toList, t, u⟩
/-- is there neither an old nor a new sum? -/
def bare2 (O M : ByteArray) : Bool := decide (O.size = 0) && decide (M.size = 0)
theorem isR_and (e q k : Int) (N O M : ByteArray) (t u : Int) : isR (rc e q k N O M t u) =
    (((((((((decide (1 ≤ e) && decide (e ≤ 4294967295)) && (decide (0 ≤ q) && decide (q ≤ 4095))) && (decide (1 ≤ k) && decide (k ≤ 2))) && (decide (0 ≤ t) && decide (t ≤ 524288))) && (decide (1 ≤ u) && decide (u ≤ 4294967296))) && isName N.data.toList) && isHash O.data.toList) && isHash M.data.toList) && !bare2 O M) := by
  unfold isR rc bare2
  have h1 : O.data.toList.length = O.size := by simp
  have h2 : M.data.toList.length = M.size := by simp
  simp only [h1, h2]
  generalize isName N.data.toList = x1
  generalize isHash O.data.toList = x2
  generalize isHash M.data.toList = x3
  generalize (decide (O.size = 0) && decide (M.size = 0)) = x4
  generalize decide (1 ≤ e) = y1
  generalize decide (e ≤ 4294967295) = y2
  generalize decide (0 ≤ q) = y3
  generalize decide (q ≤ 4095) = y4
  generalize decide (1 ≤ k) = y5
  generalize decide (k ≤ 2) = y6
  generalize decide (0 ≤ t) = y7
  generalize decide (t ≤ 524288) = y8
  generalize decide (1 ≤ u) = y9
  generalize decide (u ≤ 4294967296) = y10
  simp only [Bool.and_assoc]
  cases y1 <;> cases y2 <;> cases y3 <;> cases y4 <;> simp only [Bool.false_and, Bool.true_and, Bool.and_false]
  cases y5 <;> cases y6 <;> cases y7 <;> cases y8 <;> simp only [Bool.false_and, Bool.true_and, Bool.and_false]
  cases y9 <;> cases y10 <;> cases x1 <;> cases x2 <;> cases x3 <;> cases x4 <;> rfl
theorem bare2_text (O M : ByteArray) : (O ++ M).toList.isEmpty = bare2 O M := by
  rw [ByteArray.toList_eq]
  unfold bare2
  have h1 : O.data.toList.length = O.size := by simp
  have h2 : M.data.toList.length = M.size := by simp
  have h3 : (O ++ M).data.toList = O.data.toList ++ M.data.toList := by simp [ByteArray.data_append]
  rw [h3]
  cases ho : O.data.toList with
  | nil =>
    have : O.size = 0 := by rw [← h1, ho]; rfl
    cases hm : M.data.toList with
    | nil =>
      have : M.size = 0 := by rw [← h2, hm]; rfl
      simp [*]
    | cons c l =>
      have : M.size ≠ 0 := by rw [← h2, hm]; simp
      simp [*]
  | cons c l =>
    have : O.size ≠ 0 := by rw [← h1, ho]; simp
    simp [*]
theorem nameCheck_at (s : ByteArray) (b : Bool) (w : World) (hb : isName s.data.toList = b) :
    Calls Tryz.prog 94 #[.string s] w fun e w' => e = .returned (.int .i64 (arg b)) ∧ w = w' := hb ▸ nameCheck_any s w
theorem hash_at (s : ByteArray) (b : Bool) (w : World) (hb : isHash s.data.toList = b) :
    Calls Tryz.prog 95 #[.string s] w fun e w' => e = .returned (.bool b) ∧ w = w' := hb ▸ hash_any s w
set_option maxHeartbeats 6400000 in
theorem entryCheck_free (e q k : Int) (N O M : ByteArray) (t u : Int) (w : World) :
    Calls Tryz.prog 61 #[.agg #[.int .i64 e, .int .i64 q, .int .i64 k, .string N, .string O, .string M, .int .i64 t, .int .i64 u]] w fun x w' => x = .returned (.int .i64 (arg (isR (rc e q k N O M t u)))) ∧ Below w.heap.size w w' := by
  rw [isR_and]
  obtain ⟨b1, hb1⟩ : ∃ x, (decide (1 ≤ e) && decide (e ≤ 4294967295)) = x := ⟨_, rfl⟩
  obtain ⟨b2, hb2⟩ : ∃ x, (decide (0 ≤ q) && decide (q ≤ 4095)) = x := ⟨_, rfl⟩
  obtain ⟨b3, hb3⟩ : ∃ x, (decide (1 ≤ k) && decide (k ≤ 2)) = x := ⟨_, rfl⟩
  obtain ⟨b4, hb4⟩ : ∃ x, (decide (0 ≤ t) && decide (t ≤ 524288)) = x := ⟨_, rfl⟩
  obtain ⟨b5, hb5⟩ : ∃ x, (decide (1 ≤ u) && decide (u ≤ 4294967296)) = x := ⟨_, rfl⟩
  obtain ⟨b6, hb6⟩ : ∃ x, isName N.data.toList = x := ⟨_, rfl⟩
  obtain ⟨b7, hb7⟩ : ∃ x, isHash O.data.toList = x := ⟨_, rfl⟩
  obtain ⟨b8, hb8⟩ : ∃ x, isHash M.data.toList = x := ⟨_, rfl⟩
  obtain ⟨b9, hb9⟩ : ∃ x, bare2 O M = x := ⟨_, rfl⟩
  have ht9 : (O ++ M).toList.isEmpty = b9 := by rw [bare2_text, hb9]
  rw [hb1, hb2, hb3, hb4, hb5, hb6, hb7, hb8, hb9]
  have W1 := Lib.hid (fun w => ewithin_at e 1 4294967295 b1 w hb1)
  have W2 := Lib.hid (fun w => ewithin_at q 0 4095 b2 w hb2)
  have W3 := Lib.hid (fun w => ewithin_at k 1 2 b3 w hb3)
  have W4 := Lib.hid (fun w => ewithin_at t 0 524288 b4 w hb4)
  have W5 := Lib.hid (fun w => ewithin_at u 1 4294967296 b5 w hb5)
  have W6 := Lib.hid (fun w => nameCheck_at N b6 w hb6)
  have W7 := Lib.hid (fun w => hash_at O b7 w hb7)
  have W8 := Lib.hid (fun w => hash_at M b8 w hb8)
  have hz : b7 = true → b8 = true → ¬ (9223372036854775807 < O.size + M.size) := fun h1 h2 => by
    rw [← hb7] at h1
    rw [← hb8] at h2
    have e1 : O.data.toList.length = O.size := by rw [Array.length_toList]; rfl
    have e2 : M.data.toList.length = M.size := by rw [Array.length_toList]; rfl
    unfold isHash at h1 h2
    rw [e1] at h1
    rw [e2] at h2
    simp only [Bool.or_eq_true, decide_eq_true_eq] at h1 h2
    omega
  have HZ := Lib.hid hz
  clear hz
  clear hb1 hb2 hb3 hb4 hb5 hb6 hb7 hb8 hb9
  have hB : Below w.heap.size w (w.alloc (.cells #[.int .i64 e, .int .i64 q, .int .i64 k, .string N, .string O, .string M, .int .i64 t, .int .i64 u] 24)) := (Below.refl _ _).alloc (Nat.le_refl _) _
  rcases b1 with _ | _
  · simp only [Bool.false_and, Bool.true_and, Bool.and_false]
    go_enter Tryz.func61, Tryz.ntmps61
    go_wp2_with fail
    refine (W1.out _).mono ?_
    rintro x w1 ⟨rfl, rfl⟩
    go_wp2_with fail
    go_ret
    exact ⟨rfl, hB⟩
  rcases b2 with _ | _
  · simp only [Bool.false_and, Bool.true_and, Bool.and_false]
    go_enter Tryz.func61, Tryz.ntmps61
    go_wp2_with fail
    refine (W1.out _).mono ?_
    rintro x w1 ⟨rfl, rfl⟩
    go_wp2_with fail
    refine (W2.out _).mono ?_
    rintro x w1 ⟨rfl, rfl⟩
    go_wp2_with fail
    go_ret
    exact ⟨rfl, hB⟩
  rcases b3 with _ | _
  · simp only [Bool.false_and, Bool.true_and, Bool.and_false]
    go_enter Tryz.func61, Tryz.ntmps61
    go_wp2_with fail
    refine (W1.out _).mono ?_
    rintro x w1 ⟨rfl, rfl⟩
    go_wp2_with fail
    refine (W2.out _).mono ?_
    rintro x w1 ⟨rfl, rfl⟩
    go_wp2_with fail
    refine (W3.out _).mono ?_
    rintro x w1 ⟨rfl, rfl⟩
    go_wp2_with fail
    go_ret
    exact ⟨rfl, hB⟩
  rcases b4 with _ | _
  · simp only [Bool.false_and, Bool.true_and, Bool.and_false]
    go_enter Tryz.func61, Tryz.ntmps61
    go_wp2_with fail
    refine (W1.out _).mono ?_
    rintro x w1 ⟨rfl, rfl⟩
    go_wp2_with fail
    refine (W2.out _).mono ?_
    rintro x w1 ⟨rfl, rfl⟩
    go_wp2_with fail
    refine (W3.out _).mono ?_
    rintro x w1 ⟨rfl, rfl⟩
    go_wp2_with fail
    refine (W4.out _).mono ?_
    rintro x w1 ⟨rfl, rfl⟩
    go_wp2_with fail
    go_ret
    exact ⟨rfl, hB⟩
  rcases b5 with _ | _
  · simp only [Bool.false_and, Bool.true_and, Bool.and_false]
    go_enter Tryz.func61, Tryz.ntmps61
    go_wp2_with fail
    refine (W1.out _).mono ?_
    rintro x w1 ⟨rfl, rfl⟩
    go_wp2_with fail
    refine (W2.out _).mono ?_
    rintro x w1 ⟨rfl, rfl⟩
    go_wp2_with fail
    refine (W3.out _).mono ?_
    rintro x w1 ⟨rfl, rfl⟩
    go_wp2_with fail
    refine (W4.out _).mono ?_
    rintro x w1 ⟨rfl, rfl⟩
    go_wp2_with fail
    refine (W5.out _).mono ?_
    rintro x w1 ⟨rfl, rfl⟩
    go_wp2_with fail
    go_ret
    exact ⟨rfl, hB⟩
  rcases b6 with _ | _
  · simp only [Bool.false_and, Bool.true_and, Bool.and_false]
    go_enter Tryz.func61, Tryz.ntmps61
    go_wp2_with fail
    refine (W1.out _).mono ?_
    rintro x w1 ⟨rfl, rfl⟩
    go_wp2_with fail
    refine (W2.out _).mono ?_
    rintro x w1 ⟨rfl, rfl⟩
    go_wp2_with fail
    refine (W3.out _).mono ?_
    rintro x w1 ⟨rfl, rfl⟩
    go_wp2_with fail
    refine (W4.out _).mono ?_
    rintro x w1 ⟨rfl, rfl⟩
    go_wp2_with fail
    refine (W5.out _).mono ?_
    rintro x w1 ⟨rfl, rfl⟩
    go_wp2_with fail
    refine (W6.out _).mono ?_
    rintro x w1 ⟨rfl, rfl⟩
    simp only [arg, Bool.false_eq_true, if_false, if_true]
    go_wp2_with fail
    go_ret
    exact ⟨rfl, hB⟩
  rcases b7 with _ | _
  · simp only [Bool.false_and, Bool.true_and, Bool.and_false]
    go_enter Tryz.func61, Tryz.ntmps61
    go_wp2_with fail
    refine (W1.out _).mono ?_
    rintro x w1 ⟨rfl, rfl⟩
    go_wp2_with fail
    refine (W2.out _).mono ?_
    rintro x w1 ⟨rfl, rfl⟩
    go_wp2_with fail
    refine (W3.out _).mono ?_
    rintro x w1 ⟨rfl, rfl⟩
    go_wp2_with fail
    refine (W4.out _).mono ?_
    rintro x w1 ⟨rfl, rfl⟩
    go_wp2_with fail
    refine (W5.out _).mono ?_
    rintro x w1 ⟨rfl, rfl⟩
    go_wp2_with fail
    refine (W6.out _).mono ?_
    rintro x w1 ⟨rfl, rfl⟩
    simp only [arg, Bool.false_eq_true, if_false, if_true]
    go_wp2_with fail
    refine (W7.out _).mono ?_
    rintro x w1 ⟨rfl, rfl⟩
    go_wp2_with fail
    go_ret
    exact ⟨rfl, hB⟩
  rcases b8 with _ | _
  · simp only [Bool.false_and, Bool.true_and, Bool.and_false]
    go_enter Tryz.func61, Tryz.ntmps61
    go_wp2_with fail
    refine (W1.out _).mono ?_
    rintro x w1 ⟨rfl, rfl⟩
    go_wp2_with fail
    refine (W2.out _).mono ?_
    rintro x w1 ⟨rfl, rfl⟩
    go_wp2_with fail
    refine (W3.out _).mono ?_
    rintro x w1 ⟨rfl, rfl⟩
    go_wp2_with fail
    refine (W4.out _).mono ?_
    rintro x w1 ⟨rfl, rfl⟩
    go_wp2_with fail
    refine (W5.out _).mono ?_
    rintro x w1 ⟨rfl, rfl⟩
    go_wp2_with fail
    refine (W6.out _).mono ?_
    rintro x w1 ⟨rfl, rfl⟩
    simp only [arg, Bool.false_eq_true, if_false, if_true]
    go_wp2_with fail
    refine (W7.out _).mono ?_
    rintro x w1 ⟨rfl, rfl⟩
    go_wp2_with fail
    refine (W8.out _).mono ?_
    rintro x w1 ⟨rfl, rfl⟩
    go_wp2_with fail
    go_ret
    exact ⟨rfl, hB⟩
  have hz := HZ.out rfl rfl
  simp only [Bool.true_and]
  cases b9
  all_goals
    simp only [Bool.not_false, Bool.not_true]
    go_enter Tryz.func61, Tryz.ntmps61
    go_wp2_with fail
    refine (W1.out _).mono ?_
    rintro x w1 ⟨rfl, rfl⟩
    go_wp2_with fail
    refine (W2.out _).mono ?_
    rintro x w1 ⟨rfl, rfl⟩
    go_wp2_with fail
    refine (W3.out _).mono ?_
    rintro x w1 ⟨rfl, rfl⟩
    go_wp2_with fail
    refine (W4.out _).mono ?_
    rintro x w1 ⟨rfl, rfl⟩
    go_wp2_with fail
    refine (W5.out _).mono ?_
    rintro x w1 ⟨rfl, rfl⟩
    go_wp2_with fail
    refine (W6.out _).mono ?_
    rintro x w1 ⟨rfl, rfl⟩
    simp only [arg, Bool.false_eq_true, if_false, if_true]
    go_wp2_with fail
    refine (W7.out _).mono ?_
    rintro x w1 ⟨rfl, rfl⟩
    go_wp2_with fail
    refine (W8.out _).mono ?_
    rintro x w1 ⟨rfl, rfl⟩
    go_wp2_with fail
    go_ret
    exact ⟨rfl, hB⟩
theorem entryCheck_any (e q k : Int) (N O M : ByteArray) (t u : Int) (w : World) (hO : O.size ≤ 1048576) (hM : M.size ≤ 1048576) :
    Calls Tryz.prog 61 #[.agg #[.int .i64 e, .int .i64 q, .int .i64 k, .string N, .string O, .string M, .int .i64 t, .int .i64 u]] w fun x w' => x = .returned (.int .i64 (arg (isR (rc e q k N O M t u)))) ∧ Below w.heap.size w w' := entryCheck_free e q k N O M t u w
theorem entryCheck_fr (e q k : Int) (N O M : ByteArray) (t u : Int) (r : Bool) (w : World) (hr : isR (rc e q k N O M t u) = r) :
    Calls Tryz.prog 61 #[.agg #[.int .i64 e, .int .i64 q, .int .i64 k, .string N, .string O, .string M, .int .i64 t, .int .i64 u]] w fun x w' => x = .returned (.int .i64 (arg r)) ∧ Below w.heap.size w w' := hr ▸ entryCheck_free e q k N O M t u w
theorem entryCheck_at (e q k : Int) (N O M : ByteArray) (t u : Int) (r : Bool) (w : World) (hO : O.size ≤ 1048576) (hM : M.size ≤ 1048576) (hr : isR (rc e q k N O M t u) = r) :
    Calls Tryz.prog 61 #[.agg #[.int .i64 e, .int .i64 q, .int .i64 k, .string N, .string O, .string M, .int .i64 t, .int .i64 u]] w fun x w' => x = .returned (.int .i64 (arg r)) ∧ Below w.heap.size w w' := hr ▸ entryCheck_any e q k N O M t u w hO hM
end Go.Proofs.YtfbakelpplpomaaGreatDoor.WalkSeat
