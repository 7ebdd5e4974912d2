/-
  The walks of SeatFull, SeatPuts, SeatBack: each returns true for every input, where the table reads as the program's text lays it.
-/
import Derived.Test.YtalnmhlfjdocfaaDoorWalkSeatH
namespace Go.Proofs.YtalnmhlfjdocfaaDoor.WalkSeat
open Go.RowKit Go.Proofs.YtalnmhlfjdocfaaDoor.WalkVar Go.Proofs.YtalnmhlfjdocfaaDoor.WalkScan Go.Proofs.YtalnmhlfjdocfaaDoor.WalkCrc
open Pl.Seat (numV numR txtV txtR numP txtP Head isH putH openS)
set_option linter.unusedVariables false
set_option linter.unusedSimpArgs false
set_option maxRecDepth 100000

theorem plain_full (s : List UInt8) (h : s.length ≤ 128) : (s ++ zeros 128).take 128 = Pl.Seat.full s := by
  unfold zeros Pl.Seat.full
  rw [List.take_append, List.take_of_length_le h, List.take_replicate]
  congr 2
  omega
set_option maxHeartbeats 3200000 in
theorem seatFull_walk (s : ByteArray) (w : World) (ht : Tab w) :
    Calls Tryd.prog 5 #[.string s] w fun e w' => e = .returned (.bool true) ∧ Below w.heap.size w w' := by
  by_cases h1 : s.size ≤ 1000
  · have h1i : (s.size : Int) ≤ 1000 := by omega
    by_cases h2 : s.size ≤ 128
    · have h2i : (s.size : Int) ≤ 128 := by omega
      obtain ⟨l, rfl⟩ : ∃ l, s = bs l := ⟨s.data.toList, (bs_of s).symm⟩
      rw [bs_size] at h1 h2
      have HF := Lib.hid (fun w => full_ok l w h2)
      have HP := Lib.hid (fun w => plainFull_any l w (by omega))
      rw [plain_full l h2] at HP
      generalize Pl.Seat.full l = F at HF HP
      go_enter Tryd.func5, Tryd.ntmps5
      go_wp2_with fail
      refine (HF.out _).mono ?_
      rintro e w1 ⟨rfl, hB1⟩
      go_wp2_with fail
      refine (HP.out _).mono ?_
      rintro e w2 ⟨rfl, hB2⟩
      have q2 := hB1.then' hB2 (Nat.le_refl _)
      go_wp2_with fail
      refine (awake_any _ (ht.after q2)).mono ?_
      rintro e w3 ⟨rfl, hB3⟩
      have q3 := q2.then' hB3 (Nat.le_refl _)
      go_wp2_with fail
      go_ret
      exact ⟨rfl, q3⟩
    · have h2i : (128 : Int) < (s.size : Int) := by omega
      have HF := Lib.hid (fun w => full_far s w (by omega))
      go_enter Tryd.func5, Tryd.ntmps5
      go_wp2_with fail
      refine (HF.out _).mono ?_
      rintro e w1 ⟨rfl, rfl⟩
      go_wp2_with fail
      refine (awake_any _ ht).mono ?_
      rintro e w3 ⟨rfl, hB3⟩
      go_wp2_with fail
      go_ret
      exact ⟨rfl, hB3⟩
  · have h1i : (1000 : Int) < (s.size : Int) := by omega
    go_enter Tryd.func5, Tryd.ntmps5
    go_wp2_with fail
    refine (awake_any _ ht).mono ?_
    rintro e w3 ⟨rfl, hB3⟩
    go_wp2_with fail
    go_ret
    exact ⟨rfl, hB3⟩

set_option maxHeartbeats 6400000 in
theorem seatPuts_walk (a b c d pack num : Int) (w : World) (ht : Tab w) :
    Calls Tryd.prog 7 #[.agg #[.int .i64 a, .int .i64 b, .int .i64 c, .int .i64 d], .int .i64 pack, .int .i64 num] w fun e w' => e = .returned (.bool true) ∧ Below w.heap.size w w' := by
  obtain ⟨P, hP⟩ : ∃ P, putV ⟨a, b, c, d⟩ = P := ⟨_, rfl⟩
  obtain ⟨r, hr⟩ : ∃ r, isH ⟨a, b, c, d⟩ = r := ⟨_, rfl⟩
  obtain ⟨⟨R, n⟩, hR⟩ : ∃ x, nextV ⟨a, b, c, d⟩ pack num = x := ⟨_, rfl⟩
  have HPUT := Lib.hid (fun w ht => seatPut_at a b c d P (arg r) w ht hP (by rw [hr]))
  have HRP := Lib.hid (fun w => refPut_at a b c d P w hP)
  have HNX := Lib.hid (fun w => next_any a b c d pack num R n w hR)
  have HRN := Lib.hid (fun w => refNext_any a b c d pack num R n w hR)
  have HIS := Lib.hid (fun w => refIs_at a b c d r w hr)
  have HCK := Lib.hid (fun w => check_at a b c d (arg r) w (by rw [hr]))
  clear hP hr hR
  have D0 := HeadAt.new w a b c d 41
  have q0 := (Below.refl w.heap.size w).alloc (Nat.le_refl _) (.cells #[.int .i64 a, .int .i64 b, .int .i64 c, .int .i64 d] 41)
  go_enter Tryd.func7, Tryd.ntmps7
  go_wp2_with fail
  refine (HPUT.out _ (ht.after q0)).mono ?_
  rintro e w1 ⟨rfl, hB1⟩
  have q1 := q0.then' hB1 (by simp)
  have D1 := D0.after hB1
  clear q0 D0 hB1
  obtain ⟨c0, c1, c2, c3, c4⟩ := id D1
  simp only at c0 c1 c2 c3
  go_wp2_with fail
  refine (HNX.out _).mono ?_
  rintro e w2 ⟨rfl, hB2⟩
  have q2 := (q1.then' hB2 (Nat.le_refl _)).alloc (Nat.le_trans q1.size hB2.size) (.cells #[.int .i64 R.epoch, .int .i64 R.half, .int .i64 R.pack, .int .i64 R.num] 41)
  have D2 := (D1.after hB2).alloc (.cells #[.int .i64 R.epoch, .int .i64 R.half, .int .i64 R.pack, .int .i64 R.num] 41)
  have E2 := HeadAt.new w2 R.epoch R.half R.pack R.num 41
  have hne2 : w2.heap.size ≠ w.heap.size := by have := (D1.after hB2).lt; omega
  clear q1 D1 hB2 c0 c1 c2 c3 c4
  obtain ⟨c0, c1, c2, c3, c4⟩ := id D2
  simp only at c0 c1 c2 c3
  go_wp2_with fail
  generalize w2.heap.size = g2 at E2 hne2 ⊢
  generalize w2.alloc (.cells #[.int .i64 R.epoch, .int .i64 R.half, .int .i64 R.pack, .int .i64 R.num] 41) = w3 at q2 D2 E2 c0 c1 c2 c3 c4 ⊢
  refine (HRN.out _).mono ?_
  rintro e w4 ⟨rfl, hB4⟩
  have q4 := (q2.then' hB4 (Nat.le_refl _)).alloc (Nat.le_trans q2.size hB4.size) (.cells #[.int .i64 R.epoch, .int .i64 R.half, .int .i64 R.pack, .int .i64 R.num] 41)
  have D4 := (D2.after hB4).alloc (.cells #[.int .i64 R.epoch, .int .i64 R.half, .int .i64 R.pack, .int .i64 R.num] 41)
  have E4 := (E2.after hB4).alloc (.cells #[.int .i64 R.epoch, .int .i64 R.half, .int .i64 R.pack, .int .i64 R.num] 41)
  have F4 := HeadAt.new w4 R.epoch R.half R.pack R.num 41
  have hne4 : w4.heap.size ≠ w.heap.size := by have := (D2.after hB4).lt; omega
  have hne5 : w4.heap.size ≠ g2 := by have := (E2.after hB4).lt; omega
  clear q2 D2 E2 hB4 c0 c1 c2 c3 c4
  obtain ⟨c0, c1, c2, c3, c4⟩ := id D4
  simp only at c0 c1 c2 c3
  go_wp2_with fail
  generalize w4.heap.size = g4 at F4 hne4 hne5 ⊢
  generalize w4.alloc (.cells #[.int .i64 R.epoch, .int .i64 R.half, .int .i64 R.pack, .int .i64 R.num] 41) = w5 at q4 D4 E4 F4 c0 c1 c2 c3 c4 ⊢
  refine (HIS.out _).mono ?_
  rintro e w6 ⟨rfl, hB6⟩
  have q6 := q4.then' hB6 (Nat.le_refl _)
  have D6 := D4.after hB6
  have E6 := E4.after hB6
  have F6 := F4.after hB6
  clear q4 D4 E4 F4 hB6 c0 c1 c2 c3 c4
  obtain ⟨c0, c1, c2, c3, c4⟩ := id D6
  simp only at c0 c1 c2 c3
  cases r
  all_goals
    simp only [arg, Bool.false_eq_true, if_false, if_true] at HPUT HCK ⊢
    go_wp2_with fail
    refine (HRP.out _).mono ?_
    rintro e w7 ⟨rfl, hB7⟩
    have q7 := q6.then' hB7 (Nat.le_refl _)
    have D7 := D6.after hB7
    have E7 := E6.after hB7
    have F7 := F6.after hB7
    clear q6 D6 E6 F6 hB7 c0 c1 c2 c3 c4
    obtain ⟨c0, c1, c2, c3, c4⟩ := id D7
    simp only at c0 c1 c2 c3
    go_wp2_with fail
    refine (HCK.out _).mono ?_
    rintro e w8 ⟨rfl, hB8⟩
    have q8 := q7.then' hB8 (Nat.le_refl _)
    have E8 := E7.after hB8
    have F8 := F7.after hB8
    clear q7 D7 E7 F7 hB8 c0 c1 c2 c3 c4
    obtain ⟨e0, e1, e2, e3, e4⟩ := id E8
    obtain ⟨f0, f1, f2, f3, f4⟩ := id F8
    simp only at e0 e1 e2 e3 f0 f1 f2 f3
    go_wp2_with fail
    refine (awake_any _ (ht.after q8)).mono ?_
    rintro e w9 ⟨rfl, hB9⟩
    have q9 := q8.then' hB9 (Nat.le_refl _)
    go_wp2_with fail
    go_ret
    exact ⟨rfl, q9⟩
end Go.Proofs.YtalnmhlfjdocfaaDoor.WalkSeat
