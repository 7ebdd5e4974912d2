/-
  The walk of SeatBack: a head comes back from its sector; what is taken, put, is that sector.
-/
import Derived.Test.YtalnmhlfjdocfaaDoorLawSeat
namespace Go.Proofs.YtalnmhlfjdocfaaDoor.WalkSeat
open Go.RowKit Go.Proofs.YtalnmhlfjdocfaaDoor.WalkVar Go.Proofs.YtalnmhlfjdocfaaDoor.WalkScan Go.Proofs.YtalnmhlfjdocfaaDoor.WalkCrc
open Pl.Seat (numV numR txtV txtR numP txtP Head isH putH openS)
set_option linter.unusedVariables false
set_option linter.unusedSimpArgs false
set_option maxRecDepth 100000

set_option maxHeartbeats 6400000 in
theorem seatBack_walk (a b c d : Int) (s : ByteArray) (w : World) (ht : Tab w) :
    Calls Tryd.prog 6 #[.agg #[.int .i64 a, .int .i64 b, .int .i64 c, .int .i64 d], .string s] w fun e w' => e = .returned (.bool true) ∧ Below w.heap.size w w' := by
  have D0 := HeadAt.new w a b c d 41
  have q0 := (Below.refl w.heap.size w).alloc (Nat.le_refl _) (.cells #[.int .i64 a, .int .i64 b, .int .i64 c, .int .i64 d] 41)
  by_cases h1 : s.size ≤ 1000
  · have h1i : (s.size : Int) ≤ 1000 := by omega
    obtain ⟨X, hX⟩ : ∃ X, takeV s.data.toList = X := ⟨_, rfl⟩
    obtain ⟨B, hB⟩ : ∃ B, takeB s.data.toList = B := ⟨_, rfl⟩
    have hX0 : B = false → X = Pl.Seat.Head.zero := by
      rw [← hB, ← hX]
      intro h
      rcases takeV_is s.data.toList with ⟨g, _⟩ | ⟨_, g⟩
      · rw [h] at g; simp at g
      · exact g
    have hX3 : B = true → isH X = true ∧ putV X = s.data.toList := by
      rw [← hB, ← hX]
      intro h
      unfold takeB at h
      unfold takeV
      cases hq : Pl.Seat.takeH tailU s.data.toList with
      | none => rw [hq] at h; simp at h
      | some x =>
        obtain ⟨g1, g2⟩ := (Pl.Seat.takeH_iff tailU tailU_len _ _).1 hq
        exact ⟨g1, by unfold putV; simp only [Option.getD_some]; rw [if_pos g1]; exact g2⟩
    have HTK := Lib.hid (fun w ht => take_at s X B w ht (by omega) hX hB)
    clear hX hB
    by_cases hr : isH ⟨a, b, c, d⟩ = true
    · obtain ⟨P, hP⟩ : ∃ P, putV ⟨a, b, c, d⟩ = P := ⟨_, rfl⟩
      have hpp : putH tailU ⟨a, b, c, d⟩ = P := by rw [← hP]; unfold putV; rw [if_pos hr]
      have hlen : P.length = 128 := by rw [← hpp]; exact Pl.Seat.putH_len tailU tailU_len _
      obtain ⟨t1, t2⟩ := takeV_put ⟨a, b, c, d⟩ hr
      rw [hpp] at t1 t2
      have HPUT := Lib.hid (fun w ht => seatPut_at a b c d P 0 w ht hP (by rw [hr]; rfl))
      have HTP := Lib.hid (fun w ht => take_r (bs P) ⟨a, b, c, d⟩ true 0 w ht (by rw [bs_size]; omega) (by rw [bs_list]; exact t1) (by rw [bs_list]; exact t2) rfl)
      simp only at HTP
      have hszi : ((bs P).size : Int) = 128 := by rw [bs_size]; omega
      clear hP hpp hlen t1 t2 hr
      go_enter Tryd.func6, Tryd.ntmps6
      go_wp2_with fail
      refine (HPUT.out _ (ht.after q0)).mono ?_
      rintro e w1 ⟨rfl, hB1⟩
      have q1 := q0.then' hB1 (by simp)
      have D1 := D0.after hB1
      clear q0 D0 hB1
      go_wp2_with fail
      refine (HTP.out _ (ht.after q1)).mono ?_
      rintro e w2 ⟨rfl, hB2⟩
      have q2 := (q1.then' hB2 (Nat.le_refl _)).alloc (Nat.le_trans q1.size hB2.size) (.cells #[.int .i64 a, .int .i64 b, .int .i64 c, .int .i64 d] 41)
      have D2 := (D1.after hB2).alloc (.cells #[.int .i64 a, .int .i64 b, .int .i64 c, .int .i64 d] 41)
      have hlt := (D1.after hB2).lt
      clear q1 D1 hB2
      obtain ⟨d0, d1, d2, d3, d4⟩ := id D2
      simp only at d0 d1 d2 d3
      go_wp2_with fail
      refine (HTK.out _ (ht.after q2)).mono ?_
      rintro e w8 ⟨rfl, hB8⟩
      have q8 := (q2.then' hB8 (Nat.le_refl _)).alloc (Nat.le_trans q2.size hB8.size) (.cells #[.int .i64 X.epoch, .int .i64 X.half, .int .i64 X.pack, .int .i64 X.num] 41)
      have E8 := HeadAt.new w8 X.epoch X.half X.pack X.num 41
      obtain ⟨c0, c1, c2, c3, c4⟩ := id E8
      simp only at c0 c1 c2 c3
      cases B
      · obtain rfl := hX0 rfl
        simp only [err, Bool.false_eq_true, if_false, Pl.Seat.Head.zero] at c0 c1 c2 c3 q8 ⊢
        go_wp2_with fail
        refine (awake_any _ (ht.after q8)).mono ?_
        rintro e w9 ⟨rfl, hB9⟩
        have q9 := q8.then' hB9 (Nat.le_refl _)
        go_wp2_with fail
        go_ret
        exact ⟨rfl, q9⟩
      · obtain ⟨hX1, hX2⟩ := hX3 rfl
        have HPX := Lib.hid (fun w ht => seatPut_at X.epoch X.half X.pack X.num s.data.toList 0 w ht hX2 (by show arg (isH X) = 0; rw [hX1]; rfl))
        rw [bs_of] at HPX
        simp only [err, if_true] at c0 c1 c2 c3 q8 ⊢
        clear hX1 hX2
        go_wp2_with fail
        refine (HPX.out _ (ht.after q8)).mono ?_
        rintro e w9 ⟨rfl, hB9⟩
        have q9 := q8.then' hB9 (Nat.le_refl _)
        go_wp2_with fail
        refine (awake_any _ (ht.after q9)).mono ?_
        rintro e w10 ⟨rfl, hB10⟩
        have q10 := q9.then' hB10 (Nat.le_refl _)
        go_wp2_with fail
        go_ret
        exact ⟨rfl, q10⟩
    · have hr' : isH ⟨a, b, c, d⟩ = false := by simpa using hr
      have HPUT := Lib.hid (fun w => put_bad a b c d w hr')
      clear hr hr'
      go_enter Tryd.func6, Tryd.ntmps6
      go_wp2_with fail
      refine (HPUT.out _).mono ?_
      rintro e w1 ⟨rfl, hB1⟩
      have q1 := q0.then' hB1 (by simp)
      clear q0 D0 hB1
      go_wp2_with fail
      refine (HTK.out _ (ht.after q1)).mono ?_
      rintro e w8 ⟨rfl, hB8⟩
      have q8 := (q1.then' hB8 (Nat.le_refl _)).alloc (Nat.le_trans q1.size hB8.size) (.cells #[.int .i64 X.epoch, .int .i64 X.half, .int .i64 X.pack, .int .i64 X.num] 41)
      have E8 := HeadAt.new w8 X.epoch X.half X.pack X.num 41
      obtain ⟨c0, c1, c2, c3, c4⟩ := id E8
      simp only at c0 c1 c2 c3
      cases B
      · obtain rfl := hX0 rfl
        simp only [err, Bool.false_eq_true, if_false, Pl.Seat.Head.zero] at c0 c1 c2 c3 q8 ⊢
        go_wp2_with fail
        refine (awake_any _ (ht.after q8)).mono ?_
        rintro e w9 ⟨rfl, hB9⟩
        have q9 := q8.then' hB9 (Nat.le_refl _)
        go_wp2_with fail
        go_ret
        exact ⟨rfl, q9⟩
      · obtain ⟨hX1, hX2⟩ := hX3 rfl
        have HPX := Lib.hid (fun w ht => seatPut_at X.epoch X.half X.pack X.num s.data.toList 0 w ht hX2 (by show arg (isH X) = 0; rw [hX1]; rfl))
        rw [bs_of] at HPX
        simp only [err, if_true] at c0 c1 c2 c3 q8 ⊢
        clear hX1 hX2
        go_wp2_with fail
        refine (HPX.out _ (ht.after q8)).mono ?_
        rintro e w9 ⟨rfl, hB9⟩
        have q9 := q8.then' hB9 (Nat.le_refl _)
        go_wp2_with fail
        refine (awake_any _ (ht.after q9)).mono ?_
        rintro e w10 ⟨rfl, hB10⟩
        have q10 := q9.then' hB10 (Nat.le_refl _)
        go_wp2_with fail
        go_ret
        exact ⟨rfl, q10⟩
  · have h1i : (1000 : Int) < (s.size : Int) := by omega
    go_enter Tryd.func6, Tryd.ntmps6
    go_wp2_with fail
    refine (awake_any _ (ht.after q0)).mono ?_
    rintro e w3 ⟨rfl, hB3⟩
    have q3 := q0.then' hB3 (by simp)
    go_wp2_with fail
    go_ret
    exact ⟨rfl, q3⟩
end Go.Proofs.YtalnmhlfjdocfaaDoor.WalkSeat
