/-
  The walks of the document's Choose, and of SeatTakes.
-/
import Derived.Test.YtalnmhlfjdocfaaDoorWalkSeatI
import Derived.Test.YtalnmhlfjdocfaaDoorLawSeat
namespace Go.Proofs.YtalnmhlfjdocfaaDoor.WalkSeat
open Go.RowKit Go.Proofs.YtalnmhlfjdocfaaDoor.WalkVar Go.Proofs.YtalnmhlfjdocfaaDoor.WalkScan Go.Proofs.YtalnmhlfjdocfaaDoor.WalkCrc
open Pl.Seat (numV numR txtV txtR numP txtP Head isH putH openS)
set_option linter.unusedVariables false
set_option linter.unusedSimpArgs false
set_option maxRecDepth 100000

theorem refTake_at (s : ByteArray) (H : Head) (B : Bool) (w : World) (hs : s.size ≤ 1048576) (hH : takeV s.data.toList = H) (hB : takeB s.data.toList = B) :
    Calls Tryd.prog 26 #[.string s] w fun e w' => e = .returned (.tuple #[.agg #[.int .i64 H.epoch, .int .i64 H.half, .int .i64 H.pack, .int .i64 H.num], .bool B]) ∧ Below w.heap.size w w' := by
  have := refTake_any s w hs
  rwa [hH, hB] at this
/-- which of two heads counts -/
theorem best2_ways (l m : List UInt8) :
    (okS l 0 = true ∧ okS m 1 = true ∧ (takeV m).epoch < (takeV l).epoch ∧ best2 l m = takeV l) ∨ (okS l 0 = true ∧ okS m 1 = true ∧ (takeV l).epoch < (takeV m).epoch ∧ best2 l m = takeV m) ∨
    (okS l 0 = true ∧ okS m 1 = false ∧ best2 l m = takeV l) ∨ (okS l 0 = false ∧ okS m 1 = true ∧ best2 l m = takeV m) ∨ (okS l 0 = false ∧ okS m 1 = false ∧ best2 l m = Pl.Seat.Head.zero) := by
  unfold best2 best1
  cases h1 : okS l 0
  · cases h2 : okS m 1
    · right; right; right; right; simp
    · right; right; right; left
      unfold okS at h2
      rw [Bool.and_eq_true] at h2
      have := takeV_pos m h2.1
      refine ⟨rfl, rfl, ?_⟩
      simp only [Bool.false_eq_true, if_false]
      rw [if_pos ⟨trivial, by show (0 : Int) < _; omega⟩]
  · cases h2 : okS m 1
    · right; right; left; simp
    · unfold okS at h1 h2
      rw [Bool.and_eq_true] at h1 h2
      have e1 := of_decide_eq_true h1.2
      have e2 := of_decide_eq_true h2.2
      rcases Int.lt_or_le (takeV l).epoch (takeV m).epoch with g | g
      · right; left
        exact ⟨rfl, rfl, g, by rw [if_pos rfl, if_pos ⟨rfl, g⟩]⟩
      · left
        exact ⟨rfl, rfl, by omega, by rw [if_pos rfl, if_neg (by simp; omega)]⟩
set_option maxHeartbeats 6400000 in
theorem refChoose_any (s u : ByteArray) (w : World) (hs : s.size ≤ 1048576) (hu : u.size ≤ 1048576) (R : Head) (hR : best2 s.data.toList u.data.toList = R) :
    Calls Tryd.prog 30 #[.string s, .string u] w fun e w' => e = .returned (.tuple #[.agg #[.int .i64 R.epoch, .int .i64 R.half, .int .i64 R.pack, .int .i64 R.num], .bool (R.epoch != 0)]) ∧ Below w.heap.size w w' := by
  have hways := best2_ways s.data.toList u.data.toList
  rw [hR] at hways
  unfold okS at hways
  have hp1 := takeV_pos s.data.toList
  have hp2 := takeV_pos u.data.toList
  obtain ⟨X, hX⟩ : ∃ H, takeV s.data.toList = H := ⟨_, rfl⟩
  obtain ⟨B, hB⟩ : ∃ H, takeB s.data.toList = H := ⟨_, rfl⟩
  obtain ⟨Y, hY⟩ : ∃ H, takeV u.data.toList = H := ⟨_, rfl⟩
  obtain ⟨C, hC⟩ : ∃ H, takeB u.data.toList = H := ⟨_, rfl⟩
  have T1 := Lib.hid (fun w => refTake_at s X B w hs hX hB)
  have T2 := Lib.hid (fun w => refTake_at u Y C w hu hY hC)
  rw [hX, hB] at hp1
  rw [hY, hC] at hp2
  rw [hX, hB, hY, hC] at hways
  clear hX hB hY hC hR
  have C0 := Cell4.new w (.int .i64 0) (.int .i64 0) (.int .i64 0) (.int .i64 0) 41
  have q0 := (Below.refl w.heap.size w).alloc (Nat.le_refl _) (.cells #[.int .i64 0, .int .i64 0, .int .i64 0, .int .i64 0] 41)
  have hcase : (B = true ∧ X.epoch % 2 = 0 ∧ C = true ∧ Y.epoch % 2 = 1 ∧ Y.epoch < X.epoch ∧ X = R) ∨ (B = true ∧ X.epoch % 2 = 0 ∧ C = true ∧ Y.epoch % 2 = 1 ∧ X.epoch < Y.epoch ∧ Y = R) ∨
      (B = true ∧ X.epoch % 2 = 0 ∧ C = false ∧ X = R) ∨ (B = true ∧ X.epoch % 2 = 0 ∧ C = true ∧ ¬ Y.epoch % 2 = 1 ∧ X = R) ∨
      (B = false ∧ C = true ∧ Y.epoch % 2 = 1 ∧ Y = R) ∨ (B = true ∧ ¬ X.epoch % 2 = 0 ∧ C = true ∧ Y.epoch % 2 = 1 ∧ Y = R) ∨
      (B = false ∧ C = false ∧ Pl.Seat.Head.zero = R) ∨ (B = false ∧ C = true ∧ ¬ Y.epoch % 2 = 1 ∧ Pl.Seat.Head.zero = R) ∨ (B = true ∧ ¬ X.epoch % 2 = 0 ∧ C = false ∧ Pl.Seat.Head.zero = R) ∨ (B = true ∧ ¬ X.epoch % 2 = 0 ∧ C = true ∧ ¬ Y.epoch % 2 = 1 ∧ Pl.Seat.Head.zero = R) := by
    by_cases p1 : X.epoch % 2 = 0 <;> by_cases p2 : Y.epoch % 2 = 1 <;> cases B <;> cases C <;> simp_all <;> (rcases hways with ⟨h1, h2⟩ | ⟨h1, h2⟩ <;> simp_all)
  clear hways
  rcases hcase with ⟨rfl, g1, rfl, g2, g3, rfl⟩ | ⟨rfl, g1, rfl, g2, g3, rfl⟩ | ⟨rfl, g1, rfl, rfl⟩ | ⟨rfl, g1, rfl, g2, rfl⟩ | ⟨rfl, rfl, g2, rfl⟩ | ⟨rfl, g1, rfl, g2, rfl⟩ | ⟨rfl, rfl, rfl⟩ | ⟨rfl, rfl, g2, rfl⟩ | ⟨rfl, g1, rfl, rfl⟩ | ⟨rfl, g1, rfl, g2, rfl⟩
  all_goals
    try have hq1 := hp1 rfl
    try have hq2 := hp2 rfl
    clear hp1 hp2
    go_enter Tryd.func30, Tryd.ntmps30
    go_wp2_with fail
    refine (T1.out _).mono ?_
    rintro e w1 ⟨rfl, hB1⟩
    have q1 := (q0.then' hB1 (by simp)).alloc (Nat.le_trans q0.size hB1.size) (.cells #[.int .i64 X.epoch, .int .i64 X.half, .int .i64 X.pack, .int .i64 X.num] 41)
    have C1 := (C0.after hB1).alloc (.cells #[.int .i64 X.epoch, .int .i64 X.half, .int .i64 X.pack, .int .i64 X.num] 41)
    have D1 := HeadAt.new w1 X.epoch X.half X.pack X.num 41
    have hd1 : w1.heap.size ≠ w.heap.size := by have := (C0.after hB1).lt; omega
    clear hB1 q0 C0
    go_wp2_with fail
    generalize w1.heap.size = g4 at D1 hd1 ⊢
    generalize w1.alloc (.cells #[.int .i64 X.epoch, .int .i64 X.half, .int .i64 X.pack, .int .i64 X.num] 41) = w2 at q1 C1 D1 ⊢
    refine (T2.out _).mono ?_
    rintro e w3 ⟨rfl, hB3⟩
    have q3 := (q1.then' hB3 (Nat.le_refl _)).alloc (Nat.le_trans q1.size hB3.size) (.cells #[.int .i64 Y.epoch, .int .i64 Y.half, .int .i64 Y.pack, .int .i64 Y.num] 41)
    have C3 := (C1.after hB3).alloc (.cells #[.int .i64 Y.epoch, .int .i64 Y.half, .int .i64 Y.pack, .int .i64 Y.num] 41)
    have D3 := (D1.after hB3).alloc (.cells #[.int .i64 Y.epoch, .int .i64 Y.half, .int .i64 Y.pack, .int .i64 Y.num] 41)
    have E3 := HeadAt.new w3 Y.epoch Y.half Y.pack Y.num 41
    have hd3 : w3.heap.size ≠ w.heap.size := by have := (C1.after hB3).lt; omega
    have hd4 : w3.heap.size ≠ g4 := by have := (D1.after hB3).lt; omega
    have hlt1 := (C1.after hB3).lt
    have hlt2 := (D1.after hB3).lt
    clear hB3 q1 C1 D1
    go_upto_region 3 with fail
    generalize w3.heap.size = g5 at E3 hd3 hd4 hlt1 hlt2 ⊢
    generalize w3.alloc (.cells #[.int .i64 Y.epoch, .int .i64 Y.half, .int .i64 Y.pack, .int .i64 Y.num] 41) = w4 at q3 C3 D3 E3 ⊢
    obtain ⟨c0, c1, c2, c3, c4⟩ := id D3
    obtain ⟨e0, e1, e2, e3, e4⟩ := id E3
    simp only at c0 c1 c2 c3 e0 e1 e2 e3
    obtain ⟨k0, k1, k2, k3, x0, x1, x2, x3, y0, y1, y2, y3⟩ := C3.stored
    have y4 := C3.2
    try have t1 : ((X.epoch % 2 : Int) == 0) = true := by simpa using g1
    try have t2 : ((X.epoch % 2 : Int) == 0) = false := by simpa using g1
    try have t3 : ((Y.epoch % 2 : Int) == 1) = true := by simpa using g2
    try have t4 : ((Y.epoch % 2 : Int) == 1) = false := by simpa using g2
    try have t5 : Y.epoch < X.epoch := g3
    try have t6 : X.epoch ≤ Y.epoch := by omega
    try have u1 : (X.epoch != 0) = true := by simp; omega
    try have u2 : (Y.epoch != 0) = true := by simp; omega
    go_wp2_with fail
    refine bodyPost_ret (by simp [results, Tryd.results30, k0, k1, k2, k3, go_sem]; try rfl) rfl ?_
    exact ⟨by first | rfl | rw [u1] | rw [u2], below_four q3 (Nat.le_refl _) _ _ _ _⟩
theorem bareV_at (s : ByteArray) (t : List UInt8) (b : Bool) (n : Int) (w : World) (hs : s.size ≤ 1048576) (h1 : bareV s.data.toList = t) (h2 : bareB s.data.toList = b) (hn : err b 3 = n) :
    Calls Tryd.prog 27 #[.string s] w fun e w' => e = .returned (.tuple #[.string (bs t), .int .i64 n]) ∧ Below w.heap.size w w' := by
  have := bare_any s w hs
  rwa [h1, h2, hn] at this
theorem refBareV_at (s : ByteArray) (t : List UInt8) (b : Bool) (w : World) (hs : s.size ≤ 1048576) (h1 : bareV s.data.toList = t) (h2 : bareB s.data.toList = b) :
    Calls Tryd.prog 28 #[.string s] w fun e w' => e = .returned (.tuple #[.string (bs t), .bool b]) ∧ Below w.heap.size w w' := by
  have := refBare_any s w hs
  rwa [h1, h2] at this
theorem chooseR_at (s u : ByteArray) (R : Head) (r : Bool) (w : World) (ht : Tab w) (hs : s.size ≤ 1048576) (hu : u.size ≤ 1048576) (hR : best2 s.data.toList u.data.toList = R) (hr : (R.epoch != 0) = r) :
    Calls Tryd.prog 29 #[.string s, .string u] w fun e w' => e = .returned (.tuple #[.agg #[.int .i64 R.epoch, .int .i64 R.half, .int .i64 R.pack, .int .i64 R.num], .bool r]) ∧ Below w.heap.size w w' := by
  have := choose_any s u w ht hs hu R hR
  rwa [hr] at this
theorem refChooseR_at (s u : ByteArray) (R : Head) (r : Bool) (w : World) (hs : s.size ≤ 1048576) (hu : u.size ≤ 1048576) (hR : best2 s.data.toList u.data.toList = R) (hr : (R.epoch != 0) = r) :
    Calls Tryd.prog 30 #[.string s, .string u] w fun e w' => e = .returned (.tuple #[.agg #[.int .i64 R.epoch, .int .i64 R.half, .int .i64 R.pack, .int .i64 R.num], .bool r]) ∧ Below w.heap.size w w' := by
  have := refChoose_any s u w hs hu R hR
  rwa [hr] at this
set_option maxHeartbeats 6400000 in
theorem seatTakes_yes (s u : ByteArray) (w : World) (ht : Tab w) (hs : s.size ≤ 1000) (hu : u.size ≤ 1000) :
    Calls Tryd.prog 4 #[.string s, .string u] w fun e w' => e = .returned (.bool true) ∧ Below w.heap.size w w' := by
  obtain ⟨X, hX⟩ : ∃ H, takeV s.data.toList = H := ⟨_, rfl⟩
  obtain ⟨B, hB⟩ : ∃ H, takeB s.data.toList = H := ⟨_, rfl⟩
  obtain ⟨t, htt⟩ : ∃ H, bareV s.data.toList = H := ⟨_, rfl⟩
  obtain ⟨b, hb⟩ : ∃ H, bareB s.data.toList = H := ⟨_, rfl⟩
  obtain ⟨R, hR⟩ : ∃ H, best2 s.data.toList u.data.toList = H := ⟨_, rfl⟩
  obtain ⟨r, hr⟩ : ∃ r, (R.epoch != 0) = r := ⟨_, rfl⟩
  obtain ⟨n, hn⟩ : ∃ n, err B 3 = n := ⟨_, rfl⟩
  obtain ⟨m, hm⟩ : ∃ n, err b 3 = n := ⟨_, rfl⟩
  have H1 := Lib.hid (fun w ht => take_r s X B n w ht (by omega) hX hB hn)
  have H2 := Lib.hid (fun w => refTake_at s X B w (by omega) hX hB)
  have H3 := Lib.hid (fun w => bareV_at s t b m w (by omega) htt hb hm)
  have H4 := Lib.hid (fun w => refBareV_at s t b w (by omega) htt hb)
  have H5 := Lib.hid (fun w ht => chooseR_at s u R r w ht (by omega) (by omega) hR hr)
  have H6 := Lib.hid (fun w => refChooseR_at s u R r w (by omega) (by omega) hR hr)
  have hsi : (s.size : Int) ≤ 1000 := by omega
  have hui : (u.size : Int) ≤ 1000 := by omega
  have hB2 : (B = true ∧ n = 0) ∨ (B = false ∧ n = 3) := by cases B <;> simp [err] at hn <;> simp [hn]
  have hb2 : (b = true ∧ m = 0) ∨ (b = false ∧ m = 3) := by cases b <;> simp [err] at hm <;> simp [hm]
  clear hX hB htt hb hR hr hn hm hs hu
  have q0 := Below.refl w.heap.size w
  rcases hB2 with ⟨rfl, rfl⟩ | ⟨rfl, rfl⟩ <;> rcases hb2 with ⟨rfl, rfl⟩ | ⟨rfl, rfl⟩
  all_goals
    go_enter Tryd.func4, Tryd.ntmps4
    go_wp2_with fail
    refine (H1.out _ (ht.after q0)).mono ?_
    rintro e w1 ⟨rfl, hB⟩
    have q1 := (q0.then' hB (Nat.le_refl _)).alloc (Nat.le_trans q0.size hB.size) (.cells #[.int .i64 X.epoch, .int .i64 X.half, .int .i64 X.pack, .int .i64 X.num] 41)
    have E1 := HeadAt.new w1 X.epoch X.half X.pack X.num 41
    clear hB q0
    go_wp2_with fail
    obtain ⟨g1, hg1⟩ : ∃ g, g = w1.heap.size := ⟨_, rfl⟩
    obtain ⟨v1, hv1⟩ : ∃ v, v = w1.alloc (.cells #[.int .i64 X.epoch, .int .i64 X.half, .int .i64 X.pack, .int .i64 X.num] 41) := ⟨_, rfl⟩
    rw [← hg1] at E1  ⊢
    rw [← hv1] at q1 E1  ⊢
    clear hg1 hv1
    have D1 := E1; clear E1
    refine (H2.out _).mono ?_
    rintro e w2 ⟨rfl, hB⟩
    have q2 := (q1.then' hB (Nat.le_refl _)).alloc (Nat.le_trans q1.size hB.size) (.cells #[.int .i64 X.epoch, .int .i64 X.half, .int .i64 X.pack, .int .i64 X.num] 41)
    have D1' := (D1.after hB).alloc (.cells #[.int .i64 X.epoch, .int .i64 X.half, .int .i64 X.pack, .int .i64 X.num] 41)
    have n1' := (D1.after hB).lt
    have E2 := HeadAt.new w2 X.epoch X.half X.pack X.num 41
    have m2_1 : w2.heap.size ≠ g1 := by have := (D1.after hB).lt; omega
    clear D1
    clear hB q1
    go_wp2_with fail
    obtain ⟨g2, hg2⟩ : ∃ g, g = w2.heap.size := ⟨_, rfl⟩
    obtain ⟨v2, hv2⟩ : ∃ v, v = w2.alloc (.cells #[.int .i64 X.epoch, .int .i64 X.half, .int .i64 X.pack, .int .i64 X.num] 41) := ⟨_, rfl⟩
    rw [← hg2] at E2 m2_1 ⊢
    rw [← hv2] at q2 E2 D1' ⊢
    clear hg2 hv2 n1'
    have D1 := D1'; clear D1'
    have D2 := E2; clear E2
    refine (H3.out _).mono ?_
    rintro e w3 ⟨rfl, hB⟩
    have q3 := q2.then' hB (Nat.le_refl _)
    have D1' := D1.after hB; have D2' := D2.after hB; clear D1 D2 hB q2; have D1 := D1'; have D2 := D2'; clear D1' D2'
    go_wp2_with fail
    refine (H4.out _).mono ?_
    rintro e w4 ⟨rfl, hB⟩
    have q4 := q3.then' hB (Nat.le_refl _)
    have D1' := D1.after hB; have D2' := D2.after hB; clear D1 D2 hB q3; have D1 := D1'; have D2 := D2'; clear D1' D2'
    go_wp2_with fail
    refine (H5.out _ (ht.after q4)).mono ?_
    rintro e w5 ⟨rfl, hB⟩
    have q5 := (q4.then' hB (Nat.le_refl _)).alloc (Nat.le_trans q4.size hB.size) (.cells #[.int .i64 R.epoch, .int .i64 R.half, .int .i64 R.pack, .int .i64 R.num] 41)
    have D1' := (D1.after hB).alloc (.cells #[.int .i64 R.epoch, .int .i64 R.half, .int .i64 R.pack, .int .i64 R.num] 41)
    have n1' := (D1.after hB).lt
    have D2' := (D2.after hB).alloc (.cells #[.int .i64 R.epoch, .int .i64 R.half, .int .i64 R.pack, .int .i64 R.num] 41)
    have n2' := (D2.after hB).lt
    have E5 := HeadAt.new w5 R.epoch R.half R.pack R.num 41
    have m5_1 : w5.heap.size ≠ g1 := by have := (D1.after hB).lt; omega
    have m5_2 : w5.heap.size ≠ g2 := by have := (D2.after hB).lt; omega
    clear D1 D2
    clear hB q4
    go_wp2_with fail
    obtain ⟨g5, hg5⟩ : ∃ g, g = w5.heap.size := ⟨_, rfl⟩
    obtain ⟨v5, hv5⟩ : ∃ v, v = w5.alloc (.cells #[.int .i64 R.epoch, .int .i64 R.half, .int .i64 R.pack, .int .i64 R.num] 41) := ⟨_, rfl⟩
    rw [← hg5] at E5 m5_1 m5_2 ⊢
    rw [← hv5] at q5 E5 D1' D2' ⊢
    clear hg5 hv5 n1' n2'
    have D1 := D1'; clear D1'
    have D2 := D2'; clear D2'
    have D5 := E5; clear E5
    refine (H6.out _).mono ?_
    rintro e w6 ⟨rfl, hB⟩
    have q6 := (q5.then' hB (Nat.le_refl _)).alloc (Nat.le_trans q5.size hB.size) (.cells #[.int .i64 R.epoch, .int .i64 R.half, .int .i64 R.pack, .int .i64 R.num] 41)
    have D1' := (D1.after hB).alloc (.cells #[.int .i64 R.epoch, .int .i64 R.half, .int .i64 R.pack, .int .i64 R.num] 41)
    have n1' := (D1.after hB).lt
    have D2' := (D2.after hB).alloc (.cells #[.int .i64 R.epoch, .int .i64 R.half, .int .i64 R.pack, .int .i64 R.num] 41)
    have n2' := (D2.after hB).lt
    have D5' := (D5.after hB).alloc (.cells #[.int .i64 R.epoch, .int .i64 R.half, .int .i64 R.pack, .int .i64 R.num] 41)
    have n5' := (D5.after hB).lt
    have E6 := HeadAt.new w6 R.epoch R.half R.pack R.num 41
    have m6_1 : w6.heap.size ≠ g1 := by have := (D1.after hB).lt; omega
    have m6_2 : w6.heap.size ≠ g2 := by have := (D2.after hB).lt; omega
    have m6_5 : w6.heap.size ≠ g5 := by have := (D5.after hB).lt; omega
    clear D1 D2 D5 hB q5
    obtain ⟨c10, c11, c12, c13, c14⟩ := id D1'
    obtain ⟨c20, c21, c22, c23, c24⟩ := id D2'
    obtain ⟨c50, c51, c52, c53, c54⟩ := id D5'
    obtain ⟨c60, c61, c62, c63, c64⟩ := id E6
    simp only at c10 c11 c12 c13 c20 c21 c22 c23 c50 c51 c52 c53 c60 c61 c62 c63
    have hself : ∀ b : Bool, (b == b) = true := by decide
    go_wp2_with fail
    refine (awake_any _ (ht.after q6)).mono ?_
    rintro e w9 ⟨rfl, hB9⟩
    have q9 := q6.then' hB9 (Nat.le_refl _)
    go_wp2_with fail
    go_ret
    exact ⟨rfl, q9⟩
theorem seatTakes_walk (s u : ByteArray) (w : World) (ht : Tab w) :
    Calls Tryd.prog 4 #[.string s, .string u] w fun e w' => e = .returned (.bool true) ∧ Below w.heap.size w w' := by
  by_cases h1 : s.size ≤ 1000
  · by_cases h2 : u.size ≤ 1000
    · exact seatTakes_yes s u w ht h1 h2
    · have h1i : (s.size : Int) ≤ 1000 := by omega
      have h2i : (1000 : Int) < (u.size : Int) := by omega
      go_enter Tryd.func4, Tryd.ntmps4
      go_wp2_with fail
      refine (awake_any _ ht).mono ?_
      rintro e w3 ⟨rfl, hB3⟩
      go_wp2_with fail
      go_ret
      exact ⟨rfl, hB3⟩
  · have h1i : (1000 : Int) < (s.size : Int) := by omega
    go_enter Tryd.func4, Tryd.ntmps4
    go_wp2_with fail
    refine (awake_any _ ht).mono ?_
    rintro e w3 ⟨rfl, hB3⟩
    go_wp2_with fail
    go_ret
    exact ⟨rfl, hB3⟩
end Go.Proofs.YtalnmhlfjdocfaaDoor.WalkSeat
