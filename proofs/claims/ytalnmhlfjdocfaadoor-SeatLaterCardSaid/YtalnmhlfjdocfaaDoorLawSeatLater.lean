/-
  The walk of SeatLater: the later head counts.
-/
import Derived.Test.YtalnmhlfjdocfaaDoorLawSeat
namespace Go.Proofs.YtalnmhlfjdocfaaDoor.WalkSeat
open Go.RowKit Go.Proofs.YtalnmhlfjdocfaaDoor.WalkVar Go.Proofs.YtalnmhlfjdocfaaDoor.WalkScan Go.Proofs.YtalnmhlfjdocfaaDoor.WalkCrc
open Pl.Seat (numV numR txtV txtR numP txtP Head isH putH openS)
set_option linter.unusedVariables false
set_option linter.unusedSimpArgs false
set_option maxRecDepth 100000

theorem slot_quiet (n r : Int) (w : World) (m : Nat) (hr : n % 2 = r) :
    Calls Tryd.prog 39 #[.int .i64 n] (w.drewN m) fun e w'' => e = .returned (.int .i64 r) ∧ ∃ k, w'' = w.drewN k :=
  Calls.quiet_of_same ((slot_at n r _ hr).mono fun _ _ q => ⟨q.1, q.2.symm⟩)
theorem arr_at (b : Nat) (i : Int) (k : Nat) (hk : i = k) (h2 : k < 2) (W : World) : (Instr.indexAt 63 (.pointer (some ⟨b, 0, none⟩)) (.int .i64 i)).run Tryd.prog W = .ok (.pointer (some ⟨b, k, none⟩)) W := by
  subst hk
  have : k = 0 ∨ k = 1 := by omega
  rcases this with rfl | rfl <;> rfl
/-- what the later one of two heads in their slots gives -/
theorem best_came (h n : Head) (hh : isH h = true) (hn : isH n = true) (he : n.epoch = h.epoch + 1) :
    (h.epoch % 2 = 0 → best2 (putH tailU h) (putH tailU n) = n) ∧ (h.epoch % 2 = 1 → best2 (putH tailU n) (putH tailU h) = n) := by
  obtain ⟨a1, a2⟩ := takeV_put h hh
  obtain ⟨b1, b2⟩ := takeV_put n hn
  have hp := ((Pl.Seat.isH_iff h).1 hh).1
  constructor
  · intro h0
    unfold best2 best1 okS
    rw [a1, a2, b1, b2]
    rw [if_pos]
    have e0 : (true && decide (h.epoch % 2 = 0)) = true := by simp [h0]
    rw [if_pos e0]
    exact ⟨by simp; omega, by omega⟩
  · intro h0
    unfold best2 best1 okS
    rw [a1, a2, b1, b2]
    have e0 : (true && decide (n.epoch % 2 = 0)) = true := by simp; omega
    rw [if_pos e0, if_neg (fun h => by have := h.2; omega)]
theorem best_stay (h : Head) (o : List UInt8) (hh : isH h = true) (ho : takeB o = true → (takeV o).epoch ≤ h.epoch) :
    (h.epoch % 2 = 0 → best2 (putH tailU h) o = h) ∧ (h.epoch % 2 = 1 → best2 o (putH tailU h) = h) := by
  obtain ⟨a1, a2⟩ := takeV_put h hh
  have hp := ((Pl.Seat.isH_iff h).1 hh).1
  constructor
  · intro h0
    unfold best2 best1 okS
    rw [a1, a2]
    have e0 : (true && decide (h.epoch % 2 = 0)) = true := by simp [h0]
    rw [if_pos e0, if_neg]
    rintro ⟨g1, g2⟩
    rw [Bool.and_eq_true] at g1
    have := ho g1.1
    omega
  · intro h0
    unfold best2 best1 okS
    rw [a1, a2, if_pos]
    refine ⟨by simp [h0], ?_⟩
    by_cases g : (takeB o && decide ((takeV o).epoch % 2 = 0)) = true
    · rw [if_pos g]
      rw [Bool.and_eq_true] at g
      have := ho g.1
      have g2 := of_decide_eq_true g.2
      omega
    · rw [if_neg g]
      show (0 : Int) < h.epoch
      omega
set_option maxHeartbeats 1600000 in
theorem later_no (a b c d pack num : Int) (s : ByteArray) (came : Bool) (w : World) (ht : Tab w) (hx : (nextV ⟨a, b, c, d⟩ pack num).2 ≠ 0 ∨ 1000 < s.size) :
    Calls Tryd.prog 8 #[.agg #[.int .i64 a, .int .i64 b, .int .i64 c, .int .i64 d], .int .i64 pack, .int .i64 num, .string s, .bool came] w fun e w' => e = .returned (.bool true) ∧ Below w.heap.size w w' := by
  obtain ⟨⟨R, n⟩, hR⟩ : ∃ x, nextV ⟨a, b, c, d⟩ pack num = x := ⟨_, rfl⟩
  rw [hR] at hx
  have HNX := Lib.hid (fun w => next_any a b c d pack num R n w hR)
  have D0 := HeadAt.new w a b c d 41
  have q0 := (Below.refl w.heap.size w).alloc (Nat.le_refl _) (.cells #[.int .i64 a, .int .i64 b, .int .i64 c, .int .i64 d] 41)
  clear hR
  by_cases h0 : n = 0
  · subst h0
    have hs : (1000 : Int) < (s.size : Int) := by rcases hx with h | h; exact absurd rfl h; omega
    clear hx
    go_enter Tryd.func8, Tryd.ntmps8
    go_wp2_with fail
    refine (HNX.out _).mono ?_
    rintro e w1 ⟨rfl, hB1⟩
    have q1 := (q0.then' hB1 (by simp)).alloc (Nat.le_trans q0.size hB1.size) (.cells #[.int .i64 R.epoch, .int .i64 R.half, .int .i64 R.pack, .int .i64 R.num] 41)
    go_wp2_with fail
    refine (awake_any _ (ht.after q1)).mono ?_
    rintro e w2 ⟨rfl, hB2⟩
    have q2 := q1.then' hB2 (Nat.le_refl _)
    go_wp2_with fail
    go_ret
    exact ⟨rfl, q2⟩
  · have hn : ((n : Int) == 0) = false := by simpa using h0
    have hn2 : ((n : Int) != 0) = true := by simpa using h0
    clear hx
    go_enter Tryd.func8, Tryd.ntmps8
    go_wp2_with fail
    refine (HNX.out _).mono ?_
    rintro e w1 ⟨rfl, hB1⟩
    have q1 := (q0.then' hB1 (by simp)).alloc (Nat.le_trans q0.size hB1.size) (.cells #[.int .i64 R.epoch, .int .i64 R.half, .int .i64 R.pack, .int .i64 R.num] 41)
    go_wp2_with fail
    refine (awake_any _ (ht.after q1)).mono ?_
    rintro e w2 ⟨rfl, hB2⟩
    have q2 := q1.then' hB2 (Nat.le_refl _)
    go_wp2_with fail
    go_ret
    exact ⟨rfl, q2⟩
set_option maxHeartbeats 6400000 in
theorem later_yes (a b c d pack num : Int) (s : ByteArray) (came : Bool) (w : World) (ht : Tab w) (hs : s.size ≤ 1000) (hh : isH ⟨a, b, c, d⟩ = true) (hn : isH ⟨a + 1, 1 - b, pack, num⟩ = true) :
    Calls Tryd.prog 8 #[.agg #[.int .i64 a, .int .i64 b, .int .i64 c, .int .i64 d], .int .i64 pack, .int .i64 num, .string s, .bool came] w fun e w' => e = .returned (.bool true) ∧ Below w.heap.size w w' := by
  have hE := ((Pl.Seat.isH_iff _).1 hn).2.1
  have hE1 := ((Pl.Seat.isH_iff _).1 hh).1
  simp only at hE hE1
  have hR : nextV ⟨a, b, c, d⟩ pack num = (⟨a + 1, 1 - b, pack, num⟩, 0) := by
    unfold nextV
    simp only
    rw [if_pos hh, if_neg (by omega), if_pos hn]
  have HNX := Lib.hid (fun w => next_any a b c d pack num _ 0 w hR)
  simp only at HNX
  obtain ⟨P, hP⟩ : ∃ P, putV ⟨a, b, c, d⟩ = P := ⟨_, rfl⟩
  obtain ⟨T, hT⟩ : ∃ P, putV ⟨a + 1, 1 - b, pack, num⟩ = P := ⟨_, rfl⟩
  have hpp : putH tailU ⟨a, b, c, d⟩ = P := by rw [← hP]; unfold putV; rw [if_pos hh]
  have htt : putH tailU ⟨a + 1, 1 - b, pack, num⟩ = T := by rw [← hT]; unfold putV; rw [if_pos hn]
  have hlP : P.length = 128 := by rw [← hpp]; exact Pl.Seat.putH_len tailU tailU_len _
  have hlT : T.length = 128 := by rw [← htt]; exact Pl.Seat.putH_len tailU tailU_len _
  have HPUT := Lib.hid (fun w ht => seatPut_at a b c d P 0 w ht hP (by rw [hh]; rfl))
  have HPUN := Lib.hid (fun w ht => seatPut_at (a + 1) (1 - b) pack num T 0 w ht hT (by rw [hn]; rfl))
  obtain ⟨bc0, bc1⟩ := best_came ⟨a, b, c, d⟩ ⟨a + 1, 1 - b, pack, num⟩ hh hn rfl
  simp only at bc0 bc1
  rw [hpp, htt] at bc0 bc1
  have hst := fun o ho => best_stay ⟨a, b, c, d⟩ o hh ho
  simp only at hst
  rw [hpp] at hst
  obtain ⟨X, hX⟩ : ∃ X, takeV s.data.toList = X := ⟨_, rfl⟩
  obtain ⟨B, hB⟩ : ∃ B, takeB s.data.toList = B := ⟨_, rfl⟩
  have HTK := Lib.hid (fun w ht => take_at s X B w ht (by omega) hX hB)
  have hsi : (s.size : Int) ≤ 1000 := by omega
  have hso := bs_of s
  have hll : s.data.toList.length = s.size := by simp
  have hne1 : ((a + 1 : Int) == 0) = false := by simp; omega
  have hne0 : ((a : Int) == 0) = false := by simp; omega
  have par : a % 2 = 0 ∨ a % 2 = 1 := by omega
  clear hP hT hR hpp htt
  have D0 := HeadAt.new w a b c d 41
  have q0 := (Below.refl w.heap.size w).alloc (Nat.le_refl _) (.cells #[.int .i64 a, .int .i64 b, .int .i64 c, .int .i64 d] 41)
  rcases par with hpar | hpar
  · have hpn : (a + 1) % 2 = 1 := by omega
    cases came
    · by_cases hlate : B = true ∧ a < X.epoch
      · obtain ⟨rfl, hl2⟩ := hlate
        simp only [err, if_true] at HTK
        go_enter Tryd.func8, Tryd.ntmps8
        go_wp2_with fail
        refine (HNX.out _).mono ?_
        rintro e w1 ⟨rfl, hB1⟩
        have q1 := (q0.then' hB1 (by simp)).alloc (Nat.le_trans q0.size hB1.size) (.cells #[.int .i64 (a + 1), .int .i64 (1 - b), .int .i64 pack, .int .i64 num] 41)
        have D1 := (D0.after hB1).alloc (.cells #[.int .i64 (a + 1), .int .i64 (1 - b), .int .i64 pack, .int .i64 num] 41)
        have E1 := HeadAt.new w1 (a + 1) (1 - b) pack num 41
        have hde : w1.heap.size ≠ w.heap.size := by have := (D0.after hB1).lt; omega
        clear hB1
        obtain ⟨c0, c1, c2, c3, c4⟩ := id D1
        obtain ⟨e0, e1, e2, e3, e4⟩ := id E1
        simp only at c0 c1 c2 c3 e0 e1 e2 e3
        go_wp2_with fail
        generalize w1.heap.size = g1 at E1 e0 e1 e2 e3 e4 hde ⊢
        generalize w1.alloc (.cells #[.int .i64 (a + 1), .int .i64 (1 - b), .int .i64 pack, .int .i64 num] 41) = w2 at q1 D1 E1 c0 c1 c2 c3 c4 e0 e1 e2 e3 e4 ⊢
        refine (HPUT.out _ (ht.after q1)).mono ?_
        rintro e w3 ⟨rfl, hB3⟩
        have q3 := q1.then' hB3 (Nat.le_refl _)
        have D3 := D1.after hB3
        have E3 := E1.after hB3
        clear hB3 c0 c1 c2 c3 c4 e0 e1 e2 e3 e4 D1 E1 q1
        obtain ⟨c0, c1, c2, c3, c4⟩ := id D3
        obtain ⟨e0, e1, e2, e3, e4⟩ := id E3
        simp only at c0 c1 c2 c3 e0 e1 e2 e3
        go_wp2_with fail
        refine (HPUN.out _ (ht.after q3)).mono ?_
        rintro e w4 ⟨rfl, hB4⟩
        have q4 := q3.then' hB4 (Nat.le_refl _)
        have D4 := D3.after hB4
        have E4 := E3.after hB4
        clear hB4 c0 c1 c2 c3 c4 e0 e1 e2 e3 e4 D3 E3 q3
        obtain ⟨c0, c1, c2, c3, c4⟩ := id D4
        obtain ⟨e0, e1, e2, e3, e4⟩ := id E4
        simp only at c0 c1 c2 c3 e0 e1 e2 e3
        go_wp2_with fail
        go_quiet (first | (go_at_call 39; exact slot_quiet _ 1 _ _ hpn) | (go_at_call 39; exact slot_quiet _ 0 _ _ hpar))
        have q5 : Below w.heap.size w (w4.drewN nq) := ⟨q4.os, q4.tape, q4.output, q4.size, q4.block⟩
        have D5 : HeadAt w.heap.size ⟨a, b, c, d⟩ (w4.drewN nq) := D4.kept rfl
        have E5 : HeadAt g1 ⟨a + 1, 1 - b, pack, num⟩ (w4.drewN nq) := E4.kept rfl
        clear c0 c1 c2 c3 c4 e0 e1 e2 e3 e4 q4 D4 E4
        generalize w4.drewN nq = w5 at q5 D5 E5 ⊢
        obtain ⟨c0, c1, c2, c3, c4⟩ := id D5
        obtain ⟨e0, e1, e2, e3, e4⟩ := id E5
        simp only at c0 c1 c2 c3 e0 e1 e2 e3
        have hd5 := D5.lt
        have he5 := E5.lt
        go_wp2_with fail
        refine (HTK.out _ (ht.after q5)).mono ?_
        rintro e w6 ⟨rfl, hB6⟩
        have q6 := (q5.then' hB6 (Nat.le_refl _)).alloc (Nat.le_trans q5.size hB6.size) (.cells #[.int .i64 X.epoch, .int .i64 X.half, .int .i64 X.pack, .int .i64 X.num] 41)
        have D6 := (D5.after hB6).alloc (.cells #[.int .i64 X.epoch, .int .i64 X.half, .int .i64 X.pack, .int .i64 X.num] 41)
        have hd6 := (D5.after hB6).lt
        clear c0 c1 c2 c3 c4 e0 e1 e2 e3 e4
        obtain ⟨c0, c1, c2, c3, c4⟩ := id D6
        simp only at c0 c1 c2 c3
        go_wp2_with fail
        refine (awake_any _ (ht.after q6)).mono ?_
        rintro e w7 ⟨rfl, hB7⟩
        have q7 := q6.then' hB7 (Nat.le_refl _)
        go_wp2_with fail
        go_ret
        exact ⟨rfl, q7⟩
      · have hbst := hst s.data.toList (by rw [hX, hB]; intro h; exact Int.not_lt.1 fun g => hlate ⟨h, g⟩)
        have hbb := hbst.1 hpar
        have HBB := Lib.hid hbb
        have hcase : B = false ∨ (B = true ∧ X.epoch ≤ a) := by
          cases B
          · exact .inl rfl
          · exact .inr ⟨rfl, Int.not_lt.1 fun g => hlate ⟨rfl, g⟩⟩
        clear hbst hbb hlate hst bc0 bc1
        rcases hcase with rfl | ⟨rfl, hxe⟩
        · simp only [err, Bool.false_eq_true, if_false] at HTK
          go_enter Tryd.func8, Tryd.ntmps8
          go_wp2_with fail
          refine (HNX.out _).mono ?_
          rintro e w1 ⟨rfl, hB1⟩
          have q1 := (q0.then' hB1 (by simp)).alloc (Nat.le_trans q0.size hB1.size) (.cells #[.int .i64 (a + 1), .int .i64 (1 - b), .int .i64 pack, .int .i64 num] 41)
          have D1 := (D0.after hB1).alloc (.cells #[.int .i64 (a + 1), .int .i64 (1 - b), .int .i64 pack, .int .i64 num] 41)
          have E1 := HeadAt.new w1 (a + 1) (1 - b) pack num 41
          have hde : w1.heap.size ≠ w.heap.size := by have := (D0.after hB1).lt; omega
          clear hB1
          obtain ⟨c0, c1, c2, c3, c4⟩ := id D1
          obtain ⟨e0, e1, e2, e3, e4⟩ := id E1
          simp only at c0 c1 c2 c3 e0 e1 e2 e3
          go_wp2_with fail
          generalize w1.heap.size = g1 at E1 e0 e1 e2 e3 e4 hde ⊢
          generalize w1.alloc (.cells #[.int .i64 (a + 1), .int .i64 (1 - b), .int .i64 pack, .int .i64 num] 41) = w2 at q1 D1 E1 c0 c1 c2 c3 c4 e0 e1 e2 e3 e4 ⊢
          refine (HPUT.out _ (ht.after q1)).mono ?_
          rintro e w3 ⟨rfl, hB3⟩
          have q3 := q1.then' hB3 (Nat.le_refl _)
          have D3 := D1.after hB3
          have E3 := E1.after hB3
          clear hB3 c0 c1 c2 c3 c4 e0 e1 e2 e3 e4 D1 E1 q1
          obtain ⟨c0, c1, c2, c3, c4⟩ := id D3
          obtain ⟨e0, e1, e2, e3, e4⟩ := id E3
          simp only at c0 c1 c2 c3 e0 e1 e2 e3
          go_wp2_with fail
          refine (HPUN.out _ (ht.after q3)).mono ?_
          rintro e w4 ⟨rfl, hB4⟩
          have q4 := q3.then' hB4 (Nat.le_refl _)
          have D4 := D3.after hB4
          have E4 := E3.after hB4
          clear hB4 c0 c1 c2 c3 c4 e0 e1 e2 e3 e4 D3 E3 q3
          obtain ⟨c0, c1, c2, c3, c4⟩ := id D4
          obtain ⟨e0, e1, e2, e3, e4⟩ := id E4
          simp only at c0 c1 c2 c3 e0 e1 e2 e3
          go_wp2_with fail
          go_quiet (first | (go_at_call 39; exact slot_quiet _ 1 _ _ hpn) | (go_at_call 39; exact slot_quiet _ 0 _ _ hpar))
          have q5 : Below w.heap.size w (w4.drewN nq) := ⟨q4.os, q4.tape, q4.output, q4.size, q4.block⟩
          have D5 : HeadAt w.heap.size ⟨a, b, c, d⟩ (w4.drewN nq) := D4.kept rfl
          have E5 : HeadAt g1 ⟨a + 1, 1 - b, pack, num⟩ (w4.drewN nq) := E4.kept rfl
          clear c0 c1 c2 c3 c4 e0 e1 e2 e3 e4 q4 D4 E4
          generalize w4.drewN nq = w5 at q5 D5 E5 ⊢
          obtain ⟨c0, c1, c2, c3, c4⟩ := id D5
          obtain ⟨e0, e1, e2, e3, e4⟩ := id E5
          simp only at c0 c1 c2 c3 e0 e1 e2 e3
          have hd5 := D5.lt
          have he5 := E5.lt
          go_wp2_with fail
          refine (HTK.out _ (ht.after q5)).mono ?_
          rintro e w6 ⟨rfl, hB6⟩
          have q6 := (q5.then' hB6 (Nat.le_refl _)).alloc (Nat.le_trans q5.size hB6.size) (.cells #[.int .i64 X.epoch, .int .i64 X.half, .int .i64 X.pack, .int .i64 X.num] 41)
          have D6 := (D5.after hB6).alloc (.cells #[.int .i64 X.epoch, .int .i64 X.half, .int .i64 X.pack, .int .i64 X.num] 41)
          have E6 := (E5.after hB6).alloc (.cells #[.int .i64 X.epoch, .int .i64 X.half, .int .i64 X.pack, .int .i64 X.num] 41)
          have hd6 := (D5.after hB6).lt
          clear c0 c1 c2 c3 c4 e0 e1 e2 e3 e4
          obtain ⟨c0, c1, c2, c3, c4⟩ := id D6
          obtain ⟨e0, e1, e2, e3, e4⟩ := id E6
          simp only at c0 c1 c2 c3 e0 e1 e2 e3
          have HCH := Lib.hid (fun w ht => choose_at P s.data.toList ⟨a, b, c, d⟩ true w ht (by omega) (by omega) HBB.out (by show ((a : Int) != 0) = true; simp; omega))
          simp only at HCH
          rw [hso] at HCH
          go_wp2_with fail
          refine (slot_at a 0 _ hpar).mono ?_
          rintro e w20 ⟨rfl, rfl⟩
          have ha := fun b W => arr_at b 0 0 rfl (by omega) W
          go_wp2_with fail
          have q21 := q6.alloc q6.size (.cells #[.string (bs P), .string s] 63)
          have D21 := D6.alloc (.cells #[.string (bs P), .string s] 63)
          have E21 := E6.alloc (.cells #[.string (bs P), .string s] 63)
          clear ha
          refine (HCH.out _ (ht.after q21)).mono ?_
          rintro e w22 ⟨rfl, hB22⟩
          have q22 := (q21.then' hB22 (Nat.le_refl _)).alloc (Nat.le_trans q21.size hB22.size) (.cells #[.int .i64 a, .int .i64 b, .int .i64 c, .int .i64 d] 41)
          have D22 := (D21.after hB22).alloc (.cells #[.int .i64 a, .int .i64 b, .int .i64 c, .int .i64 d] 41)
          have E22 := (E21.after hB22).alloc (.cells #[.int .i64 a, .int .i64 b, .int .i64 c, .int .i64 d] 41)
          have hd22 := (D21.after hB22).lt
          have he22 := (E21.after hB22).lt
          clear c0 c1 c2 c3 c4 e0 e1 e2 e3 e4
          obtain ⟨c0, c1, c2, c3, c4⟩ := id D22
          obtain ⟨e0, e1, e2, e3, e4⟩ := id E22
          simp only at c0 c1 c2 c3 e0 e1 e2 e3
          go_wp2_with fail
          refine (awake_any _ (ht.after q22)).mono ?_
          rintro e w23 ⟨rfl, hB23⟩
          have q23 := q22.then' hB23 (Nat.le_refl _)
          go_wp2_with fail
          go_ret
          exact ⟨rfl, q23⟩
        · simp only [err, if_true] at HTK
          go_enter Tryd.func8, Tryd.ntmps8
          go_wp2_with fail
          refine (HNX.out _).mono ?_
          rintro e w1 ⟨rfl, hB1⟩
          have q1 := (q0.then' hB1 (by simp)).alloc (Nat.le_trans q0.size hB1.size) (.cells #[.int .i64 (a + 1), .int .i64 (1 - b), .int .i64 pack, .int .i64 num] 41)
          have D1 := (D0.after hB1).alloc (.cells #[.int .i64 (a + 1), .int .i64 (1 - b), .int .i64 pack, .int .i64 num] 41)
          have E1 := HeadAt.new w1 (a + 1) (1 - b) pack num 41
          have hde : w1.heap.size ≠ w.heap.size := by have := (D0.after hB1).lt; omega
          clear hB1
          obtain ⟨c0, c1, c2, c3, c4⟩ := id D1
          obtain ⟨e0, e1, e2, e3, e4⟩ := id E1
          simp only at c0 c1 c2 c3 e0 e1 e2 e3
          go_wp2_with fail
          generalize w1.heap.size = g1 at E1 e0 e1 e2 e3 e4 hde ⊢
          generalize w1.alloc (.cells #[.int .i64 (a + 1), .int .i64 (1 - b), .int .i64 pack, .int .i64 num] 41) = w2 at q1 D1 E1 c0 c1 c2 c3 c4 e0 e1 e2 e3 e4 ⊢
          refine (HPUT.out _ (ht.after q1)).mono ?_
          rintro e w3 ⟨rfl, hB3⟩
          have q3 := q1.then' hB3 (Nat.le_refl _)
          have D3 := D1.after hB3
          have E3 := E1.after hB3
          clear hB3 c0 c1 c2 c3 c4 e0 e1 e2 e3 e4 D1 E1 q1
          obtain ⟨c0, c1, c2, c3, c4⟩ := id D3
          obtain ⟨e0, e1, e2, e3, e4⟩ := id E3
          simp only at c0 c1 c2 c3 e0 e1 e2 e3
          go_wp2_with fail
          refine (HPUN.out _ (ht.after q3)).mono ?_
          rintro e w4 ⟨rfl, hB4⟩
          have q4 := q3.then' hB4 (Nat.le_refl _)
          have D4 := D3.after hB4
          have E4 := E3.after hB4
          clear hB4 c0 c1 c2 c3 c4 e0 e1 e2 e3 e4 D3 E3 q3
          obtain ⟨c0, c1, c2, c3, c4⟩ := id D4
          obtain ⟨e0, e1, e2, e3, e4⟩ := id E4
          simp only at c0 c1 c2 c3 e0 e1 e2 e3
          go_wp2_with fail
          go_quiet (first | (go_at_call 39; exact slot_quiet _ 1 _ _ hpn) | (go_at_call 39; exact slot_quiet _ 0 _ _ hpar))
          have q5 : Below w.heap.size w (w4.drewN nq) := ⟨q4.os, q4.tape, q4.output, q4.size, q4.block⟩
          have D5 : HeadAt w.heap.size ⟨a, b, c, d⟩ (w4.drewN nq) := D4.kept rfl
          have E5 : HeadAt g1 ⟨a + 1, 1 - b, pack, num⟩ (w4.drewN nq) := E4.kept rfl
          clear c0 c1 c2 c3 c4 e0 e1 e2 e3 e4 q4 D4 E4
          generalize w4.drewN nq = w5 at q5 D5 E5 ⊢
          obtain ⟨c0, c1, c2, c3, c4⟩ := id D5
          obtain ⟨e0, e1, e2, e3, e4⟩ := id E5
          simp only at c0 c1 c2 c3 e0 e1 e2 e3
          have hd5 := D5.lt
          have he5 := E5.lt
          go_wp2_with fail
          refine (HTK.out _ (ht.after q5)).mono ?_
          rintro e w6 ⟨rfl, hB6⟩
          have q6 := (q5.then' hB6 (Nat.le_refl _)).alloc (Nat.le_trans q5.size hB6.size) (.cells #[.int .i64 X.epoch, .int .i64 X.half, .int .i64 X.pack, .int .i64 X.num] 41)
          have D6 := (D5.after hB6).alloc (.cells #[.int .i64 X.epoch, .int .i64 X.half, .int .i64 X.pack, .int .i64 X.num] 41)
          have E6 := (E5.after hB6).alloc (.cells #[.int .i64 X.epoch, .int .i64 X.half, .int .i64 X.pack, .int .i64 X.num] 41)
          have hd6 := (D5.after hB6).lt
          clear c0 c1 c2 c3 c4 e0 e1 e2 e3 e4
          obtain ⟨c0, c1, c2, c3, c4⟩ := id D6
          obtain ⟨e0, e1, e2, e3, e4⟩ := id E6
          simp only at c0 c1 c2 c3 e0 e1 e2 e3
          have HCH := Lib.hid (fun w ht => choose_at P s.data.toList ⟨a, b, c, d⟩ true w ht (by omega) (by omega) HBB.out (by show ((a : Int) != 0) = true; simp; omega))
          simp only at HCH
          rw [hso] at HCH
          go_wp2_with fail
          refine (slot_at a 0 _ hpar).mono ?_
          rintro e w20 ⟨rfl, rfl⟩
          have ha := fun b W => arr_at b 0 0 rfl (by omega) W
          go_wp2_with fail
          have q21 := q6.alloc q6.size (.cells #[.string (bs P), .string s] 63)
          have D21 := D6.alloc (.cells #[.string (bs P), .string s] 63)
          have E21 := E6.alloc (.cells #[.string (bs P), .string s] 63)
          clear ha
          refine (HCH.out _ (ht.after q21)).mono ?_
          rintro e w22 ⟨rfl, hB22⟩
          have q22 := (q21.then' hB22 (Nat.le_refl _)).alloc (Nat.le_trans q21.size hB22.size) (.cells #[.int .i64 a, .int .i64 b, .int .i64 c, .int .i64 d] 41)
          have D22 := (D21.after hB22).alloc (.cells #[.int .i64 a, .int .i64 b, .int .i64 c, .int .i64 d] 41)
          have E22 := (E21.after hB22).alloc (.cells #[.int .i64 a, .int .i64 b, .int .i64 c, .int .i64 d] 41)
          have hd22 := (D21.after hB22).lt
          have he22 := (E21.after hB22).lt
          clear c0 c1 c2 c3 c4 e0 e1 e2 e3 e4
          obtain ⟨c0, c1, c2, c3, c4⟩ := id D22
          obtain ⟨e0, e1, e2, e3, e4⟩ := id E22
          simp only at c0 c1 c2 c3 e0 e1 e2 e3
          go_wp2_with fail
          refine (awake_any _ (ht.after q22)).mono ?_
          rintro e w23 ⟨rfl, hB23⟩
          have q23 := q22.then' hB23 (Nat.le_refl _)
          go_wp2_with fail
          go_ret
          exact ⟨rfl, q23⟩
    · have hbb := bc0 hpar
      have HBB := Lib.hid hbb
      clear hbb hst bc0 bc1
      go_enter Tryd.func8, Tryd.ntmps8
      go_wp2_with fail
      refine (HNX.out _).mono ?_
      rintro e w1 ⟨rfl, hB1⟩
      have q1 := (q0.then' hB1 (by simp)).alloc (Nat.le_trans q0.size hB1.size) (.cells #[.int .i64 (a + 1), .int .i64 (1 - b), .int .i64 pack, .int .i64 num] 41)
      have D1 := (D0.after hB1).alloc (.cells #[.int .i64 (a + 1), .int .i64 (1 - b), .int .i64 pack, .int .i64 num] 41)
      have E1 := HeadAt.new w1 (a + 1) (1 - b) pack num 41
      have hde : w1.heap.size ≠ w.heap.size := by have := (D0.after hB1).lt; omega
      clear hB1
      obtain ⟨c0, c1, c2, c3, c4⟩ := id D1
      obtain ⟨e0, e1, e2, e3, e4⟩ := id E1
      simp only at c0 c1 c2 c3 e0 e1 e2 e3
      go_wp2_with fail
      generalize w1.heap.size = g1 at E1 e0 e1 e2 e3 e4 hde ⊢
      generalize w1.alloc (.cells #[.int .i64 (a + 1), .int .i64 (1 - b), .int .i64 pack, .int .i64 num] 41) = w2 at q1 D1 E1 c0 c1 c2 c3 c4 e0 e1 e2 e3 e4 ⊢
      refine (HPUT.out _ (ht.after q1)).mono ?_
      rintro e w3 ⟨rfl, hB3⟩
      have q3 := q1.then' hB3 (Nat.le_refl _)
      have D3 := D1.after hB3
      have E3 := E1.after hB3
      clear hB3 c0 c1 c2 c3 c4 e0 e1 e2 e3 e4 D1 E1 q1
      obtain ⟨c0, c1, c2, c3, c4⟩ := id D3
      obtain ⟨e0, e1, e2, e3, e4⟩ := id E3
      simp only at c0 c1 c2 c3 e0 e1 e2 e3
      go_wp2_with fail
      refine (HPUN.out _ (ht.after q3)).mono ?_
      rintro e w4 ⟨rfl, hB4⟩
      have q4 := q3.then' hB4 (Nat.le_refl _)
      have D4 := D3.after hB4
      have E4 := E3.after hB4
      clear hB4 c0 c1 c2 c3 c4 e0 e1 e2 e3 e4 D3 E3 q3
      obtain ⟨c0, c1, c2, c3, c4⟩ := id D4
      obtain ⟨e0, e1, e2, e3, e4⟩ := id E4
      simp only at c0 c1 c2 c3 e0 e1 e2 e3
      go_wp2_with fail
      go_quiet (first | (go_at_call 39; exact slot_quiet _ 1 _ _ hpn) | (go_at_call 39; exact slot_quiet _ 0 _ _ hpar))
      have q5 : Below w.heap.size w (w4.drewN nq) := ⟨q4.os, q4.tape, q4.output, q4.size, q4.block⟩
      have D5 : HeadAt w.heap.size ⟨a, b, c, d⟩ (w4.drewN nq) := D4.kept rfl
      have E5 : HeadAt g1 ⟨a + 1, 1 - b, pack, num⟩ (w4.drewN nq) := E4.kept rfl
      clear c0 c1 c2 c3 c4 e0 e1 e2 e3 e4 q4 D4 E4
      generalize w4.drewN nq = w5 at q5 D5 E5 ⊢
      obtain ⟨c0, c1, c2, c3, c4⟩ := id D5
      obtain ⟨e0, e1, e2, e3, e4⟩ := id E5
      simp only at c0 c1 c2 c3 e0 e1 e2 e3
      have hd5 := D5.lt
      have he5 := E5.lt
      have HCH := Lib.hid (fun w ht => choose_at P T ⟨a + 1, 1 - b, pack, num⟩ true w ht (by omega) (by omega) HBB.out (by show (((a + 1) : Int) != 0) = true; simp; omega))
      simp only at HCH
      skip
      go_wp2_with fail
      refine (slot_at a 0 _ hpar).mono ?_
      rintro e w20 ⟨rfl, rfl⟩
      have ha := fun b W => arr_at b 0 0 rfl (by omega) W
      go_wp2_with fail
      have q21 := q5.alloc q5.size (.cells #[.string (bs P), .string (bs T)] 63)
      have D21 := D5.alloc (.cells #[.string (bs P), .string (bs T)] 63)
      have E21 := E5.alloc (.cells #[.string (bs P), .string (bs T)] 63)
      clear ha
      refine (HCH.out _ (ht.after q21)).mono ?_
      rintro e w22 ⟨rfl, hB22⟩
      have q22 := (q21.then' hB22 (Nat.le_refl _)).alloc (Nat.le_trans q21.size hB22.size) (.cells #[.int .i64 (a + 1), .int .i64 (1 - b), .int .i64 pack, .int .i64 num] 41)
      have D22 := (D21.after hB22).alloc (.cells #[.int .i64 (a + 1), .int .i64 (1 - b), .int .i64 pack, .int .i64 num] 41)
      have E22 := (E21.after hB22).alloc (.cells #[.int .i64 (a + 1), .int .i64 (1 - b), .int .i64 pack, .int .i64 num] 41)
      have hd22 := (D21.after hB22).lt
      have he22 := (E21.after hB22).lt
      clear c0 c1 c2 c3 c4 e0 e1 e2 e3 e4
      obtain ⟨c0, c1, c2, c3, c4⟩ := id D22
      obtain ⟨e0, e1, e2, e3, e4⟩ := id E22
      simp only at c0 c1 c2 c3 e0 e1 e2 e3
      go_wp2_with fail
      refine (awake_any _ (ht.after q22)).mono ?_
      rintro e w23 ⟨rfl, hB23⟩
      have q23 := q22.then' hB23 (Nat.le_refl _)
      go_wp2_with fail
      go_ret
      exact ⟨rfl, q23⟩
  · have hpn : (a + 1) % 2 = 0 := by omega
    cases came
    · by_cases hlate : B = true ∧ a < X.epoch
      · obtain ⟨rfl, hl2⟩ := hlate
        simp only [err, if_true] at HTK
        go_enter Tryd.func8, Tryd.ntmps8
        go_wp2_with fail
        refine (HNX.out _).mono ?_
        rintro e w1 ⟨rfl, hB1⟩
        have q1 := (q0.then' hB1 (by simp)).alloc (Nat.le_trans q0.size hB1.size) (.cells #[.int .i64 (a + 1), .int .i64 (1 - b), .int .i64 pack, .int .i64 num] 41)
        have D1 := (D0.after hB1).alloc (.cells #[.int .i64 (a + 1), .int .i64 (1 - b), .int .i64 pack, .int .i64 num] 41)
        have E1 := HeadAt.new w1 (a + 1) (1 - b) pack num 41
        have hde : w1.heap.size ≠ w.heap.size := by have := (D0.after hB1).lt; omega
        clear hB1
        obtain ⟨c0, c1, c2, c3, c4⟩ := id D1
        obtain ⟨e0, e1, e2, e3, e4⟩ := id E1
        simp only at c0 c1 c2 c3 e0 e1 e2 e3
        go_wp2_with fail
        generalize w1.heap.size = g1 at E1 e0 e1 e2 e3 e4 hde ⊢
        generalize w1.alloc (.cells #[.int .i64 (a + 1), .int .i64 (1 - b), .int .i64 pack, .int .i64 num] 41) = w2 at q1 D1 E1 c0 c1 c2 c3 c4 e0 e1 e2 e3 e4 ⊢
        refine (HPUT.out _ (ht.after q1)).mono ?_
        rintro e w3 ⟨rfl, hB3⟩
        have q3 := q1.then' hB3 (Nat.le_refl _)
        have D3 := D1.after hB3
        have E3 := E1.after hB3
        clear hB3 c0 c1 c2 c3 c4 e0 e1 e2 e3 e4 D1 E1 q1
        obtain ⟨c0, c1, c2, c3, c4⟩ := id D3
        obtain ⟨e0, e1, e2, e3, e4⟩ := id E3
        simp only at c0 c1 c2 c3 e0 e1 e2 e3
        go_wp2_with fail
        refine (HPUN.out _ (ht.after q3)).mono ?_
        rintro e w4 ⟨rfl, hB4⟩
        have q4 := q3.then' hB4 (Nat.le_refl _)
        have D4 := D3.after hB4
        have E4 := E3.after hB4
        clear hB4 c0 c1 c2 c3 c4 e0 e1 e2 e3 e4 D3 E3 q3
        obtain ⟨c0, c1, c2, c3, c4⟩ := id D4
        obtain ⟨e0, e1, e2, e3, e4⟩ := id E4
        simp only at c0 c1 c2 c3 e0 e1 e2 e3
        go_wp2_with fail
        go_quiet (first | (go_at_call 39; exact slot_quiet _ 0 _ _ hpn) | (go_at_call 39; exact slot_quiet _ 1 _ _ hpar))
        have q5 : Below w.heap.size w (w4.drewN nq) := ⟨q4.os, q4.tape, q4.output, q4.size, q4.block⟩
        have D5 : HeadAt w.heap.size ⟨a, b, c, d⟩ (w4.drewN nq) := D4.kept rfl
        have E5 : HeadAt g1 ⟨a + 1, 1 - b, pack, num⟩ (w4.drewN nq) := E4.kept rfl
        clear c0 c1 c2 c3 c4 e0 e1 e2 e3 e4 q4 D4 E4
        generalize w4.drewN nq = w5 at q5 D5 E5 ⊢
        obtain ⟨c0, c1, c2, c3, c4⟩ := id D5
        obtain ⟨e0, e1, e2, e3, e4⟩ := id E5
        simp only at c0 c1 c2 c3 e0 e1 e2 e3
        have hd5 := D5.lt
        have he5 := E5.lt
        go_wp2_with fail
        refine (HTK.out _ (ht.after q5)).mono ?_
        rintro e w6 ⟨rfl, hB6⟩
        have q6 := (q5.then' hB6 (Nat.le_refl _)).alloc (Nat.le_trans q5.size hB6.size) (.cells #[.int .i64 X.epoch, .int .i64 X.half, .int .i64 X.pack, .int .i64 X.num] 41)
        have D6 := (D5.after hB6).alloc (.cells #[.int .i64 X.epoch, .int .i64 X.half, .int .i64 X.pack, .int .i64 X.num] 41)
        have hd6 := (D5.after hB6).lt
        clear c0 c1 c2 c3 c4 e0 e1 e2 e3 e4
        obtain ⟨c0, c1, c2, c3, c4⟩ := id D6
        simp only at c0 c1 c2 c3
        go_wp2_with fail
        refine (awake_any _ (ht.after q6)).mono ?_
        rintro e w7 ⟨rfl, hB7⟩
        have q7 := q6.then' hB7 (Nat.le_refl _)
        go_wp2_with fail
        go_ret
        exact ⟨rfl, q7⟩
      · have hbst := hst s.data.toList (by rw [hX, hB]; intro h; exact Int.not_lt.1 fun g => hlate ⟨h, g⟩)
        have hbb := hbst.2 hpar
        have HBB := Lib.hid hbb
        have hcase : B = false ∨ (B = true ∧ X.epoch ≤ a) := by
          cases B
          · exact .inl rfl
          · exact .inr ⟨rfl, Int.not_lt.1 fun g => hlate ⟨rfl, g⟩⟩
        clear hbst hbb hlate hst bc0 bc1
        rcases hcase with rfl | ⟨rfl, hxe⟩
        · simp only [err, Bool.false_eq_true, if_false] at HTK
          go_enter Tryd.func8, Tryd.ntmps8
          go_wp2_with fail
          refine (HNX.out _).mono ?_
          rintro e w1 ⟨rfl, hB1⟩
          have q1 := (q0.then' hB1 (by simp)).alloc (Nat.le_trans q0.size hB1.size) (.cells #[.int .i64 (a + 1), .int .i64 (1 - b), .int .i64 pack, .int .i64 num] 41)
          have D1 := (D0.after hB1).alloc (.cells #[.int .i64 (a + 1), .int .i64 (1 - b), .int .i64 pack, .int .i64 num] 41)
          have E1 := HeadAt.new w1 (a + 1) (1 - b) pack num 41
          have hde : w1.heap.size ≠ w.heap.size := by have := (D0.after hB1).lt; omega
          clear hB1
          obtain ⟨c0, c1, c2, c3, c4⟩ := id D1
          obtain ⟨e0, e1, e2, e3, e4⟩ := id E1
          simp only at c0 c1 c2 c3 e0 e1 e2 e3
          go_wp2_with fail
          generalize w1.heap.size = g1 at E1 e0 e1 e2 e3 e4 hde ⊢
          generalize w1.alloc (.cells #[.int .i64 (a + 1), .int .i64 (1 - b), .int .i64 pack, .int .i64 num] 41) = w2 at q1 D1 E1 c0 c1 c2 c3 c4 e0 e1 e2 e3 e4 ⊢
          refine (HPUT.out _ (ht.after q1)).mono ?_
          rintro e w3 ⟨rfl, hB3⟩
          have q3 := q1.then' hB3 (Nat.le_refl _)
          have D3 := D1.after hB3
          have E3 := E1.after hB3
          clear hB3 c0 c1 c2 c3 c4 e0 e1 e2 e3 e4 D1 E1 q1
          obtain ⟨c0, c1, c2, c3, c4⟩ := id D3
          obtain ⟨e0, e1, e2, e3, e4⟩ := id E3
          simp only at c0 c1 c2 c3 e0 e1 e2 e3
          go_wp2_with fail
          refine (HPUN.out _ (ht.after q3)).mono ?_
          rintro e w4 ⟨rfl, hB4⟩
          have q4 := q3.then' hB4 (Nat.le_refl _)
          have D4 := D3.after hB4
          have E4 := E3.after hB4
          clear hB4 c0 c1 c2 c3 c4 e0 e1 e2 e3 e4 D3 E3 q3
          obtain ⟨c0, c1, c2, c3, c4⟩ := id D4
          obtain ⟨e0, e1, e2, e3, e4⟩ := id E4
          simp only at c0 c1 c2 c3 e0 e1 e2 e3
          go_wp2_with fail
          go_quiet (first | (go_at_call 39; exact slot_quiet _ 0 _ _ hpn) | (go_at_call 39; exact slot_quiet _ 1 _ _ hpar))
          have q5 : Below w.heap.size w (w4.drewN nq) := ⟨q4.os, q4.tape, q4.output, q4.size, q4.block⟩
          have D5 : HeadAt w.heap.size ⟨a, b, c, d⟩ (w4.drewN nq) := D4.kept rfl
          have E5 : HeadAt g1 ⟨a + 1, 1 - b, pack, num⟩ (w4.drewN nq) := E4.kept rfl
          clear c0 c1 c2 c3 c4 e0 e1 e2 e3 e4 q4 D4 E4
          generalize w4.drewN nq = w5 at q5 D5 E5 ⊢
          obtain ⟨c0, c1, c2, c3, c4⟩ := id D5
          obtain ⟨e0, e1, e2, e3, e4⟩ := id E5
          simp only at c0 c1 c2 c3 e0 e1 e2 e3
          have hd5 := D5.lt
          have he5 := E5.lt
          go_wp2_with fail
          refine (HTK.out _ (ht.after q5)).mono ?_
          rintro e w6 ⟨rfl, hB6⟩
          have q6 := (q5.then' hB6 (Nat.le_refl _)).alloc (Nat.le_trans q5.size hB6.size) (.cells #[.int .i64 X.epoch, .int .i64 X.half, .int .i64 X.pack, .int .i64 X.num] 41)
          have D6 := (D5.after hB6).alloc (.cells #[.int .i64 X.epoch, .int .i64 X.half, .int .i64 X.pack, .int .i64 X.num] 41)
          have E6 := (E5.after hB6).alloc (.cells #[.int .i64 X.epoch, .int .i64 X.half, .int .i64 X.pack, .int .i64 X.num] 41)
          have hd6 := (D5.after hB6).lt
          clear c0 c1 c2 c3 c4 e0 e1 e2 e3 e4
          obtain ⟨c0, c1, c2, c3, c4⟩ := id D6
          obtain ⟨e0, e1, e2, e3, e4⟩ := id E6
          simp only at c0 c1 c2 c3 e0 e1 e2 e3
          have HCH := Lib.hid (fun w ht => choose_at s.data.toList P ⟨a, b, c, d⟩ true w ht (by omega) (by omega) HBB.out (by show ((a : Int) != 0) = true; simp; omega))
          simp only at HCH
          rw [hso] at HCH
          go_wp2_with fail
          refine (slot_at a 1 _ hpar).mono ?_
          rintro e w20 ⟨rfl, rfl⟩
          have ha := fun b W => arr_at b 1 1 rfl (by omega) W
          go_wp2_with fail
          have q21 := q6.alloc q6.size (.cells #[.string s, .string (bs P)] 63)
          have D21 := D6.alloc (.cells #[.string s, .string (bs P)] 63)
          have E21 := E6.alloc (.cells #[.string s, .string (bs P)] 63)
          clear ha
          refine (HCH.out _ (ht.after q21)).mono ?_
          rintro e w22 ⟨rfl, hB22⟩
          have q22 := (q21.then' hB22 (Nat.le_refl _)).alloc (Nat.le_trans q21.size hB22.size) (.cells #[.int .i64 a, .int .i64 b, .int .i64 c, .int .i64 d] 41)
          have D22 := (D21.after hB22).alloc (.cells #[.int .i64 a, .int .i64 b, .int .i64 c, .int .i64 d] 41)
          have E22 := (E21.after hB22).alloc (.cells #[.int .i64 a, .int .i64 b, .int .i64 c, .int .i64 d] 41)
          have hd22 := (D21.after hB22).lt
          have he22 := (E21.after hB22).lt
          clear c0 c1 c2 c3 c4 e0 e1 e2 e3 e4
          obtain ⟨c0, c1, c2, c3, c4⟩ := id D22
          obtain ⟨e0, e1, e2, e3, e4⟩ := id E22
          simp only at c0 c1 c2 c3 e0 e1 e2 e3
          go_wp2_with fail
          refine (awake_any _ (ht.after q22)).mono ?_
          rintro e w23 ⟨rfl, hB23⟩
          have q23 := q22.then' hB23 (Nat.le_refl _)
          go_wp2_with fail
          go_ret
          exact ⟨rfl, q23⟩
        · simp only [err, if_true] at HTK
          go_enter Tryd.func8, Tryd.ntmps8
          go_wp2_with fail
          refine (HNX.out _).mono ?_
          rintro e w1 ⟨rfl, hB1⟩
          have q1 := (q0.then' hB1 (by simp)).alloc (Nat.le_trans q0.size hB1.size) (.cells #[.int .i64 (a + 1), .int .i64 (1 - b), .int .i64 pack, .int .i64 num] 41)
          have D1 := (D0.after hB1).alloc (.cells #[.int .i64 (a + 1), .int .i64 (1 - b), .int .i64 pack, .int .i64 num] 41)
          have E1 := HeadAt.new w1 (a + 1) (1 - b) pack num 41
          have hde : w1.heap.size ≠ w.heap.size := by have := (D0.after hB1).lt; omega
          clear hB1
          obtain ⟨c0, c1, c2, c3, c4⟩ := id D1
          obtain ⟨e0, e1, e2, e3, e4⟩ := id E1
          simp only at c0 c1 c2 c3 e0 e1 e2 e3
          go_wp2_with fail
          generalize w1.heap.size = g1 at E1 e0 e1 e2 e3 e4 hde ⊢
          generalize w1.alloc (.cells #[.int .i64 (a + 1), .int .i64 (1 - b), .int .i64 pack, .int .i64 num] 41) = w2 at q1 D1 E1 c0 c1 c2 c3 c4 e0 e1 e2 e3 e4 ⊢
          refine (HPUT.out _ (ht.after q1)).mono ?_
          rintro e w3 ⟨rfl, hB3⟩
          have q3 := q1.then' hB3 (Nat.le_refl _)
          have D3 := D1.after hB3
          have E3 := E1.after hB3
          clear hB3 c0 c1 c2 c3 c4 e0 e1 e2 e3 e4 D1 E1 q1
          obtain ⟨c0, c1, c2, c3, c4⟩ := id D3
          obtain ⟨e0, e1, e2, e3, e4⟩ := id E3
          simp only at c0 c1 c2 c3 e0 e1 e2 e3
          go_wp2_with fail
          refine (HPUN.out _ (ht.after q3)).mono ?_
          rintro e w4 ⟨rfl, hB4⟩
          have q4 := q3.then' hB4 (Nat.le_refl _)
          have D4 := D3.after hB4
          have E4 := E3.after hB4
          clear hB4 c0 c1 c2 c3 c4 e0 e1 e2 e3 e4 D3 E3 q3
          obtain ⟨c0, c1, c2, c3, c4⟩ := id D4
          obtain ⟨e0, e1, e2, e3, e4⟩ := id E4
          simp only at c0 c1 c2 c3 e0 e1 e2 e3
          go_wp2_with fail
          go_quiet (first | (go_at_call 39; exact slot_quiet _ 0 _ _ hpn) | (go_at_call 39; exact slot_quiet _ 1 _ _ hpar))
          have q5 : Below w.heap.size w (w4.drewN nq) := ⟨q4.os, q4.tape, q4.output, q4.size, q4.block⟩
          have D5 : HeadAt w.heap.size ⟨a, b, c, d⟩ (w4.drewN nq) := D4.kept rfl
          have E5 : HeadAt g1 ⟨a + 1, 1 - b, pack, num⟩ (w4.drewN nq) := E4.kept rfl
          clear c0 c1 c2 c3 c4 e0 e1 e2 e3 e4 q4 D4 E4
          generalize w4.drewN nq = w5 at q5 D5 E5 ⊢
          obtain ⟨c0, c1, c2, c3, c4⟩ := id D5
          obtain ⟨e0, e1, e2, e3, e4⟩ := id E5
          simp only at c0 c1 c2 c3 e0 e1 e2 e3
          have hd5 := D5.lt
          have he5 := E5.lt
          go_wp2_with fail
          refine (HTK.out _ (ht.after q5)).mono ?_
          rintro e w6 ⟨rfl, hB6⟩
          have q6 := (q5.then' hB6 (Nat.le_refl _)).alloc (Nat.le_trans q5.size hB6.size) (.cells #[.int .i64 X.epoch, .int .i64 X.half, .int .i64 X.pack, .int .i64 X.num] 41)
          have D6 := (D5.after hB6).alloc (.cells #[.int .i64 X.epoch, .int .i64 X.half, .int .i64 X.pack, .int .i64 X.num] 41)
          have E6 := (E5.after hB6).alloc (.cells #[.int .i64 X.epoch, .int .i64 X.half, .int .i64 X.pack, .int .i64 X.num] 41)
          have hd6 := (D5.after hB6).lt
          clear c0 c1 c2 c3 c4 e0 e1 e2 e3 e4
          obtain ⟨c0, c1, c2, c3, c4⟩ := id D6
          obtain ⟨e0, e1, e2, e3, e4⟩ := id E6
          simp only at c0 c1 c2 c3 e0 e1 e2 e3
          have HCH := Lib.hid (fun w ht => choose_at s.data.toList P ⟨a, b, c, d⟩ true w ht (by omega) (by omega) HBB.out (by show ((a : Int) != 0) = true; simp; omega))
          simp only at HCH
          rw [hso] at HCH
          go_wp2_with fail
          refine (slot_at a 1 _ hpar).mono ?_
          rintro e w20 ⟨rfl, rfl⟩
          have ha := fun b W => arr_at b 1 1 rfl (by omega) W
          go_wp2_with fail
          have q21 := q6.alloc q6.size (.cells #[.string s, .string (bs P)] 63)
          have D21 := D6.alloc (.cells #[.string s, .string (bs P)] 63)
          have E21 := E6.alloc (.cells #[.string s, .string (bs P)] 63)
          clear ha
          refine (HCH.out _ (ht.after q21)).mono ?_
          rintro e w22 ⟨rfl, hB22⟩
          have q22 := (q21.then' hB22 (Nat.le_refl _)).alloc (Nat.le_trans q21.size hB22.size) (.cells #[.int .i64 a, .int .i64 b, .int .i64 c, .int .i64 d] 41)
          have D22 := (D21.after hB22).alloc (.cells #[.int .i64 a, .int .i64 b, .int .i64 c, .int .i64 d] 41)
          have E22 := (E21.after hB22).alloc (.cells #[.int .i64 a, .int .i64 b, .int .i64 c, .int .i64 d] 41)
          have hd22 := (D21.after hB22).lt
          have he22 := (E21.after hB22).lt
          clear c0 c1 c2 c3 c4 e0 e1 e2 e3 e4
          obtain ⟨c0, c1, c2, c3, c4⟩ := id D22
          obtain ⟨e0, e1, e2, e3, e4⟩ := id E22
          simp only at c0 c1 c2 c3 e0 e1 e2 e3
          go_wp2_with fail
          refine (awake_any _ (ht.after q22)).mono ?_
          rintro e w23 ⟨rfl, hB23⟩
          have q23 := q22.then' hB23 (Nat.le_refl _)
          go_wp2_with fail
          go_ret
          exact ⟨rfl, q23⟩
    · have hbb := bc1 hpar
      have HBB := Lib.hid hbb
      clear hbb hst bc0 bc1
      go_enter Tryd.func8, Tryd.ntmps8
      go_wp2_with fail
      refine (HNX.out _).mono ?_
      rintro e w1 ⟨rfl, hB1⟩
      have q1 := (q0.then' hB1 (by simp)).alloc (Nat.le_trans q0.size hB1.size) (.cells #[.int .i64 (a + 1), .int .i64 (1 - b), .int .i64 pack, .int .i64 num] 41)
      have D1 := (D0.after hB1).alloc (.cells #[.int .i64 (a + 1), .int .i64 (1 - b), .int .i64 pack, .int .i64 num] 41)
      have E1 := HeadAt.new w1 (a + 1) (1 - b) pack num 41
      have hde : w1.heap.size ≠ w.heap.size := by have := (D0.after hB1).lt; omega
      clear hB1
      obtain ⟨c0, c1, c2, c3, c4⟩ := id D1
      obtain ⟨e0, e1, e2, e3, e4⟩ := id E1
      simp only at c0 c1 c2 c3 e0 e1 e2 e3
      go_wp2_with fail
      generalize w1.heap.size = g1 at E1 e0 e1 e2 e3 e4 hde ⊢
      generalize w1.alloc (.cells #[.int .i64 (a + 1), .int .i64 (1 - b), .int .i64 pack, .int .i64 num] 41) = w2 at q1 D1 E1 c0 c1 c2 c3 c4 e0 e1 e2 e3 e4 ⊢
      refine (HPUT.out _ (ht.after q1)).mono ?_
      rintro e w3 ⟨rfl, hB3⟩
      have q3 := q1.then' hB3 (Nat.le_refl _)
      have D3 := D1.after hB3
      have E3 := E1.after hB3
      clear hB3 c0 c1 c2 c3 c4 e0 e1 e2 e3 e4 D1 E1 q1
      obtain ⟨c0, c1, c2, c3, c4⟩ := id D3
      obtain ⟨e0, e1, e2, e3, e4⟩ := id E3
      simp only at c0 c1 c2 c3 e0 e1 e2 e3
      go_wp2_with fail
      refine (HPUN.out _ (ht.after q3)).mono ?_
      rintro e w4 ⟨rfl, hB4⟩
      have q4 := q3.then' hB4 (Nat.le_refl _)
      have D4 := D3.after hB4
      have E4 := E3.after hB4
      clear hB4 c0 c1 c2 c3 c4 e0 e1 e2 e3 e4 D3 E3 q3
      obtain ⟨c0, c1, c2, c3, c4⟩ := id D4
      obtain ⟨e0, e1, e2, e3, e4⟩ := id E4
      simp only at c0 c1 c2 c3 e0 e1 e2 e3
      go_wp2_with fail
      go_quiet (first | (go_at_call 39; exact slot_quiet _ 0 _ _ hpn) | (go_at_call 39; exact slot_quiet _ 1 _ _ hpar))
      have q5 : Below w.heap.size w (w4.drewN nq) := ⟨q4.os, q4.tape, q4.output, q4.size, q4.block⟩
      have D5 : HeadAt w.heap.size ⟨a, b, c, d⟩ (w4.drewN nq) := D4.kept rfl
      have E5 : HeadAt g1 ⟨a + 1, 1 - b, pack, num⟩ (w4.drewN nq) := E4.kept rfl
      clear c0 c1 c2 c3 c4 e0 e1 e2 e3 e4 q4 D4 E4
      generalize w4.drewN nq = w5 at q5 D5 E5 ⊢
      obtain ⟨c0, c1, c2, c3, c4⟩ := id D5
      obtain ⟨e0, e1, e2, e3, e4⟩ := id E5
      simp only at c0 c1 c2 c3 e0 e1 e2 e3
      have hd5 := D5.lt
      have he5 := E5.lt
      have HCH := Lib.hid (fun w ht => choose_at T P ⟨a + 1, 1 - b, pack, num⟩ true w ht (by omega) (by omega) HBB.out (by show (((a + 1) : Int) != 0) = true; simp; omega))
      simp only at HCH
      skip
      go_wp2_with fail
      refine (slot_at a 1 _ hpar).mono ?_
      rintro e w20 ⟨rfl, rfl⟩
      have ha := fun b W => arr_at b 1 1 rfl (by omega) W
      go_wp2_with fail
      have q21 := q5.alloc q5.size (.cells #[.string (bs T), .string (bs P)] 63)
      have D21 := D5.alloc (.cells #[.string (bs T), .string (bs P)] 63)
      have E21 := E5.alloc (.cells #[.string (bs T), .string (bs P)] 63)
      clear ha
      refine (HCH.out _ (ht.after q21)).mono ?_
      rintro e w22 ⟨rfl, hB22⟩
      have q22 := (q21.then' hB22 (Nat.le_refl _)).alloc (Nat.le_trans q21.size hB22.size) (.cells #[.int .i64 (a + 1), .int .i64 (1 - b), .int .i64 pack, .int .i64 num] 41)
      have D22 := (D21.after hB22).alloc (.cells #[.int .i64 (a + 1), .int .i64 (1 - b), .int .i64 pack, .int .i64 num] 41)
      have E22 := (E21.after hB22).alloc (.cells #[.int .i64 (a + 1), .int .i64 (1 - b), .int .i64 pack, .int .i64 num] 41)
      have hd22 := (D21.after hB22).lt
      have he22 := (E21.after hB22).lt
      clear c0 c1 c2 c3 c4 e0 e1 e2 e3 e4
      obtain ⟨c0, c1, c2, c3, c4⟩ := id D22
      obtain ⟨e0, e1, e2, e3, e4⟩ := id E22
      simp only at c0 c1 c2 c3 e0 e1 e2 e3
      go_wp2_with fail
      refine (awake_any _ (ht.after q22)).mono ?_
      rintro e w23 ⟨rfl, hB23⟩
      have q23 := q22.then' hB23 (Nat.le_refl _)
      go_wp2_with fail
      go_ret
      exact ⟨rfl, q23⟩
theorem seatLater_walk (a b c d pack num : Int) (s : ByteArray) (came : Bool) (w : World) (ht : Tab w) :
    Calls Tryd.prog 8 #[.agg #[.int .i64 a, .int .i64 b, .int .i64 c, .int .i64 d], .int .i64 pack, .int .i64 num, .string s, .bool came] w fun e w' => e = .returned (.bool true) ∧ Below w.heap.size w w' := by
  by_cases h : (nextV ⟨a, b, c, d⟩ pack num).2 ≠ 0 ∨ 1000 < s.size
  · exact later_no a b c d pack num s came w ht h
  · have h1 : (nextV ⟨a, b, c, d⟩ pack num).2 = 0 := by
      by_cases g : (nextV ⟨a, b, c, d⟩ pack num).2 = 0
      · exact g
      · exact absurd (.inl g) h
    have h2 : s.size ≤ 1000 := by
      by_cases g : s.size ≤ 1000
      · exact g
      · exact absurd (.inr (by omega)) h
    unfold nextV at h1
    simp only at h1
    by_cases g1 : isH ⟨a, b, c, d⟩ = true
    · rw [if_pos g1] at h1
      by_cases g2 : a = 4294967295
      · rw [if_pos g2] at h1; simp at h1
      · rw [if_neg g2] at h1
        by_cases g3 : isH ⟨a + 1, 1 - b, pack, num⟩ = true
        · exact later_yes a b c d pack num s came w ht h2 g1 g3
        · rw [if_neg g3] at h1; simp at h1
    · rw [if_neg g1] at h1; simp at h1
end Go.Proofs.YtalnmhlfjdocfaaDoor.WalkSeat
