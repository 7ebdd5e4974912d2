/-
  The walks of the document's Is, Full, Sealed, Put, Bare of the seat.
-/
import Derived.Test.YtalnmhlfjdocfaaDoorWalkSeatD
namespace Go.Proofs.YtalnmhlfjdocfaaDoor.WalkSeat
open Go.RowKit Go.Proofs.YtalnmhlfjdocfaaDoor.WalkVar Go.Proofs.YtalnmhlfjdocfaaDoor.WalkScan Go.Proofs.YtalnmhlfjdocfaaDoor.WalkCrc
open Pl.Seat (numV numR txtV txtR numP txtP Head isH putH openS)
set_option linter.unusedVariables false
set_option linter.unusedSimpArgs false
set_option maxRecDepth 100000

set_option maxHeartbeats 3200000 in
theorem refIs_any (a b c d : Int) (w : World) :
    Calls Tryd.prog 36 #[.agg #[.int .i64 a, .int .i64 b, .int .i64 c, .int .i64 d]] w fun e w' => e = .returned (.bool (isH ⟨a, b, c, d⟩)) ∧ Below w.heap.size w w' := by
  have hB : Below w.heap.size w (w.alloc (.cells #[.int .i64 a, .int .i64 b, .int .i64 c, .int .i64 d] 41)) := (Below.refl _ _).alloc (Nat.le_refl _) _
  by_cases h : isH ⟨a, b, c, d⟩ = true
  · rw [h]
    obtain ⟨g1, g2, g3, g4, g5, g6, g7, g8⟩ := (Pl.Seat.isH_iff _).1 h
    simp only at g1 g2 g3 g4 g5 g6 g7 g8
    clear h
    go_enter Tryd.func36, Tryd.ntmps36
    go_wp2
    go_ret
    exact ⟨rfl, hB⟩
  · have h' : isH ⟨a, b, c, d⟩ = false := by simpa using h
    rw [h']
    have hx : a < 1 ∨ (1 ≤ a ∧ 4294967295 < a) ∨ (1 ≤ a ∧ a ≤ 4294967295 ∧ b < 0) ∨ (1 ≤ a ∧ a ≤ 4294967295 ∧ 0 ≤ b ∧ 1 < b) ∨ (1 ≤ a ∧ a ≤ 4294967295 ∧ 0 ≤ b ∧ b ≤ 1 ∧ c < 0) ∨ (1 ≤ a ∧ a ≤ 4294967295 ∧ 0 ≤ b ∧ b ≤ 1 ∧ 0 ≤ c ∧ 524288 < c) ∨ (1 ≤ a ∧ a ≤ 4294967295 ∧ 0 ≤ b ∧ b ≤ 1 ∧ 0 ≤ c ∧ c ≤ 524288 ∧ d < 1) ∨ (1 ≤ a ∧ a ≤ 4294967295 ∧ 0 ≤ b ∧ b ≤ 1 ∧ 0 ≤ c ∧ c ≤ 524288 ∧ 1 ≤ d ∧ 4294967296 < d) := by
      have hn : ¬ (1 ≤ a ∧ a ≤ 4294967295 ∧ 0 ≤ b ∧ b ≤ 1 ∧ 0 ≤ c ∧ c ≤ 524288 ∧ 1 ≤ d ∧ d ≤ 4294967296) := fun g => h ((Pl.Seat.isH_iff _).2 g)
      omega
    clear h h'
    rcases hx with g1 | ⟨g1, g2⟩ | ⟨g1, g2, g3⟩ | ⟨g1, g2, g3, g4⟩ | ⟨g1, g2, g3, g4, g5⟩ | ⟨g1, g2, g3, g4, g5, g6⟩ | ⟨g1, g2, g3, g4, g5, g6, g7⟩ | ⟨g1, g2, g3, g4, g5, g6, g7, g8⟩
    all_goals
      go_enter Tryd.func36, Tryd.ntmps36
      go_wp2
      go_ret
      first
        | exact ⟨rfl, hB⟩
        | (refine ⟨?_, hB⟩
           have hd : decide (d ≤ 4294967296) = false := by simp; omega
           show Ending.returned (Value.bool (decide (d ≤ 4294967296))) = _
           rw [hd])
theorem refIs_at (a b c d : Int) (r : Bool) (w : World) (hr : isH ⟨a, b, c, d⟩ = r) :
    Calls Tryd.prog 36 #[.agg #[.int .i64 a, .int .i64 b, .int .i64 c, .int .i64 d]] w fun e w' => e = .returned (.bool r) ∧ Below w.heap.size w w' := hr ▸ refIs_any a b c d w

theorem full_step (s : List UInt8) (h : s.length < 128) : Pl.Seat.full (s ++ [0]) = Pl.Seat.full s := by
  unfold Pl.Seat.full
  have : 128 - s.length = (128 - (s ++ [0]).length) + 1 := by simp; omega
  rw [this, List.replicate_succ]
  simp
set_option maxHeartbeats 1600000 in
theorem refFull_any (s : List UInt8) (w : World) (hs : s.length ≤ 1048576) :
    Calls Tryd.prog 130 #[.string (bs s)] w fun e w' => e = .returned (.string (bs (Pl.Seat.full s))) ∧ w = w' := by
  obtain ⟨R, hR⟩ : ∃ R, Pl.Seat.full s = R := ⟨_, rfl⟩
  rw [hR]
  have HR := Lib.hid hR
  clear hR
  go_enter Tryd.func130, Tryd.ntmps130
  go_wp2
  go_loop [0] (fun v => ∃ t : List UInt8, v = .string (bs t) ∧ t.length ≤ 1048576 ∧ Hid (Pl.Seat.full t = R)) (fun v => 128 - Lib.strSize v)
  case atStart => exact ⟨s, rfl, hs, HR⟩
  case round =>
    obtain ⟨t, rfl, htl, HT⟩ := hrel
    have hz := bs_size t
    by_cases h : t.length < 128
    · have hi : ((bs t).size : Int) < 128 := by omega
      have hst : Pl.Seat.full (t ++ [0]) = R := by rw [full_step t h]; exact HT.out
      have HST := Lib.hid hst
      have hb : bs t ++ (⟨#[0]⟩ : ByteArray) = bs (t ++ [0]) := by rw [← bs_append]; rfl
      have HBB := Lib.hid hb
      have hzz : ¬ (9223372036854775807 < (bs t).size + 1) := by omega
      clear hst hb
      go_wp2
      go_round
      case rel => exact ⟨t ++ [0], by rw [HBB.out], by simp; omega, HST⟩
      case measure => rw [HBB.out]; simp only [Lib.strSize_string, bs_size]; simp; omega
    · have hi : (128 : Int) ≤ ((bs t).size : Int) := by omega
      have hf : t = R := by
        rw [← HT.out]
        unfold Pl.Seat.full
        rw [show 128 - t.length = 0 by omega]
        simp
      have HF := Lib.hid hf
      clear hf
      go_wp2
      go_ret
      exact ⟨by rw [HF.out]; rfl, rfl⟩

theorem refSealed_any (X : List UInt8) (w : World) (hX : X.length ≤ 50000) :
    Calls Tryd.prog 83 #[.string (bs X)] w fun e w' => e = .returned (.string (bs (Pl.Seat.sealedS tailU X))) ∧ Below w.heap.size w w' := by
  have e1 : Pl.Seat.sealedS tailU X = Pl.Seat.full (Pl.Seat.putT (X ++ tailU X)) := rfl
  rw [e1]
  obtain ⟨v, hv⟩ : ∃ v, Pl.Crc.on 0 X = v := ⟨_, rfl⟩
  have hvl : v < 4294967296 := by rw [← hv]; exact Pl.Crc.on_lt _ _
  have hcat : bs X ++ tailS v = bs (X ++ tailU X) := by rw [← bs_append, bs_tailU, hv]
  have hz : ¬ (9223372036854775807 < (bs X).size + (tailS v).size) := by rw [bs_size, tailS_size]; omega
  have hv2 : Pl.Crc.on 0 (bs X).data.toList = v := by rw [bs_list]; exact hv
  have htu := tailU_len X
  have HV := Lib.hid hv2
  have HCAT := Lib.hid hcat
  have hXs : (bs X).size ≤ 100000 := by rw [bs_size]; omega
  clear hv hv2 hcat
  generalize tailU X = Y at *
  have hfl : (Pl.Seat.putT (X ++ Y)).length ≤ 1048576 := by
    unfold Pl.Seat.putT
    have := Pl.Seat.put_le (X ++ Y).length
    simp at this ⊢
    omega
  go_enter Tryd.func83, Tryd.ntmps83
  go_wp2_with fail
  refine (refOn_zero v (bs X) _ hXs HV.out).mono ?_
  rintro e w1 ⟨rfl, hB1⟩
  go_wp2_with fail
  refine (refTail_any v _ hvl).mono ?_
  rintro e w2 ⟨rfl, hB2⟩
  have q2 := hB1.then' hB2 (Nat.le_refl _)
  go_wp2_with fail
  rw [HCAT.out]
  refine (refPutText_any (bs (X ++ Y)) _ (by rw [bs_size]; simp; omega)).mono ?_
  rintro e w3 ⟨rfl, hB3⟩
  have q3 := q2.then' hB3 (Nat.le_refl _)
  rw [bs_list]
  go_wp2_with fail
  refine (refFull_any (Pl.Seat.putT (X ++ Y)) _ hfl).mono ?_
  rintro e w4 ⟨rfl, rfl⟩
  go_wp2_with fail
  go_ret
  exact ⟨rfl, q3⟩
theorem refPutNum_at (n : Int) (P : List UInt8) (w : World) (hn : n ≤ 9223372036854775807) (hP : Pl.Seat.put n.toNat = P) :
    Calls Tryd.prog 84 #[.int .i64 n] w fun e w' => e = .returned (.string (bs P)) ∧ Below w.heap.size w w' := hP ▸ refPutNum_any n w hn
theorem refSealed_at (X S : List UInt8) (T : ByteArray) (w : World) (hX : X.length ≤ 50000) (hT : T = bs X) (hS : Pl.Seat.sealedS tailU X = S) :
    Calls Tryd.prog 83 #[.string T] w fun e w' => e = .returned (.string (bs S)) ∧ Below w.heap.size w w' := by
  subst hT
  rw [← hS]
  exact refSealed_any X w hX
set_option maxHeartbeats 3200000 in
theorem refPut_ok (a b c d : Int) (w : World) (h : isH ⟨a, b, c, d⟩ = true) :
    Calls Tryd.prog 37 #[.agg #[.int .i64 a, .int .i64 b, .int .i64 c, .int .i64 d]] w fun e w' => e = .returned (.string (bs (putH tailU ⟨a, b, c, d⟩))) ∧ Below w.heap.size w w' := by
  have HCK := Lib.hid (fun w => refIs_at a b c d true w h)
  obtain ⟨g1, g2, g3, g4, g5, g6, g7, g8⟩ := (Pl.Seat.isH_iff _).1 h
  simp only at g1 g2 g3 g4 g5 g6 g7 g8
  obtain ⟨P1, hP1⟩ : ∃ P, Pl.Seat.put a.toNat = P := ⟨_, rfl⟩
  obtain ⟨P2, hP2⟩ : ∃ P, Pl.Seat.put b.toNat = P := ⟨_, rfl⟩
  obtain ⟨P3, hP3⟩ : ∃ P, Pl.Seat.put c.toNat = P := ⟨_, rfl⟩
  obtain ⟨P4, hP4⟩ : ∃ P, Pl.Seat.put d.toNat = P := ⟨_, rfl⟩
  have l1 := Pl.Seat.put_le a.toNat
  have l2 := Pl.Seat.put_le b.toNat
  have l3 := Pl.Seat.put_le c.toNat
  have l4 := Pl.Seat.put_le d.toNat
  rw [hP1] at l1
  rw [hP2] at l2
  rw [hP3] at l3
  rw [hP4] at l4
  have htx : Pl.Seat.textH ⟨a, b, c, d⟩ = [112, 108, 101, 97, 99, 104] ++ (P1 ++ (P2 ++ (P3 ++ P4))) := by
    unfold Pl.Seat.textH Pl.Seat.nums4 Pl.Seat.mark
    simp only [hP1, hP2, hP3, hP4]
  have Q1 := Lib.hid (fun w => refPutNum_at a P1 w (by omega) hP1)
  have Q2 := Lib.hid (fun w => refPutNum_at b P2 w (by omega) hP2)
  have Q3 := Lib.hid (fun w => refPutNum_at c P3 w (by omega) hP3)
  have Q4 := Lib.hid (fun w => refPutNum_at d P4 w (by omega) hP4)
  have hcat : (((⟨#[112, 108, 101, 97, 99, 104]⟩ : ByteArray) ++ bs P1) ++ bs P2) ++ bs P3 ++ bs P4 = bs (Pl.Seat.textH ⟨a, b, c, d⟩) := by
    rw [htx]
    have : (⟨#[112, 108, 101, 97, 99, 104]⟩ : ByteArray) = bs [112, 108, 101, 97, 99, 104] := rfl
    rw [this, bs_append, bs_append, bs_append, bs_append]
    simp
  obtain ⟨S, hS⟩ : ∃ S, putH tailU ⟨a, b, c, d⟩ = S := ⟨_, rfl⟩
  have hSS : Pl.Seat.sealedS tailU (Pl.Seat.textH ⟨a, b, c, d⟩) = S := hS
  rw [hS]
  have htl := Pl.Seat.textH_len ⟨a, b, c, d⟩
  have QS := Lib.hid (fun w => refSealed_at (Pl.Seat.textH ⟨a, b, c, d⟩) S _ w (by omega) hcat hSS)
  have z0 : (⟨#[112, 108, 101, 97, 99, 104]⟩ : ByteArray).size = 6 := rfl
  have z1 : ¬ (9223372036854775807 < (⟨#[112, 108, 101, 97, 99, 104]⟩ : ByteArray).size + (bs P1).size) := by rw [bs_size, z0]; omega
  have z2 : ¬ (9223372036854775807 < ((⟨#[112, 108, 101, 97, 99, 104]⟩ : ByteArray) ++ bs P1).size + (bs P2).size) := by rw [ByteArray.size_append, bs_size, bs_size, z0]; omega
  have z3 : ¬ (9223372036854775807 < ((⟨#[112, 108, 101, 97, 99, 104]⟩ : ByteArray) ++ bs P1 ++ bs P2).size + (bs P3).size) := by rw [ByteArray.size_append, ByteArray.size_append, bs_size, bs_size, bs_size, z0]; omega
  have z4 : ¬ (9223372036854775807 < ((⟨#[112, 108, 101, 97, 99, 104]⟩ : ByteArray) ++ bs P1 ++ bs P2 ++ bs P3).size + (bs P4).size) := by rw [ByteArray.size_append, ByteArray.size_append, ByteArray.size_append, bs_size, bs_size, bs_size, bs_size, z0]; omega
  have y1 : ¬ (9223372036854775807 < 6 + (bs P1).size) := by rw [bs_size]; omega
  have y2 : ¬ (9223372036854775807 < 6 + (bs P1).size + (bs P2).size) := by rw [bs_size, bs_size]; omega
  have y3 : ¬ (9223372036854775807 < 6 + (bs P1).size + (bs P2).size + (bs P3).size) := by rw [bs_size, bs_size, bs_size]; omega
  have y4 : ¬ (9223372036854775807 < 6 + (bs P1).size + (bs P2).size + (bs P3).size + (bs P4).size) := by rw [bs_size, bs_size, bs_size, bs_size]; omega
  clear hP1 hP2 hP3 hP4 htx h hcat hS hSS htl
  go_enter Tryd.func37, Tryd.ntmps37
  go_wp2_with fail
  refine (HCK.out _).mono ?_
  rintro e w1 ⟨rfl, hB1⟩
  have S1 := Four.keep (Four.new w a b c d _) hB1
  obtain ⟨c1, c2, c3, c4, hBw⟩ := id S1
  go_wp2_with fail
  go_region_held3 (fun w' => w'.cell? ⟨w.heap.size, 0, none⟩ = some (.int .i64 a) ∧ w'.cell? ⟨w.heap.size, 1, none⟩ = some (.int .i64 b) ∧ w'.cell? ⟨w.heap.size, 2, none⟩ = some (.int .i64 c) ∧ w'.cell? ⟨w.heap.size, 3, none⟩ = some (.int .i64 d) ∧ Below w.heap.size w w') (first | exact ⟨c1, c2, c3, c4, hBw.drew⟩ | assumption | exact Four.keep (by assumption) (by assumption)) (first | (go_at_call_of 84 a; refine (Q1.out _).mono ?_; rintro e w2 ⟨rfl, hB2⟩) | (go_at_call_of 84 b; refine (Q2.out _).mono ?_; rintro e w3 ⟨rfl, hB3⟩) | (go_at_call_of 84 c; refine (Q3.out _).mono ?_; rintro e w4 ⟨rfl, hB4⟩) | (go_at_call_of 84 d; refine (Q4.out _).mono ?_; rintro e w5 ⟨rfl, hB5⟩) | (go_at_call 83; refine (QS.out _).mono ?_; rintro e w6 ⟨rfl, hB6⟩))
  have q2 := hBw.drew.then' hB2 (Nat.le_refl _)
  have q3 := q2.then' hB3 (Nat.le_refl _)
  have q4 := q3.then' hB4 (Nat.le_refl _)
  have q5 := q4.then' hB5 (Nat.le_refl _)
  have q6 := q5.then' hB6 (Nat.le_refl _)
  go_wp2_with fail
  go_ret
  exact ⟨rfl, q6⟩
theorem refPut_bad (a b c d : Int) (w : World) (h : isH ⟨a, b, c, d⟩ = false) :
    Calls Tryd.prog 37 #[.agg #[.int .i64 a, .int .i64 b, .int .i64 c, .int .i64 d]] w fun e w' => e = .returned (.string (bs [])) ∧ Below w.heap.size w w' := by
  have HCK := Lib.hid (fun w => refIs_at a b c d false w h)
  clear h
  go_enter Tryd.func37, Tryd.ntmps37
  go_wp2_with fail
  refine (HCK.out _).mono ?_
  rintro e w1 ⟨rfl, hB1⟩
  have q1 := ((Below.refl w.heap.size w).alloc (Nat.le_refl _) _).then' hB1 (by simp)
  go_wp2_with fail
  go_ret
  exact ⟨rfl, q1⟩
theorem refPut_any (a b c d : Int) (w : World) :
    Calls Tryd.prog 37 #[.agg #[.int .i64 a, .int .i64 b, .int .i64 c, .int .i64 d]] w fun e w' => e = .returned (.string (bs (putV ⟨a, b, c, d⟩))) ∧ Below w.heap.size w w' := by
  unfold putV
  by_cases h : isH ⟨a, b, c, d⟩ = true
  · rw [if_pos h]
    exact refPut_ok a b c d w h
  · rw [if_neg h]
    exact refPut_bad a b c d w (by simpa using h)
end Go.Proofs.YtalnmhlfjdocfaaDoor.WalkSeat
