/-
  The walks of the document's Next and of the laws' awake.
-/
import Derived.Test.YtalnmhlfjdocfaaDoorWalkSeatG
namespace Go.Proofs.YtalnmhlfjdocfaaDoor.WalkSeat
open Go.RowKit Go.Proofs.YtalnmhlfjdocfaaDoor.WalkVar Go.Proofs.YtalnmhlfjdocfaaDoor.WalkScan Go.Proofs.YtalnmhlfjdocfaaDoor.WalkCrc
open Pl.Seat (numV numR txtV txtR numP txtP Head isH putH openS)
set_option linter.unusedVariables false
set_option linter.unusedSimpArgs false
set_option maxRecDepth 100000

set_option maxHeartbeats 3200000 in
theorem refNext_any (a b c d pack num : Int) (R : Head) (n : Int) (w : World) (hR : nextV ⟨a, b, c, d⟩ pack num = (R, n)) :
    Calls Tryd.prog 35 #[.agg #[.int .i64 a, .int .i64 b, .int .i64 c, .int .i64 d], .int .i64 pack, .int .i64 num] w fun e w' => e = .returned (.tuple #[.agg #[.int .i64 R.epoch, .int .i64 R.half, .int .i64 R.pack, .int .i64 R.num], .int .i64 n]) ∧ Below w.heap.size w w' := by
  unfold nextV at hR
  simp only at hR
  by_cases h : isH ⟨a, b, c, d⟩ = true
  · rw [if_pos h] at hR
    obtain ⟨g1, g2, g3, g4, g5, g6, g7, g8⟩ := (Pl.Seat.isH_iff _).1 h
    simp only at g1 g2 g3 g4 g5 g6 g7 g8
    have HCK := Lib.hid (fun w => refIs_at a b c d true w h)
    by_cases hE : a = 4294967295
    · rw [if_pos hE] at hR
      simp only [Prod.mk.injEq] at hR
      obtain ⟨rfl, rfl⟩ := hR
      subst hE
      clear h
      go_enter Tryd.func35, Tryd.ntmps35
      go_wp2_with fail
      refine (HCK.out _).mono ?_
      rintro e w1 ⟨rfl, hB1⟩
      obtain ⟨⟨c0, c1, c2, c3⟩, C1, q1⟩ := two_heads hB1
      obtain ⟨k0, k1, k2, k3, x0, x1, x2, x3, y0, y1, y2, y3⟩ := C1.stored
      have y4 := C1.2
      clear hB1
      go_wp2_with fail
      refine bodyPost_ret (by simp [results, Tryd.results35, k0, k1, k2, k3, go_sem]; try rfl) rfl ?_
      exact ⟨rfl, below_four q1 (Nat.le_succ _) _ _ _ _⟩
    · rw [if_neg hE] at hR
      have hEf : ((a : Int) == 4294967295) = false := by simpa using hE
      obtain ⟨r, hr⟩ : ∃ r, isH ⟨a + 1, 1 - b, pack, num⟩ = r := ⟨_, rfl⟩
      have HC2 := Lib.hid (fun w => refIs_at (a + 1) (1 - b) pack num r w hr)
      rw [hr] at hR
      clear h hr hE
      go_enter Tryd.func35, Tryd.ntmps35
      go_wp2_with fail
      refine (HCK.out _).mono ?_
      rintro e w1 ⟨rfl, hB1⟩
      obtain ⟨⟨c0, c1, c2, c3⟩, C1, q1⟩ := two_heads hB1
      clear hB1
      go_wp2_with fail
      refine (HC2.out _).mono ?_
      rintro e w2 ⟨rfl, hB2⟩
      have q2 := (q1.alloc q1.size (.cells #[.int .i64 (a + 1), .int .i64 (1 - b), .int .i64 pack, .int .i64 num] 41)).trans (hB2.mono (by have := q1.size; simp; omega))
      have C2 := (C1.alloc (.cells #[.int .i64 (a + 1), .int .i64 (1 - b), .int .i64 pack, .int .i64 num] 41)).after hB2
      have S2 := Four.keep (Four.new w1 (a + 1) (1 - b) pack num 41) hB2
      obtain ⟨d0, d1, d2, d3, _⟩ := S2
      have hd : w1.heap.size ≠ w.heap.size + 1 := by have := C1.lt; omega
      generalize w1.heap.size = hb at d0 d1 d2 d3 hd ⊢
      obtain ⟨k0, k1, k2, k3, x0, x1, x2, x3, y0, y1, y2, y3⟩ := C2.stored
      have y4 := C2.2
      clear hB2 C1 q1 c0 c1 c2 c3
      cases r
      · simp only [Bool.false_eq_true, if_false, Prod.mk.injEq] at hR
        obtain ⟨rfl, rfl⟩ := hR
        go_wp2_with fail
        refine bodyPost_ret (by simp [results, Tryd.results35, k0, k1, k2, k3, go_sem]; try rfl) rfl ?_
        exact ⟨rfl, below_four q2 (Nat.le_succ _) _ _ _ _⟩
      · simp only [if_true, Prod.mk.injEq] at hR
        obtain ⟨rfl, rfl⟩ := hR
        go_wp2_with fail
        refine bodyPost_ret (by simp [results, Tryd.results35, k0, k1, k2, k3, go_sem]; try rfl) rfl ?_
        exact ⟨rfl, below_four q2 (Nat.le_succ _) _ _ _ _⟩
  · rw [if_neg h] at hR
    simp only [Prod.mk.injEq] at hR
    obtain ⟨rfl, rfl⟩ := hR
    have h' : isH ⟨a, b, c, d⟩ = false := by simpa using h
    have HCK := Lib.hid (fun w => refIs_at a b c d false w h')
    clear h h'
    go_enter Tryd.func35, Tryd.ntmps35
    go_wp2_with fail
    refine (HCK.out _).mono ?_
    rintro e w1 ⟨rfl, hB1⟩
    obtain ⟨⟨c0, c1, c2, c3⟩, C1, q1⟩ := two_heads hB1
    obtain ⟨k0, k1, k2, k3, x0, x1, x2, x3, y0, y1, y2, y3⟩ := C1.stored
    have y4 := C1.2
    clear hB1
    go_wp2_with fail
    refine bodyPost_ret (by simp [results, Tryd.results35, k0, k1, k2, k3, go_sem]; try rfl) rfl ?_
    exact ⟨rfl, below_four q1 (Nat.le_succ _) _ _ _ _⟩

/-- a head's sector has that head -/
theorem takeV_put (h : Head) (hh : isH h = true) : takeV (putH tailU h) = h ∧ takeB (putH tailU h) = true := by
  have := (Pl.Seat.takeH_iff tailU tailU_len (putH tailU h) h).2 ⟨hh, rfl⟩
  unfold takeV takeB
  rw [this]
  exact ⟨rfl, rfl⟩
theorem takeB_zeros : takeB (zeros 128) = false := by
  unfold takeB
  cases h : Pl.Seat.takeH tailU (zeros 128) with
  | none => rfl
  | some x =>
    obtain ⟨h1, h2⟩ := (Pl.Seat.takeH_iff tailU tailU_len _ _).1 h
    exfalso
    have h3 : (putH tailU x).head? = some 0 := by rw [h2]; rfl
    have hl := Pl.Seat.textH_len x
    have hu := tailU_len (Pl.Seat.textH x)
    have h4 : (putH tailU x).head? = (Pl.Seat.put (Pl.Seat.textH x ++ tailU (Pl.Seat.textH x)).length).head? := by
      show (Pl.Seat.full (Pl.Seat.putT _)).head? = _
      unfold Pl.Seat.full Pl.Seat.putT
      rw [List.append_assoc, List.head?_append]
      have := Pl.Seat.put_pos (Pl.Seat.textH x ++ tailU (Pl.Seat.textH x)).length
      cases hq : Pl.Seat.put (Pl.Seat.textH x ++ tailU (Pl.Seat.textH x)).length with
      | nil => rw [hq] at this; simp at this
      | cons c l => rfl
    have h5 : 0 < (Pl.Seat.textH x ++ tailU (Pl.Seat.textH x)).length := by simp; omega
    have h6 : (Pl.Seat.textH x ++ tailU (Pl.Seat.textH x)).length < 128 := by simp; omega
    generalize (Pl.Seat.textH x ++ tailU (Pl.Seat.textH x)).length = m at h4 h5 h6
    unfold Pl.Seat.put Pl.Seat.putF at h4
    rw [if_pos h6, h3] at h4
    simp only [List.head?_cons, Option.some.injEq] at h4
    have := congrArg UInt8.toNat h4
    simp at this
    omega
theorem seatPut_at (a b c d : Int) (P : List UInt8) (n : Int) (w : World) (ht : Tab w) (hP : putV ⟨a, b, c, d⟩ = P) (hn : arg (isH ⟨a, b, c, d⟩) = n) :
    Calls Tryd.prog 33 #[.agg #[.int .i64 a, .int .i64 b, .int .i64 c, .int .i64 d]] w fun e w' => e = .returned (.tuple #[.string (bs P), .int .i64 n]) ∧ Below w.heap.size w w' := hP ▸ hn ▸ seatPut_any a b c d w ht
theorem choose_at (s u : List UInt8) (R : Head) (r : Bool) (w : World) (ht : Tab w) (hs : s.length ≤ 1048576) (hu : u.length ≤ 1048576) (hR : best2 s u = R) (hr : (R.epoch != 0) = r) :
    Calls Tryd.prog 29 #[.string (bs s), .string (bs u)] w fun e w' => e = .returned (.tuple #[.agg #[.int .i64 R.epoch, .int .i64 R.half, .int .i64 R.pack, .int .i64 R.num], .bool r]) ∧ Below w.heap.size w w' := by
  have := choose_any (bs s) (bs u) w ht (by rw [bs_size]; omega) (by rw [bs_size]; omega) R (by rw [bs_list, bs_list]; exact hR)
  rwa [hr] at this
set_option maxHeartbeats 3200000 in
theorem awake_any (w : World) (ht : Tab w) : Calls Tryd.prog 24 #[] w fun e w' => e = .returned (.bool true) ∧ Below w.heap.size w w' := by
  have h1 : isH ⟨1, 0, 0, 1⟩ = true := by decide
  obtain ⟨P, hP⟩ : ∃ P, putV ⟨1, 0, 0, 1⟩ = P := ⟨_, rfl⟩
  have hpp : putH tailU ⟨1, 0, 0, 1⟩ = P := by rw [← hP]; unfold putV; rw [if_pos h1]
  have hlen : P.length = 128 := by rw [← hpp]; exact Pl.Seat.putH_len tailU tailU_len _
  obtain ⟨t1, t2⟩ := takeV_put ⟨1, 0, 0, 1⟩ h1
  rw [hpp] at t1 t2
  have hb : best2 (zeros 128) P = ⟨1, 0, 0, 1⟩ := by
    have b1 : best1 (zeros 128) = Pl.Seat.Head.zero := by
      unfold best1 okS
      rw [takeB_zeros]
      rfl
    unfold best2 okS
    rw [b1, t1, t2]
    rfl
  have HPUT := Lib.hid (fun w ht => seatPut_at 1 0 0 1 P 0 w ht hP (by rw [h1]; rfl))
  have HNO := Lib.hid (fun w => noughts_any 128 w (by omega))
  have HCH := Lib.hid (fun w ht => choose_at (zeros 128) P ⟨1, 0, 0, 1⟩ true w ht (by unfold zeros; simp) (by omega) hb (by rfl))
  have hsz : (bs P).size = 128 := by rw [bs_size]; exact hlen
  have hszi : ((bs P).size : Int) = 128 := by omega
  clear hP hpp hb t1 t2 hlen hsz
  go_enter Tryd.func24, Tryd.ntmps24
  go_wp2_with fail
  have D0 := HeadAt.new w 1 0 0 1 41
  have q0 := (Below.refl w.heap.size w).alloc (Nat.le_refl _) (.cells #[.int .i64 1, .int .i64 0, .int .i64 0, .int .i64 1] 41)
  refine (HPUT.out _ (ht.after q0)).mono ?_
  rintro e w1 ⟨rfl, hB1⟩
  have q1 := q0.then' hB1 (by simp)
  have D1 := D0.after hB1
  clear q0 D0 hB1
  go_wp2_with fail
  refine (HNO.out _).mono ?_
  rintro e w2 ⟨rfl, hB2⟩
  have q2 := q1.then' hB2 (Nat.le_refl _)
  have D2 := D1.after hB2
  clear q1 D1 hB2
  go_wp2_with fail
  refine (HCH.out _ (ht.after q2)).mono ?_
  rintro e w3 ⟨rfl, hB3⟩
  have q3 := q2.then' hB3 (Nat.le_refl _)
  have D3 := D2.after hB3
  clear q2 D2 hB3
  obtain ⟨c0, c1, c2, c3, c4⟩ := id D3
  simp only at c0 c1 c2 c3
  have hlt := D3.lt
  go_wp2_with fail
  go_ret
  exact ⟨rfl, q3.alloc q3.size _⟩
end Go.Proofs.YtalnmhlfjdocfaaDoor.WalkSeat
