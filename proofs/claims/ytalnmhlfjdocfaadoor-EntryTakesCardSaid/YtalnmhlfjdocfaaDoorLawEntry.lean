/-
  The walks of what the laws of the records share, and of EntryPuts.
-/
import Derived.Test.YtalnmhlfjdocfaaDoorWalkRefRecTake
namespace Go.Proofs.YtalnmhlfjdocfaaDoor.WalkSeat
open Go.RowKit Go.Proofs.YtalnmhlfjdocfaaDoor.WalkVar Go.Proofs.YtalnmhlfjdocfaaDoor.WalkScan Go.Proofs.YtalnmhlfjdocfaaDoor.WalkCrc
open Pl.Seat (numV numR txtV txtR numP txtP Head isH putH openS isName nameByte isHash Rec isR putR)
set_option linter.unusedVariables false
set_option linter.unusedSimpArgs false
set_option maxRecDepth 100000

def fewB (N O M : ByteArray) : Bool := decide (N.size ≤ 200) && decide (O.size ≤ 200) && decide (M.size ≤ 200)
set_option maxHeartbeats 1600000 in
theorem few_any (e q k : Int) (N O M : ByteArray) (t u : Int) (w : World) (b : Bool) (hb : fewB N O M = b) :
    Calls Tryd.prog 40 #[.agg #[.int .i64 e, .int .i64 q, .int .i64 k, .string N, .string O, .string M, .int .i64 t, .int .i64 u]] w fun x w' => x = .returned (.bool b) ∧ Below w.heap.size w w' := by
  have hB : Below w.heap.size w (w.alloc (.cells #[.int .i64 e, .int .i64 q, .int .i64 k, .string N, .string O, .string M, .int .i64 t, .int .i64 u] 66)) := (Below.refl _ _).alloc (Nat.le_refl _) _
  unfold fewB at hb
  by_cases h1 : N.size ≤ 200
  · have g1 : (N.size : Int) ≤ 200 := by omega
    by_cases h2 : O.size ≤ 200
    · have g2 : (O.size : Int) ≤ 200 := by omega
      by_cases h3 : M.size ≤ 200
      · have g3 : (M.size : Int) ≤ 200 := by omega
        have hr : b = true := by rw [← hb]; simp [h1, h2, h3]
        subst hr
        clear hb h1 h2 h3
        go_enter Tryd.func40, Tryd.ntmps40
        go_wp2
        go_ret
        exact ⟨by simp [g3], hB⟩
      · have g3 : (200 : Int) < (M.size : Int) := by omega
        have hr : b = false := by rw [← hb]; simp [h3]
        subst hr
        clear hb h1 h2 h3
        go_enter Tryd.func40, Tryd.ntmps40
        go_wp2
        go_ret
        exact ⟨by simp; omega, hB⟩
    · have g2 : (200 : Int) < (O.size : Int) := by omega
      have hr : b = false := by rw [← hb]; simp [h2]
      subst hr
      clear hb h1 h2
      go_enter Tryd.func40, Tryd.ntmps40
      go_wp2
      go_ret
      exact ⟨rfl, hB⟩
  · have g1 : (200 : Int) < (N.size : Int) := by omega
    have hr : b = false := by rw [← hb]; simp [h1]
    subst hr
    clear hb h1
    go_enter Tryd.func40, Tryd.ntmps40
    go_wp2
    go_ret
    exact ⟨rfl, hB⟩
theorem entryPut_at (e q k : Int) (N O M : ByteArray) (t u : Int) (P : List UInt8) (n : Int) (w : World) (ht : Tab w) (hO : O.size ≤ 1048576) (hM : M.size ≤ 1048576) (hP : putRV (rc e q k N O M t u) = P) (hn : arg (isR (rc e q k N O M t u)) = n) :
    Calls Tryd.prog 42 #[.agg #[.int .i64 e, .int .i64 q, .int .i64 k, .string N, .string O, .string M, .int .i64 t, .int .i64 u]] w fun x w' => x = .returned (.tuple #[.string (bs P), .int .i64 n]) ∧ Below w.heap.size w w' := hP ▸ hn ▸ entryPut_any e q k N O M t u w ht hO hM
theorem takeRV_put (x : Rec) (h : isR x = true) : takeRV (putRV x) = x ∧ takeRB (putRV x) = true ∧ (putRV x).length = 128 := by
  have hp : putRV x = putR tailU x := by unfold putRV; rw [if_pos h]
  have := (Pl.Seat.takeR_iff tailU tailU_len (putRV x) x).2 ⟨h, hp.symm⟩
  unfold takeRV takeRB
  rw [this]
  exact ⟨rfl, rfl, by rw [hp]; exact Pl.Seat.putR_len tailU tailU_len x h⟩
/-- the record of the laws' first play -/
def awakeR : Rec := ⟨1, 0, 1, [97], [], zeros 32, 0, 2⟩
theorem awakeR_is : isR awakeR = true := by decide
theorem awakeR_rc : rc 1 0 1 ⟨#[97]⟩ ⟨#[]⟩ (bs (zeros 32)) 0 2 = awakeR := by unfold rc awakeR; rw [bs_list]
theorem bs97 : bs [97] = ⟨#[97]⟩ := rfl
theorem bsNil : bs [] = ⟨#[]⟩ := rfl

set_option maxHeartbeats 3200000 in
theorem awake10_any (w : World) (ht : Tab w) : Calls Tryd.prog 41 #[] w fun e w' => e = .returned (.bool true) ∧ Below w.heap.size w w' := by
  obtain ⟨P, hP⟩ : ∃ P, putRV awakeR = P := ⟨_, rfl⟩
  obtain ⟨t1, t2, t3⟩ := takeRV_put awakeR awakeR_is
  rw [hP] at t1 t2 t3
  have HNO := Lib.hid (fun w => noughts_any 32 w (by omega))
  have hz : (bs (zeros 32)).size ≤ 1048576 := by rw [bs_size]; unfold zeros; simp
  have HPUT := Lib.hid (fun w ht => entryPut_at 1 0 1 ⟨#[97]⟩ ⟨#[]⟩ (bs (zeros 32)) 0 2 P 0 w ht (by decide) hz (by rw [awakeR_rc]; exact hP) (by rw [awakeR_rc, awakeR_is]; rfl))
  have HTK := Lib.hid (fun w ht => takeR_at (bs P) awakeR true 0 w ht (by rw [bs_size]; omega) (by rw [bs_list]; exact t1) (by rw [bs_list]; exact t2) rfl)
  simp only [awakeR, bs97, bsNil] at HTK
  have hszi : ((bs P).size : Int) = 128 := by rw [bs_size]; omega
  clear hP t1 t2 t3 hz
  generalize bs (zeros 32) = Z at HPUT HTK HNO
  go_enter Tryd.func41, Tryd.ntmps41
  go_wp2_with fail
  refine (HNO.out _).mono ?_
  rintro e w1 ⟨rfl, hB1⟩
  have q1 := hB1.alloc hB1.size (.cells #[.int .i64 1, .int .i64 0, .int .i64 1, .string ⟨#[97]⟩, .string ⟨#[]⟩, .string Z, .int .i64 0, .int .i64 2] 66)
  have D1 := RecAt.new w1 1 0 1 ⟨#[97]⟩ ⟨#[]⟩ Z 0 2 66
  go_wp2_with fail
  generalize w1.heap.size = p at D1 ⊢
  generalize w1.alloc (.cells #[.int .i64 1, .int .i64 0, .int .i64 1, .string ⟨#[97]⟩, .string ⟨#[]⟩, .string Z, .int .i64 0, .int .i64 2] 66) = w2 at D1 q1 ⊢
  refine (HPUT.out _ (ht.after q1)).mono ?_
  rintro e w3 ⟨rfl, hB3⟩
  have q3 := q1.then' hB3 (Nat.le_refl _)
  have D3 := D1.after hB3
  clear q1 D1 hB1 hB3
  go_wp2_with fail
  refine (HTK.out _ (ht.after q3)).mono ?_
  rintro e w4 ⟨rfl, hB4⟩
  have q4 := (q3.then' hB4 (Nat.le_refl _)).alloc (Nat.le_trans q3.size hB4.size) (.cells #[.int .i64 1, .int .i64 0, .int .i64 1, .string ⟨#[97]⟩, .string ⟨#[]⟩, .string Z, .int .i64 0, .int .i64 2] 66)
  have D4 := (D3.after hB4).alloc (.cells #[.int .i64 1, .int .i64 0, .int .i64 1, .string ⟨#[97]⟩, .string ⟨#[]⟩, .string Z, .int .i64 0, .int .i64 2] 66)
  have hlt := (D3.after hB4).lt
  clear q3 D3 hB4
  obtain ⟨c0, c1, c2, c3, c4, c5, c6, c7, c8⟩ := id D4
  go_wp2_with fail
  go_ret
  exact ⟨rfl, q4⟩
set_option maxHeartbeats 6400000 in
theorem entryPuts_walk (e q k : Int) (N O M : ByteArray) (t u : Int) (w : World) (ht : Tab w) :
    Calls Tryd.prog 9 #[.agg #[.int .i64 e, .int .i64 q, .int .i64 k, .string N, .string O, .string M, .int .i64 t, .int .i64 u]] w fun x w' => x = .returned (.bool true) ∧ Below w.heap.size w w' := by
  have D0 := RecAt.new w e q k N O M t u 66
  have q0 := (Below.refl w.heap.size w).alloc (Nat.le_refl _) (.cells #[.int .i64 e, .int .i64 q, .int .i64 k, .string N, .string O, .string M, .int .i64 t, .int .i64 u] 66)
  by_cases hf : fewB N O M = true
  · have hs : N.size ≤ 200 ∧ O.size ≤ 200 ∧ M.size ≤ 200 := by
      unfold fewB at hf
      simp only [Bool.and_eq_true, decide_eq_true_eq] at hf
      exact ⟨hf.1.1, hf.1.2, hf.2⟩
    have HF := Lib.hid (fun w => few_any e q k N O M t u w true hf)
    obtain ⟨P, hP⟩ : ∃ P, putRV (rc e q k N O M t u) = P := ⟨_, rfl⟩
    obtain ⟨r, hr⟩ : ∃ r, isR (rc e q k N O M t u) = r := ⟨_, rfl⟩
    have HPUT := Lib.hid (fun w ht (n : Int) (hn : arg r = n) => entryPut_at e q k N O M t u P n w ht (by omega) (by omega) hP (by rw [hr]; exact hn))
    have HIS := Lib.hid (fun w => refRec_at e q k N O M t u r w (by omega) hr)
    have HRP := Lib.hid (fun w => refRecPut_at e q k N O M t u P w (by omega) hP)
    have HCK := Lib.hid (fun w => entryCheck_at e q k N O M t u r w (by omega) (by omega) hr)
    have hpp : ((bs P).toList == (bs P).toList) = true := by simp
    clear hf hs hP hr
    cases r
    · simp only [arg, Bool.false_eq_true, if_false] at HCK
      go_enter Tryd.func9, Tryd.ntmps9
      go_wp2_with fail
      refine (HF.out _).mono ?_
      rintro z w1 ⟨rfl, hB1⟩
      have q1 := q0.then' hB1 (by simp)
      have D1 := D0.after hB1
      clear q0 D0 hB1 
      obtain ⟨c0, c1, c2, c3, c4, c5, c6, c7, c8⟩ := id D1
      go_wp2_with fail
      refine (HPUT.out _ (ht.after q1) 2 rfl).mono ?_
      rintro z w2 ⟨rfl, hB2⟩
      have q2 := q1.then' hB2 (Nat.le_refl _)
      have D2 := D1.after hB2
      clear q1 D1 hB2 c0 c1 c2 c3 c4 c5 c6 c7 c8
      obtain ⟨c0, c1, c2, c3, c4, c5, c6, c7, c8⟩ := id D2
      go_wp2_with fail
      refine (HIS.out _).mono ?_
      rintro z w3 ⟨rfl, hB3⟩
      have q3 := q2.then' hB3 (Nat.le_refl _)
      have D3 := D2.after hB3
      clear q2 D2 hB3 c0 c1 c2 c3 c4 c5 c6 c7 c8
      obtain ⟨c0, c1, c2, c3, c4, c5, c6, c7, c8⟩ := id D3
      go_wp2_with fail
      refine (HRP.out _).mono ?_
      rintro z w4 ⟨rfl, hB4⟩
      have q4 := q3.then' hB4 (Nat.le_refl _)
      have D4 := D3.after hB4
      clear q3 D3 hB4 c0 c1 c2 c3 c4 c5 c6 c7 c8
      obtain ⟨c0, c1, c2, c3, c4, c5, c6, c7, c8⟩ := id D4
      go_wp2_with fail
      refine (HCK.out _).mono ?_
      rintro z w5 ⟨rfl, hB5⟩
      have q5 := q4.then' hB5 (Nat.le_refl _)
      have D5 := D4.after hB5
      clear q4 D4 hB5 c0 c1 c2 c3 c4 c5 c6 c7 c8
      obtain ⟨c0, c1, c2, c3, c4, c5, c6, c7, c8⟩ := id D5
      go_wp2_with fail
      refine (awake10_any _ (ht.after q5)).mono ?_
      rintro z w6 ⟨rfl, hB6⟩
      have q6 := q5.then' hB6 (Nat.le_refl _)
      have D6 := D5.after hB6
      clear q5 D5 hB6 c0 c1 c2 c3 c4 c5 c6 c7 c8
      obtain ⟨c0, c1, c2, c3, c4, c5, c6, c7, c8⟩ := id D6
      go_wp2_with fail
      go_ret
      exact ⟨rfl, q6⟩
    · simp only [arg, if_true] at HCK
      go_enter Tryd.func9, Tryd.ntmps9
      go_wp2_with fail
      refine (HF.out _).mono ?_
      rintro z w1 ⟨rfl, hB1⟩
      have q1 := q0.then' hB1 (by simp)
      have D1 := D0.after hB1
      clear q0 D0 hB1 
      obtain ⟨c0, c1, c2, c3, c4, c5, c6, c7, c8⟩ := id D1
      go_wp2_with fail
      refine (HPUT.out _ (ht.after q1) 0 rfl).mono ?_
      rintro z w2 ⟨rfl, hB2⟩
      have q2 := q1.then' hB2 (Nat.le_refl _)
      have D2 := D1.after hB2
      clear q1 D1 hB2 c0 c1 c2 c3 c4 c5 c6 c7 c8
      obtain ⟨c0, c1, c2, c3, c4, c5, c6, c7, c8⟩ := id D2
      go_wp2_with fail
      refine (HIS.out _).mono ?_
      rintro z w3 ⟨rfl, hB3⟩
      have q3 := q2.then' hB3 (Nat.le_refl _)
      have D3 := D2.after hB3
      clear q2 D2 hB3 c0 c1 c2 c3 c4 c5 c6 c7 c8
      obtain ⟨c0, c1, c2, c3, c4, c5, c6, c7, c8⟩ := id D3
      go_wp2_with fail
      refine (HRP.out _).mono ?_
      rintro z w4 ⟨rfl, hB4⟩
      have q4 := q3.then' hB4 (Nat.le_refl _)
      have D4 := D3.after hB4
      clear q3 D3 hB4 c0 c1 c2 c3 c4 c5 c6 c7 c8
      obtain ⟨c0, c1, c2, c3, c4, c5, c6, c7, c8⟩ := id D4
      go_wp2_with fail
      refine (HCK.out _).mono ?_
      rintro z w5 ⟨rfl, hB5⟩
      have q5 := q4.then' hB5 (Nat.le_refl _)
      have D5 := D4.after hB5
      clear q4 D4 hB5 c0 c1 c2 c3 c4 c5 c6 c7 c8
      obtain ⟨c0, c1, c2, c3, c4, c5, c6, c7, c8⟩ := id D5
      go_wp2_with fail
      refine (awake10_any _ (ht.after q5)).mono ?_
      rintro z w6 ⟨rfl, hB6⟩
      have q6 := q5.then' hB6 (Nat.le_refl _)
      have D6 := D5.after hB6
      clear q5 D5 hB6 c0 c1 c2 c3 c4 c5 c6 c7 c8
      obtain ⟨c0, c1, c2, c3, c4, c5, c6, c7, c8⟩ := id D6
      go_wp2_with fail
      go_ret
      exact ⟨rfl, q6⟩
  · have hf' : fewB N O M = false := by simpa using hf
    have HF := Lib.hid (fun w => few_any e q k N O M t u w false hf')
    clear hf hf'
    go_enter Tryd.func9, Tryd.ntmps9
    go_wp2_with fail
    refine (HF.out _).mono ?_
    rintro z w1 ⟨rfl, hB1⟩
    have q1 := q0.then' hB1 (by simp)
    go_wp2_with fail
    refine (awake10_any _ (ht.after q1)).mono ?_
    rintro z w2 ⟨rfl, hB2⟩
    have q2 := q1.then' hB2 (Nat.le_refl _)
    go_wp2_with fail
    go_ret
    exact ⟨rfl, q2⟩
end Go.Proofs.YtalnmhlfjdocfaaDoor.WalkSeat
