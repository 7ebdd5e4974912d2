/-
  The walk of EntryBack: a record comes back from its sector; what is taken, put, is that sector; noughts are none.
-/
import Derived.Test.YtalnmhlfjdocfaaDoorLawEntryTakes
namespace Go.Proofs.YtalnmhlfjdocfaaDoor.WalkSeat
open Go.RowKit Go.Proofs.YtalnmhlfjdocfaaDoor.WalkVar Go.Proofs.YtalnmhlfjdocfaaDoor.WalkScan Go.Proofs.YtalnmhlfjdocfaaDoor.WalkCrc
open Pl.Seat (numV numR txtV txtR numP txtP Head isH putH openS isName nameByte isHash Rec isR putR)
set_option linter.unusedVariables false
set_option linter.unusedSimpArgs false
set_option maxRecDepth 100000

theorem takeR_zeros : takeRV (zeros 128) = Pl.Seat.Rec.zero ∧ takeRB (zeros 128) = false := by
  rcases takeRV_is (zeros 128) with ⟨h1, h2, h3⟩ | ⟨h1, h2⟩
  · exfalso
    obtain ⟨x, hx⟩ : ∃ x, takeRV (zeros 128) = x := ⟨_, rfl⟩
    rw [hx] at h2 h3
    have h3' : putR tailU x = zeros 128 := by unfold putRV at h3; rw [if_pos h2] at h3; exact h3
    have h5 : (putR tailU x).head? = some 0 := by rw [h3']; rfl
    have hl := Pl.Seat.textR_len x h2
    have hu := tailU_len (Pl.Seat.textR x)
    have h4 : (putR tailU x).head? = (Pl.Seat.put (Pl.Seat.textR x ++ tailU (Pl.Seat.textR x)).length).head? := by
      show (Pl.Seat.full (Pl.Seat.putT _)).head? = _
      unfold Pl.Seat.full Pl.Seat.putT
      rw [List.append_assoc, List.head?_append]
      have := Pl.Seat.put_pos (Pl.Seat.textR x ++ tailU (Pl.Seat.textR x)).length
      cases hq : Pl.Seat.put (Pl.Seat.textR x ++ tailU (Pl.Seat.textR x)).length with
      | nil => rw [hq] at this; simp at this
      | cons c l => rfl
    have h6 : 0 < (Pl.Seat.textR x ++ tailU (Pl.Seat.textR x)).length := by simp; omega
    have h7 : (Pl.Seat.textR x ++ tailU (Pl.Seat.textR x)).length < 128 := by simp; omega
    generalize (Pl.Seat.textR x ++ tailU (Pl.Seat.textR x)).length = m at h4 h6 h7
    unfold Pl.Seat.put Pl.Seat.putF at h4
    rw [if_pos h7, h5] at h4
    simp only [List.head?_cons, Option.some.injEq] at h4
    have := congrArg UInt8.toNat h4
    simp at this
    omega
  · exact ⟨h2, h1⟩
set_option maxHeartbeats 6400000 in
theorem entryBack_walk (e q k : Int) (N O M : ByteArray) (t u : Int) (s : ByteArray) (w : World) (ht : Tab w) :
    Calls Tryd.prog 10 #[.agg #[.int .i64 e, .int .i64 q, .int .i64 k, .string N, .string O, .string M, .int .i64 t, .int .i64 u], .string s] w fun x w' => x = .returned (.bool true) ∧ Below w.heap.size w w' := by
  have D0 := RecAt.new w e q k N O M t u 66
  have q0 := (Below.refl w.heap.size w).alloc (Nat.le_refl _) (.cells #[.int .i64 e, .int .i64 q, .int .i64 k, .string N, .string O, .string M, .int .i64 t, .int .i64 u] 66)
  obtain ⟨z1, z2⟩ := takeR_zeros
  have HNO := Lib.hid (fun w => noughts_any 128 w (by omega))
  have HTZ := Lib.hid (fun w ht => takeR0_at (bs (zeros 128)) w ht (by rw [bs_size]; unfold zeros; simp) (by rw [bs_list]; exact z1) (by rw [bs_list]; exact z2))
  clear z1 z2
  generalize bs (zeros 128) = ZS at HNO HTZ
  by_cases hf : fewB N O M = true
  · have hsz : N.size ≤ 200 ∧ O.size ≤ 200 ∧ M.size ≤ 200 := by
      unfold fewB at hf
      simp only [Bool.and_eq_true, decide_eq_true_eq] at hf
      exact ⟨hf.1.1, hf.1.2, hf.2⟩
    have HF := Lib.hid (fun w => few_any e q k N O M t u w true hf)
    by_cases h1 : s.size ≤ 1000
    · have h1i : (s.size : Int) ≤ 1000 := by omega
      have hs : s.size ≤ 1048576 := by omega
      have hss : (s.toList == s.toList) = true := by simp
      have hcase : (takeRV s.data.toList = Pl.Seat.Rec.zero ∧ takeRB s.data.toList = false) ∨ ∃ X, takeRV s.data.toList = X ∧ takeRB s.data.toList = true ∧ Hid (∀ w, Tab w → Calls Tryd.prog 42 #[.agg #[.int .i64 X.epoch, .int .i64 X.seq, .int .i64 X.kind, .string (bs X.name), .string (bs X.old), .string (bs X.new), .int .i64 X.tail, .int .i64 X.num]] w fun x w' => x = .returned (.tuple #[.string s, .int .i64 0]) ∧ Below w.heap.size w w') := by
        rcases takeRV_is s.data.toList with ⟨g1, g2, g3⟩ | ⟨g1, g2⟩
        · refine .inr ⟨_, rfl, g1, Lib.hid (fun w ht => ?_)⟩
          have hrc : rc (takeRV s.data.toList).epoch (takeRV s.data.toList).seq (takeRV s.data.toList).kind (bs (takeRV s.data.toList).name) (bs (takeRV s.data.toList).old) (bs (takeRV s.data.toList).new) (takeRV s.data.toList).tail (takeRV s.data.toList).num = takeRV s.data.toList := by unfold rc; rw [bs_list, bs_list, bs_list]
          have hp := (Pl.Seat.isR_iff _).1 g2
          have l1 : (takeRV s.data.toList).old.length ≤ 1048576 := by have := hp.2.2.2.2.2.2.2.1; unfold isHash at this; simp at this; rcases this with h | h <;> simp [h]
          have l2 : (takeRV s.data.toList).new.length ≤ 1048576 := by have := hp.2.2.2.2.2.2.2.2.1; unfold isHash at this; simp at this; rcases this with h | h <;> simp [h]
          have := entryPut_at _ _ _ (bs (takeRV s.data.toList).name) (bs (takeRV s.data.toList).old) (bs (takeRV s.data.toList).new) _ _ s.data.toList 0 w ht (by rw [bs_size]; exact l1) (by rw [bs_size]; exact l2) (by rw [hrc]; exact g3) (by rw [hrc, g2]; rfl)
          rw [bs_of] at this
          exact this
        · exact .inl ⟨g2, g1⟩
      by_cases hr : isR (rc e q k N O M t u) = true
      · obtain ⟨P, hP⟩ : ∃ P, putRV (rc e q k N O M t u) = P := ⟨_, rfl⟩
        obtain ⟨t1, t2, t3⟩ := takeRV_put (rc e q k N O M t u) hr
        rw [hP] at t1 t2 t3
        have HPUT := Lib.hid (fun w ht => entryPut_at e q k N O M t u P 0 w ht (by omega) (by omega) hP (by rw [hr]; rfl))
        have HTP : Hid (∀ w, Tab w → Calls Tryd.prog 46 #[.string (bs P)] w fun z w' => z = .returned (.tuple #[.agg #[.int .i64 e, .int .i64 q, .int .i64 k, .string N, .string O, .string M, .int .i64 t, .int .i64 u], .int .i64 0]) ∧ Below w.heap.size w w') := Lib.hid (fun w ht => by
          have := takeR_at (bs P) (rc e q k N O M t u) true 0 w ht (by rw [bs_size]; omega) (by rw [bs_list]; exact t1) (by rw [bs_list]; exact t2) rfl
          simp only [rc, bs_of] at this
          exact this)
        have hszi : ((bs P).size : Int) = 128 := by rw [bs_size]; omega
        clear hP t1 t2 t3 hr hf hsz h1
        go_enter Tryd.func10, Tryd.ntmps10
        go_wp2_with fail
        refine (HF.out _).mono ?_
        rintro z w1 ⟨rfl, hB1⟩
        have q1 := q0.then' hB1 (by simp)
        have D1 := D0.after hB1
        clear q0 D0 hB1
        obtain ⟨c0, c1, c2, c3, c4, c5, c6, c7, c8⟩ := id D1
        go_wp2_with fail
        refine (HPUT.out _ (ht.after q1)).mono ?_
        rintro z w2 ⟨rfl, hB2⟩
        have q2 := q1.then' hB2 (Nat.le_refl _)
        have D2 := D1.after hB2
        clear q1 D1 hB2 c0 c1 c2 c3 c4 c5 c6 c7 c8
        go_wp2_with fail
        refine (HTP.out _ (ht.after q2)).mono ?_
        rintro z w3 ⟨rfl, hB3⟩
        have q3 := (q2.then' hB3 (Nat.le_refl _)).alloc (Nat.le_trans q2.size hB3.size) (.cells #[.int .i64 e, .int .i64 q, .int .i64 k, .string N, .string O, .string M, .int .i64 t, .int .i64 u] 66)
        have D3 := (D2.after hB3).alloc (.cells #[.int .i64 e, .int .i64 q, .int .i64 k, .string N, .string O, .string M, .int .i64 t, .int .i64 u] 66)
        have E3 := RecAt.new w3 e q k N O M t u 66
        have hne : w.heap.size ≠ w3.heap.size := Nat.ne_of_lt (D2.after hB3).lt
        have hne' := Ne.symm hne
        clear q2 D2 hB3
        go_upto_region 6 with fail
        generalize w3.heap.size = p3 at E3 hne hne' ⊢
        generalize w3.alloc (.cells #[.int .i64 e, .int .i64 q, .int .i64 k, .string N, .string O, .string M, .int .i64 t, .int .i64 u] 66) = v3 at E3 D3 q3 ⊢
        obtain ⟨c0, c1, c2, c3, c4, c5, c6, c7, c8⟩ := id D3
        obtain ⟨b0, b1, b2, b3, b4, b5, b6, b7, b8⟩ := id E3
        go_wp2_with fail
        rcases hcase with ⟨hX0, hB0⟩ | ⟨X, hX0, hB0, hP0⟩
        · refine (takeR0_at s _ (ht.after q3) hs hX0 hB0).mono ?_
          rintro z w10 ⟨rfl, hB10⟩
          have q10 := (q3.then' hB10 (Nat.le_refl _)).alloc (Nat.le_trans q3.size hB10.size) (.cells #[.int .i64 0, .int .i64 0, .int .i64 0, .string ⟨#[]⟩, .string ⟨#[]⟩, .string ⟨#[]⟩, .int .i64 0, .int .i64 0] 66)
          go_wp2_with fail
          refine (HNO.out _).mono ?_
          rintro z w20 ⟨rfl, hB20⟩
          have q20 := q10.then' hB20 (Nat.le_refl _)
          go_wp2_with fail
          refine (HTZ.out _ (ht.after q20)).mono ?_
          rintro z w21 ⟨rfl, hB21⟩
          have q21 := (q20.then' hB21 (Nat.le_refl _)).alloc (Nat.le_trans q20.size hB21.size) (.cells #[.int .i64 0, .int .i64 0, .int .i64 0, .string ⟨#[]⟩, .string ⟨#[]⟩, .string ⟨#[]⟩, .int .i64 0, .int .i64 0] 66)
          go_wp2_with fail
          refine (awake10_any _ (ht.after q21)).mono ?_
          rintro z w22 ⟨rfl, hB22⟩
          have q22 := q21.then' hB22 (Nat.le_refl _)
          go_wp2_with fail
          go_ret
          exact ⟨rfl, q22⟩
        · refine (takeR_at s X true 0 _ (ht.after q3) hs hX0 hB0 rfl).mono ?_
          rintro z w10 ⟨rfl, hB10⟩
          have q10 := (q3.then' hB10 (Nat.le_refl _)).alloc (Nat.le_trans q3.size hB10.size) (.cells #[.int .i64 X.epoch, .int .i64 X.seq, .int .i64 X.kind, .string (bs X.name), .string (bs X.old), .string (bs X.new), .int .i64 X.tail, .int .i64 X.num] 66)
          have E10 := RecAt.new w10 X.epoch X.seq X.kind (bs X.name) (bs X.old) (bs X.new) X.tail X.num 66
          obtain ⟨c0, c1, c2, c3, c4, c5, c6, c7, c8⟩ := id E10
          go_upto_region 9 with fail
          generalize w10.heap.size = p at E10 c0 c1 c2 c3 c4 c5 c6 c7 c8 ⊢
          generalize w10.alloc (.cells #[.int .i64 X.epoch, .int .i64 X.seq, .int .i64 X.kind, .string (bs X.name), .string (bs X.old), .string (bs X.new), .int .i64 X.tail, .int .i64 X.num] 66) = v10 at E10 c0 c1 c2 c3 c4 c5 c6 c7 c8 q10 ⊢
          go_wp2_with fail
          refine (hP0.out _ (ht.after q10)).mono ?_
          rintro z w11 ⟨rfl, hB11⟩
          have q11 := q10.then' hB11 (Nat.le_refl _)
          go_wp2_with fail
          refine (HNO.out _).mono ?_
          rintro z w20 ⟨rfl, hB20⟩
          have q20 := q11.then' hB20 (Nat.le_refl _)
          go_wp2_with fail
          refine (HTZ.out _ (ht.after q20)).mono ?_
          rintro z w21 ⟨rfl, hB21⟩
          have q21 := (q20.then' hB21 (Nat.le_refl _)).alloc (Nat.le_trans q20.size hB21.size) (.cells #[.int .i64 0, .int .i64 0, .int .i64 0, .string ⟨#[]⟩, .string ⟨#[]⟩, .string ⟨#[]⟩, .int .i64 0, .int .i64 0] 66)
          go_wp2_with fail
          refine (awake10_any _ (ht.after q21)).mono ?_
          rintro z w22 ⟨rfl, hB22⟩
          have q22 := q21.then' hB22 (Nat.le_refl _)
          go_wp2_with fail
          go_ret
          exact ⟨rfl, q22⟩
      · have hr' : isR (rc e q k N O M t u) = false := by simpa using hr
        have HPUT := Lib.hid (fun w => entryPut_bad e q k N O M t u w (by omega) (by omega) hr')
        clear hr hr' hf hsz h1
        go_enter Tryd.func10, Tryd.ntmps10
        go_wp2_with fail
        refine (HF.out _).mono ?_
        rintro z w1 ⟨rfl, hB1⟩
        have q1 := q0.then' hB1 (by simp)
        have D1 := D0.after hB1
        clear q0 D0 hB1
        obtain ⟨c0, c1, c2, c3, c4, c5, c6, c7, c8⟩ := id D1
        go_wp2_with fail
        refine (HPUT.out _).mono ?_
        rintro z w2 ⟨rfl, hB2⟩
        have q2 := q1.then' hB2 (Nat.le_refl _)
        clear q1 D1 hB2 c0 c1 c2 c3 c4 c5 c6 c7 c8
        go_wp2_with fail
        rcases hcase with ⟨hX0, hB0⟩ | ⟨X, hX0, hB0, hP0⟩
        · refine (takeR0_at s _ (ht.after q2) hs hX0 hB0).mono ?_
          rintro z w10 ⟨rfl, hB10⟩
          have q10 := (q2.then' hB10 (Nat.le_refl _)).alloc (Nat.le_trans q2.size hB10.size) (.cells #[.int .i64 0, .int .i64 0, .int .i64 0, .string ⟨#[]⟩, .string ⟨#[]⟩, .string ⟨#[]⟩, .int .i64 0, .int .i64 0] 66)
          go_wp2_with fail
          refine (HNO.out _).mono ?_
          rintro z w20 ⟨rfl, hB20⟩
          have q20 := q10.then' hB20 (Nat.le_refl _)
          go_wp2_with fail
          refine (HTZ.out _ (ht.after q20)).mono ?_
          rintro z w21 ⟨rfl, hB21⟩
          have q21 := (q20.then' hB21 (Nat.le_refl _)).alloc (Nat.le_trans q20.size hB21.size) (.cells #[.int .i64 0, .int .i64 0, .int .i64 0, .string ⟨#[]⟩, .string ⟨#[]⟩, .string ⟨#[]⟩, .int .i64 0, .int .i64 0] 66)
          go_wp2_with fail
          refine (awake10_any _ (ht.after q21)).mono ?_
          rintro z w22 ⟨rfl, hB22⟩
          have q22 := q21.then' hB22 (Nat.le_refl _)
          go_wp2_with fail
          go_ret
          exact ⟨rfl, q22⟩
        · refine (takeR_at s X true 0 _ (ht.after q2) hs hX0 hB0 rfl).mono ?_
          rintro z w10 ⟨rfl, hB10⟩
          have q10 := (q2.then' hB10 (Nat.le_refl _)).alloc (Nat.le_trans q2.size hB10.size) (.cells #[.int .i64 X.epoch, .int .i64 X.seq, .int .i64 X.kind, .string (bs X.name), .string (bs X.old), .string (bs X.new), .int .i64 X.tail, .int .i64 X.num] 66)
          have E10 := RecAt.new w10 X.epoch X.seq X.kind (bs X.name) (bs X.old) (bs X.new) X.tail X.num 66
          obtain ⟨c0, c1, c2, c3, c4, c5, c6, c7, c8⟩ := id E10
          go_upto_region 9 with fail
          generalize w10.heap.size = p at E10 c0 c1 c2 c3 c4 c5 c6 c7 c8 ⊢
          generalize w10.alloc (.cells #[.int .i64 X.epoch, .int .i64 X.seq, .int .i64 X.kind, .string (bs X.name), .string (bs X.old), .string (bs X.new), .int .i64 X.tail, .int .i64 X.num] 66) = v10 at E10 c0 c1 c2 c3 c4 c5 c6 c7 c8 q10 ⊢
          go_wp2_with fail
          refine (hP0.out _ (ht.after q10)).mono ?_
          rintro z w11 ⟨rfl, hB11⟩
          have q11 := q10.then' hB11 (Nat.le_refl _)
          go_wp2_with fail
          refine (HNO.out _).mono ?_
          rintro z w20 ⟨rfl, hB20⟩
          have q20 := q11.then' hB20 (Nat.le_refl _)
          go_wp2_with fail
          refine (HTZ.out _ (ht.after q20)).mono ?_
          rintro z w21 ⟨rfl, hB21⟩
          have q21 := (q20.then' hB21 (Nat.le_refl _)).alloc (Nat.le_trans q20.size hB21.size) (.cells #[.int .i64 0, .int .i64 0, .int .i64 0, .string ⟨#[]⟩, .string ⟨#[]⟩, .string ⟨#[]⟩, .int .i64 0, .int .i64 0] 66)
          go_wp2_with fail
          refine (awake10_any _ (ht.after q21)).mono ?_
          rintro z w22 ⟨rfl, hB22⟩
          have q22 := q21.then' hB22 (Nat.le_refl _)
          go_wp2_with fail
          go_ret
          exact ⟨rfl, q22⟩
    · have h1i : (1000 : Int) < (s.size : Int) := by omega
      go_enter Tryd.func10, Tryd.ntmps10
      go_wp2_with fail
      refine (HF.out _).mono ?_
      rintro z w1 ⟨rfl, hB1⟩
      have q1 := q0.then' hB1 (by simp)
      go_wp2_with fail
      refine (awake10_any _ (ht.after q1)).mono ?_
      rintro z w2 ⟨rfl, hB2⟩
      have q2 := q1.then' hB2 (Nat.le_refl _)
      go_wp2_with fail
      go_ret
      exact ⟨rfl, q2⟩
  · have hf' : fewB N O M = false := by simpa using hf
    have HF := Lib.hid (fun w => few_any e q k N O M t u w false hf')
    clear hf hf'
    go_enter Tryd.func10, Tryd.ntmps10
    go_wp2_with fail
    refine (HF.out _).mono ?_
    rintro z w1 ⟨rfl, hB1⟩
    have q1 := q0.then' hB1 (by simp)
    go_wp2_with fail
    refine (awake10_any _ (ht.after q1)).mono ?_
    rintro z w2 ⟨rfl, hB2⟩
    have q2 := q1.then' hB2 (Nat.le_refl _)
    go_wp2_with fail
    go_ret
    exact ⟨rfl, q2⟩
end Go.Proofs.YtalnmhlfjdocfaaDoor.WalkSeat
