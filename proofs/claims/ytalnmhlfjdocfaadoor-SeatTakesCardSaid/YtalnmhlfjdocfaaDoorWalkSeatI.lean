/-
  The walk of the document's Take of the seat.
-/
import Derived.Test.YtalnmhlfjdocfaaDoorWalkSeatG
import Derived.Deep.CutRange
namespace Go.Proofs.YtalnmhlfjdocfaaDoor.WalkSeat
open Go.RowKit Go.Proofs.YtalnmhlfjdocfaaDoor.WalkVar Go.Proofs.YtalnmhlfjdocfaaDoor.WalkScan Go.Proofs.YtalnmhlfjdocfaaDoor.WalkCrc
open Pl.Seat (numV numR txtV txtR numP txtP Head isH putH openS)
set_option linter.unusedVariables false
set_option linter.unusedSimpArgs false
set_option maxRecDepth 100000

set_option maxHeartbeats 6400000 in
theorem refTake_read (s : ByteArray) (t : List UInt8) (w : World) (hs : s.size ≤ 1048576) (h : Pl.Seat.bare s.data.toList = some t) (ht6 : 6 ≤ t.length) (htl : t.length ≤ 1048576)
    (H : Head) (st : Option (List UInt8)) (hH : Pl.Seat.h4 4294967296 4294967296 4294967296 4294967296 (some (t.drop 6)) = (H, st)) :
    Calls Tryd.prog 26 #[.string s] w fun e w' => e = .returned (if st ≠ none ∧ isH H = true ∧ putV H = s.data.toList then .tuple #[.agg #[.int .i64 H.epoch, .int .i64 H.half, .int .i64 H.pack, .int .i64 H.num], .bool true] else .tuple #[.agg #[.int .i64 0, .int .i64 0, .int .i64 0, .int .i64 0], .bool false]) ∧ Below w.heap.size w w' := by
  have HB := Lib.hid (fun w => refBare_at s (some t) w hs h)
  simp only [Option.getD, Option.isSome] at HB
  have hxe : (bs t).extract 6 (bs t).size = bs (t.drop 6) := by
    rw [← bs_of ((bs t).extract 6 (bs t).size), extract_list, bs_list, List.take_of_length_le (by simp [bs_size])]
  have hxs : (6 : Int) ≤ ((bs t).size : Int) := by rw [bs_size]; omega
  have hS0 : Hid (RSc (bs (t.drop 6)) (.agg #[.string (bs (t.drop 6)), .int .i64 0, .int .i64 0]) (some (t.drop 6))) := ⟨0, 0, rfl, by rw [bs_size]; simp; omega, by omega, by omega, by simp [bs_list]⟩
  unfold Pl.Seat.h4 at hH
  obtain ⟨s0, hs0⟩ : ∃ s0, some (t.drop 6) = s0 := ⟨_, rfl⟩
  rw [hs0] at hH hS0
  generalize bs (t.drop 6) = S at hxe hS0
  obtain ⟨n1, hn1⟩ : ∃ n, numV 4294967296 s0 = n := ⟨_, rfl⟩
  obtain ⟨s1, hs1⟩ : ∃ n, numR 4294967296 s0 = n := ⟨_, rfl⟩
  have HN1 := Lib.hid (fun v w h => refNum_any S v s0 4294967296 w h (by omega))
  rw [hn1, hs1] at hH HN1
  obtain ⟨n2, hn2⟩ : ∃ n, numV 4294967296 s1 = n := ⟨_, rfl⟩
  obtain ⟨s2, hs2⟩ : ∃ n, numR 4294967296 s1 = n := ⟨_, rfl⟩
  have HN2 := Lib.hid (fun v w h => refNum_any S v s1 4294967296 w h (by omega))
  rw [hn2, hs2] at hH HN2
  obtain ⟨n3, hn3⟩ : ∃ n, numV 4294967296 s2 = n := ⟨_, rfl⟩
  obtain ⟨s3, hs3⟩ : ∃ n, numR 4294967296 s2 = n := ⟨_, rfl⟩
  have HN3 := Lib.hid (fun v w h => refNum_any S v s2 4294967296 w h (by omega))
  rw [hn3, hs3] at hH HN3
  obtain ⟨n4, hn4⟩ : ∃ n, numV 4294967296 s3 = n := ⟨_, rfl⟩
  have HN4 := Lib.hid (fun v w h => refNum_any S v s3 4294967296 w h (by omega))
  rw [hn4] at hH HN4
  obtain ⟨s4, hs4⟩ : ∃ n, numR 4294967296 s3 = n := ⟨_, rfl⟩
  rw [hs4] at hH HN4
  simp only [Prod.mk.injEq] at hH
  obtain ⟨rfl, rfl⟩ := hH
  simp only
  obtain ⟨r, hr⟩ : ∃ r, isH ⟨n1, n2, n3, n4⟩ = r := ⟨_, rfl⟩
  obtain ⟨P, hP⟩ : ∃ P, putV ⟨n1, n2, n3, n4⟩ = P := ⟨_, rfl⟩
  have HIS := Lib.hid (fun w => refIs_at n1 n2 n3 n4 r w hr)
  have HPT := Lib.hid (fun w => refPut_at n1 n2 n3 n4 P w hP)
  rw [hr, hP]
  clear h hn1 hn2 hn3 hn4 hs0 hs1 hs2 hs3 hs4 ht6 hr hP
  obtain ⟨RES, hres⟩ : ∃ v, (if s4 ≠ none ∧ r = true ∧ P = s.data.toList then (Value.tuple #[.agg #[.int .i64 n1, .int .i64 n2, .int .i64 n3, .int .i64 n4], .bool true]) else .tuple #[.agg #[.int .i64 0, .int .i64 0, .int .i64 0, .int .i64 0], .bool false]) = v := ⟨_, rfl⟩
  rw [hres]
  have HRES := Lib.hid hres
  clear hres
  go_enter Tryd.func26, Tryd.ntmps26
  go_wp2_with fail
  refine (HB.out _).mono ?_
  rintro e w1 ⟨rfl, hB1⟩
  have q0 := (Below.refl w.heap.size w).alloc (Nat.le_refl _) (.cells #[.int .i64 0, .int .i64 0, .int .i64 0, .int .i64 0] 41)
  have q1 := q0.then' hB1 (by simp)
  have C1 := (Cell4.new w (.int .i64 0) (.int .i64 0) (.int .i64 0) (.int .i64 0) 41).after hB1
  clear q0 hB1
  go_wp2_with fail
  refine (HN1.out _ _ hS0.out).mono ?_
  rintro e w2 ⟨v2, rfl, ⟨a2, e2, rfl, g2⟩, hB2⟩
  have q2 := q1.then' hB2 (Nat.le_refl _)
  have C2 := (C1.after hB2).alloc (.cells #[.string S, .int .i64 a2, .int .i64 e2] 115)
  have D2 := Sc3.new w2 S a2 e2 115
  have q2' := q2.alloc q2.size (.cells #[.string S, .int .i64 a2, .int .i64 e2] 115)
  have hne : w.heap.size ≠ w2.heap.size := Nat.ne_of_lt (C1.after hB2).lt
  have hle : w.heap.size ≤ w2.heap.size := q2.size
  clear q1 C1 hB2 q2
  obtain ⟨d0, d1, d2, d3⟩ := id D2
  go_wp2_with fail
  generalize w2.heap.size = g at D2 d0 d1 d2 d3 hne hle ⊢
  generalize w2.alloc (.cells #[.string S, .int .i64 a2, .int .i64 e2] 115) = w3 at D2 C2 q2' d0 d1 d2 d3 ⊢
  refine (HN2.out _ _ ⟨a2, e2, rfl, g2⟩).mono ?_
  rintro e w4 ⟨v4, rfl, ⟨a4, e4, rfl, g4⟩, hB4⟩
  clear g2 d0 d1 d2 d3
  have q4 := q2'.then' hB4 (Nat.le_refl _)
  have C4 := C2.after hB4
  have D4 := D2.after hB4
  clear q2' C2 D2 hB4
  obtain ⟨d0, d1, d2, d3⟩ := id D4
  obtain ⟨k0, k1, k2⟩ := stored3 (three d0 d1 d2)
  have D5 := put3_sc D4 S a4 e4
  have C5 := C4.kept (put3_block w4 hne (.string S) (.int .i64 a4) (.int .i64 e4))
  have q5 := below_three q4 hle (.string S) (.int .i64 a4) (.int .i64 e4)
  go_wp2_with fail
  change Calls _ _ _ (put3 w4 g (.string S) (.int .i64 a4) (.int .i64 e4)) _
  generalize put3 w4 g (.string S) (.int .i64 a4) (.int .i64 e4) = w5 at D5 C5 q5 ⊢
  clear k0 k1 k2 d0 d1 d2 d3 D4 C4 q4
  refine (HN3.out _ _ ⟨a4, e4, rfl, g4⟩).mono ?_
  rintro e w6 ⟨v6, rfl, ⟨a6, e6, rfl, g6⟩, hB6⟩
  clear g4
  have q6 := q5.then' hB6 (Nat.le_refl _)
  have C6 := C5.after hB6
  have D6 := D5.after hB6
  clear q5 C5 D5 hB6
  obtain ⟨d0, d1, d2, d3⟩ := id D6
  obtain ⟨k0, k1, k2⟩ := stored3 (three d0 d1 d2)
  have D7 := put3_sc D6 S a6 e6
  have C7 := C6.kept (put3_block w6 hne (.string S) (.int .i64 a6) (.int .i64 e6))
  have q7 := below_three q6 hle (.string S) (.int .i64 a6) (.int .i64 e6)
  go_wp2_with fail
  change Calls _ _ _ (put3 w6 g (.string S) (.int .i64 a6) (.int .i64 e6)) _
  generalize put3 w6 g (.string S) (.int .i64 a6) (.int .i64 e6) = w7 at D7 C7 q7 ⊢
  clear k0 k1 k2 d0 d1 d2 d3 D6 C6 q6
  refine (HN4.out _ _ ⟨a6, e6, rfl, g6⟩).mono ?_
  rintro e w8 ⟨v8, rfl, ⟨a8, e8, rfl, g8⟩, hB8⟩
  clear g6
  have q8 := q7.then' hB8 (Nat.le_refl _)
  have C8 := C7.after hB8
  have D8 := D7.after hB8
  clear q7 C7 D7 hB8
  obtain ⟨d0, d1, d2, d3⟩ := id D8
  obtain ⟨k0, k1, k2⟩ := stored3 (three d0 d1 d2)
  have D9 := put3_sc D8 S a8 e8
  have C9 := C8.kept (put3_block w8 hne (.string S) (.int .i64 a8) (.int .i64 e8))
  have q9 := below_three q8 hle (.string S) (.int .i64 a8) (.int .i64 e8)
  have C9a := C9.alloc (.cells #[.int .i64 n1, .int .i64 n2, .int .i64 n3, .int .i64 n4] 41)
  have D9a := D9.kept (w' := (put3 w8 g (.string S) (.int .i64 a8) (.int .i64 e8)).alloc (.cells #[.int .i64 n1, .int .i64 n2, .int .i64 n3, .int .i64 n4] 41)) (Below.heap_alloc _ _ _ D9.lt)
  have E9 := HeadAt.new (put3 w8 g (.string S) (.int .i64 a8) (.int .i64 e8)) n1 n2 n3 n4 41
  have q9a := q9.alloc q9.size (.cells #[.int .i64 n1, .int .i64 n2, .int .i64 n3, .int .i64 n4] 41)
  have hne2 : (put3 w8 g (.string S) (.int .i64 a8) (.int .i64 e8)).heap.size ≠ w.heap.size := by have := C8.lt; rw [put3_size]; omega
  have hhg : (put3 w8 g (.string S) (.int .i64 a8) (.int .i64 e8)).heap.size ≠ g := by have := D8.lt; rw [put3_size]; omega
  rw [put3_size] at E9 hne2 hhg
  have hgl := D8.lt
  have hwl := C8.lt
  obtain ⟨_, _, _, hst⟩ := g8
  go_upto_region 9 with fail
  unfold put3 at C9a D9a E9 q9a
  generalize (((w8.setCell ⟨g, 0, none⟩ (.string S)).setCell ⟨g, 1, none⟩ (.int .i64 a8)).setCell ⟨g, 2, none⟩ (.int .i64 e8)).alloc (.cells #[.int .i64 n1, .int .i64 n2, .int .i64 n3, .int .i64 n4] 41) = w9 at C9a D9a E9 q9a ⊢
  clear C9 D9 q9 k0 k1 k2 d0 d1 d2 d3 D8 C8 q8
  generalize w8.heap.size = p at E9 hne2 hhg hgl hwl ⊢
  obtain ⟨b0, b1, b2, b3, b4⟩ := id E9
  simp only at b0 b1 b2 b3
  obtain ⟨d0, d1, d2, d3⟩ := id D9a
  by_cases he : e8 = 0
  · rw [if_pos he] at hst
    subst he
    have hsn : s4 ≠ none := by rw [hst]; simp
    go_wp2_with fail
    refine (HIS.out _).mono ?_
    rintro e w10 ⟨rfl, hB10⟩
    have q10 := q9a.then' hB10 (Nat.le_refl _)
    have C10 := C9a.after hB10
    have E10 := E9.after hB10
    clear q9a C9a E9 D9a hB10 d0 d1 d2 d3 b0 b1 b2 b3 b4
    obtain ⟨b0, b1, b2, b3, b4⟩ := id E10
    simp only at b0 b1 b2 b3
    cases r
    · obtain ⟨k0, k1, k2, k3, x0, x1, x2, x3, y0, y1, y2, y3⟩ := C10.stored
      have y4 := C10.2
      go_wp2_with fail
      refine bodyPost_ret (by simp [results, Tryd.results26, k0, k1, k2, k3, go_sem]; try rfl) rfl ?_
      exact ⟨by rw [← HRES.out, if_neg (by simp)], below_four q10 (Nat.le_refl _) _ _ _ _⟩
    · go_wp2_with fail
      refine (HPT.out _).mono ?_
      rintro e w11 ⟨rfl, hB11⟩
      have q11 := q10.then' hB11 (Nat.le_refl _)
      have C11 := C10.after hB11
      have E11 := E10.after hB11
      clear q10 C10 E10 hB11 b0 b1 b2 b3 b4
      obtain ⟨b0, b1, b2, b3, b4⟩ := id E11
      simp only at b0 b1 b2 b3
      obtain ⟨k0, k1, k2, k3, x0, x1, x2, x3, y0, y1, y2, y3⟩ := C11.stored
      have y4 := C11.2
      by_cases hps : P = s.data.toList
      · have htt : ((bs P).toList == s.toList) = true := by rw [bs_toList, hps, ByteArray.toList_eq]; simp
        have HPS := Lib.hid hps
        clear hps
        go_wp2_with fail
        refine bodyPost_ret (by simp [results, Tryd.results26, k0, k1, k2, k3, go_sem]; try rfl) rfl ?_
        exact ⟨by rw [← HRES.out, if_pos (by refine ⟨hsn, ?_, HPS.out⟩; simp)], below_four q11 (Nat.le_refl _) _ _ _ _⟩
      · have htt : ((bs P).toList == s.toList) = false := by rw [bs_toList, ByteArray.toList_eq]; simpa using hps
        go_wp2_with fail
        refine bodyPost_ret (by simp [results, Tryd.results26, k0, k1, k2, k3, go_sem]; try rfl) rfl ?_
        exact ⟨by rw [← HRES.out, if_neg (fun h => hps h.2.2)], below_four q11 (Nat.le_refl _) _ _ _ _⟩
  · rw [if_neg he] at hst
    have hen : ((e8 : Int) == 0) = false := by simp; omega
    have hen2 : ((e8 : Int) != 0) = true := by simpa using hen
    obtain ⟨m0, m1, m2, m3, x0, x1, x2, x3, y0, y1, y2, y3⟩ := C9a.stored
    have y4 := C9a.2
    go_wp2_with fail
    refine bodyPost_ret (by simp [results, Tryd.results26, m0, m1, m2, m3, go_sem]; try rfl) rfl ?_
    exact ⟨by rw [← HRES.out, if_neg (fun h => h.1 hst)], below_four q9a (Nat.le_refl _) _ _ _ _⟩
theorem refTake_any (s : ByteArray) (w : World) (hs : s.size ≤ 1048576) :
    Calls Tryd.prog 26 #[.string s] w fun e w' => e = .returned (.tuple #[.agg #[.int .i64 (takeV s.data.toList).epoch, .int .i64 (takeV s.data.toList).half, .int .i64 (takeV s.data.toList).pack, .int .i64 (takeV s.data.toList).num], .bool (takeB s.data.toList)]) ∧ Below w.heap.size w w' := by
  unfold takeV takeB
  rw [← Pl.Seat.refTakeH_eq tailU tailU_len]
  unfold Pl.Seat.refTakeH
  cases hb : Pl.Seat.bare s.data.toList with
  | none => exact refTake_none s none w hs hb (by simp)
  | some t =>
    have htl := bare_short hb
    simp only
    by_cases h6 : 6 ≤ t.length
    · obtain ⟨p, hP⟩ : ∃ p, Pl.Seat.h4 4294967296 4294967296 4294967296 4294967296 (some (t.drop 6)) = p := ⟨_, rfl⟩
      obtain ⟨H, st⟩ := p
      have := refTake_read s t w hs hb h6 (by omega) H st hP
      rw [hP]
      simp only
      by_cases hc : st ≠ none ∧ isH H = true ∧ putH tailU H = s.data.toList
      · have hpv : putV H = s.data.toList := by unfold putV; rw [if_pos hc.2.1]; exact hc.2.2
        rw [if_pos ⟨hc.1, hc.2.1, hpv⟩] at this
        rw [if_pos ⟨h6, hc⟩]
        exact this
      · rw [if_neg (fun h => hc ⟨h.1, h.2.1, by have h3 := h.2.2; unfold putV at h3; rw [if_pos h.2.1] at h3; exact h3⟩)] at this
        rw [if_neg (fun h => hc h.2)]
        exact this
    · rw [if_neg (fun h => h6 h.1)]
      exact refTake_none s (some t) w hs hb (fun x e => by obtain rfl := Option.some.inj e; omega)
end Go.Proofs.YtalnmhlfjdocfaaDoor.WalkSeat
