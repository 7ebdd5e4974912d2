/-
  The walk of EntryTakes: the record of any sector, and whether it is the one that must be next.
-/
import Derived.Test.YtalnmhlfjdocfaaDoorLawEntry
namespace Go.Proofs.YtalnmhlfjdocfaaDoor.WalkSeat
open Go.RowKit Go.Proofs.YtalnmhlfjdocfaaDoor.WalkVar Go.Proofs.YtalnmhlfjdocfaaDoor.WalkScan Go.Proofs.YtalnmhlfjdocfaaDoor.WalkCrc
open Pl.Seat (numV numR txtV txtR numP txtP Head isH putH openS isName nameByte isHash Rec isR putR)
set_option linter.unusedVariables false
set_option linter.unusedSimpArgs false
set_option maxRecDepth 100000

theorem takeR0_at (s : ByteArray) (w : World) (ht : Tab w) (hs : s.size ≤ 1048576) (hX : takeRV s.data.toList = Pl.Seat.Rec.zero) (hB : takeRB s.data.toList = false) :
    Calls Tryd.prog 46 #[.string s] w fun e w' => e = .returned (.tuple #[.agg #[.int .i64 0, .int .i64 0, .int .i64 0, .string ⟨#[]⟩, .string ⟨#[]⟩, .string ⟨#[]⟩, .int .i64 0, .int .i64 0], .int .i64 3]) ∧ Below w.heap.size w w' := takeR_at s Pl.Seat.Rec.zero false 3 w ht hs hX hB rfl
theorem refTakeR0_at (s : ByteArray) (w : World) (hs : s.size ≤ 1048576) (hX : takeRV s.data.toList = Pl.Seat.Rec.zero) (hB : takeRB s.data.toList = false) :
    Calls Tryd.prog 48 #[.string s] w fun e w' => e = .returned (.tuple #[.agg #[.int .i64 0, .int .i64 0, .int .i64 0, .string ⟨#[]⟩, .string ⟨#[]⟩, .string ⟨#[]⟩, .int .i64 0, .int .i64 0], .bool false]) ∧ Below w.heap.size w w' := refTakeR_at s Pl.Seat.Rec.zero false w hs hX hB
theorem entryIs0_at (s : ByteArray) (ep sq : Int) (w : World) (ht : Tab w) (hs : s.size ≤ 1048576) (hb : isRB s.data.toList ep sq = false) :
    Calls Tryd.prog 49 #[.string s, .int .i64 ep, .int .i64 sq] w fun z w' => z = .returned (.tuple #[.agg #[.int .i64 0, .int .i64 0, .int .i64 0, .string ⟨#[]⟩, .string ⟨#[]⟩, .string ⟨#[]⟩, .int .i64 0, .int .i64 0], .bool false]) ∧ Below w.heap.size w w' :=
  entryIs_at s ep sq Pl.Seat.Rec.zero false w ht hs (by unfold isRV; rw [hb]; rfl) hb
theorem isRB_not (l : List UInt8) (ep sq : Int) (h : ¬ (takeRB l = true ∧ (takeRV l).epoch = ep ∧ (takeRV l).seq = sq)) : isRB l ep sq = false := by
  unfold isRB
  rw [Bool.eq_false_iff]
  intro g
  simp only [Bool.and_eq_true, decide_eq_true_eq] at g
  exact h ⟨g.1.1, g.1.2, g.2⟩
theorem isRB_yes (l : List UInt8) (ep sq : Int) (h : takeRB l = true ∧ (takeRV l).epoch = ep ∧ (takeRV l).seq = sq) : isRB l ep sq = true := by
  unfold isRB
  simp [h.1, h.2.1, h.2.2]
set_option maxHeartbeats 6400000 in
theorem entryTakes_walk (s : ByteArray) (ep sq : Int) (w : World) (ht : Tab w) :
    Calls Tryd.prog 11 #[.string s, .int .i64 ep, .int .i64 sq] w fun x w' => x = .returned (.bool true) ∧ Below w.heap.size w w' := by
  by_cases h1 : s.size ≤ 1000
  · have h1i : (s.size : Int) ≤ 1000 := by omega
    have hs : s.size ≤ 1048576 := by omega
    rcases takeRV_is s.data.toList with ⟨hB, hR, _⟩ | ⟨hB, hX⟩
    · obtain ⟨X, hX⟩ : ∃ X, takeRV s.data.toList = X := ⟨_, rfl⟩
      have hep : 1 ≤ X.epoch := by rw [← hX]; exact ((Pl.Seat.isR_iff _).1 hR).1
      have f1 : ((0 : Int) == X.epoch) = false := by simp; omega
      have f2 : (X.epoch == (0 : Int)) = false := by simp; omega
      have f3 : ¬ (0 : Int) = X.epoch := by omega
      have f4 : ¬ X.epoch = (0 : Int) := by omega
      clear hR hep
      have HTK := Lib.hid (fun w ht => takeR_at s X true 0 w ht hs hX hB rfl)
      have HRT := Lib.hid (fun w => refTakeR_at s X true w hs hX hB)
      by_cases h2 : X.epoch = ep
      · have e2 : (X.epoch == ep) = true := by simp [h2]
        by_cases h3 : X.seq = sq
        · have e3 : (X.seq == sq) = true := by simp [h3]
          have hb := isRB_yes s.data.toList ep sq ⟨hB, by rw [hX]; exact h2, by rw [hX]; exact h3⟩
          have HIS := Lib.hid (fun w ht => entryIs_at s ep sq X true w ht hs (by unfold isRV; rw [hb, hX]; rfl) hb)
          clear hb hX hB h2 h3 h1
          go_enter Tryd.func11, Tryd.ntmps11
          go_wp2_with fail
          refine (HTK.out _ ht).mono ?_
          rintro z w1 ⟨rfl, hB1⟩
          have q1 := (hB1).alloc hB1.size (.cells #[.int .i64 X.epoch, .int .i64 X.seq, .int .i64 X.kind, .string (bs X.name), .string (bs X.old), .string (bs X.new), .int .i64 X.tail, .int .i64 X.num] 66)
          have D1 := RecAt.new w1 X.epoch X.seq X.kind (bs X.name) (bs X.old) (bs X.new) X.tail X.num 66
          go_upto_region 4 with fail
          generalize w1.heap.size = p1 at D1  ⊢
          generalize w1.alloc (.cells #[.int .i64 X.epoch, .int .i64 X.seq, .int .i64 X.kind, .string (bs X.name), .string (bs X.old), .string (bs X.new), .int .i64 X.tail, .int .i64 X.num] 66) = v1 at D1 q1 ⊢
          clear hB1
          go_wp2_with fail
          refine (HRT.out _).mono ?_
          rintro z w2 ⟨rfl, hB2⟩
          have q2 := (q1.then' hB2 (Nat.le_refl _)).alloc (Nat.le_trans q1.size hB2.size) (.cells #[.int .i64 X.epoch, .int .i64 X.seq, .int .i64 X.kind, .string (bs X.name), .string (bs X.old), .string (bs X.new), .int .i64 X.tail, .int .i64 X.num] 66)
          have D2 := RecAt.new w2 X.epoch X.seq X.kind (bs X.name) (bs X.old) (bs X.new) X.tail X.num 66
          have lt1_2 : p1 ≠ w2.heap.size := Nat.ne_of_lt (D1.after hB2).lt
          have gt1_2 : w2.heap.size ≠ p1 := Ne.symm lt1_2
          replace D1 := (D1.after hB2).alloc (.cells #[.int .i64 X.epoch, .int .i64 X.seq, .int .i64 X.kind, .string (bs X.name), .string (bs X.old), .string (bs X.new), .int .i64 X.tail, .int .i64 X.num] 66)
          go_upto_region 5 with fail
          generalize w2.heap.size = p2 at D2 lt1_2 gt1_2 ⊢
          generalize w2.alloc (.cells #[.int .i64 X.epoch, .int .i64 X.seq, .int .i64 X.kind, .string (bs X.name), .string (bs X.old), .string (bs X.new), .int .i64 X.tail, .int .i64 X.num] 66) = v2 at D1 D2 q2 ⊢
          clear hB2
          go_wp2_with fail
          refine (HIS.out _ (ht.after q2)).mono ?_
          rintro z w3 ⟨rfl, hB3⟩
          have q3 := (q2.then' hB3 (Nat.le_refl _)).alloc (Nat.le_trans q2.size hB3.size) (.cells #[.int .i64 X.epoch, .int .i64 X.seq, .int .i64 X.kind, .string (bs X.name), .string (bs X.old), .string (bs X.new), .int .i64 X.tail, .int .i64 X.num] 66)
          have D3 := RecAt.new w3 X.epoch X.seq X.kind (bs X.name) (bs X.old) (bs X.new) X.tail X.num 66
          have lt1_3 : p1 ≠ w3.heap.size := Nat.ne_of_lt (D1.after hB3).lt
          have gt1_3 : w3.heap.size ≠ p1 := Ne.symm lt1_3
          replace D1 := (D1.after hB3).alloc (.cells #[.int .i64 X.epoch, .int .i64 X.seq, .int .i64 X.kind, .string (bs X.name), .string (bs X.old), .string (bs X.new), .int .i64 X.tail, .int .i64 X.num] 66)
          have lt2_3 : p2 ≠ w3.heap.size := Nat.ne_of_lt (D2.after hB3).lt
          have gt2_3 : w3.heap.size ≠ p2 := Ne.symm lt2_3
          replace D2 := (D2.after hB3).alloc (.cells #[.int .i64 X.epoch, .int .i64 X.seq, .int .i64 X.kind, .string (bs X.name), .string (bs X.old), .string (bs X.new), .int .i64 X.tail, .int .i64 X.num] 66)
          go_upto_region 6 with fail
          generalize w3.heap.size = p3 at D3 lt1_3 gt1_3 lt2_3 gt2_3 ⊢
          generalize w3.alloc (.cells #[.int .i64 X.epoch, .int .i64 X.seq, .int .i64 X.kind, .string (bs X.name), .string (bs X.old), .string (bs X.new), .int .i64 X.tail, .int .i64 X.num] 66) = v3 at D1 D2 D3 q3 ⊢
          clear hB3
          obtain ⟨a0, a1, a2, a3, a4, a5, a6, a7, a8⟩ := id D1
          obtain ⟨b0, b1, b2, b3, b4, b5, b6, b7, b8⟩ := id D2
          obtain ⟨c0, c1, c2, c3, c4, c5, c6, c7, c8⟩ := id D3
          go_wp2_with fail
          refine (awake10_any _ (ht.after q3)).mono ?_
          rintro z w9 ⟨rfl, hB9⟩
          have q9 := q3.then' hB9 (Nat.le_refl _)
          go_wp2_with fail
          go_ret
          exact ⟨rfl, q9⟩
        · have e3 : (X.seq == sq) = false := by simp [h3]
          have hb := isRB_not s.data.toList ep sq (by rw [hX]; exact fun g => h3 g.2.2)
          have HIS := Lib.hid (fun w ht => entryIs0_at s ep sq w ht hs hb)
          clear hb hX hB h2 h3 h1
          go_enter Tryd.func11, Tryd.ntmps11
          go_wp2_with fail
          refine (HTK.out _ ht).mono ?_
          rintro z w1 ⟨rfl, hB1⟩
          have q1 := (hB1).alloc hB1.size (.cells #[.int .i64 X.epoch, .int .i64 X.seq, .int .i64 X.kind, .string (bs X.name), .string (bs X.old), .string (bs X.new), .int .i64 X.tail, .int .i64 X.num] 66)
          have D1 := RecAt.new w1 X.epoch X.seq X.kind (bs X.name) (bs X.old) (bs X.new) X.tail X.num 66
          go_upto_region 4 with fail
          generalize w1.heap.size = p1 at D1  ⊢
          generalize w1.alloc (.cells #[.int .i64 X.epoch, .int .i64 X.seq, .int .i64 X.kind, .string (bs X.name), .string (bs X.old), .string (bs X.new), .int .i64 X.tail, .int .i64 X.num] 66) = v1 at D1 q1 ⊢
          clear hB1
          go_wp2_with fail
          refine (HRT.out _).mono ?_
          rintro z w2 ⟨rfl, hB2⟩
          have q2 := (q1.then' hB2 (Nat.le_refl _)).alloc (Nat.le_trans q1.size hB2.size) (.cells #[.int .i64 X.epoch, .int .i64 X.seq, .int .i64 X.kind, .string (bs X.name), .string (bs X.old), .string (bs X.new), .int .i64 X.tail, .int .i64 X.num] 66)
          have D2 := RecAt.new w2 X.epoch X.seq X.kind (bs X.name) (bs X.old) (bs X.new) X.tail X.num 66
          have lt1_2 : p1 ≠ w2.heap.size := Nat.ne_of_lt (D1.after hB2).lt
          have gt1_2 : w2.heap.size ≠ p1 := Ne.symm lt1_2
          replace D1 := (D1.after hB2).alloc (.cells #[.int .i64 X.epoch, .int .i64 X.seq, .int .i64 X.kind, .string (bs X.name), .string (bs X.old), .string (bs X.new), .int .i64 X.tail, .int .i64 X.num] 66)
          go_upto_region 5 with fail
          generalize w2.heap.size = p2 at D2 lt1_2 gt1_2 ⊢
          generalize w2.alloc (.cells #[.int .i64 X.epoch, .int .i64 X.seq, .int .i64 X.kind, .string (bs X.name), .string (bs X.old), .string (bs X.new), .int .i64 X.tail, .int .i64 X.num] 66) = v2 at D1 D2 q2 ⊢
          clear hB2
          go_wp2_with fail
          refine (HIS.out _ (ht.after q2)).mono ?_
          rintro z w3 ⟨rfl, hB3⟩
          have q3 := (q2.then' hB3 (Nat.le_refl _)).alloc (Nat.le_trans q2.size hB3.size) (.cells #[.int .i64 0, .int .i64 0, .int .i64 0, .string ⟨#[]⟩, .string ⟨#[]⟩, .string ⟨#[]⟩, .int .i64 0, .int .i64 0] 66)
          have D3 := RecAt.new w3 0 0 0 ⟨#[]⟩ ⟨#[]⟩ ⟨#[]⟩ 0 0 66
          have lt1_3 : p1 ≠ w3.heap.size := Nat.ne_of_lt (D1.after hB3).lt
          have gt1_3 : w3.heap.size ≠ p1 := Ne.symm lt1_3
          replace D1 := (D1.after hB3).alloc (.cells #[.int .i64 0, .int .i64 0, .int .i64 0, .string ⟨#[]⟩, .string ⟨#[]⟩, .string ⟨#[]⟩, .int .i64 0, .int .i64 0] 66)
          have lt2_3 : p2 ≠ w3.heap.size := Nat.ne_of_lt (D2.after hB3).lt
          have gt2_3 : w3.heap.size ≠ p2 := Ne.symm lt2_3
          replace D2 := (D2.after hB3).alloc (.cells #[.int .i64 0, .int .i64 0, .int .i64 0, .string ⟨#[]⟩, .string ⟨#[]⟩, .string ⟨#[]⟩, .int .i64 0, .int .i64 0] 66)
          go_upto_region 6 with fail
          generalize w3.heap.size = p3 at D3 lt1_3 gt1_3 lt2_3 gt2_3 ⊢
          generalize w3.alloc (.cells #[.int .i64 0, .int .i64 0, .int .i64 0, .string ⟨#[]⟩, .string ⟨#[]⟩, .string ⟨#[]⟩, .int .i64 0, .int .i64 0] 66) = v3 at D1 D2 D3 q3 ⊢
          clear hB3
          obtain ⟨a0, a1, a2, a3, a4, a5, a6, a7, a8⟩ := id D1
          obtain ⟨b0, b1, b2, b3, b4, b5, b6, b7, b8⟩ := id D2
          obtain ⟨c0, c1, c2, c3, c4, c5, c6, c7, c8⟩ := id D3
          go_wp2_with fail
          refine (awake10_any _ (ht.after q3)).mono ?_
          rintro z w9 ⟨rfl, hB9⟩
          have q9 := q3.then' hB9 (Nat.le_refl _)
          go_wp2_with fail
          go_ret
          exact ⟨rfl, q9⟩
      · have e2 : (X.epoch == ep) = false := by simp [h2]
        have hb := isRB_not s.data.toList ep sq (by rw [hX]; exact fun g => h2 g.2.1)
        have HIS := Lib.hid (fun w ht => entryIs0_at s ep sq w ht hs hb)
        clear hb hX hB h2 h1
        go_enter Tryd.func11, Tryd.ntmps11
        go_wp2_with fail
        refine (HTK.out _ ht).mono ?_
        rintro z w1 ⟨rfl, hB1⟩
        have q1 := (hB1).alloc hB1.size (.cells #[.int .i64 X.epoch, .int .i64 X.seq, .int .i64 X.kind, .string (bs X.name), .string (bs X.old), .string (bs X.new), .int .i64 X.tail, .int .i64 X.num] 66)
        have D1 := RecAt.new w1 X.epoch X.seq X.kind (bs X.name) (bs X.old) (bs X.new) X.tail X.num 66
        go_upto_region 4 with fail
        generalize w1.heap.size = p1 at D1  ⊢
        generalize w1.alloc (.cells #[.int .i64 X.epoch, .int .i64 X.seq, .int .i64 X.kind, .string (bs X.name), .string (bs X.old), .string (bs X.new), .int .i64 X.tail, .int .i64 X.num] 66) = v1 at D1 q1 ⊢
        clear hB1
        go_wp2_with fail
        refine (HRT.out _).mono ?_
        rintro z w2 ⟨rfl, hB2⟩
        have q2 := (q1.then' hB2 (Nat.le_refl _)).alloc (Nat.le_trans q1.size hB2.size) (.cells #[.int .i64 X.epoch, .int .i64 X.seq, .int .i64 X.kind, .string (bs X.name), .string (bs X.old), .string (bs X.new), .int .i64 X.tail, .int .i64 X.num] 66)
        have D2 := RecAt.new w2 X.epoch X.seq X.kind (bs X.name) (bs X.old) (bs X.new) X.tail X.num 66
        have lt1_2 : p1 ≠ w2.heap.size := Nat.ne_of_lt (D1.after hB2).lt
        have gt1_2 : w2.heap.size ≠ p1 := Ne.symm lt1_2
        replace D1 := (D1.after hB2).alloc (.cells #[.int .i64 X.epoch, .int .i64 X.seq, .int .i64 X.kind, .string (bs X.name), .string (bs X.old), .string (bs X.new), .int .i64 X.tail, .int .i64 X.num] 66)
        go_upto_region 5 with fail
        generalize w2.heap.size = p2 at D2 lt1_2 gt1_2 ⊢
        generalize w2.alloc (.cells #[.int .i64 X.epoch, .int .i64 X.seq, .int .i64 X.kind, .string (bs X.name), .string (bs X.old), .string (bs X.new), .int .i64 X.tail, .int .i64 X.num] 66) = v2 at D1 D2 q2 ⊢
        clear hB2
        go_wp2_with fail
        refine (HIS.out _ (ht.after q2)).mono ?_
        rintro z w3 ⟨rfl, hB3⟩
        have q3 := (q2.then' hB3 (Nat.le_refl _)).alloc (Nat.le_trans q2.size hB3.size) (.cells #[.int .i64 0, .int .i64 0, .int .i64 0, .string ⟨#[]⟩, .string ⟨#[]⟩, .string ⟨#[]⟩, .int .i64 0, .int .i64 0] 66)
        have D3 := RecAt.new w3 0 0 0 ⟨#[]⟩ ⟨#[]⟩ ⟨#[]⟩ 0 0 66
        have lt1_3 : p1 ≠ w3.heap.size := Nat.ne_of_lt (D1.after hB3).lt
        have gt1_3 : w3.heap.size ≠ p1 := Ne.symm lt1_3
        replace D1 := (D1.after hB3).alloc (.cells #[.int .i64 0, .int .i64 0, .int .i64 0, .string ⟨#[]⟩, .string ⟨#[]⟩, .string ⟨#[]⟩, .int .i64 0, .int .i64 0] 66)
        have lt2_3 : p2 ≠ w3.heap.size := Nat.ne_of_lt (D2.after hB3).lt
        have gt2_3 : w3.heap.size ≠ p2 := Ne.symm lt2_3
        replace D2 := (D2.after hB3).alloc (.cells #[.int .i64 0, .int .i64 0, .int .i64 0, .string ⟨#[]⟩, .string ⟨#[]⟩, .string ⟨#[]⟩, .int .i64 0, .int .i64 0] 66)
        go_upto_region 6 with fail
        generalize w3.heap.size = p3 at D3 lt1_3 gt1_3 lt2_3 gt2_3 ⊢
        generalize w3.alloc (.cells #[.int .i64 0, .int .i64 0, .int .i64 0, .string ⟨#[]⟩, .string ⟨#[]⟩, .string ⟨#[]⟩, .int .i64 0, .int .i64 0] 66) = v3 at D1 D2 D3 q3 ⊢
        clear hB3
        obtain ⟨a0, a1, a2, a3, a4, a5, a6, a7, a8⟩ := id D1
        obtain ⟨b0, b1, b2, b3, b4, b5, b6, b7, b8⟩ := id D2
        obtain ⟨c0, c1, c2, c3, c4, c5, c6, c7, c8⟩ := id D3
        go_wp2_with fail
        refine (awake10_any _ (ht.after q3)).mono ?_
        rintro z w9 ⟨rfl, hB9⟩
        have q9 := q3.then' hB9 (Nat.le_refl _)
        go_wp2_with fail
        go_ret
        exact ⟨rfl, q9⟩
    · have HTK := Lib.hid (fun w ht => takeR0_at s w ht hs hX hB)
      have HRT := Lib.hid (fun w => refTakeR0_at s w hs hX hB)
      have hb := isRB_not s.data.toList ep sq (by rw [hB]; exact fun g => by simp at g)
      have HIS := Lib.hid (fun w ht => entryIs0_at s ep sq w ht hs hb)
      clear hb hX hB h1
      go_enter Tryd.func11, Tryd.ntmps11
      go_wp2_with fail
      refine (HTK.out _ ht).mono ?_
      rintro z w1 ⟨rfl, hB1⟩
      have q1 := (hB1).alloc hB1.size (.cells #[.int .i64 0, .int .i64 0, .int .i64 0, .string ⟨#[]⟩, .string ⟨#[]⟩, .string ⟨#[]⟩, .int .i64 0, .int .i64 0] 66)
      have D1 := RecAt.new w1 0 0 0 ⟨#[]⟩ ⟨#[]⟩ ⟨#[]⟩ 0 0 66
      go_upto_region 4 with fail
      generalize w1.heap.size = p1 at D1  ⊢
      generalize w1.alloc (.cells #[.int .i64 0, .int .i64 0, .int .i64 0, .string ⟨#[]⟩, .string ⟨#[]⟩, .string ⟨#[]⟩, .int .i64 0, .int .i64 0] 66) = v1 at D1 q1 ⊢
      clear hB1
      go_wp2_with fail
      refine (HRT.out _).mono ?_
      rintro z w2 ⟨rfl, hB2⟩
      have q2 := (q1.then' hB2 (Nat.le_refl _)).alloc (Nat.le_trans q1.size hB2.size) (.cells #[.int .i64 0, .int .i64 0, .int .i64 0, .string ⟨#[]⟩, .string ⟨#[]⟩, .string ⟨#[]⟩, .int .i64 0, .int .i64 0] 66)
      have D2 := RecAt.new w2 0 0 0 ⟨#[]⟩ ⟨#[]⟩ ⟨#[]⟩ 0 0 66
      have lt1_2 : p1 ≠ w2.heap.size := Nat.ne_of_lt (D1.after hB2).lt
      have gt1_2 : w2.heap.size ≠ p1 := Ne.symm lt1_2
      replace D1 := (D1.after hB2).alloc (.cells #[.int .i64 0, .int .i64 0, .int .i64 0, .string ⟨#[]⟩, .string ⟨#[]⟩, .string ⟨#[]⟩, .int .i64 0, .int .i64 0] 66)
      go_upto_region 5 with fail
      generalize w2.heap.size = p2 at D2 lt1_2 gt1_2 ⊢
      generalize w2.alloc (.cells #[.int .i64 0, .int .i64 0, .int .i64 0, .string ⟨#[]⟩, .string ⟨#[]⟩, .string ⟨#[]⟩, .int .i64 0, .int .i64 0] 66) = v2 at D1 D2 q2 ⊢
      clear hB2
      go_wp2_with fail
      refine (HIS.out _ (ht.after q2)).mono ?_
      rintro z w3 ⟨rfl, hB3⟩
      have q3 := (q2.then' hB3 (Nat.le_refl _)).alloc (Nat.le_trans q2.size hB3.size) (.cells #[.int .i64 0, .int .i64 0, .int .i64 0, .string ⟨#[]⟩, .string ⟨#[]⟩, .string ⟨#[]⟩, .int .i64 0, .int .i64 0] 66)
      have D3 := RecAt.new w3 0 0 0 ⟨#[]⟩ ⟨#[]⟩ ⟨#[]⟩ 0 0 66
      have lt1_3 : p1 ≠ w3.heap.size := Nat.ne_of_lt (D1.after hB3).lt
      have gt1_3 : w3.heap.size ≠ p1 := Ne.symm lt1_3
      replace D1 := (D1.after hB3).alloc (.cells #[.int .i64 0, .int .i64 0, .int .i64 0, .string ⟨#[]⟩, .string ⟨#[]⟩, .string ⟨#[]⟩, .int .i64 0, .int .i64 0] 66)
      have lt2_3 : p2 ≠ w3.heap.size := Nat.ne_of_lt (D2.after hB3).lt
      have gt2_3 : w3.heap.size ≠ p2 := Ne.symm lt2_3
      replace D2 := (D2.after hB3).alloc (.cells #[.int .i64 0, .int .i64 0, .int .i64 0, .string ⟨#[]⟩, .string ⟨#[]⟩, .string ⟨#[]⟩, .int .i64 0, .int .i64 0] 66)
      go_upto_region 6 with fail
      generalize w3.heap.size = p3 at D3 lt1_3 gt1_3 lt2_3 gt2_3 ⊢
      generalize w3.alloc (.cells #[.int .i64 0, .int .i64 0, .int .i64 0, .string ⟨#[]⟩, .string ⟨#[]⟩, .string ⟨#[]⟩, .int .i64 0, .int .i64 0] 66) = v3 at D1 D2 D3 q3 ⊢
      clear hB3
      obtain ⟨a0, a1, a2, a3, a4, a5, a6, a7, a8⟩ := id D1
      obtain ⟨b0, b1, b2, b3, b4, b5, b6, b7, b8⟩ := id D2
      obtain ⟨c0, c1, c2, c3, c4, c5, c6, c7, c8⟩ := id D3
      go_wp2_with fail
      refine (awake10_any _ (ht.after q3)).mono ?_
      rintro z w9 ⟨rfl, hB9⟩
      have q9 := q3.then' hB9 (Nat.le_refl _)
      go_wp2_with fail
      go_ret
      exact ⟨rfl, q9⟩
  · have h1i : (1000 : Int) < (s.size : Int) := by omega
    go_enter Tryd.func11, Tryd.ntmps11
    go_wp2_with fail
    refine (awake10_any _ ht).mono ?_
    rintro z w3 ⟨rfl, hB3⟩
    go_wp2_with fail
    go_ret
    exact ⟨rfl, hB3⟩
end Go.Proofs.YtalnmhlfjdocfaaDoor.WalkSeat
