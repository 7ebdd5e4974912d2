/-
  The walk of the document's Is of a record.
-/
import Derived.Test.YtfbakelpplpomaaGreatDoorWalkEntry
import Derived.Test.YtfbakelpplpomaaGreatDoorWalkEntryPut
namespace Go.Proofs.YtfbakelpplpomaaGreatDoor.WalkSeat
open Go.RowKit Go.Proofs.YtfbakelpplpomaaGreatDoor.WalkVar Go.Proofs.YtfbakelpplpomaaGreatDoor.WalkScan Go.Proofs.YtfbakelpplpomaaGreatDoor.WalkCrc
open Pl.Seat (numV numR txtV txtR numP txtP Head isH putH openS isName nameByte isHash Rec isR)
set_option linter.unusedVariables false
set_option linter.unusedSimpArgs false
set_option maxRecDepth 100000

theorem refName_at (s : ByteArray) (b : Bool) (w : World) (hs : s.size ≤ 1048576) (hb : isName s.data.toList = b) :
    Calls Tryz.prog 107 #[.string s] w fun e w' => e = .returned (.bool b) ∧ w = w' := hb ▸ refName_any s w hs
theorem refHash_at (s : ByteArray) (b : Bool) (w : World) (hb : isHash s.data.toList = b) :
    Calls Tryz.prog 108 #[.string s] w fun e w' => e = .returned (.bool b) ∧ w = w' := hb ▸ refHash_any s w
theorem isE (s : ByteArray) : s.toList.isEmpty = decide (s.size = 0) := by
  rw [ByteArray.toList_eq]
  have h1 : s.data.toList.length = s.size := by simp
  cases h : s.data.toList with
  | nil => have : s.size = 0 := by rw [← h1, h]; rfl
           simp [this]
  | cons c l => have : s.size ≠ 0 := by rw [← h1, h]; simp
                simp [this]
set_option maxHeartbeats 6400000 in
theorem refRec_any (e q k : Int) (N O M : ByteArray) (t u : Int) (w : World) (hN : N.size ≤ 1048576) :
    Calls Tryz.prog 75 #[.agg #[.int .i64 e, .int .i64 q, .int .i64 k, .string N, .string O, .string M, .int .i64 t, .int .i64 u]] w fun x w' => x = .returned (.bool (isR (rc e q k N O M t u))) ∧ Below w.heap.size w w' := by
  have hB : Below w.heap.size w (w.alloc (.cells #[.int .i64 e, .int .i64 q, .int .i64 k, .string N, .string O, .string M, .int .i64 t, .int .i64 u] 24)) := (Below.refl _ _).alloc (Nat.le_refl _) _
  obtain ⟨r, hr⟩ : ∃ r, isR (rc e q k N O M t u) = r := ⟨_, rfl⟩
  rw [hr]
  have hra := isR_and e q k N O M t u
  rw [hr] at hra
  unfold bare2 at hra
  rw [← isE, ← isE] at hra
  obtain ⟨b6, hb6⟩ : ∃ x, isName N.data.toList = x := ⟨_, rfl⟩
  obtain ⟨b7, hb7⟩ : ∃ x, isHash O.data.toList = x := ⟨_, rfl⟩
  obtain ⟨b8, hb8⟩ : ∃ x, isHash M.data.toList = x := ⟨_, rfl⟩
  obtain ⟨o0, ho0⟩ : ∃ x, O.toList.isEmpty = x := ⟨_, rfl⟩
  obtain ⟨m0, hm0⟩ : ∃ x, M.toList.isEmpty = x := ⟨_, rfl⟩
  have W6 := Lib.hid (fun w => refName_at N b6 w hN hb6)
  have W7 := Lib.hid (fun w => refHash_at O b7 w hb7)
  have W8 := Lib.hid (fun w => refHash_at M b8 w hb8)
  rw [hb6, hb7, hb8, ho0, hm0] at hra
  have HRA := Lib.hid hra
  clear hr hra hb6 hb7 hb8
  by_cases g1 : 1 ≤ e
  rotate_left
  · have g1' : e < 1 := by omega
    have hf : r = false := by rw [HRA.out]; simp [g1]
    subst hf
    clear HRA
    go_enter Tryz.func75, Tryz.ntmps75
    go_wp2
    go_ret
    exact ⟨rfl, hB⟩
  by_cases g2 : e ≤ 4294967295
  rotate_left
  · have g2' : 4294967295 < e := by omega
    have hf : r = false := by rw [HRA.out]; simp [g2]
    subst hf
    clear HRA
    go_enter Tryz.func75, Tryz.ntmps75
    go_wp2
    go_ret
    exact ⟨rfl, hB⟩
  by_cases g3 : 0 ≤ q
  rotate_left
  · have g3' : q < 0 := by omega
    have hf : r = false := by rw [HRA.out]; simp [g3]
    subst hf
    clear HRA
    go_enter Tryz.func75, Tryz.ntmps75
    go_wp2
    go_ret
    exact ⟨rfl, hB⟩
  by_cases g4 : q ≤ 4095
  rotate_left
  · have g4' : 4095 < q := by omega
    have hf : r = false := by rw [HRA.out]; simp [g4]
    subst hf
    clear HRA
    go_enter Tryz.func75, Tryz.ntmps75
    go_wp2
    go_ret
    exact ⟨rfl, hB⟩
  by_cases g5 : 1 ≤ k
  rotate_left
  · have g5' : k < 1 := by omega
    have hf : r = false := by rw [HRA.out]; simp [g5]
    subst hf
    clear HRA
    go_enter Tryz.func75, Tryz.ntmps75
    go_wp2
    go_ret
    exact ⟨rfl, hB⟩
  by_cases g6 : k ≤ 2
  rotate_left
  · have g6' : 2 < k := by omega
    have hf : r = false := by rw [HRA.out]; simp [g6]
    subst hf
    clear HRA
    go_enter Tryz.func75, Tryz.ntmps75
    go_wp2
    go_ret
    exact ⟨rfl, hB⟩
  cases b6
  · have hf : r = false := by rw [HRA.out]; simp
    subst hf
    clear HRA
    go_enter Tryz.func75, Tryz.ntmps75
    go_wp2_with fail
    refine (W6.out _).mono ?_
    rintro x w1 ⟨rfl, rfl⟩
    go_wp2_with fail
    go_ret
    exact ⟨rfl, hB⟩
  cases b7
  · have hf : r = false := by rw [HRA.out]; simp
    subst hf
    clear HRA
    go_enter Tryz.func75, Tryz.ntmps75
    go_wp2_with fail
    refine (W6.out _).mono ?_
    rintro x w1 ⟨rfl, rfl⟩
    go_wp2_with fail
    refine (W7.out _).mono ?_
    rintro x w1 ⟨rfl, rfl⟩
    go_wp2_with fail
    go_ret
    exact ⟨rfl, hB⟩
  cases b8
  · have hf : r = false := by rw [HRA.out]; simp
    subst hf
    clear HRA
    go_enter Tryz.func75, Tryz.ntmps75
    go_wp2_with fail
    refine (W6.out _).mono ?_
    rintro x w1 ⟨rfl, rfl⟩
    go_wp2_with fail
    refine (W7.out _).mono ?_
    rintro x w1 ⟨rfl, rfl⟩
    go_wp2_with fail
    refine (W8.out _).mono ?_
    rintro x w1 ⟨rfl, rfl⟩
    go_wp2_with fail
    go_ret
    exact ⟨rfl, hB⟩
  cases o0
  rotate_left
  cases m0
  rotate_left
  · have hf : r = false := by rw [HRA.out]; simp
    subst hf
    clear HRA
    go_enter Tryz.func75, Tryz.ntmps75
    go_wp2_with fail
    refine (W6.out _).mono ?_
    rintro x w1 ⟨rfl, rfl⟩
    go_wp2_with fail
    refine (W7.out _).mono ?_
    rintro x w1 ⟨rfl, rfl⟩
    go_wp2_with fail
    refine (W8.out _).mono ?_
    rintro x w1 ⟨rfl, rfl⟩
    go_wp2_with fail
    go_ret
    exact ⟨rfl, hB⟩
  all_goals
    have hx : (0 ≤ t ∧ t ≤ 524288 ∧ 1 ≤ u ∧ u ≤ 4294967296 ∧ r = true) ∨ (t < 0 ∧ r = false) ∨ (0 ≤ t ∧ 524288 < t ∧ r = false) ∨ (0 ≤ t ∧ t ≤ 524288 ∧ u < 1 ∧ r = false) ∨ (0 ≤ t ∧ t ≤ 524288 ∧ 1 ≤ u ∧ 4294967296 < u ∧ r = false) := by
      have h := HRA.out
      rcases (by omega : (0 ≤ t ∧ t ≤ 524288 ∧ 1 ≤ u ∧ u ≤ 4294967296) ∨ t < 0 ∨ (0 ≤ t ∧ 524288 < t) ∨ (0 ≤ t ∧ t ≤ 524288 ∧ u < 1) ∨ (0 ≤ t ∧ t ≤ 524288 ∧ 1 ≤ u ∧ 4294967296 < u)) with y | y | y | y | y
      · left; exact ⟨y.1, y.2.1, y.2.2.1, y.2.2.2, by rw [h]; simp [g1, g2, g3, g4, g5, g6, y.1, y.2.1, y.2.2.1, y.2.2.2]⟩
      · right; left; exact ⟨y, by rw [h]; simp [show ¬ 0 ≤ t by omega]⟩
      · right; right; left; exact ⟨y.1, y.2, by rw [h]; simp [show ¬ t ≤ 524288 by omega]⟩
      · right; right; right; left; exact ⟨y.1, y.2.1, y.2.2, by rw [h]; simp [show ¬ 1 ≤ u by omega]⟩
      · right; right; right; right; exact ⟨y.1, y.2.1, y.2.2.1, y.2.2.2, by rw [h]; simp [show ¬ u ≤ 4294967296 by omega]⟩
    clear HRA
    have du : u ≤ 4294967296 ∨ decide (u ≤ 4294967296) = false := by
      by_cases y : u ≤ 4294967296
      · exact .inl y
      · exact .inr (by simpa using y)
    rcases hx with ⟨y1, y2, y3, y4, rfl⟩ | ⟨y1, rfl⟩ | ⟨y1, y2, rfl⟩ | ⟨y1, y2, y3, rfl⟩ | ⟨y1, y2, y3, y4, rfl⟩
    all_goals
      go_enter Tryz.func75, Tryz.ntmps75
      go_wp2_with fail
      refine (W6.out _).mono ?_
      rintro x w1 ⟨rfl, rfl⟩
      go_wp2_with fail
      refine (W7.out _).mono ?_
      rintro x w1 ⟨rfl, rfl⟩
      go_wp2_with fail
      refine (W8.out _).mono ?_
      rintro x w1 ⟨rfl, rfl⟩
      go_wp2_with fail
      go_ret
      first
        | exact ⟨rfl, hB⟩
        | (refine ⟨?_, hB⟩
           have hd : decide (u ≤ 4294967296) = false := by simp; omega
           show Ending.returned (Value.bool (decide (u ≤ 4294967296))) = _
           rw [hd])
theorem refRec_at (e q k : Int) (N O M : ByteArray) (t u : Int) (r : Bool) (w : World) (hN : N.size ≤ 1048576) (hr : isR (rc e q k N O M t u) = r) :
    Calls Tryz.prog 75 #[.agg #[.int .i64 e, .int .i64 q, .int .i64 k, .string N, .string O, .string M, .int .i64 t, .int .i64 u]] w fun x w' => x = .returned (.bool r) ∧ Below w.heap.size w w' := hr ▸ refRec_any e q k N O M t u w hN
end Go.Proofs.YtfbakelpplpomaaGreatDoor.WalkSeat
/-
  The walk of the document's Put of a record.
-/
namespace Go.Proofs.YtfbakelpplpomaaGreatDoor.WalkSeat
open Go.RowKit Go.Proofs.YtfbakelpplpomaaGreatDoor.WalkVar Go.Proofs.YtfbakelpplpomaaGreatDoor.WalkScan Go.Proofs.YtfbakelpplpomaaGreatDoor.WalkCrc
open Pl.Seat (numV numR txtV txtR numP txtP Head isH putH openS isName nameByte isHash Rec isR putR)
set_option linter.unusedVariables false
set_option linter.unusedSimpArgs false
set_option maxRecDepth 100000

theorem refPutText_at (s : ByteArray) (P : List UInt8) (w : World) (hs : s.size ≤ 1048576) (hP : Pl.Seat.putT s.data.toList = P) :
    Calls Tryz.prog 111 #[.string s] w fun x w' => x = .returned (.string (bs P)) ∧ Below w.heap.size w w' := hP ▸ refPutText_any s w hs
theorem KeepA {b : Nat} {x0 x1 x2 : Value} {w0 w w' : World} (h : w.cell? ⟨b, 0, none⟩ = some x0 ∧ w.cell? ⟨b, 1, none⟩ = some x1 ∧ w.cell? ⟨b, 2, none⟩ = some x2 ∧ Below w0.heap.size w0 w) (hB : Below w.heap.size w w') : w'.cell? ⟨b, 0, none⟩ = some x0 ∧ w'.cell? ⟨b, 1, none⟩ = some x1 ∧ w'.cell? ⟨b, 2, none⟩ = some x2 ∧ Below w0.heap.size w0 w' := by
  obtain ⟨h1, h2, h3, h4⟩ := h
  have hb := World.block_lt_of_cell? w _ h1
  exact ⟨by rw [hB.cell (p := ⟨b, 0, none⟩) hb]; exact h1, by rw [hB.cell (p := ⟨b, 1, none⟩) hb]; exact h2, by rw [hB.cell (p := ⟨b, 2, none⟩) hb]; exact h3, h4.trans (hB.mono h4.size)⟩
theorem KeepB {b : Nat} {x3 x4 x5 : Value} {w0 w w' : World} (h : w.cell? ⟨b, 3, none⟩ = some x3 ∧ w.cell? ⟨b, 4, none⟩ = some x4 ∧ w.cell? ⟨b, 5, none⟩ = some x5 ∧ Below w0.heap.size w0 w) (hB : Below w.heap.size w w') : w'.cell? ⟨b, 3, none⟩ = some x3 ∧ w'.cell? ⟨b, 4, none⟩ = some x4 ∧ w'.cell? ⟨b, 5, none⟩ = some x5 ∧ Below w0.heap.size w0 w' := by
  obtain ⟨h1, h2, h3, h4⟩ := h
  have hb := World.block_lt_of_cell? w _ h1
  exact ⟨by rw [hB.cell (p := ⟨b, 3, none⟩) hb]; exact h1, by rw [hB.cell (p := ⟨b, 4, none⟩) hb]; exact h2, by rw [hB.cell (p := ⟨b, 5, none⟩) hb]; exact h3, h4.trans (hB.mono h4.size)⟩
set_option maxHeartbeats 6400000 in
theorem refRecPut_ok (e q k : Int) (N O M : ByteArray) (t u : Int) (w : World) (h : isR (rc e q k N O M t u) = true) :
    Calls Tryz.prog 79 #[.agg #[.int .i64 e, .int .i64 q, .int .i64 k, .string N, .string O, .string M, .int .i64 t, .int .i64 u]] w fun x w' => x = .returned (.string (bs (putR tailU (rc e q k N O M t u)))) ∧ Below w.heap.size w w' := by
  obtain ⟨a1, a2, a3, a4, a5, a6, a7, a8, a9, a10, a11, a12, a13⟩ := putR_parts e q k N O M t u h
  have htl := Pl.Seat.textR_len _ h
  have HCK := Lib.hid (fun w => refRec_at e q k N O M t u true w (by omega) h)
  obtain ⟨P1, hP1⟩ : ∃ P, Pl.Seat.put e.toNat = P := ⟨_, rfl⟩
  obtain ⟨P2, hP2⟩ : ∃ P, Pl.Seat.put q.toNat = P := ⟨_, rfl⟩
  obtain ⟨P3, hP3⟩ : ∃ P, Pl.Seat.put k.toNat = P := ⟨_, rfl⟩
  obtain ⟨P4, hP4⟩ : ∃ P, Pl.Seat.putT N.data.toList = P := ⟨_, rfl⟩
  obtain ⟨P5, hP5⟩ : ∃ P, Pl.Seat.putT O.data.toList = P := ⟨_, rfl⟩
  obtain ⟨P6, hP6⟩ : ∃ P, Pl.Seat.putT M.data.toList = P := ⟨_, rfl⟩
  obtain ⟨P7, hP7⟩ : ∃ P, Pl.Seat.put t.toNat = P := ⟨_, rfl⟩
  obtain ⟨P8, hP8⟩ : ∃ P, Pl.Seat.put u.toNat = P := ⟨_, rfl⟩
  have htx : Pl.Seat.textR (rc e q k N O M t u) = [82] ++ P1 ++ P2 ++ P3 ++ P4 ++ P5 ++ P6 ++ P7 ++ P8 := by
    unfold Pl.Seat.textR Pl.Seat.f8 rc
    simp only [hP1, hP2, hP3, hP4, hP5, hP6, hP7, hP8]
    simp
  rw [htx] at htl
  have Q1 := Lib.hid (fun w => refPutNum_at e P1 w (by omega) hP1)
  have Q2 := Lib.hid (fun w => refPutNum_at q P2 w (by omega) hP2)
  have Q3 := Lib.hid (fun w => refPutNum_at k P3 w (by omega) hP3)
  have Q4 := Lib.hid (fun w => refPutText_at N P4 w (by omega) hP4)
  have Q5 := Lib.hid (fun w => refPutText_at O P5 w (by omega) hP5)
  have Q6 := Lib.hid (fun w => refPutText_at M P6 w (by omega) hP6)
  have Q7 := Lib.hid (fun w => refPutNum_at t P7 w (by omega) hP7)
  have Q8 := Lib.hid (fun w => refPutNum_at u P8 w (by omega) hP8)
  have hpr : putR tailU (rc e q k N O M t u) = Pl.Seat.sealedS tailU ([82] ++ P1 ++ P2 ++ P3 ++ P4 ++ P5 ++ P6 ++ P7 ++ P8) := by
    show Pl.Seat.sealedS tailU (Pl.Seat.textR _) = _
    rw [htx]
  rw [hpr]
  clear hpr htx hP1 hP2 hP3 hP4 hP5 hP6 hP7 hP8 h
  have X3 : (⟨#[82]⟩ : ByteArray) ++ bs P1 ++ bs P2 ++ bs P3 = bs ([82] ++ P1 ++ P2 ++ P3) := by
    rw [show (⟨#[82]⟩ : ByteArray) = bs [82] from rfl, bs_append, bs_append, bs_append]
  obtain ⟨T3, hT3⟩ : ∃ T, [82] ++ P1 ++ P2 ++ P3 = T := ⟨_, rfl⟩
  obtain ⟨T6, hT6⟩ : ∃ T, [82] ++ P1 ++ P2 ++ P3 ++ P4 ++ P5 ++ P6 = T := ⟨_, rfl⟩
  have X6 : bs T3 ++ bs P4 ++ bs P5 ++ bs P6 = bs T6 := by rw [bs_append, bs_append, bs_append, ← hT3, hT6]
  have X8 : bs T6 ++ bs P7 ++ bs P8 = bs ([82] ++ P1 ++ P2 ++ P3 ++ P4 ++ P5 ++ P6 ++ P7 ++ P8) := by rw [bs_append, bs_append, ← hT6]
  simp only [List.length_append, List.length_cons, List.length_nil] at htl
  have t3 : T3.length + P4.length + P5.length + P6.length + P7.length + P8.length ≤ 110 := by rw [← hT3]; simp only [List.length_append, List.length_cons, List.length_nil]; omega
  have t6 : T6.length + P7.length + P8.length ≤ 110 := by rw [← hT6]; simp only [List.length_append, List.length_cons, List.length_nil]; omega
  have z1 : ¬ (9223372036854775807 < 1 + (bs P1).size) := by rw [bs_size]; omega
  have z2 : ¬ (9223372036854775807 < 1 + (bs P1).size + (bs P2).size) := by rw [bs_size, bs_size]; omega
  have z3 : ¬ (9223372036854775807 < 1 + (bs P1).size + (bs P2).size + (bs P3).size) := by rw [bs_size, bs_size, bs_size]; omega
  have z4 : ¬ (9223372036854775807 < (bs T3).size + (bs P4).size) := by rw [bs_size, bs_size]; omega
  have z5 : ¬ (9223372036854775807 < (bs T3).size + (bs P4).size + (bs P5).size) := by rw [bs_size, bs_size, bs_size]; omega
  have z6 : ¬ (9223372036854775807 < (bs T3).size + (bs P4).size + (bs P5).size + (bs P6).size) := by rw [bs_size, bs_size, bs_size, bs_size]; omega
  have z7 : ¬ (9223372036854775807 < (bs T6).size + (bs P7).size) := by rw [bs_size, bs_size]; omega
  have z8 : ¬ (9223372036854775807 < (bs T6).size + (bs P7).size + (bs P8).size) := by rw [bs_size, bs_size, bs_size]; omega
  obtain ⟨R, hR⟩ : ∃ R, Pl.Seat.sealedS tailU ([82] ++ P1 ++ P2 ++ P3 ++ P4 ++ P5 ++ P6 ++ P7 ++ P8) = R := ⟨_, rfl⟩
  have QS := Lib.hid (fun w => refSealed_at _ R _ w (by simp only [List.length_append, List.length_cons, List.length_nil]; omega) X8 hR)
  rw [hR]
  have HX3 := Lib.hid X3
  have HX6 := Lib.hid X6
  rw [hT3] at HX3
  clear hR X3 X6 X8 hT3 hT6 htl t3 t6
  have D0 := RecAt.new w e q k N O M t u 24
  have q0 := (Below.refl w.heap.size w).alloc (Nat.le_refl _) (.cells #[.int .i64 e, .int .i64 q, .int .i64 k, .string N, .string O, .string M, .int .i64 t, .int .i64 u] 24)
  go_enter Tryz.func79, Tryz.ntmps79
  go_wp2_with fail
  refine (HCK.out _).mono ?_
  rintro x w1 ⟨rfl, hB1⟩
  have q1 := q0.then' hB1 (by simp)
  have D1 := D0.after hB1
  clear q0 D0 hB1
  obtain ⟨c0, c1, c2, c3, c4, c5, c6, c7, c8⟩ := id D1
  go_wp2_with fail
  go_region_held3 (fun w' => w'.cell? ⟨w.heap.size, 0, none⟩ = some (.int .i64 e) ∧ w'.cell? ⟨w.heap.size, 1, none⟩ = some (.int .i64 q) ∧ w'.cell? ⟨w.heap.size, 2, none⟩ = some (.int .i64 k) ∧ Below w.heap.size w w') (first | exact ⟨c0, c1, c2, q1.drew⟩ | assumption | exact KeepA (by assumption) (by assumption)) (first | (go_at_call_of 110 e; refine (Q1.out _).mono ?_; rintro x w2 ⟨rfl, hB2⟩) | (go_at_call_of 110 q; refine (Q2.out _).mono ?_; rintro x w3 ⟨rfl, hB3⟩) | (go_at_call_of 110 k; refine (Q3.out _).mono ?_; rintro x w4 ⟨rfl, hB4⟩))
  rw [HX3.out]
  have q4 := ((q1.drew.then' hB2 (Nat.le_refl _)).then' hB3 (Nat.le_refl _)).then' hB4 (Nat.le_refl _)
  have D4 := (((D1.kept (w' := w1.drew) rfl).after hB2).after hB3).after hB4
  clear q1 D1 hB2 hB3 hB4 c0 c1 c2 c3 c4 c5 c6 c7 c8
  obtain ⟨c0, c1, c2, c3, c4, c5, c6, c7, c8⟩ := id D4
  go_wp2_with fail
  go_region_held3 (fun w' => w'.cell? ⟨w.heap.size, 3, none⟩ = some (.string N) ∧ w'.cell? ⟨w.heap.size, 4, none⟩ = some (.string O) ∧ w'.cell? ⟨w.heap.size, 5, none⟩ = some (.string M) ∧ Below w.heap.size w w') (first | exact ⟨c3, c4, c5, q4.drew⟩ | assumption | exact KeepB (by assumption) (by assumption)) (first | (go_at_call_of 111 N; refine (Q4.out _).mono ?_; rintro x w5 ⟨rfl, hB5⟩) | (go_at_call_of 111 O; refine (Q5.out _).mono ?_; rintro x w6 ⟨rfl, hB6⟩) | (go_at_call_of 111 M; refine (Q6.out _).mono ?_; rintro x w7 ⟨rfl, hB7⟩))
  rw [HX6.out]
  have q7 := ((q4.drew.then' hB5 (Nat.le_refl _)).then' hB6 (Nat.le_refl _)).then' hB7 (Nat.le_refl _)
  have D7 := (((D4.kept (w' := w4.drew) rfl).after hB5).after hB6).after hB7
  clear q4 D4 hB5 hB6 hB7 c0 c1 c2 c3 c4 c5 c6 c7 c8
  obtain ⟨c0, c1, c2, c3, c4, c5, c6, c7, c8⟩ := id D7
  go_wp2_with fail
  go_region_held3 (fun w' => w'.cell? ⟨w.heap.size, 6, none⟩ = some (.int .i64 t) ∧ w'.cell? ⟨w.heap.size, 7, none⟩ = some (.int .i64 u) ∧ Below w.heap.size w w') (first | exact ⟨c6, c7, q7.drew⟩ | assumption | exact Pairs.keep (by assumption) (by assumption)) (first | (go_at_call_of 110 t; refine (Q7.out _).mono ?_; rintro x w8 ⟨rfl, hB8⟩) | (go_at_call_of 110 u; refine (Q8.out _).mono ?_; rintro x w9 ⟨rfl, hB9⟩) | (go_at_call 112; refine (QS.out _).mono ?_; rintro x w10 ⟨rfl, hB10⟩))
  have q10 := ((q7.drew.then' hB8 (Nat.le_refl _)).then' hB9 (Nat.le_refl _)).then' hB10 (Nat.le_refl _)
  go_wp2_with fail
  go_ret
  exact ⟨rfl, q10⟩
theorem refRecPut_any (e q k : Int) (N O M : ByteArray) (t u : Int) (w : World) (hN : N.size ≤ 1048576) :
    Calls Tryz.prog 79 #[.agg #[.int .i64 e, .int .i64 q, .int .i64 k, .string N, .string O, .string M, .int .i64 t, .int .i64 u]] w fun x w' => x = .returned (.string (bs (putRV (rc e q k N O M t u)))) ∧ Below w.heap.size w w' := by
  unfold putRV
  by_cases h : isR (rc e q k N O M t u) = true
  · rw [if_pos h]
    exact refRecPut_ok e q k N O M t u w h
  · rw [if_neg h]
    have h' : isR (rc e q k N O M t u) = false := by simpa using h
    have HCK := Lib.hid (fun w => refRec_at e q k N O M t u false w hN h')
    clear h h'
    go_enter Tryz.func79, Tryz.ntmps79
    go_wp2_with fail
    refine (HCK.out _).mono ?_
    rintro x w1 ⟨rfl, hB1⟩
    have q1 := ((Below.refl w.heap.size w).alloc (Nat.le_refl _) _).then' hB1 (by simp)
    go_wp2_with fail
    go_ret
    exact ⟨rfl, q1⟩
theorem refRecPut_at (e q k : Int) (N O M : ByteArray) (t u : Int) (P : List UInt8) (w : World) (hN : N.size ≤ 1048576) (hP : putRV (rc e q k N O M t u) = P) :
    Calls Tryz.prog 79 #[.agg #[.int .i64 e, .int .i64 q, .int .i64 k, .string N, .string O, .string M, .int .i64 t, .int .i64 u]] w fun x w' => x = .returned (.string (bs P)) ∧ Below w.heap.size w w' := hP ▸ refRecPut_any e q k N O M t u w hN
end Go.Proofs.YtfbakelpplpomaaGreatDoor.WalkSeat
