/-
  The walk of the document's Is of a record.
-/
import Derived.Test.YtalnmhlfjdocfaaDoorWalkEntry
namespace Go.Proofs.YtalnmhlfjdocfaaDoor.WalkSeat
open Go.RowKit Go.Proofs.YtalnmhlfjdocfaaDoor.WalkVar Go.Proofs.YtalnmhlfjdocfaaDoor.WalkScan Go.Proofs.YtalnmhlfjdocfaaDoor.WalkCrc
open Pl.Seat (numV numR txtV txtR numP txtP Head isH putH openS isName nameByte isHash Rec isR)
set_option linter.unusedVariables false
set_option linter.unusedSimpArgs false
set_option maxRecDepth 100000

theorem refName_at (s : ByteArray) (b : Bool) (w : World) (hs : s.size ≤ 1048576) (hb : isName s.data.toList = b) :
    Calls Tryd.prog 86 #[.string s] w fun e w' => e = .returned (.bool b) ∧ w = w' := hb ▸ refName_any s w hs
theorem refHash_at (s : ByteArray) (b : Bool) (w : World) (hb : isHash s.data.toList = b) :
    Calls Tryd.prog 87 #[.string s] w fun e w' => e = .returned (.bool b) ∧ w = w' := hb ▸ refHash_any s w
theorem isE (s : ByteArray) : s.toList.isEmpty = decide (s.size = 0) := by
  rw [ByteArray.toList_eq]
  have h1 : s.data.toList.length = s.size := by simp
  cases h : s.data.toList with
  | nil => have : s.size = 0 := by rw [← h1, h]; rfl
           simp [this]
  | cons c l => have : s.size ≠ 0 := by rw [← h1, h]; simp
                simp [this]
set_option maxHeartbeats 6400000 in
theorem refRec_any (e q k : Int) (N O M : ByteArray) (t u : Int) (w : World) (hN : N.size ≤ 1048576) :
    Calls Tryd.prog 43 #[.agg #[.int .i64 e, .int .i64 q, .int .i64 k, .string N, .string O, .string M, .int .i64 t, .int .i64 u]] w fun x w' => x = .returned (.bool (isR (rc e q k N O M t u))) ∧ Below w.heap.size w w' := by
  have hB : Below w.heap.size w (w.alloc (.cells #[.int .i64 e, .int .i64 q, .int .i64 k, .string N, .string O, .string M, .int .i64 t, .int .i64 u] 66)) := (Below.refl _ _).alloc (Nat.le_refl _) _
  obtain ⟨r, hr⟩ : ∃ r, isR (rc e q k N O M t u) = r := ⟨_, rfl⟩
  rw [hr]
  have hra := isR_and e q k N O M t u
  rw [hr] at hra
  unfold bare2 at hra
  rw [← isE, ← isE] at hra
  obtain ⟨b6, hb6⟩ : ∃ x, isName N.data.toList = x := ⟨_, rfl⟩
  obtain ⟨b7, hb7⟩ : ∃ x, isHash O.data.toList = x := ⟨_, rfl⟩
  obtain ⟨b8, hb8⟩ : ∃ x, isHash M.data.toList = x := ⟨_, rfl⟩
  obtain ⟨o0, ho0⟩ : ∃ x, O.toList.isEmpty = x := ⟨_, rfl⟩
  obtain ⟨m0, hm0⟩ : ∃ x, M.toList.isEmpty = x := ⟨_, rfl⟩
  have W6 := Lib.hid (fun w => refName_at N b6 w hN hb6)
  have W7 := Lib.hid (fun w => refHash_at O b7 w hb7)
  have W8 := Lib.hid (fun w => refHash_at M b8 w hb8)
  rw [hb6, hb7, hb8, ho0, hm0] at hra
  have HRA := Lib.hid hra
  clear hr hra hb6 hb7 hb8
  by_cases g1 : 1 ≤ e
  rotate_left
  · have g1' : e < 1 := by omega
    have hf : r = false := by rw [HRA.out]; simp [g1]
    subst hf
    clear HRA
    go_enter Tryd.func43, Tryd.ntmps43
    go_wp2
    go_ret
    exact ⟨rfl, hB⟩
  by_cases g2 : e ≤ 4294967295
  rotate_left
  · have g2' : 4294967295 < e := by omega
    have hf : r = false := by rw [HRA.out]; simp [g2]
    subst hf
    clear HRA
    go_enter Tryd.func43, Tryd.ntmps43
    go_wp2
    go_ret
    exact ⟨rfl, hB⟩
  by_cases g3 : 0 ≤ q
  rotate_left
  · have g3' : q < 0 := by omega
    have hf : r = false := by rw [HRA.out]; simp [g3]
    subst hf
    clear HRA
    go_enter Tryd.func43, Tryd.ntmps43
    go_wp2
    go_ret
    exact ⟨rfl, hB⟩
  by_cases g4 : q ≤ 4095
  rotate_left
  · have g4' : 4095 < q := by omega
    have hf : r = false := by rw [HRA.out]; simp [g4]
    subst hf
    clear HRA
    go_enter Tryd.func43, Tryd.ntmps43
    go_wp2
    go_ret
    exact ⟨rfl, hB⟩
  by_cases g5 : 1 ≤ k
  rotate_left
  · have g5' : k < 1 := by omega
    have hf : r = false := by rw [HRA.out]; simp [g5]
    subst hf
    clear HRA
    go_enter Tryd.func43, Tryd.ntmps43
    go_wp2
    go_ret
    exact ⟨rfl, hB⟩
  by_cases g6 : k ≤ 2
  rotate_left
  · have g6' : 2 < k := by omega
    have hf : r = false := by rw [HRA.out]; simp [g6]
    subst hf
    clear HRA
    go_enter Tryd.func43, Tryd.ntmps43
    go_wp2
    go_ret
    exact ⟨rfl, hB⟩
  cases b6
  · have hf : r = false := by rw [HRA.out]; simp
    subst hf
    clear HRA
    go_enter Tryd.func43, Tryd.ntmps43
    go_wp2_with fail
    refine (W6.out _).mono ?_
    rintro x w1 ⟨rfl, rfl⟩
    go_wp2_with fail
    go_ret
    exact ⟨rfl, hB⟩
  cases b7
  · have hf : r = false := by rw [HRA.out]; simp
    subst hf
    clear HRA
    go_enter Tryd.func43, Tryd.ntmps43
    go_wp2_with fail
    refine (W6.out _).mono ?_
    rintro x w1 ⟨rfl, rfl⟩
    go_wp2_with fail
    refine (W7.out _).mono ?_
    rintro x w1 ⟨rfl, rfl⟩
    go_wp2_with fail
    go_ret
    exact ⟨rfl, hB⟩
  cases b8
  · have hf : r = false := by rw [HRA.out]; simp
    subst hf
    clear HRA
    go_enter Tryd.func43, Tryd.ntmps43
    go_wp2_with fail
    refine (W6.out _).mono ?_
    rintro x w1 ⟨rfl, rfl⟩
    go_wp2_with fail
    refine (W7.out _).mono ?_
    rintro x w1 ⟨rfl, rfl⟩
    go_wp2_with fail
    refine (W8.out _).mono ?_
    rintro x w1 ⟨rfl, rfl⟩
    go_wp2_with fail
    go_ret
    exact ⟨rfl, hB⟩
  cases o0
  rotate_left
  cases m0
  rotate_left
  · have hf : r = false := by rw [HRA.out]; simp
    subst hf
    clear HRA
    go_enter Tryd.func43, Tryd.ntmps43
    go_wp2_with fail
    refine (W6.out _).mono ?_
    rintro x w1 ⟨rfl, rfl⟩
    go_wp2_with fail
    refine (W7.out _).mono ?_
    rintro x w1 ⟨rfl, rfl⟩
    go_wp2_with fail
    refine (W8.out _).mono ?_
    rintro x w1 ⟨rfl, rfl⟩
    go_wp2_with fail
    go_ret
    exact ⟨rfl, hB⟩
  all_goals
    have hx : (0 ≤ t ∧ t ≤ 524288 ∧ 1 ≤ u ∧ u ≤ 4294967296 ∧ r = true) ∨ (t < 0 ∧ r = false) ∨ (0 ≤ t ∧ 524288 < t ∧ r = false) ∨ (0 ≤ t ∧ t ≤ 524288 ∧ u < 1 ∧ r = false) ∨ (0 ≤ t ∧ t ≤ 524288 ∧ 1 ≤ u ∧ 4294967296 < u ∧ r = false) := by
      have h := HRA.out
      rcases (by omega : (0 ≤ t ∧ t ≤ 524288 ∧ 1 ≤ u ∧ u ≤ 4294967296) ∨ t < 0 ∨ (0 ≤ t ∧ 524288 < t) ∨ (0 ≤ t ∧ t ≤ 524288 ∧ u < 1) ∨ (0 ≤ t ∧ t ≤ 524288 ∧ 1 ≤ u ∧ 4294967296 < u)) with y | y | y | y | y
      · left; exact ⟨y.1, y.2.1, y.2.2.1, y.2.2.2, by rw [h]; simp [g1, g2, g3, g4, g5, g6, y.1, y.2.1, y.2.2.1, y.2.2.2]⟩
      · right; left; exact ⟨y, by rw [h]; simp [show ¬ 0 ≤ t by omega]⟩
      · right; right; left; exact ⟨y.1, y.2, by rw [h]; simp [show ¬ t ≤ 524288 by omega]⟩
      · right; right; right; left; exact ⟨y.1, y.2.1, y.2.2, by rw [h]; simp [show ¬ 1 ≤ u by omega]⟩
      · right; right; right; right; exact ⟨y.1, y.2.1, y.2.2.1, y.2.2.2, by rw [h]; simp [show ¬ u ≤ 4294967296 by omega]⟩
    clear HRA
    have du : u ≤ 4294967296 ∨ decide (u ≤ 4294967296) = false := by
      by_cases y : u ≤ 4294967296
      · exact .inl y
      · exact .inr (by simpa using y)
    rcases hx with ⟨y1, y2, y3, y4, rfl⟩ | ⟨y1, rfl⟩ | ⟨y1, y2, rfl⟩ | ⟨y1, y2, y3, rfl⟩ | ⟨y1, y2, y3, y4, rfl⟩
    all_goals
      go_enter Tryd.func43, Tryd.ntmps43
      go_wp2_with fail
      refine (W6.out _).mono ?_
      rintro x w1 ⟨rfl, rfl⟩
      go_wp2_with fail
      refine (W7.out _).mono ?_
      rintro x w1 ⟨rfl, rfl⟩
      go_wp2_with fail
      refine (W8.out _).mono ?_
      rintro x w1 ⟨rfl, rfl⟩
      go_wp2_with fail
      go_ret
      first
        | exact ⟨rfl, hB⟩
        | (refine ⟨?_, hB⟩
           have hd : decide (u ≤ 4294967296) = false := by simp; omega
           show Ending.returned (Value.bool (decide (u ≤ 4294967296))) = _
           rw [hd])
theorem refRec_at (e q k : Int) (N O M : ByteArray) (t u : Int) (r : Bool) (w : World) (hN : N.size ≤ 1048576) (hr : isR (rc e q k N O M t u) = r) :
    Calls Tryd.prog 43 #[.agg #[.int .i64 e, .int .i64 q, .int .i64 k, .string N, .string O, .string M, .int .i64 t, .int .i64 u]] w fun x w' => x = .returned (.bool r) ∧ Below w.heap.size w w' := hr ▸ refRec_any e q k N O M t u w hN
end Go.Proofs.YtalnmhlfjdocfaaDoor.WalkSeat
