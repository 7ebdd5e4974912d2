/-
  The walks of the seat: Check, Full, Bare, Put; plain.Noughts, Full.
-/
import Derived.Test.YtalnmhlfjdocfaaDoorWalkScanB
import Derived.Test.YtalnmhlfjdocfaaDoorWalkCrcB
import Derived.Deep.RegionHeld3
import Derived.Lib.ConvBytes
import Derived.Test.YtalnmhlfjdocfaaDoorShelf
import Derived.Deep.OwnRows
namespace Go.Proofs.YtalnmhlfjdocfaaDoor.WalkSeat
open Go.RowKit Go.Proofs.YtalnmhlfjdocfaaDoor.WalkVar Go.Proofs.YtalnmhlfjdocfaaDoor.WalkScan Go.Proofs.YtalnmhlfjdocfaaDoor.WalkCrc
open Pl.Seat (numV numR txtV txtR numP txtP Head isH)
set_option linter.unusedVariables false
set_option linter.unusedSimpArgs false
set_option maxRecDepth 100000

theorem within_any (n l m : Int) (w : World) :
    Calls Tryd.prog 85 #[.int .i64 n, .int .i64 l, .int .i64 m] w fun e w' => e = .returned (.bool (decide (l ≤ n) && decide (n ≤ m))) ∧ w = w' := by
  by_cases h1 : l ≤ n
  · by_cases h2 : n ≤ m
    · rw [decide_eq_true h1, decide_eq_true h2]
      go_enter Tryd.func85, Tryd.ntmps85
      go_wp2
      go_ret
      exact ⟨rfl, rfl⟩
    · rw [decide_eq_true h1, decide_eq_false h2]
      have h2' : m < n := by omega
      go_enter Tryd.func85, Tryd.ntmps85
      go_wp2
      go_ret
      exact ⟨rfl, rfl⟩
  · rw [decide_eq_false h1]
    have h1' : n < l := by omega
    go_enter Tryd.func85, Tryd.ntmps85
    go_wp2
    go_ret
    exact ⟨rfl, rfl⟩
theorem within_at (n l m : Int) (b : Bool) (w : World) (hb : (decide (l ≤ n) && decide (n ≤ m)) = b) :
    Calls Tryd.prog 85 #[.int .i64 n, .int .i64 l, .int .i64 m] w fun e w' => e = .returned (.bool b) ∧ w = w' := hb ▸ within_any n l m w
theorem isH_and (h : Head) : isH h = ((((decide (1 ≤ h.epoch) && decide (h.epoch ≤ 4294967295)) && (decide (0 ≤ h.half) && decide (h.half ≤ 1))) && (decide (0 ≤ h.pack) && decide (h.pack ≤ 524288))) && (decide (1 ≤ h.num) && decide (h.num ≤ 4294967296))) := by
  unfold isH
  simp only [Bool.and_assoc]
/-- what a check answers -/
def arg (b : Bool) : Int := if b then 0 else 2

set_option maxHeartbeats 3200000 in
theorem check_any (a b c d : Int) (w : World) :
    Calls Tryd.prog 38 #[.agg #[.int .i64 a, .int .i64 b, .int .i64 c, .int .i64 d]] w fun e w' => e = .returned (.int .i64 (arg (isH ⟨a, b, c, d⟩))) ∧ Below w.heap.size w w' := by
  rw [isH_and]
  simp only
  obtain ⟨b1, hb1⟩ : ∃ x, (decide (1 ≤ a) && decide (a ≤ 4294967295)) = x := ⟨_, rfl⟩
  obtain ⟨b2, hb2⟩ : ∃ x, (decide (0 ≤ b) && decide (b ≤ 1)) = x := ⟨_, rfl⟩
  obtain ⟨b3, hb3⟩ : ∃ x, (decide (0 ≤ c) && decide (c ≤ 524288)) = x := ⟨_, rfl⟩
  obtain ⟨b4, hb4⟩ : ∃ x, (decide (1 ≤ d) && decide (d ≤ 4294967296)) = x := ⟨_, rfl⟩
  rw [hb1, hb2, hb3, hb4]
  have W1 := Lib.hid (fun w => within_at a 1 4294967295 b1 w hb1)
  have W2 := Lib.hid (fun w => within_at b 0 1 b2 w hb2)
  have W3 := Lib.hid (fun w => within_at c 0 524288 b3 w hb3)
  have W4 := Lib.hid (fun w => within_at d 1 4294967296 b4 w hb4)
  clear hb1 hb2 hb3 hb4
  have hB : Below w.heap.size w (w.alloc (.cells #[.int .i64 a, .int .i64 b, .int .i64 c, .int .i64 d] 41)) := (Below.refl _ _).alloc (Nat.le_refl _) _
  have Z : ∀ x y : Bool, (false && x && y) = false := by decide
  rcases b1 with _ | _
  · simp only [Bool.false_and]
    go_enter Tryd.func38, Tryd.ntmps38
    go_wp2_with fail
    refine (W1.out _).mono ?_
    rintro e w1 ⟨rfl, rfl⟩
    go_wp2_with fail
    go_ret
    exact ⟨rfl, hB⟩
  rcases b2 with _ | _
  · simp only [Bool.false_and, Bool.true_and]
    go_enter Tryd.func38, Tryd.ntmps38
    go_wp2_with fail
    refine (W1.out _).mono ?_
    rintro e w1 ⟨rfl, rfl⟩
    go_wp2_with fail
    refine (W2.out _).mono ?_
    rintro e w1 ⟨rfl, rfl⟩
    go_wp2_with fail
    go_ret
    exact ⟨rfl, hB⟩
  rcases b3 with _ | _
  · simp only [Bool.false_and, Bool.true_and]
    go_enter Tryd.func38, Tryd.ntmps38
    go_wp2_with fail
    refine (W1.out _).mono ?_
    rintro e w1 ⟨rfl, rfl⟩
    go_wp2_with fail
    refine (W2.out _).mono ?_
    rintro e w1 ⟨rfl, rfl⟩
    go_wp2_with fail
    refine (W3.out _).mono ?_
    rintro e w1 ⟨rfl, rfl⟩
    go_wp2_with fail
    go_ret
    exact ⟨rfl, hB⟩
  simp only [Bool.true_and]
  cases b4
  all_goals
    go_enter Tryd.func38, Tryd.ntmps38
    go_wp2_with fail
    refine (W1.out _).mono ?_
    rintro e w1 ⟨rfl, rfl⟩
    go_wp2_with fail
    refine (W2.out _).mono ?_
    rintro e w1 ⟨rfl, rfl⟩
    go_wp2_with fail
    refine (W3.out _).mono ?_
    rintro e w1 ⟨rfl, rfl⟩
    go_wp2_with fail
    refine (W4.out _).mono ?_
    rintro e w1 ⟨rfl, rfl⟩
    go_wp2_with fail
    go_ret
    exact ⟨rfl, hB⟩

theorem dropWhile_nil (p : UInt8 → Bool) (l : List UInt8) (h : ∀ x ∈ l.dropWhile p, p x = true) : l.dropWhile p = [] := by
  induction l with
  | nil => rfl
  | cons c l ih =>
    by_cases hc : p c = true
    · rw [List.dropWhile_cons_of_pos hc] at h ⊢
      exact ih h
    · rw [List.dropWhile_cons_of_neg hc] at h
      exact absurd (h c (by simp)) hc
theorem dropWhile_all (p : UInt8 → Bool) (l : List UInt8) : l.dropWhile p = [] ↔ ∀ x ∈ l, p x = true := by
  induction l with
  | nil => simp
  | cons c l ih =>
    by_cases hc : p c = true
    · rw [List.dropWhile_cons_of_pos hc, ih]; simp [hc]
    · rw [List.dropWhile_cons_of_neg hc]; simp [hc]
theorem trim_nil (l : List UInt8) : Lib.trimB l 0 = [] ↔ l.all (· == 0) = true := by
  unfold Lib.trimB Lib.trimLeftB Lib.trimRightB
  rw [dropWhile_all]
  constructor
  · intro h
    have h2 : l.reverse.dropWhile (· == 0) = [] := dropWhile_nil _ _ fun x hx => h x (by simpa using hx)
    rw [dropWhile_all] at h2
    rw [List.all_eq_true]
    intro x hx
    exact h2 x (by simpa using hx)
  · intro h
    rw [List.all_eq_true] at h
    have h2 : l.reverse.dropWhile (· == 0) = [] := (dropWhile_all _ _).2 fun x hx => h x (by simpa using hx)
    rw [h2]
    simp
theorem trim_at (q t : List UInt8) (w : World) (hq : q.length ≤ 1048576) (ht : Lib.trimB q 0 = t) :
    Calls Tryd.prog 77 #[.string (bs q), .string ⟨#[0]⟩] w fun e w' => e = .returned (.string (bs t)) ∧ Below w.heap.size w w' := by
  have := Tryd.strings_Trim_one (bs q) 0 (by decide) w (by rw [bs_size]; omega)
  rw [bs_list, ht] at this
  exact this.mono fun e w' ⟨h1, h2⟩ => ⟨h1, by rcases h2 with rfl | rfl; exact Below.refl _ _; exact (Below.refl _ _).drew⟩
/-- n noughts -/
def zeros (n : Nat) : List UInt8 := List.replicate n 0
theorem repeat_any (n : Nat) (w : World) (hn : n ≤ 4096) :
    Calls Tryd.prog 79 #[.string ⟨#[0]⟩, .int .i64 n] w fun e w' => e = .returned (.string (bs (zeros n))) ∧ Below w.heap.size w w' := by
  have h1 : (⟨#[0]⟩ : ByteArray).size = 1 := rfl
  have := Tryd.strings_Repeat ⟨#[0]⟩ n w (by omega) (by rw [h1]; omega)
  have e : (Lib.repeatL (⟨#[0]⟩ : ByteArray).data.toList n) = zeros n := by
    have h2 := Lib.repeatL_replicate 0 1 n
    rw [Nat.mul_one] at h2
    exact h2
  rw [e] at this
  exact this
end Go.Proofs.YtalnmhlfjdocfaaDoor.WalkSeat
