/-
  The walks of the seat's Slot, Next, Choose.
-/
import Derived.Test.YtalnmhlfjdocfaaDoorWalkSeatC
namespace Go.Proofs.YtalnmhlfjdocfaaDoor.WalkSeat
open Go.RowKit Go.Proofs.YtalnmhlfjdocfaaDoor.WalkVar Go.Proofs.YtalnmhlfjdocfaaDoor.WalkScan Go.Proofs.YtalnmhlfjdocfaaDoor.WalkCrc
open Pl.Seat (numV numR txtV txtR numP txtP Head isH putH openS)
set_option linter.unusedVariables false
set_option linter.unusedSimpArgs false
set_option maxRecDepth 100000

theorem i64_and1 (n : Int) : bits .and .i64 n 1 = n % 2 := by
  have h1 : (BitVec.ofInt 64 1).toNat = 2 ^ 1 - 1 := by decide
  have key : (BitVec.ofInt 64 n &&& BitVec.ofInt 64 1).toNat = (n % ((2 ^ 64 : Nat) : Int)).toNat % 2 ^ 1 := by
    rw [BitVec.toNat_and, BitVec.toNat_ofInt, h1, Nat.and_two_pow_sub_one_eq_mod]
  show IntKind.i64.wrap ((BitVec.ofInt 64 n &&& BitVec.ofInt 64 1).toNat : Nat) = n % 2
  rw [key, IntKind.wrap_i64]
  omega
theorem slot_any (n : Int) (w : World) :
    Calls Tryd.prog 39 #[.int .i64 n] w fun e w' => e = .returned (.int .i64 (n % 2)) ∧ w = w' := by
  have h2 := i64_and1 n
  go_enter Tryd.func39, Tryd.ntmps39
  go_wp2
  go_ret
  exact ⟨rfl, rfl⟩
theorem slot_at (n r : Int) (w : World) (hr : n % 2 = r) :
    Calls Tryd.prog 39 #[.int .i64 n] w fun e w' => e = .returned (.int .i64 r) ∧ w = w' := hr ▸ slot_any n w

/-- the next head, and what is answered -/
def nextV (h : Head) (pack num : Int) : Head × Int :=
  if isH h = true then
    if h.epoch = 4294967295 then (Pl.Seat.Head.zero, 5)
    else if isH ⟨h.epoch + 1, 1 - h.half, pack, num⟩ = true then (⟨h.epoch + 1, 1 - h.half, pack, num⟩, 0) else (Pl.Seat.Head.zero, 2)
  else (Pl.Seat.Head.zero, 2)
/-- behind a call: an argument's block, and the result's -/
theorem two_heads {w w1 : World} {a b c d : Int}
    (hB : Below ((w.alloc (.cells #[.int .i64 a, .int .i64 b, .int .i64 c, .int .i64 d] 41)).alloc (.cells #[.int .i64 0, .int .i64 0, .int .i64 0, .int .i64 0] 41)).heap.size ((w.alloc (.cells #[.int .i64 a, .int .i64 b, .int .i64 c, .int .i64 d] 41)).alloc (.cells #[.int .i64 0, .int .i64 0, .int .i64 0, .int .i64 0] 41)) w1) :
    (w1.cell? ⟨w.heap.size, 0, none⟩ = some (.int .i64 a) ∧ w1.cell? ⟨w.heap.size, 1, none⟩ = some (.int .i64 b) ∧ w1.cell? ⟨w.heap.size, 2, none⟩ = some (.int .i64 c) ∧ w1.cell? ⟨w.heap.size, 3, none⟩ = some (.int .i64 d)) ∧ Cell4 (w.heap.size + 1) w1 ∧ Below w.heap.size w w1 := by
  have h0 : ∀ o, w1.cell? ⟨w.heap.size, o, none⟩ = _ := fun o => World.cell?_of_block (hB.block w.heap.size (by simp; omega))
  have C := (Cell4.new (w.alloc (.cells #[.int .i64 a, .int .i64 b, .int .i64 c, .int .i64 d] 41)) (.int .i64 0) (.int .i64 0) (.int .i64 0) (.int .i64 0) 41).after hB
  have e : (w.alloc (.cells #[.int .i64 a, .int .i64 b, .int .i64 c, .int .i64 d] 41)).heap.size = w.heap.size + 1 := by simp
  rw [e] at C
  exact ⟨⟨by rw [h0]; go_simp, by rw [h0]; go_simp, by rw [h0]; go_simp, by rw [h0]; go_simp⟩, C, (((Below.refl _ _).alloc (Nat.le_refl _) _).alloc (by simp) _).trans (hB.mono (by simp; omega))⟩
set_option maxHeartbeats 3200000 in
theorem next_any (a b c d pack num : Int) (R : Head) (n : Int) (w : World) (hR : nextV ⟨a, b, c, d⟩ pack num = (R, n)) :
    Calls Tryd.prog 34 #[.agg #[.int .i64 a, .int .i64 b, .int .i64 c, .int .i64 d], .int .i64 pack, .int .i64 num] w fun e w' => e = .returned (.tuple #[.agg #[.int .i64 R.epoch, .int .i64 R.half, .int .i64 R.pack, .int .i64 R.num], .int .i64 n]) ∧ Below w.heap.size w w' := by
  unfold nextV at hR
  simp only at hR
  by_cases h : isH ⟨a, b, c, d⟩ = true
  · rw [if_pos h] at hR
    obtain ⟨g1, g2, g3, g4, g5, g6, g7, g8⟩ := (Pl.Seat.isH_iff _).1 h
    simp only at g1 g2 g3 g4 g5 g6 g7 g8
    have HCK := Lib.hid (fun w => check_at a b c d 0 w (by rw [h]; rfl))
    by_cases hE : a = 4294967295
    · rw [if_pos hE] at hR
      simp only [Prod.mk.injEq] at hR
      obtain ⟨rfl, rfl⟩ := hR
      subst hE
      clear h
      go_enter Tryd.func34, Tryd.ntmps34
      go_wp2_with fail
      refine (HCK.out _).mono ?_
      rintro e w1 ⟨rfl, hB1⟩
      obtain ⟨⟨c0, c1, c2, c3⟩, C1, q1⟩ := two_heads hB1
      obtain ⟨k0, k1, k2, k3, x0, x1, x2, x3, y0, y1, y2, y3⟩ := C1.stored
      have y4 := C1.2
      clear hB1
      go_wp2_with fail
      refine bodyPost_ret (by simp [results, Tryd.results34, k0, k1, k2, k3, go_sem]; try rfl) rfl ?_
      exact ⟨rfl, below_four q1 (Nat.le_succ _) _ _ _ _⟩
    · rw [if_neg hE] at hR
      have hEi : a < 4294967295 := by omega
      obtain ⟨r, hr⟩ : ∃ r, isH ⟨a + 1, 1 - b, pack, num⟩ = r := ⟨_, rfl⟩
      have HC2 := Lib.hid (fun w => check_at (a + 1) (1 - b) pack num (arg r) w (by rw [hr]))
      rw [hr] at hR
      clear h hr hE
      go_enter Tryd.func34, Tryd.ntmps34
      go_wp2_with fail
      refine (HCK.out _).mono ?_
      rintro e w1 ⟨rfl, hB1⟩
      obtain ⟨⟨c0, c1, c2, c3⟩, C1, q1⟩ := two_heads hB1
      clear hB1
      go_wp2_with fail
      refine (HC2.out _).mono ?_
      rintro e w2 ⟨rfl, hB2⟩
      have q2 := (q1.alloc q1.size (.cells #[.int .i64 (a + 1), .int .i64 (1 - b), .int .i64 pack, .int .i64 num] 41)).trans (hB2.mono (by have := q1.size; simp; omega))
      have C2 := (C1.alloc (.cells #[.int .i64 (a + 1), .int .i64 (1 - b), .int .i64 pack, .int .i64 num] 41)).after hB2
      have S2 := Four.keep (Four.new w1 (a + 1) (1 - b) pack num 41) hB2
      obtain ⟨d0, d1, d2, d3, _⟩ := S2
      have hd : w1.heap.size ≠ w.heap.size + 1 := by have := C1.lt; omega
      generalize w1.heap.size = hb at d0 d1 d2 d3 hd ⊢
      obtain ⟨k0, k1, k2, k3, x0, x1, x2, x3, y0, y1, y2, y3⟩ := C2.stored
      have y4 := C2.2
      clear hB2 C1 q1 c0 c1 c2 c3
      cases r
      · simp only [arg]
        simp only [Bool.false_eq_true, if_false, Prod.mk.injEq] at hR
        obtain ⟨rfl, rfl⟩ := hR
        go_wp2_with fail
        refine bodyPost_ret (by simp [results, Tryd.results34, k0, k1, k2, k3, go_sem]; try rfl) rfl ?_
        exact ⟨rfl, below_four q2 (Nat.le_succ _) _ _ _ _⟩
      · simp only [arg]
        simp only [if_true, Prod.mk.injEq] at hR
        obtain ⟨rfl, rfl⟩ := hR
        go_wp2_with fail
        refine bodyPost_ret (by simp [results, Tryd.results34, k0, k1, k2, k3, go_sem]; try rfl) rfl ?_
        exact ⟨rfl, below_four q2 (Nat.le_succ _) _ _ _ _⟩
  · rw [if_neg h] at hR
    simp only [Prod.mk.injEq] at hR
    obtain ⟨rfl, rfl⟩ := hR
    have h' : isH ⟨a, b, c, d⟩ = false := by simpa using h
    have HCK := Lib.hid (fun w => check_at a b c d 2 w (by rw [h']; rfl))
    clear h h'
    go_enter Tryd.func34, Tryd.ntmps34
    go_wp2_with fail
    refine (HCK.out _).mono ?_
    rintro e w1 ⟨rfl, hB1⟩
    obtain ⟨⟨c0, c1, c2, c3⟩, C1, q1⟩ := two_heads hB1
    obtain ⟨k0, k1, k2, k3, x0, x1, x2, x3, y0, y1, y2, y3⟩ := C1.stored
    have y4 := C1.2
    clear hB1
    go_wp2_with fail
    refine bodyPost_ret (by simp [results, Tryd.results34, k0, k1, k2, k3, go_sem]; try rfl) rfl ?_
    exact ⟨rfl, below_four q1 (Nat.le_succ _) _ _ _ _⟩
end Go.Proofs.YtalnmhlfjdocfaaDoor.WalkSeat
