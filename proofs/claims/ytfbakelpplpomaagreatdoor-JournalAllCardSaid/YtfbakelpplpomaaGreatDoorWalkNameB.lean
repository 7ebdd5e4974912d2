/-
  The walks of the document's Is of a name, hash; entry.Check's within.
-/
import Derived.Test.YtfbakelpplpomaaGreatDoorWalkName
namespace Go.Proofs.YtfbakelpplpomaaGreatDoor.WalkSeat
open Go.RowKit Go.Proofs.YtfbakelpplpomaaGreatDoor.WalkVar Go.Proofs.YtfbakelpplpomaaGreatDoor.WalkScan Go.Proofs.YtfbakelpplpomaaGreatDoor.WalkCrc
open Pl.Seat (numV numR txtV txtR numP txtP Head isH putH openS isName nameByte isHash Rec isR)
set_option linter.unusedVariables false
set_option linter.unusedSimpArgs false
set_option maxRecDepth 100000

theorem refHash_any (s : ByteArray) (w : World) :
    Calls Tryz.prog 108 #[.string s] w fun e w' => e = .returned (.bool (isHash s.data.toList)) ∧ w = w' := by
  have hsl : s.data.toList.length = s.size := by simp
  unfold isHash
  rw [hsl]
  by_cases h0 : s.size = 0
  · have h0i : ((s.size : Int) == 0) = true := by rw [h0]; rfl
    rw [decide_eq_true h0, Bool.true_or]
    go_enter Tryz.func108, Tryz.ntmps108
    go_wp2
    go_ret
    exact ⟨rfl, rfl⟩
  · have h0i : ((s.size : Int) == 0) = false := by rw [beq_eq_false_iff_ne]; omega
    rw [decide_eq_false h0, Bool.false_or]
    by_cases h32 : s.size = 32
    · have h32i : ((s.size : Int) == 32) = true := by simp; omega
      rw [decide_eq_true h32]
      go_enter Tryz.func108, Tryz.ntmps108
      go_wp2
      go_ret
      exact ⟨rfl, rfl⟩
    · have h32i : ((s.size : Int) == 32) = false := by simp; omega
      rw [decide_eq_false h32]
      go_enter Tryz.func108, Tryz.ntmps108
      go_wp2
      go_ret
      exact ⟨rfl, rfl⟩
theorem ewithin_any (n l m : Int) (w : World) :
    Calls Tryz.prog 93 #[.int .i64 n, .int .i64 l, .int .i64 m] w fun e w' => e = .returned (.bool (decide (l ≤ n) && decide (n ≤ m))) ∧ w = w' := by
  by_cases h1 : l ≤ n
  · by_cases h2 : n ≤ m
    · rw [decide_eq_true h1, decide_eq_true h2]
      go_enter Tryz.func93, Tryz.ntmps93
      go_wp2
      go_ret
      exact ⟨rfl, rfl⟩
    · rw [decide_eq_true h1, decide_eq_false h2]
      have h2' : m < n := by omega
      go_enter Tryz.func93, Tryz.ntmps93
      go_wp2
      go_ret
      exact ⟨rfl, rfl⟩
  · rw [decide_eq_false h1]
    have h1' : n < l := by omega
    go_enter Tryz.func93, Tryz.ntmps93
    go_wp2
    go_ret
    exact ⟨rfl, rfl⟩
theorem ewithin_at (n l m : Int) (b : Bool) (w : World) (hb : (decide (l ≤ n) && decide (n ≤ m)) = b) :
    Calls Tryz.prog 93 #[.int .i64 n, .int .i64 l, .int .i64 m] w fun e w' => e = .returned (.bool b) ∧ w = w' := hb ▸ ewithin_any n l m w
theorem nb_cases (n : Nat) : (97 ≤ n ∧ n ≤ 122 ∧ nb n = true) ∨ (122 < n ∧ nb n = false) ∨ (48 ≤ n ∧ n ≤ 57 ∧ nb n = true) ∨ (57 < n ∧ n < 97 ∧ nb n = false) ∨ (n = 45 ∧ nb n = true) ∨ (n < 48 ∧ n ≠ 45 ∧ nb n = false) := by
  unfold nb
  rcases (by omega : (97 ≤ n ∧ n ≤ 122) ∨ 122 < n ∨ (48 ≤ n ∧ n ≤ 57) ∨ (57 < n ∧ n < 97) ∨ n = 45 ∨ (n < 48 ∧ n ≠ 45)) with h | h | h | h | h | h
  · left; refine ⟨h.1, h.2, ?_⟩; simp [h.1, h.2]
  · right; left; refine ⟨h, ?_⟩; simp; omega
  · right; right; left; refine ⟨h.1, h.2, ?_⟩; simp [h.1, h.2]
  · right; right; right; left; refine ⟨h.1, h.2, ?_⟩; simp; omega
  · right; right; right; right; left; subst h; exact ⟨rfl, rfl⟩
  · right; right; right; right; right; refine ⟨h.1, h.2, ?_⟩; simp; omega
set_option maxHeartbeats 6400000 in
theorem refName_any (s : ByteArray) (w : World) (hs : s.size ≤ 1048576) :
    Calls Tryz.prog 107 #[.string s] w fun e w' => e = .returned (.bool (isName s.data.toList)) ∧ w = w' := by
  have hsl : s.data.toList.length = s.size := by simp
  have hgd : ∀ k (h : k < s.size), (s.data.toList.getD k 0) = s[k] := fun k h => by
    rw [List.getD_eq_getElem?_getD, List.getElem?_eq_getElem (by rw [hsl]; exact h)]; rfl
  have HGD := Lib.hid hgd
  have HSL := Lib.hid hsl
  have hn0 : isName s.data.toList = ((decide (1 ≤ s.size) && decide (s.size ≤ 12)) && s.data.toList.all nameByte) := by
    unfold isName
    rw [hsl]
  obtain ⟨R, hR⟩ : ∃ R, isName s.data.toList = R := ⟨_, rfl⟩
  rw [hR] at hn0 ⊢
  have HN0 := Lib.hid hn0
  clear hR hn0 hgd hsl
  go_enter Tryz.func107, Tryz.ntmps107
  go_wp2
  go_loop [3] (fun i => ∃ k : Nat, k ≤ s.size ∧ i = .int .i64 k ∧ Hid (R = ((decide (1 ≤ s.size) && decide (s.size ≤ 12)) && (s.data.toList.drop k).all nameByte))) (fun i => s.size - (intOf i).toNat)
  case atStart => exact ⟨0, by omega, rfl, HN0⟩
  case round =>
    obtain ⟨k, hk, rfl, HE⟩ := hrel
    clear HN0
    by_cases hlt : k < s.size
    · have hki : (k : Int) < (s.size : Int) := by omega
      obtain ⟨C, hC⟩ : ∃ C, s[k].toNat = C := ⟨_, rfl⟩
      have hst := HE.out
      rw [isName_drop _ k (by rw [HSL.out]; exact hlt), HGD.out k hlt, nb_byte, hC] at hst
      have hnc := nb_cases C
      obtain ⟨b, hb⟩ : ∃ b, nb C = b := ⟨_, rfl⟩
      rw [hb] at hst hnc
      clear hb
      have hRf : b = false → R = false := fun h => by rw [hst, h]; simp
      have hRt : b = true → R = ((decide (1 ≤ s.size) && decide (s.size ≤ 12)) && (s.data.toList.drop (k + 1)).all nameByte) := fun h => by rw [hst, h]; simp
      clear hst HE
      rcases hnc with ⟨h1, h2, rfl⟩ | ⟨h1, rfl⟩ | ⟨h1, h2, rfl⟩ | ⟨h1, h2, rfl⟩ | ⟨h1, rfl⟩ | ⟨h1, h2, rfl⟩
      · have HE2 := Lib.hid (hRt rfl)
        have g1 : (97 : Int) ≤ (C : Int) := by omega
        have g2 : (C : Int) ≤ 122 := by omega
        have d1 : decide ((97 : Int) ≤ (C : Int)) = true := by simpa using g1
        have d2 : decide ((C : Int) ≤ 122) = true := by simpa using g2
        clear hRt hRf h1 h2
        go_wp2
        go_round
        case rel => exact ⟨k + 1, by omega, by go_num, HE2⟩
        case measure => simp [intOf]; omega
      · obtain rfl := hRf rfl
        have g1 : (122 : Int) < (C : Int) := by omega
        have d1 : decide ((97 : Int) ≤ (C : Int)) = true := by simp; omega
        have d2 : decide ((C : Int) ≤ 122) = false := by simp; omega
        have d3 : decide ((48 : Int) ≤ (C : Int)) = true := by simp; omega
        have d4 : decide ((C : Int) ≤ 57) = false := by simp; omega
        have d5 : ((C : Int) == 45) = false := by simp; omega
        have d6 : ((C : Int) != 45) = true := by simp; omega
        clear hRt hRf h1
        go_wp2
        go_ret
        exact ⟨rfl, rfl⟩
      · have HE2 := Lib.hid (hRt rfl)
        have g1 : (48 : Int) ≤ (C : Int) := by omega
        have g2 : (C : Int) ≤ 57 := by omega
        have d1 : decide ((97 : Int) ≤ (C : Int)) = false := by simp; omega
        have d3 : decide ((48 : Int) ≤ (C : Int)) = true := by simp; omega
        have d4 : decide ((C : Int) ≤ 57) = true := by simp; omega
        clear hRt hRf h1 h2
        go_wp2
        go_round
        case rel => exact ⟨k + 1, by omega, by go_num, HE2⟩
        case measure => simp [intOf]; omega
      · obtain rfl := hRf rfl
        have g1 : (57 : Int) < (C : Int) := by omega
        have g2 : (C : Int) < 97 := by omega
        have d1 : decide ((97 : Int) ≤ (C : Int)) = false := by simp; omega
        have d3 : decide ((48 : Int) ≤ (C : Int)) = true := by simp; omega
        have d4 : decide ((C : Int) ≤ 57) = false := by simp; omega
        have d5 : ((C : Int) == 45) = false := by simp; omega
        have d6 : ((C : Int) != 45) = true := by simp; omega
        clear hRt hRf h1 h2
        go_wp2
        go_ret
        exact ⟨rfl, rfl⟩
      · have HE2 := Lib.hid (hRt rfl)
        subst h1
        clear hRt hRf
        go_wp2
        go_round
        case rel => exact ⟨k + 1, by omega, by go_num, HE2⟩
        case measure => simp [intOf]; omega
      · obtain rfl := hRf rfl
        have g1 : (C : Int) < 48 := by omega
        have d1 : decide ((97 : Int) ≤ (C : Int)) = false := by simp; omega
        have d3 : decide ((48 : Int) ≤ (C : Int)) = false := by simp; omega
        have d5 : ((C : Int) == 45) = false := by simp; omega
        have d6 : ((C : Int) != 45) = true := by simp; omega
        clear hRt hRf h1 h2
        go_wp2
        go_ret
        exact ⟨rfl, rfl⟩
    · have hke : k = s.size := by omega
      have hRs := HE.out
      rw [List.drop_of_length_le (by rw [HSL.out]; omega)] at hRs
      simp only [List.all_nil, Bool.and_true] at hRs
      have hge : (s.size : Int) ≤ (k : Int) := by omega
      clear HE hlt hke
      by_cases h1 : 1 ≤ s.size
      · have h1i : (1 : Int) ≤ (s.size : Int) := by omega
        by_cases h12 : s.size ≤ 12
        · have h12i : (s.size : Int) ≤ 12 := by omega
          rw [decide_eq_true h1, decide_eq_true h12] at hRs
          simp only [Bool.and_self] at hRs
          subst hRs
          go_wp2
          go_ret
          exact ⟨rfl, rfl⟩
        · have h12i : (12 : Int) < (s.size : Int) := by omega
          have d12 : decide ((s.size : Int) ≤ 12) = false := by simp; omega
          rw [decide_eq_false h12, Bool.and_false] at hRs
          subst hRs
          go_wp2
          go_ret
          refine ⟨?_, rfl⟩
          first
            | rfl
            | (show Ending.returned (Value.bool (decide ((s.size : Int) ≤ 12))) = _
               rw [d12])
      · have h1i : (s.size : Int) < 1 := by omega
        rw [decide_eq_false h1, Bool.false_and] at hRs
        subst hRs
        go_wp2
        go_ret
        exact ⟨rfl, rfl⟩
end Go.Proofs.YtfbakelpplpomaaGreatDoor.WalkSeat
