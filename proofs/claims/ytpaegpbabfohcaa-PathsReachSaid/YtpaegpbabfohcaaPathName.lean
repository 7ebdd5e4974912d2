/-
  Names: name.Check, and the document's Is of a name.
-/
import Derived.Test.YtpaegpbabfohcaaProg
import Derived.WalkKit
import Derived.KernelRfl
import Derived.Lib.Hide
import Derived.Deep.QuietTactic
import Derived.BigQuiet
import Derived.IntWalk
namespace Go.Proofs.Ytpaegpbabfohcaa.Paths
open Go.RowKit
set_option linter.unusedVariables false
set_option linter.unusedSimpArgs false
set_option maxRecDepth 100000

def nameByte (c : UInt8) : Bool := (decide (97 ≤ c.toNat) && decide (c.toNat ≤ 122)) || (decide (48 ≤ c.toNat) && decide (c.toNat ≤ 57)) || decide (c.toNat = 45)
def isName (s : List UInt8) : Bool := decide (1 ≤ s.length) && decide (s.length ≤ 12) && s.all nameByte
def arg (b : Bool) : Int := if b then 0 else 2
theorem bs_toList (l : List UInt8) : (⟨l.toArray⟩ : ByteArray).toList = l := by
  rw [ByteArray.toList_eq]
/-- may a byte stand in a name? -/
def nb (n : Nat) : Bool := (decide (97 ≤ n) && decide (n ≤ 122)) || (decide (48 ≤ n) && decide (n ≤ 57)) || decide (n = 45)
theorem nb_byte (c : UInt8) : nameByte c = nb c.toNat := rfl
theorem fits_any (n : Nat) (w : World) (hn : n < 256) :
    Calls Try.prog 104 #[.int .u8 n] w fun e w' => e = .returned (.bool (nb n)) ∧ w = w' := by
  have hc : (97 ≤ n ∧ n ≤ 122 ∧ nb n = true) ∨ (122 < n ∧ nb n = false) ∨ (48 ≤ n ∧ n ≤ 57 ∧ nb n = true) ∨ (57 < n ∧ n < 97 ∧ nb n = false) ∨ (n = 45 ∧ nb n = true) ∨ (n < 48 ∧ n ≠ 45 ∧ nb n = false) := by
    unfold nb
    rcases (by omega : (97 ≤ n ∧ n ≤ 122) ∨ 122 < n ∨ (48 ≤ n ∧ n ≤ 57) ∨ (57 < n ∧ n < 97) ∨ n = 45 ∨ (n < 48 ∧ n ≠ 45)) with h | h | h | h | h | h
    · left; refine ⟨h.1, h.2, ?_⟩; simp [h.1, h.2]
    · right; left; refine ⟨h, ?_⟩; simp; omega
    · right; right; left; refine ⟨h.1, h.2, ?_⟩; simp [h.1, h.2]
    · right; right; right; left; refine ⟨h.1, h.2, ?_⟩; simp; omega
    · right; right; right; right; left; subst h; exact ⟨rfl, rfl⟩
    · right; right; right; right; right; refine ⟨h.1, h.2, ?_⟩; simp; omega
  obtain ⟨B, hB⟩ : ∃ B, nb n = B := ⟨_, rfl⟩
  rw [hB] at hc ⊢
  clear hB
  rcases hc with ⟨h1, h2, rfl⟩ | ⟨h1, rfl⟩ | ⟨h1, h2, rfl⟩ | ⟨h1, h2, rfl⟩ | ⟨h1, rfl⟩ | ⟨h1, h2, rfl⟩
  · have g1 : (97 : Int) ≤ (n : Int) := by omega
    have g2 : (n : Int) ≤ 122 := by omega
    clear h1 h2
    go_enter Try.func104, Try.ntmps104
    go_wp2
    go_ret
    exact ⟨rfl, rfl⟩
  · have g1 : (122 : Int) < (n : Int) := by omega
    have g2 : ((n : Int) == 45) = false := by simp; omega
    have d1 : decide ((n : Int) ≤ 122) = false := by simp; omega
    have d2 : decide ((n : Int) ≤ 57) = false := by simp; omega
    clear h1
    go_enter Try.func104, Try.ntmps104
    go_wp2
    go_ret
    refine ⟨?_, rfl⟩
    first
      | rfl
      | (show Ending.returned (Value.bool (decide ((n : Int) ≤ 122) || decide ((n : Int) ≤ 57))) = _
         rw [d1, d2]; rfl)
  · have g1 : (48 : Int) ≤ (n : Int) := by omega
    have g2 : (n : Int) ≤ 57 := by omega
    clear h1 h2
    go_enter Try.func104, Try.ntmps104
    go_wp2
    go_ret
    exact ⟨rfl, rfl⟩
  · have g1 : (57 : Int) < (n : Int) := by omega
    have g2 : (n : Int) < 97 := by omega
    have g3 : ((n : Int) == 45) = false := by simp; omega
    have d2 : decide ((n : Int) ≤ 57) = false := by simp; omega
    clear h1 h2
    go_enter Try.func104, Try.ntmps104
    go_wp2
    go_ret
    refine ⟨?_, rfl⟩
    first
      | rfl
      | (show Ending.returned (Value.bool (decide ((n : Int) ≤ 57))) = _
         rw [d2])
  · subst h1
    go_enter Try.func104, Try.ntmps104
    go_wp2
    go_ret
    exact ⟨rfl, rfl⟩
  · have g1 : (n : Int) < 48 := by omega
    have g3 : ((n : Int) == 45) = false := by simp; omega
    clear h1 h2
    go_enter Try.func104, Try.ntmps104
    go_wp2
    go_ret
    exact ⟨rfl, rfl⟩
theorem fits_at (n : Nat) (b : Bool) (w : World) (hn : n < 256) (hb : nb n = b) :
    Calls Try.prog 104 #[.int .u8 n] w fun e w' => e = .returned (.bool b) ∧ w = w' := hb ▸ fits_any n w hn
theorem isName_drop (l : List UInt8) (k : Nat) (h : k < l.length) : (l.drop k).all nameByte = (nameByte (l.getD k 0) && (l.drop (k + 1)).all nameByte) := by
  rw [List.drop_eq_getElem_cons h, List.all_cons]
  simp [List.getD_eq_getElem?_getD, h]
set_option maxHeartbeats 3200000 in
theorem nameCheck_any (s : ByteArray) (w : World) :
    Calls Try.prog 93 #[.string s] w fun e w' => e = .returned (.int .i64 (arg (isName s.data.toList))) ∧ w = w' := by
  have hsl : s.data.toList.length = s.size := by simp
  by_cases h0 : s.size = 0
  · have he : s = ByteArray.empty := by
      apply ByteArray.ext
      apply Array.ext'
      have : s.data.toList = [] := List.eq_nil_of_length_eq_zero (by omega)
      rw [this]; rfl
    subst he
    have hn : isName ByteArray.empty.data.toList = false := rfl
    rw [hn]
    go_enter Try.func93, Try.ntmps93
    go_wp2
    go_ret
    exact ⟨rfl, rfl⟩
  · have hemp : s.toList.isEmpty = false := by
      rw [ByteArray.toList_eq]
      cases hq : s.data.toList with
      | nil => rw [hq] at hsl; simp at hsl; omega
      | cons c l => rfl
    have hemp2 : (s.toList == (⟨#[]⟩ : ByteArray).toList) = false := by
      rw [show (⟨#[]⟩ : ByteArray).toList = [] from bs_toList []]
      cases hq : s.toList with
      | nil => rw [hq] at hemp; simp at hemp
      | cons c l => rfl
    by_cases h12 : s.size ≤ 12
    · have h12i : (s.size : Int) ≤ 12 := by omega
      have hgd : ∀ k (h : k < s.size), (s.data.toList.getD k 0) = s[k] := fun k h => by
        rw [List.getD_eq_getElem?_getD, List.getElem?_eq_getElem (by rw [hsl]; exact h)]; rfl
      have HGD := Lib.hid hgd
      have HSL := Lib.hid hsl
      have hn0 : isName s.data.toList = s.data.toList.all nameByte := by
        unfold isName
        rw [hsl, decide_eq_true (by omega), decide_eq_true h12]; rfl
      obtain ⟨R, hR⟩ : ∃ R, isName s.data.toList = R := ⟨_, rfl⟩
      rw [hR] at hn0 ⊢
      have HN0 := Lib.hid hn0
      clear hR hn0 hgd hsl
      go_enter Try.func93, Try.ntmps93
      go_wp2
      go_loop [13] (fun i => ∃ k : Nat, k ≤ s.size ∧ i = .int .i64 k ∧ Hid (R = (s.data.toList.drop k).all nameByte)) (fun i => s.size - (intOf i).toNat)
      case atStart => exact ⟨0, by omega, rfl, HN0⟩
      case round =>
        obtain ⟨k, hk, rfl, HE⟩ := hrel
        by_cases hlt : k < s.size
        · have hki : (k : Int) < (s.size : Int) := by omega
          obtain ⟨C, hC⟩ : ∃ C, s[k].toNat = C := ⟨_, rfl⟩
          have hCl : C < 256 := by rw [← hC]; exact UInt8.toNat_lt _
          have hst := HE.out
          rw [isName_drop _ k (by rw [HSL.out]; exact hlt), HGD.out k hlt, nb_byte, hC] at hst
          obtain ⟨b, hb⟩ : ∃ b, nb C = b := ⟨_, rfl⟩
          rw [hb] at hst
          have HF := Lib.hid (fun w => fits_at C b w hCl hb)
          clear hb
          cases b
          · have hRf : R = false := by rw [hst]; rfl
            subst hRf
            clear hst HE HN0
            go_wp2_with (go_at_call 104; refine (HF.out _).mono ?_; rintro e w1 ⟨rfl, rfl⟩)
            go_ret
            exact ⟨rfl, rfl⟩
          · have HE2 : Hid (R = (s.data.toList.drop (k + 1)).all nameByte) := by show R = _; rw [hst]; rfl
            clear hst
            go_wp2_with (go_at_call 104; refine (HF.out _).mono ?_; rintro e w1 ⟨rfl, rfl⟩)
            go_round
            case rel => exact ⟨k + 1, by omega, by go_num, HE2⟩
            case measure => simp [intOf]; omega
        · have hke : k = s.size := by omega
          have hRt : R = true := by
            rw [HE.out, List.drop_of_length_le (by rw [HSL.out]; omega)]; rfl
          subst hRt
          have hge : (s.size : Int) ≤ (k : Int) := by omega
          clear HE HN0
          go_wp2
          go_ret
          exact ⟨rfl, rfl⟩
    · have h12i : (12 : Int) < (s.size : Int) := by omega
      have hn : isName s.data.toList = false := by
        unfold isName
        rw [hsl, decide_eq_false h12]; simp
      rw [hn]
      go_enter Try.func93, Try.ntmps93
      go_wp2
      go_ret
      exact ⟨rfl, rfl⟩
theorem nb_cases (n : Nat) : (97 ≤ n ∧ n ≤ 122 ∧ nb n = true) ∨ (122 < n ∧ nb n = false) ∨ (48 ≤ n ∧ n ≤ 57 ∧ nb n = true) ∨ (57 < n ∧ n < 97 ∧ nb n = false) ∨ (n = 45 ∧ nb n = true) ∨ (n < 48 ∧ n ≠ 45 ∧ nb n = false) := by
  unfold nb
  rcases (by omega : (97 ≤ n ∧ n ≤ 122) ∨ 122 < n ∨ (48 ≤ n ∧ n ≤ 57) ∨ (57 < n ∧ n < 97) ∨ n = 45 ∨ (n < 48 ∧ n ≠ 45)) with h | h | h | h | h | h
  · left; refine ⟨h.1, h.2, ?_⟩; simp [h.1, h.2]
  · right; left; refine ⟨h, ?_⟩; simp; omega
  · right; right; left; refine ⟨h.1, h.2, ?_⟩; simp [h.1, h.2]
  · right; right; right; left; refine ⟨h.1, h.2, ?_⟩; simp; omega
  · right; right; right; right; left; subst h; exact ⟨rfl, rfl⟩
  · right; right; right; right; right; refine ⟨h.1, h.2, ?_⟩; simp; omega
set_option maxHeartbeats 6400000 in
theorem refName_any (s : ByteArray) (w : World) (hs : s.size ≤ 9223372036854775806) :
    Calls Try.prog 83 #[.string s] w fun e w' => e = .returned (.bool (isName s.data.toList)) ∧ w = w' := by
  have hsl : s.data.toList.length = s.size := by simp
  have hgd : ∀ k (h : k < s.size), (s.data.toList.getD k 0) = s[k] := fun k h => by
    rw [List.getD_eq_getElem?_getD, List.getElem?_eq_getElem (by rw [hsl]; exact h)]; rfl
  have HGD := Lib.hid hgd
  have HSL := Lib.hid hsl
  have hn0 : isName s.data.toList = ((decide (1 ≤ s.size) && decide (s.size ≤ 12)) && s.data.toList.all nameByte) := by
    unfold isName
    rw [hsl]
  obtain ⟨R, hR⟩ : ∃ R, isName s.data.toList = R := ⟨_, rfl⟩
  rw [hR] at hn0 ⊢
  have HN0 := Lib.hid hn0
  clear hR hn0 hgd hsl
  go_enter Try.func83, Try.ntmps83
  go_wp2
  go_loop [3] (fun i => ∃ k : Nat, k ≤ s.size ∧ i = .int .i64 k ∧ Hid (R = ((decide (1 ≤ s.size) && decide (s.size ≤ 12)) && (s.data.toList.drop k).all nameByte))) (fun i => s.size - (intOf i).toNat)
  case atStart => exact ⟨0, by omega, rfl, HN0⟩
  case round =>
    obtain ⟨k, hk, rfl, HE⟩ := hrel
    clear HN0
    by_cases hlt : k < s.size
    · have hki : (k : Int) < (s.size : Int) := by omega
      obtain ⟨C, hC⟩ : ∃ C, s[k].toNat = C := ⟨_, rfl⟩
      have hst := HE.out
      rw [isName_drop _ k (by rw [HSL.out]; exact hlt), HGD.out k hlt, nb_byte, hC] at hst
      have hnc := nb_cases C
      obtain ⟨b, hb⟩ : ∃ b, nb C = b := ⟨_, rfl⟩
      rw [hb] at hst hnc
      clear hb
      have hRf : b = false → R = false := fun h => by rw [hst, h]; simp
      have hRt : b = true → R = ((decide (1 ≤ s.size) && decide (s.size ≤ 12)) && (s.data.toList.drop (k + 1)).all nameByte) := fun h => by rw [hst, h]; simp
      clear hst HE
      rcases hnc with ⟨h1, h2, rfl⟩ | ⟨h1, rfl⟩ | ⟨h1, h2, rfl⟩ | ⟨h1, h2, rfl⟩ | ⟨h1, rfl⟩ | ⟨h1, h2, rfl⟩
      · have HE2 := Lib.hid (hRt rfl)
        have g1 : (97 : Int) ≤ (C : Int) := by omega
        have g2 : (C : Int) ≤ 122 := by omega
        have d1 : decide ((97 : Int) ≤ (C : Int)) = true := by simpa using g1
        have d2 : decide ((C : Int) ≤ 122) = true := by simpa using g2
        clear hRt hRf h1 h2
        go_wp2
        go_round
        case rel => exact ⟨k + 1, by omega, by go_num, HE2⟩
        case measure => simp [intOf]; omega
      · obtain rfl := hRf rfl
        have g1 : (122 : Int) < (C : Int) := by omega
        have d1 : decide ((97 : Int) ≤ (C : Int)) = true := by simp; omega
        have d2 : decide ((C : Int) ≤ 122) = false := by simp; omega
        have d3 : decide ((48 : Int) ≤ (C : Int)) = true := by simp; omega
        have d4 : decide ((C : Int) ≤ 57) = false := by simp; omega
        have d5 : ((C : Int) == 45) = false := by simp; omega
        have d6 : ((C : Int) != 45) = true := by simp; omega
        clear hRt hRf h1
        go_wp2
        go_ret
        exact ⟨rfl, rfl⟩
      · have HE2 := Lib.hid (hRt rfl)
        have g1 : (48 : Int) ≤ (C : Int) := by omega
        have g2 : (C : Int) ≤ 57 := by omega
        have d1 : decide ((97 : Int) ≤ (C : Int)) = false := by simp; omega
        have d3 : decide ((48 : Int) ≤ (C : Int)) = true := by simp; omega
        have d4 : decide ((C : Int) ≤ 57) = true := by simp; omega
        clear hRt hRf h1 h2
        go_wp2
        go_round
        case rel => exact ⟨k + 1, by omega, by go_num, HE2⟩
        case measure => simp [intOf]; omega
      · obtain rfl := hRf rfl
        have g1 : (57 : Int) < (C : Int) := by omega
        have g2 : (C : Int) < 97 := by omega
        have d1 : decide ((97 : Int) ≤ (C : Int)) = false := by simp; omega
        have d3 : decide ((48 : Int) ≤ (C : Int)) = true := by simp; omega
        have d4 : decide ((C : Int) ≤ 57) = false := by simp; omega
        have d5 : ((C : Int) == 45) = false := by simp; omega
        have d6 : ((C : Int) != 45) = true := by simp; omega
        clear hRt hRf h1 h2
        go_wp2
        go_ret
        exact ⟨rfl, rfl⟩
      · have HE2 := Lib.hid (hRt rfl)
        subst h1
        clear hRt hRf
        go_wp2
        go_round
        case rel => exact ⟨k + 1, by omega, by go_num, HE2⟩
        case measure => simp [intOf]; omega
      · obtain rfl := hRf rfl
        have g1 : (C : Int) < 48 := by omega
        have d1 : decide ((97 : Int) ≤ (C : Int)) = false := by simp; omega
        have d3 : decide ((48 : Int) ≤ (C : Int)) = false := by simp; omega
        have d5 : ((C : Int) == 45) = false := by simp; omega
        have d6 : ((C : Int) != 45) = true := by simp; omega
        clear hRt hRf h1 h2
        go_wp2
        go_ret
        exact ⟨rfl, rfl⟩
    · have hke : k = s.size := by omega
      have hRs := HE.out
      rw [List.drop_of_length_le (by rw [HSL.out]; omega)] at hRs
      simp only [List.all_nil, Bool.and_true] at hRs
      have hge : (s.size : Int) ≤ (k : Int) := by omega
      clear HE hlt hke
      by_cases h1 : 1 ≤ s.size
      · have h1i : (1 : Int) ≤ (s.size : Int) := by omega
        by_cases h12 : s.size ≤ 12
        · have h12i : (s.size : Int) ≤ 12 := by omega
          rw [decide_eq_true h1, decide_eq_true h12] at hRs
          simp only [Bool.and_self] at hRs
          subst hRs
          go_wp2
          go_ret
          exact ⟨rfl, rfl⟩
        · have h12i : (12 : Int) < (s.size : Int) := by omega
          have d12 : decide ((s.size : Int) ≤ 12) = false := by simp; omega
          rw [decide_eq_false h12, Bool.and_false] at hRs
          subst hRs
          go_wp2
          go_ret
          refine ⟨?_, rfl⟩
          first
            | rfl
            | (show Ending.returned (Value.bool (decide ((s.size : Int) ≤ 12))) = _
               rw [d12])
      · have h1i : (s.size : Int) < 1 := by omega
        rw [decide_eq_false h1, Bool.false_and] at hRs
        subst hRs
        go_wp2
        go_ret
        exact ⟨rfl, rfl⟩
end Go.Proofs.Ytpaegpbabfohcaa.Paths
