/-
  The walks of varint.Get and of the document's Get.
-/
import Derived.Test.YtfbakelpplpomaaGreatDoorWalkVar
import Derived.OwnWalk
import Derived.Deep.RegionWith
import Derived.Deep.RegionHeld3
namespace Go.Proofs.YtfbakelpplpomaaGreatDoor.WalkVar
open Go.RowKit Go.Proofs.YtfbakelpplpomaaGreatDoor.WalkInts
set_option linter.unusedVariables false
set_option linter.unusedSimpArgs false
set_option maxRecDepth 100000

theorem minInt2 (k k' : IntKind) (x y : Int) : Builtin.min2 (.int k x) (.int k' y) = pure (.int k (if y < x then y else x)) := by simp only [Builtin.min2]
theorem minTwo (ats : Array TypeId) (ty : TypeId) (a b : Value) : Builtin.min_ ats ty #[a, b] = (Builtin.min2 a b >>= fun s => pure s) := by simp only [Builtin.min_, List.foldlM_cons, List.foldlM_nil]
attribute [local go_sem] minTwo

/-- the number, and how many bytes it has, if there is one -/
def gN : Option (Nat × Nat) → Nat
  | none => 0
  | some p => p.1
def gK : Option (Nat × Nat) → Nat
  | none => 0
  | some p => p.2
/-- what is left to be read behind k bytes -/
def upto (acc k : Nat) (o : Option (Nat × Nat)) : Option (Nat × Nat) := o.map fun p => (acc + 128 ^ k * p.1, p.2 + k)
theorem or_shift (acc k c : Nat) (h : acc < 128 ^ k) (hk : k ≤ 9) (hc : c < 256) (h9 : k = 9 → c ≤ 1) :
    bits .or .u64 (acc : Int) (IntKind.u64.wrap (bits .and .u64 (c : Int) 127 * 2 ^ (7 * k))) = ((acc + 128 ^ k * (c % 128) : Nat) : Int) := by
  have e1 : bits .and .u64 (c : Int) 127 = ((c % 128 : Nat) : Int) := by
    have := u64_and_nat c 127 (by omega) (by omega)
    rw [show c &&& 127 = c % 128 from Nat.and_two_pow_sub_one_eq_mod c 7] at this
    exact this
  have e2 : (2 : Nat) ^ (7 * k) = 128 ^ k := by rw [Nat.pow_mul]
  have hkk : k = 0 ∨ k = 1 ∨ k = 2 ∨ k = 3 ∨ k = 4 ∨ k = 5 ∨ k = 6 ∨ k = 7 ∨ k = 8 ∨ k = 9 := by omega
  have hb : 128 ^ k * (c % 128) < 18446744073709551616 := by
    rcases hkk with rfl | rfl | rfl | rfl | rfl | rfl | rfl | rfl | rfl | rfl <;> simp <;> omega
  have ha : acc < 18446744073709551616 := by
    rcases hkk with rfl | rfl | rfl | rfl | rfl | rfl | rfl | rfl | rfl | rfl <;> simp at h <;> omega
  have e3 : IntKind.u64.wrap (((c % 128 : Nat) : Int) * 2 ^ (7 * k)) = ((128 ^ k * (c % 128) : Nat) : Int) := by
    have e4 : ((c % 128 : Nat) : Int) * 2 ^ (7 * k) = ((128 ^ k * (c % 128) : Nat) : Int) := by
      rw [← e2]
      push_cast
      rw [Int.mul_comm]
    rw [e4]
    rw [IntKind.wrap_u64]
    omega
  rw [e1, e3, u64_or_nat _ _ ha hb]
  congr 1
  rw [← e2] at h ⊢
  rw [Nat.or_comm, Nat.add_comm, Nat.two_pow_add_eq_or_of_lt h]

set_option maxHeartbeats 1600000 in
theorem get_at (s : ByteArray) (o : Option (Nat × Nat)) (w : World) (hv : Pl.Seat.get s.data.toList = o) (hs : s.size ≤ 9223372036854775806) :
    Calls Tryz.prog 118 #[.string s] w fun e w' => e = .returned (.tuple #[.int .u64 (gN o : Nat), .int .i64 (gK o : Nat), .bool o.isSome]) ∧ w = w' := by
  have HV := Lib.hid hv
  clear hv
  have hos := or_shift
  have HOS := Lib.hid hos
  clear hos
  have hsl : s.data.toList.length = s.size := by simp
  have HSL := Lib.hid hsl
  clear hsl
  have hm : ∃ m : Nat, m ≤ 10 ∧ m ≤ s.size ∧ (m = 10 ∨ m = s.size) ∧ Builtin.min2 (.int .i64 (s.size : Int)) (.int .i64 10) = pure (.int .i64 (m : Int)) := by
    rcases Nat.lt_or_ge 10 s.size with h | h
    · exact ⟨10, by omega, by omega, .inl rfl, by rw [minInt2, if_pos (by omega)]; rfl⟩
    · exact ⟨s.size, by omega, by omega, .inr rfl, by rw [minInt2, if_neg (by omega)]⟩
  obtain ⟨m, hm1, hm2, hm3, hmin⟩ := hm
  have HM3 := Lib.hid hm3
  clear hm3
  go_enter Tryz.func118, Tryz.ntmps118
  go_wp2
  go_loop [2, 10] (fun n i => ∃ (k acc : Nat), k ≤ m ∧ i = .int .i64 k ∧ n = .int .u64 acc ∧ Hid (acc < 128 ^ k) ∧ Hid (o = upto acc k (Pl.Seat.getF (10 - k) (s.data.toList.drop k)))) (fun _ i => 10 - (intOf i).toNat)
  case atStart =>
    refine ⟨0, 0, by omega, rfl, rfl, by show 0 < 128 ^ 0; omega, ?_⟩
    show o = _
    rw [← HV.out]
    unfold upto Pl.Seat.get
    simp
  case round =>
    obtain ⟨k, acc, hk, rfl, rfl, HA, HE⟩ := hrel
    by_cases hlt : k < m
    · have hks : k < s.size := by omega
      have hdr : s.data.toList.drop k = s[k] :: s.data.toList.drop (k + 1) := by
        rw [List.drop_eq_getElem_cons (by rw [HSL.out]; exact hks)]
        rfl
      have hst := HE.out
      rw [hdr, show 10 - k = (9 - k) + 1 by omega] at hst
      simp only [Pl.Seat.getF] at hst
      have hcl : s[k].toNat < 256 := UInt8.toNat_lt _
      obtain ⟨C, hC⟩ : ∃ C, s[k].toNat = C := ⟨_, rfl⟩
      rw [hC] at hst hcl
      have HST := Lib.hid hst
      have HS0 := Lib.hid hs
      clear hst hdr
      have hk9 : k ≤ 9 := by omega
      have hki : (0 : Int) ≤ (k : Int) := by omega
      rcases (by omega : (k = 9 ∧ 1 < C) ∨ (k < 9 ∧ 128 ≤ C) ∨ (k < 9 ∧ C = 0 ∧ 0 < k) ∨ (k = 9 ∧ C = 0) ∨ (k < 9 ∧ C < 128 ∧ C ≠ 0) ∨ (k = 9 ∧ C = 1) ∨ (k = 0 ∧ C = 0)) with ⟨h1, h2⟩ | ⟨h1, h2⟩ | ⟨h1, h2, h3⟩ | ⟨h1, h2⟩ | ⟨h1, h2, h3⟩ | ⟨h1, h2⟩ | ⟨h1, h2⟩
      · have hf : o = none := by
          rw [HST.out, if_pos (by omega)]; rfl
        subst hf
        subst h1
        have hci : (1 : Int) < (C : Int) := by omega
        clear HST HE h2
        go_wp2
        go_ret3
        exact ⟨rfl, rfl⟩
      · have hor := HOS.out acc k C HA.out hk9 hcl (by omega)
        have HOR := Lib.hid hor
        have hCi : (128 : Int) ≤ (C : Int) := by omega
        have t1 : ((k : Int) == 9) = false := by simp; omega
        have hA2 : acc + 128 ^ k * (C % 128) < 128 ^ (k + 1) := by
          have := HA.out
          have e : 128 ^ k * (C % 128) ≤ 128 ^ k * 127 := Nat.mul_le_mul_left _ (by omega)
          rw [Nat.pow_succ]
          omega
        have hE2 : o = upto (acc + 128 ^ k * (C % 128)) (k + 1) (Pl.Seat.getF (10 - (k + 1)) (s.data.toList.drop (k + 1))) := by
          rw [HST.out, if_neg (by omega), if_pos h2, show 10 - (k + 1) = 9 - k by omega]
          unfold upto
          cases Pl.Seat.getF (9 - k) (s.data.toList.drop (k + 1)) with
          | none => rfl
          | some p =>
            simp only [Option.map_some, Option.some.injEq, Prod.mk.injEq]
            refine ⟨?_, by omega⟩
            rw [Nat.pow_succ, Nat.mul_add, Nat.add_assoc, Nat.mul_assoc]
        have HA2 := Lib.hid hA2
        have HE2 := Lib.hid hE2
        clear hor hA2 hE2 HST HE h2
        go_wp2
        go_round
        case rel => exact ⟨k + 1, acc + 128 ^ k * (C % 128), by omega, by go_num, by rw [HOR.out], HA2, HE2⟩
        case measure => simp [intOf]; omega
      · have hf : o = none := by
          rw [HST.out, if_neg (by omega), if_neg (by omega), if_pos (by omega)]; rfl
        subst hf
        subst h2
        have t1 : ((k : Int) == 9) = false := by simp; omega
        have t3 : (0 : Int) < (k : Int) := by omega
        clear HST HE h3
        go_wp2
        go_ret3
        exact ⟨rfl, rfl⟩
      · have hf : o = none := by
          rw [HST.out, if_neg (by omega), if_neg (by omega), if_pos (by omega)]; rfl
        subst hf
        subst h2
        subst h1
        clear HST HE
        go_wp2
        go_ret3
        exact ⟨rfl, rfl⟩
      · have hf : o = some (acc + 128 ^ k * (C % 128), k + 1) := by
          rw [HST.out, if_neg (by omega), if_neg (by omega), if_neg (by omega), show C % 128 = C by omega]
          unfold upto
          simp; omega
        subst hf
        have hor := HOS.out acc k C HA.out hk9 hcl (by omega)
        have HOR := Lib.hid hor
        have t1 : ((k : Int) == 9) = false := by simp; omega
        have t2 : ((C : Int) == 0) = false := by simp; omega
        have t4 : (C : Int) < 128 := by omega
        have t5 : decide ((128 : Int) ≤ (C : Int)) = false := by simp; omega
        clear hor HST HE h2 h3
        go_wp2
        go_ret3
        exact ⟨by rw [HOR.out]; rfl, rfl⟩
      · have hf : o = some (acc + 128 ^ k * (C % 128), k + 1) := by
          rw [HST.out, if_neg (by omega), if_neg (by omega), if_neg (by omega), show C % 128 = C by omega]
          unfold upto
          simp; omega
        subst hf
        subst h1
        have hor := HOS.out acc 9 C HA.out (by omega) hcl (by omega)
        subst h2
        have hor2 : bits .or .u64 (acc : Int) (IntKind.u64.wrap (bits .and .u64 1 127 * 9223372036854775808)) = ((acc + 128 ^ 9 * (1 % 128) : Nat) : Int) := by
          rw [← hor]
          congr 2
        have HOR := Lib.hid hor2
        clear hor2
        clear hor HST HE
        go_wp2
        go_ret3
        exact ⟨by rw [HOR.out]; rfl, rfl⟩
      · have hf : o = some (acc + 128 ^ k * (C % 128), k + 1) := by
          rw [HST.out, if_neg (by omega), if_neg (by omega), if_neg (by omega), show C % 128 = C by omega]
          unfold upto
          simp; omega
        subst hf
        have hor := HOS.out acc k C HA.out hk9 hcl (by omega)
        subst h1
        subst h2
        have hor2 : bits .or .u64 (acc : Int) (IntKind.u64.wrap (bits .and .u64 0 127)) = ((acc + 128 ^ 0 * (0 % 128) : Nat) : Int) := by
          rw [← hor]
          congr 2
        have HOR := Lib.hid hor2
        clear hor2
        clear hor HST HE
        go_wp2
        go_ret3
        exact ⟨by rw [HOR.out]; rfl, rfl⟩
    · have hke : k = m := by omega
      have hf : o = none := by
        rw [HE.out]
        rcases HM3.out with h | h
        · rw [show 10 - k = 0 by omega]; simp [Pl.Seat.getF, upto]
        · rw [List.drop_of_length_le (by rw [HSL.out]; omega)]
          cases 10 - k <;> simp [Pl.Seat.getF, upto]
      subst hf
      have hge : (m : Int) ≤ (k : Int) := by omega
      clear HE
      go_wp2
      go_ret3
      exact ⟨rfl, rfl⟩

theorem vf_drop (l : List UInt8) (q : Nat) (h : q < l.length) : Pl.Seat.vf (l.drop q) = (l.getD q 0).toNat % 128 + 128 * Pl.Seat.vf (l.drop (q + 1)) := by
  rw [List.drop_eq_getElem_cons h]
  simp [Pl.Seat.vf, List.getD_eq_getElem?_getD, h]

set_option maxHeartbeats 3200000 in
theorem refGet_at (s : ByteArray) (o : Option (Nat × Nat)) (w : World) (hv : Pl.Seat.get s.data.toList = o) (hs : s.size ≤ 9223372036854775806) :
    Calls Tryz.prog 126 #[.string s] w fun e w' => e = .returned (.tuple #[.int .u64 (gN o : Nat), .int .i64 (gK o : Nat), .bool o.isSome]) ∧ Below w.heap.size w w' := by
  have HV := Lib.hid hv
  clear hv
  have hsl : s.data.toList.length = s.size := by simp
  have HSL := Lib.hid hsl
  clear hsl
  have hgd : ∀ k (h : k < s.size), (s.data.toList.getD k 0) = s[k] := fun k h => by
    rw [List.getD_eq_getElem?_getD, List.getElem?_eq_getElem (by rw [HSL.out]; exact h)]; rfl
  have HGD := Lib.hid hgd
  clear hgd
  go_enter Tryz.func126, Tryz.ntmps126
  go_wp2
  go_loop [5] (fun i => ∃ (k : Nat), k ≤ s.size ∧ i = .int .i64 k ∧ Hid (∀ j, j < k → 128 ≤ (s.data.toList.getD j 0).toNat)) (fun i => s.size - (intOf i).toNat)
  case atStart => exact ⟨0, by omega, rfl, by intro j hj; omega⟩
  case round =>
    obtain ⟨k, hk, rfl, HF⟩ := hrel
    by_cases hlt : k < s.size
    · obtain ⟨C, hC⟩ : ∃ C, s[k].toNat = C := ⟨_, rfl⟩
      have hcl : C < 256 := by rw [← hC]; exact UInt8.toNat_lt _
      by_cases hc : 128 ≤ C
      · have hF2 : Hid (∀ j, j < k + 1 → 128 ≤ (s.data.toList.getD j 0).toNat) := fun j hj => by
          rcases Nat.lt_or_ge j k with h | h
          · exact HF.out j h
          · rw [show j = k by omega, HGD.out k hlt, hC]; exact hc
        have hci : (128 : Int) ≤ (C : Int) := by omega
        clear hc
        go_wp2
        go_round
        case rel => exact ⟨k + 1, by omega, by go_num, hF2⟩
        case measure => simp [intOf]; omega
      · have t5 : decide ((128 : Int) ≤ (C : Int)) = false := by simp; omega
        have hci : (C : Int) < 128 := by omega
        by_cases h9 : k ≤ 9
        · have h9i : (k : Int) ≤ 9 := by omega
          have HC2 := Lib.hid (show (s.data.toList.getD k 0).toNat < 128 by rw [HGD.out k hlt, hC]; omega)
          have H9 := Lib.hid h9
          have HC := Lib.hid hC
          clear hc h9
          go_wp2
          go_loop [6, 7] (fun n i => ∃ (r N : Nat), r ≤ k + 1 ∧ i = .int .i64 ((r : Int) - 1) ∧ n = .int .u64 N ∧ N ≤ 18446744073709551615 ∧ Hid (N = Pl.Seat.vf ((s.data.toList.take (k + 1)).drop r) % 18446744073709551616)) (fun _ i => (intOf i + 1).toNat)
          case atStart => exact ⟨k + 1, 0, by omega, by go_num, rfl, by omega, by show 0 = _; rw [List.drop_of_length_le (by simp; omega)]; rfl⟩
          case round =>
            obtain ⟨r, N, hr, rfl, rfl, hN, HN⟩ := hrel
            rcases Nat.eq_zero_or_pos r with rfl | hp
            · have hvN : N = Pl.Seat.vf (s.data.toList.take (k + 1)) % 18446744073709551616 := by simpa using HN.out
              have hof := Pl.Seat.get_of_first s.data.toList k HF.out (by rw [HSL.out]; exact hlt) HC2.out N hvN
              rw [HV.out] at hof
              obtain ⟨P, hP⟩ : ∃ P, Pl.Seat.put N = P := ⟨_, rfl⟩
              rw [hP] at hof
              have HP := Lib.hid hP
              have hxe : (s.extract 0 (k + 1)).toList = s.data.toList.take (k + 1) := by
                rw [ByteArray.toList_eq]
                simp [ByteArray.data_extract, Array.toList_extract, List.extract]
              have hN2 : N < 18446744073709551616 := by omega
              have HNN := Lib.hid hN2
              clear hP hvN HN hN2
              by_cases hpp : P = s.data.toList.take (k + 1)
              · rw [if_pos hpp] at hof
                subst hof
                have ht : ((bs P).toList == (s.extract 0 (k + 1)).toList) = true := by rw [bs_toList, hxe, hpp]; simp
                have hks : (k : Int) + 1 ≤ (s.size : Int) := by omega
                have e1 : IntKind.i64.wrap ((k : Int) + 1) = (k : Int) + 1 := IntWalk.i64_in _ (by omega)
                have e2 : (0 : Int) ≤ (k : Int) + 1 := by omega
                have e3 : ((k : Int) + 1).toNat = k + 1 := by omega
                clear hxe hpp
                go_wp2
                go_region_with (go_at_call 128; refine (refPut_at N P _ HNN.out HP.out).mono ?_; rintro e w1 ⟨rfl, hB⟩)
                all_goals go_wp2
                all_goals go_ret3
                all_goals exact ⟨rfl, ⟨hB.os, hB.tape, hB.output, hB.size, hB.block⟩⟩
              · rw [if_neg hpp] at hof
                subst hof
                have ht : ((bs P).toList == (s.extract 0 (k + 1)).toList) = false := by rw [bs_toList, hxe]; simpa using hpp
                have hks : (k : Int) + 1 ≤ (s.size : Int) := by omega
                have e1 : IntKind.i64.wrap ((k : Int) + 1) = (k : Int) + 1 := IntWalk.i64_in _ (by omega)
                have e2 : (0 : Int) ≤ (k : Int) + 1 := by omega
                have e3 : ((k : Int) + 1).toNat = k + 1 := by omega
                clear hxe hpp
                go_wp2
                go_region_with (go_at_call 128; refine (refPut_at N P _ HNN.out HP.out).mono ?_; rintro e w1 ⟨rfl, hB⟩)
                all_goals go_wp2
                all_goals go_ret3
                all_goals exact ⟨rfl, ⟨hB.os, hB.tape, hB.output, hB.size, hB.block⟩⟩
            · obtain ⟨q, rfl⟩ : ∃ q, r = q + 1 := ⟨r - 1, by omega⟩
              have hqs : q < s.size := by omega
              have hq1 : (((q + 1 : Nat) : Int) - 1) = (q : Int) := by omega
              rw [hq1]
              obtain ⟨D, hD⟩ : ∃ D, s[q].toNat = D := ⟨_, rfl⟩
              have hDl : D < 256 := by rw [← hD]; exact UInt8.toNat_lt _
              have hN2 : (N * 128 + D % 128) % 18446744073709551616 = Pl.Seat.vf ((s.data.toList.take (k + 1)).drop q) % 18446744073709551616 := by
                rw [vf_drop _ q (by simp [HSL.out]; omega), HN.out]
                have : (List.take (k + 1) s.data.toList).getD q 0 = s[q] := by
                  rw [← HGD.out q hqs]
                  simp only [List.getD_eq_getElem?_getD]
                  rw [List.getElem?_take, if_pos (by omega)]
                rw [this, hD]
                omega
              have HN2 := Lib.hid hN2
              have hqk : q ≤ k + 1 := by omega
              clear hN2 HN hq1
              go_wp2
              go_round
              case rel => exact ⟨q, (N * 128 + D % 128) % 18446744073709551616, hqk, by go_num, by rw [IntKind.wrap_u64, IntKind.wrap_u64]; congr 1; omega, by omega, HN2⟩
              case measure => simp [intOf]
        · have hof : o = none := by
            rw [← HV.out]
            exact Pl.Seat.get_none_of _ k HF.out (.inr (by omega))
          subst hof
          have h9i : (9 : Int) < (k : Int) := by omega
          clear hc h9
          go_wp2
          go_ret3
          exact ⟨rfl, Below.refl _ _⟩
    · have hof : o = none := by
        rw [← HV.out]
        exact Pl.Seat.get_none_of _ k HF.out (.inl (by rw [HSL.out]; omega))
      subst hof
      have hge : (s.size : Int) ≤ (k : Int) := by omega
      go_wp2
      go_ret3
      exact ⟨rfl, Below.refl _ _⟩
end Go.Proofs.YtfbakelpplpomaaGreatDoor.WalkVar
