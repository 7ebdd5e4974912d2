/-
  The walks of varint.Get and of the document's Get.
-/
import Derived.Test.YtfbakelpplpomaaDoorWalkVar
import Derived.OwnWalk
import Derived.Deep.RegionWith
import Derived.Deep.RegionHeld3
namespace Go.Proofs.YtfbakelpplpomaaDoor.WalkVar
open Go.RowKit Go.Proofs.YtfbakelpplpomaaDoor.WalkInts
set_option linter.unusedVariables false
set_option linter.unusedSimpArgs false
set_option maxRecDepth 100000

theorem minInt2 (k k' : IntKind) (x y : Int) : Builtin.min2 (.int k x) (.int k' y) = pure (.int k (if y < x then y else x)) := by simp only [Builtin.min2]
theorem minTwo (ats : Array TypeId) (ty : TypeId) (a b : Value) : Builtin.min_ ats ty #[a, b] = (Builtin.min2 a b >>= fun s => pure s) := by simp only [Builtin.min_, List.foldlM_cons, List.foldlM_nil]
attribute [local go_sem] minTwo

/-- the number, and how many bytes it has, if there is one -/
def gN : Option (Nat × Nat) → Nat
  | none => 0
  | some p => p.1
def gK : Option (Nat × Nat) → Nat
  | none => 0
  | some p => p.2
/-- what is left to be read behind k bytes -/
def upto (acc k : Nat) (o : Option (Nat × Nat)) : Option (Nat × Nat) := o.map fun p => (acc + 128 ^ k * p.1, p.2 + k)
theorem or_shift (acc k c : Nat) (h : acc < 128 ^ k) (hk : k ≤ 9) (hc : c < 256) (h9 : k = 9 → c ≤ 1) :
    bits .or .u64 (acc : Int) (IntKind.u64.wrap (bits .and .u64 (c : Int) 127 * 2 ^ (7 * k))) = ((acc + 128 ^ k * (c % 128) : Nat) : Int) := by
  have e1 : bits .and .u64 (c : Int) 127 = ((c % 128 : Nat) : Int) := by
    have := u64_and_nat c 127 (by omega) (by omega)
    rw [show c &&& 127 = c % 128 from Nat.and_two_pow_sub_one_eq_mod c 7] at this
    exact this
  have e2 : (2 : Nat) ^ (7 * k) = 128 ^ k := by rw [Nat.pow_mul]
  have hkk : k = 0 ∨ k = 1 ∨ k = 2 ∨ k = 3 ∨ k = 4 ∨ k = 5 ∨ k = 6 ∨ k = 7 ∨ k = 8 ∨ k = 9 := by omega
  have hb : 128 ^ k * (c % 128) < 18446744073709551616 := by
    rcases hkk with rfl | rfl | rfl | rfl | rfl | rfl | rfl | rfl | rfl | rfl <;> simp <;> omega
  have ha : acc < 18446744073709551616 := by
    rcases hkk with rfl | rfl | rfl | rfl | rfl | rfl | rfl | rfl | rfl | rfl <;> simp at h <;> omega
  have e3 : IntKind.u64.wrap (((c % 128 : Nat) : Int) * 2 ^ (7 * k)) = ((128 ^ k * (c % 128) : Nat) : Int) := by
    have e4 : ((c % 128 : Nat) : Int) * 2 ^ (7 * k) = ((128 ^ k * (c % 128) : Nat) : Int) := by
      rw [← e2]
      push_cast
      rw [Int.mul_comm]
    rw [e4]
    rw [IntKind.wrap_u64]
    omega
  rw [e1, e3, u64_or_nat _ _ ha hb]
  congr 1
  rw [← e2] at h ⊢
  rw [Nat.or_comm, Nat.add_comm, Nat.two_pow_add_eq_or_of_lt h]

set_option maxHeartbeats 1600000 in
theorem get_at (s : ByteArray) (o : Option (Nat × Nat)) (w : World) (hv : Pl.Seat.get s.data.toList = o) (hs : s.size ≤ 9223372036854775806) :
    Calls Tryd.prog 73 #[.string s] w fun e w' => e = .returned (.tuple #[.int .u64 (gN o : Nat), .int .i64 (gK o : Nat), .bool o.isSome]) ∧ w = w' := by
  have HV := Lib.hid hv
  clear hv
  have hos := or_shift
  have HOS := Lib.hid hos
  clear hos
  have hsl : s.data.toList.length = s.size := by simp
  have HSL := Lib.hid hsl
  clear hsl
  have hm : ∃ m : Nat, m ≤ 10 ∧ m ≤ s.size ∧ (m = 10 ∨ m = s.size) ∧ Builtin.min2 (.int .i64 (s.size : Int)) (.int .i64 10) = pure (.int .i64 (m : Int)) := by
    rcases Nat.lt_or_ge 10 s.size with h | h
    · exact ⟨10, by omega, by omega, .inl rfl, by rw [minInt2, if_pos (by omega)]; rfl⟩
    · exact ⟨s.size, by omega, by omega, .inr rfl, by rw [minInt2, if_neg (by omega)]⟩
  obtain ⟨m, hm1, hm2, hm3, hmin⟩ := hm
  have HM3 := Lib.hid hm3
  clear hm3
  go_enter Tryd.func73, Tryd.ntmps73
  go_wp2
  go_loop [2, 10] (fun n i => ∃ (k acc : Nat), k ≤ m ∧ i = .int .i64 k ∧ n = .int .u64 acc ∧ Hid (acc < 128 ^ k) ∧ Hid (o = upto acc k (Pl.Seat.getF (10 - k) (s.data.toList.drop k)))) (fun _ i => 10 - (intOf i).toNat)
  case atStart =>
    refine ⟨0, 0, by omega, rfl, rfl, by show 0 < 128 ^ 0; omega, ?_⟩
    show o = _
    rw [← HV.out]
    unfold upto Pl.Seat.get
    simp
  case round =>
    obtain ⟨k, acc, hk, rfl, rfl, HA, HE⟩ := hrel
    by_cases hlt : k < m
    · have hks : k < s.size := by omega
      have hdr : s.data.toList.drop k = s[k] :: s.data.toList.drop (k + 1) := by
        rw [List.drop_eq_getElem_cons (by rw [HSL.out]; exact hks)]
        rfl
      have hst := HE.out
      rw [hdr, show 10 - k = (9 - k) + 1 by omega] at hst
      simp only [Pl.Seat.getF] at hst
      have hcl : s[k].toNat < 256 := UInt8.toNat_lt _
      obtain ⟨C, hC⟩ : ∃ C, s[k].toNat = C := ⟨_, rfl⟩
      rw [hC] at hst hcl
      have HST := Lib.hid hst
      have HS0 := Lib.hid hs
      clear hst hdr
      have hk9 : k ≤ 9 := by omega
      have hki : (0 : Int) ≤ (k : Int) := by omega
      rcases (by omega : (k = 9 ∧ 1 < C) ∨ (k < 9 ∧ 128 ≤ C) ∨ (k < 9 ∧ C = 0 ∧ 0 < k) ∨ (k = 9 ∧ C = 0) ∨ (k < 9 ∧ C < 128 ∧ C ≠ 0) ∨ (k = 9 ∧ C = 1) ∨ (k = 0 ∧ C = 0)) with ⟨h1, h2⟩ | ⟨h1, h2⟩ | ⟨h1, h2, h3⟩ | ⟨h1, h2⟩ | ⟨h1, h2, h3⟩ | ⟨h1, h2⟩ | ⟨h1, h2⟩
      · have hf : o = none := by
          rw [HST.out, if_pos (by omega)]; rfl
        subst hf
        subst h1
        have hci : (1 : Int) < (C : Int) := by omega
        clear HST HE h2
        go_wp2
        go_ret3
        exact ⟨rfl, rfl⟩
      · have hor := HOS.out acc k C HA.out hk9 hcl (by omega)
        have HOR := Lib.hid hor
        have hCi : (128 : Int) ≤ (C : Int) := by omega
        have t1 : ((k : Int) == 9) = false := by simp; omega
        have hA2 : acc + 128 ^ k * (C % 128) < 128 ^ (k + 1) := by
          have := HA.out
          have e : 128 ^ k * (C % 128) ≤ 128 ^ k * 127 := Nat.mul_le_mul_left _ (by omega)
          rw [Nat.pow_succ]
          omega
        have hE2 : o = upto (acc + 128 ^ k * (C % 128)) (k + 1) (Pl.Seat.getF (10 - (k + 1)) (s.data.toList.drop (k + 1))) := by
          rw [HST.out, if_neg (by omega), if_pos h2, show 10 - (k + 1) = 9 - k by omega]
          unfold upto
          cases Pl.Seat.getF (9 - k) (s.data.toList.drop (k + 1)) with
          | none => rfl
          | some p =>
            simp only [Option.map_some, Option.some.injEq, Prod.mk.injEq]
            refine ⟨?_, by omega⟩
            rw [Nat.pow_succ, Nat.mul_add, Nat.add_assoc, Nat.mul_assoc]
        have HA2 := Lib.hid hA2
        have HE2 := Lib.hid hE2
        clear hor hA2 hE2 HST HE h2
        go_wp2
        go_round
        case rel => exact ⟨k + 1, acc + 128 ^ k * (C % 128), by omega, by go_num, by rw [HOR.out], HA2, HE2⟩
        case measure => simp [intOf]; omega
      · have hf : o = none := by
          rw [HST.out, if_neg (by omega), if_neg (by omega), if_pos (by omega)]; rfl
        subst hf
        subst h2
        have t1 : ((k : Int) == 9) = false := by simp; omega
        have t3 : (0 : Int) < (k : Int) := by omega
        clear HST HE h3
        go_wp2
        go_ret3
        exact ⟨rfl, rfl⟩
      · have hf : o = none := by
          rw [HST.out, if_neg (by omega), if_neg (by omega), if_pos (by omega)]; rfl
        subst hf
        subst h2
        subst h1
        clear HST HE
        go_wp2
        go_ret3
        exact ⟨rfl, rfl⟩
      · have hf : o = some (acc + 128 ^ k * (C % 128), k + 1) := by
          rw [HST.out, if_neg (by omega), if_neg (by omega), if_neg (by omega), show C % 128 = C by omega]
          unfold upto
          simp; omega
        subst hf
        have hor := HOS.out acc k C HA.out hk9 hcl (by omega)
        have HOR := Lib.hid hor
        have t1 : ((k : Int) == 9) = false := by simp; omega
        have t2 : ((C : Int) == 0) = false := by simp; omega
        have t4 : (C : Int) < 128 := by omega
        have t5 : decide ((128 : Int) ≤ (C : Int)) = false := by simp; omega
        clear hor HST HE h2 h3
        go_wp2
        go_ret3
        exact ⟨by rw [HOR.out]; rfl, rfl⟩
      · have hf : o = some (acc + 128 ^ k * (C % 128), k + 1) := by
          rw [HST.out, if_neg (by omega), if_neg (by omega), if_neg (by omega), show C % 128 = C by omega]
          unfold upto
          simp; omega
        subst hf
        subst h1
        have hor := HOS.out acc 9 C HA.out (by omega) hcl (by omega)
        subst h2
        have hor2 : bits .or .u64 (acc : Int) (IntKind.u64.wrap (bits .and .u64 1 127 * 9223372036854775808)) = ((acc + 128 ^ 9 * (1 % 128) : Nat) : Int) := by
          rw [← hor]
          congr 2
        have HOR := Lib.hid hor2
        clear hor2
        clear hor HST HE
        go_wp2
        go_ret3
        exact ⟨by rw [HOR.out]; rfl, rfl⟩
      · have hf : o = some (acc + 128 ^ k * (C % 128), k + 1) := by
          rw [HST.out, if_neg (by omega), if_neg (by omega), if_neg (by omega), show C % 128 = C by omega]
          unfold upto
          simp; omega
        subst hf
        have hor := HOS.out acc k C HA.out hk9 hcl (by omega)
        subst h1
        subst h2
        have hor2 : bits .or .u64 (acc : Int) (IntKind.u64.wrap (bits .and .u64 0 127)) = ((acc + 128 ^ 0 * (0 % 128) : Nat) : Int) := by
          rw [← hor]
          congr 2
        have HOR := Lib.hid hor2
        clear hor2
        clear hor HST HE
        go_wp2
        go_ret3
        exact ⟨by rw [HOR.out]; rfl, rfl⟩
    · have hke : k = m := by omega
      have hf : o = none := by
        rw [HE.out]
        rcases HM3.out with h | h
        · rw [show 10 - k = 0 by omega]; simp [Pl.Seat.getF, upto]
        · rw [List.drop_of_length_le (by rw [HSL.out]; omega)]
          cases 10 - k <;> simp [Pl.Seat.getF, upto]
      subst hf
      have hge : (m : Int) ≤ (k : Int) := by omega
      clear HE
      go_wp2
      go_ret3
      exact ⟨rfl, rfl⟩

theorem vf_drop (l : List UInt8) (q : Nat) (h : q < l.length) : Pl.Seat.vf (l.drop q) = (l.getD q 0).toNat % 128 + 128 * Pl.Seat.vf (l.drop (q + 1)) := by
  rw [List.drop_eq_getElem_cons h]
  simp [Pl.Seat.vf, List.getD_eq_getElem?_getD, h]

end Go.Proofs.YtfbakelpplpomaaDoor.WalkVar
