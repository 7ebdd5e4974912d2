/-
  The walks of varint.Put, Get, and of the document's Digits, Put, Get.
-/
import Derived.Test.YtfbakelpplpomaaGreatDoorSeatPure
import Derived.Test.YtfbakelpplpomaaGreatDoorInts
import Derived.WalkKit
import Derived.KernelRfl
import Derived.Lib.Hide
import Derived.Deep.QuietTactic
import Derived.BigQuiet
import Derived.IntWalk
import Derived.Deep.DeepMust
import Derived.Maps.AppendAt
import Derived.Laws.BytesArg
import Derived.Laws.BitsAllLaws
import Derived.Lib.LazyBuf
import Derived.Below
import Derived.OwnWalk
import Derived.Deep.RegionWith
import Derived.Deep.RegionHeld3
namespace Go.Proofs.YtfbakelpplpomaaGreatDoor.WalkVar
open Go.RowKit Go.Proofs.YtfbakelpplpomaaGreatDoor.WalkInts
set_option linter.unusedVariables false
set_option linter.unusedSimpArgs false
set_option maxRecDepth 100000

/-- bytes as a text -/
def bs (l : List UInt8) : ByteArray := ⟨l.toArray⟩
theorem bs_size (l : List UInt8) : (bs l).size = l.length := by simp [bs, ByteArray.size]
theorem bs_append (a b : List UInt8) : bs a ++ bs b = bs (a ++ b) := by
  apply ByteArray.ext
  simp [bs]
theorem bs_list (l : List UInt8) : (bs l).data.toList = l := by simp [bs]
theorem bs_of (s : ByteArray) : bs s.data.toList = s := by apply ByteArray.ext; simp [bs]
theorem bs_toList (l : List UInt8) : (bs l).toList = l := by
  rw [ByteArray.toList_eq]
  simp [bs]
theorem bs_inj {a b : List UInt8} (h : bs a = bs b) : a = b := by rw [← bs_list a, h, bs_list]
theorem nums_bs (l : List UInt8) : strOfNums (l.map fun b => (b.toNat : Int)) = bs l := Lib.Lz.strOfNums_map l

theorem or128 (m : Nat) : bits .or .u8 ((m : Int) % 256) 128 = ((m % 128 + 128 : Nat) : Int) := by
  have h : ∀ x : Fin 256, x.val ||| 128 = x.val % 128 + 128 := by decide
  have h2 := h ⟨m % 256, by omega⟩
  have h3 := u8_or_nat (m % 256) 128 (by omega) (by omega)
  simp only at h2
  rw [h2] at h3
  rw [show (m : Int) % 256 = ((m % 256 : Nat) : Int) by omega]
  have : m % 256 % 128 = m % 128 := by omega
  rw [this] at h3
  exact h3

theorem slice_ten (b k : Nat) (hk : k ≤ 9) (W : World) : (Instr.sliceAt 164 (.pointer (some ⟨b, 0, none⟩)) none (some (.int .i64 ((k : Int) + 1))) none).run Tryz.prog W = .ok (.slice (some ⟨b, 0, none⟩) (k + 1) 10) W := by
  have e : Tryz.prog.arrayLen 164 = 10 := by kernel_rfl
  rw [run_sliceAt_array_h W _ ⟨b, 0, none⟩ (by kernel_rfl) .i64 _ (by omega) (by rw [e]; omega), e]
  have hs : (sizeOf (Tryz.prog.elem 164)).run Tryz.prog W = .ok 1 W := by kernel_rfl
  rw [hs]
  simp [slicedAt, Result.andThen, Addr.add]
set_option maxHeartbeats 1600000 in
theorem put_any (n : Nat) (w : World) (hn : n < 18446744073709551616) :
    Calls Tryz.prog 96 #[.int .u64 n] w fun e w' => e = .returned (.string (bs (Pl.Seat.put n))) ∧ Below w.heap.size w w' := by
  obtain ⟨R, hR⟩ : ∃ R, Pl.Seat.put n = R := ⟨_, rfl⟩
  rw [hR]
  have HR := Lib.hid hR
  clear hR
  have hor := or128
  have HN := Lib.hid hn
  clear hn
  go_enter Tryz.func96, Tryz.ntmps96
  go_wp2
  go_loopw [0, 4] (fun v i wr => ∃ (m k : Nat) (pre : List UInt8), k ≤ 9 ∧ i = .int .i64 k ∧ v = .int .u64 m ∧ pre.length = k ∧ Hid (m * 128 ^ k ≤ n) ∧ Hid (R = pre ++ Pl.Seat.putF (10 - k) m) ∧ (∀ j, j < 10 → ∃ x, wr.cell? ⟨w.heap.size, j, none⟩ = some x) ∧ (∀ j, j < k → wr.cell? ⟨w.heap.size, j, none⟩ = some (.int .u8 ((pre.getD j 0).toNat : Int))) ∧ (∀ o, wr.frozen? ⟨w.heap.size, o, none⟩ = false) ∧ Below w.heap.size w wr) (fun _ i _ => 10 - (intOf i).toNat)
  case atStart =>
    refine ⟨n, 0, [], by omega, rfl, rfl, rfl, by simp [Hid], HR.out.symm, ?_, by intro j hj; omega, by intro o; go_simp, (Below.refl _ _).alloc (Nat.le_refl _) _⟩
    intro j hj
    have : j = 0 ∨ j = 1 ∨ j = 2 ∨ j = 3 ∨ j = 4 ∨ j = 5 ∨ j = 6 ∨ j = 7 ∨ j = 8 ∨ j = 9 := by omega
    rcases this with rfl | rfl | rfl | rfl | rfl | rfl | rfl | rfl | rfl | rfl <;> exact ⟨.int .u8 0, by go_simp⟩
  case round =>
    obtain ⟨m, k, pre, hk, rfl, rfl, hp, HM, HE, hc, hcb, hfz, hB⟩ := hrel
    obtain ⟨x, hx⟩ := hc k (by omega)
    have hm0 := HM.out
    have hpw : 1 ≤ 128 ^ k := Nat.one_le_pow k 128 (by omega)
    have hmn : m ≤ n := Nat.le_trans (Nat.le_mul_of_pos_right m hpw) hm0
    have hm1 : (m : Int) < 18446744073709551616 := by have := HN.out; omega
    by_cases hge : 128 ≤ m
    · have hk8 : k ≤ 8 := by
        rcases Nat.lt_or_ge k 9 with h | h
        · omega
        · have : k = 9 := by omega
          subst this
          have e : (128 : Nat) ^ 9 = 9223372036854775808 := by decide
          rw [e] at hm0
          have := HN.out
          omega
      have hE2 : R = (pre ++ [UInt8.ofNat (m % 128 + 128)]) ++ Pl.Seat.putF (10 - (k + 1)) (m / 128) := by
        rw [HE.out, show 10 - k = (10 - (k + 1)) + 1 by omega, Pl.Seat.putF, if_neg (by omega)]
        simp
      have hM2 : m / 128 * 128 ^ (k + 1) ≤ n := by
        rw [Nat.pow_succ, Nat.mul_comm (128 ^ k), ← Nat.mul_assoc]
        exact Nat.le_trans (Nat.mul_le_mul_right _ (Nat.div_mul_le_self m 128)) hm0
      have HE2 := Lib.hid hE2
      have HM2 := Lib.hid hM2
      have HC := Lib.hid hc
      have HCB := Lib.hid hcb
      have hgi : (128 : Int) ≤ (m : Int) := by omega
      clear hE2 hM2 hm0 hpw hcb hc hge hmn
      go_wp2
      have hx' : ∀ v, (wr.setCell ⟨w.heap.size, k, none⟩ v).cell? ⟨w.heap.size, k, none⟩ = some v := fun v => World.cell?_setCell_same _ _ _ hx
      go_roundw
      case rel =>
        refine ⟨m / 128, k + 1, pre ++ [UInt8.ofNat (m % 128 + 128)], by omega, by go_num, by go_num, by simp [hp], HM2, HE2, ?_, ?_, ?_, ?_⟩
        · intro j hj
          by_cases e : j = k
          · subst e; exact ⟨_, hx' _⟩
          · rw [World.cell?_setCell_other _ _ _ _ (by simp [e])]
            exact HC.out j hj
        · intro j hj
          by_cases e : j = k
          · subst e
            rw [hx']
            have : (UInt8.ofNat (m % 128 + 128)).toNat = m % 128 + 128 := by simp; omega
            simp [List.getD_eq_getElem?_getD, hp]
            omega
          · rw [World.cell?_setCell_other _ _ _ _ (by simp [e]), HCB.out j (by omega)]
            simp only [List.getD_eq_getElem?_getD]
            rw [List.getElem?_append_left (by omega)]
        · intro o; rw [World.frozen?_setCell]; exact hfz o
        · exact hB.setCell (p := ⟨w.heap.size, k, none⟩) (Nat.le_refl _) _
      case measure => simp [intOf]; omega
    · have hlt : (m : Int) < 128 := by omega
      have hE2 : R = pre ++ [UInt8.ofNat m] := by
        rw [HE.out, show 10 - k = (9 - k) + 1 by omega, Pl.Seat.putF, if_pos (by omega)]
      have hx' : ∀ v, (wr.setCell ⟨w.heap.size, k, none⟩ v).cell? ⟨w.heap.size, k, none⟩ = some v := fun v => World.cell?_setCell_same _ _ _ hx
      have hRl : R.length = k + 1 := by rw [hE2]; simp [hp]
      have hcv : (convert 107 9 (.slice (some ⟨w.heap.size, 0, none⟩) (k + 1) 10)).run Tryz.prog (wr.setCell ⟨w.heap.size, k, none⟩ (.int .u8 m)) = .ok (.string (bs R)) (wr.setCell ⟨w.heap.size, k, none⟩ (.int .u8 m)) := by
        rw [← nums_bs]
        refine run_convert_bytes_arg _ 107 5 Tryz.underlying107 Tryz.underlying5 _ 0 (k + 1) 10 (R.map fun b => (b.toNat : Int)) (by simpa using hRl) (fun j hj => ?_) _ Tryz.underlying9
        rw [Nat.zero_add]
        by_cases e : j = k
        · subst e
          rw [hx', hE2]
          have : (UInt8.ofNat m).toNat = m := by simp; omega
          simp [List.getD_eq_getElem?_getD, hp]
          omega
        · rw [World.cell?_setCell_other _ _ _ _ (by simp [e]), hcb j (by omega), hE2]
          simp only [List.getD_eq_getElem?_getD, List.map_append]
          rw [List.getElem?_append_left (by simp; omega)]
          simp [show j < pre.length by omega]
      have hsl := slice_ten w.heap.size k hk
      have hd : decide ((128 : Int) ≤ (m : Int)) = false := by simp; omega
      clear hm0 hpw hcb hc hge hmn hE2 hRl
      go_wp2
      go_ret
      exact ⟨rfl, hB.setCell (p := ⟨w.heap.size, k, none⟩) (Nat.le_refl _) _⟩
theorem put_at (n : Nat) (R : List UInt8) (w : World) (hn : n < 18446744073709551616) (hR : Pl.Seat.put n = R) :
    Calls Tryz.prog 96 #[.int .u64 n] w fun e w' => e = .returned (.string (bs R)) ∧ Below w.heap.size w w' := hR ▸ put_any n w hn

/-- the digits to the base 128 -/
def digF : Nat → Nat → List Nat
  | 0, _ => []
  | f + 1, n => if n = 0 then [] else n % 128 :: digF f (n / 128)
def dig (n : Nat) : List Nat := n % 128 :: digF 9 (n / 128)
def toI (l : List Nat) : List Int := l.map fun (n : Nat) => (n : Int)
theorem toI_length (l : List Nat) : (toI l).length = l.length := by simp [toI]
theorem toI_append (l : List Nat) (n : Nat) : toI l ++ [(n : Int)] = toI (l ++ [n]) := by simp [toI]
set_option maxHeartbeats 1600000 in
theorem digits_any (n : Nat) (w : World) (hn : n < 18446744073709551616) :
    Calls Tryz.prog 137 #[.int .u64 n] w fun e w' => ∃ v, e = .returned v ∧ Own w' w.heap.size v (toI (dig n)) ∧ Below w.heap.size w w' := by
  obtain ⟨i0, hi, hz0, hz1, hz2⟩ := info_parts info_int
  have HN := Lib.hid hn
  have hn2 : n / 128 ≤ 9223372036854775807 := by omega
  clear hn
  obtain ⟨R, hR⟩ : ∃ R, dig n = R := ⟨_, rfl⟩
  rw [hR]
  have HR := Lib.hid hR
  clear hR
  go_enter Tryz.func137, Tryz.ntmps137
  go_wp2
  have HB0 := (Below.refl w.heap.size w).alloc (Nat.le_refl _) (.cells #[.int .i64 ((n : Int) % 128)] 3)
  have HO0 := Own.one w ((n : Int) % 128)
  generalize w.alloc (.cells #[.int .i64 ((n : Int) % 128)] 3) = w0 at HB0 HO0 ⊢
  go_loopw [0, 3] (fun v out wr => ∃ (m k : Nat) (o : List Nat), k ≤ 9 ∧ m ≤ 144115188075855871 ∧ v = .int .u64 m ∧ Own wr w.heap.size out (toI o) ∧ o.length = k + 1 ∧ Below w.heap.size w wr ∧ Hid (m * 128 ^ (k + 1) ≤ n) ∧ Hid (R = o ++ digF (9 - k) m)) (fun v _ _ => (intOf v).toNat)
  case atStart =>
    refine ⟨n / 128, 0, [n % 128], by omega, by have := HN.out; omega, by go_num, ?_, rfl, HB0, ?_, by rw [← HR.out]; rfl⟩
    · have e : toI [n % 128] = [(n : Int) % 128] := by simp [toI]
      rw [e]
      exact HO0
    · show n / 128 * 128 ^ 1 ≤ n
      omega
  case round =>
    obtain ⟨m, k, o, hk, hm, rfl, hO, hol, hB, HM, HE⟩ := hrel
    have hsl := hB.size
    have hOlt := hO.lt
    have hol2 : (toI o).length ≤ 10 := by rw [toI_length]; omega
    rcases Nat.eq_zero_or_pos m with rfl | hp
    · have hE2 : R = o := by
        rw [HE.out]
        cases 9 - k <;> simp [digF]
      have HE2 := Lib.hid hE2
      go_wp2
      go_ret
      exact ⟨_, rfl, by rw [HE2.out]; exact hO, hB⟩
    · have hk8 : k + 1 ≤ 9 := by
        rcases Nat.lt_or_ge k 9 with h | h
        · omega
        · have : k = 9 := by omega
          subst this
          have e : (128 : Nat) ^ (9 + 1) = 1180591620717411303424 := by decide
          have h1 := HM.out
          rw [e] at h1
          have := HN.out
          omega
      have hE2 : R = (o ++ [m % 128]) ++ digF (9 - (k + 1)) (m / 128) := by
        rw [HE.out, show 9 - k = (9 - (k + 1)) + 1 by omega, digF, if_neg (by omega)]
        simp
      have hM2 : m / 128 * 128 ^ (k + 1 + 1) ≤ n := by
        rw [Nat.pow_succ 128 (k + 1), Nat.mul_comm (128 ^ (k + 1)), ← Nat.mul_assoc]
        exact Nat.le_trans (Nat.mul_le_mul_right _ (Nat.div_mul_le_self m 128)) HM.out
      have HE2 := Lib.hid hE2
      have HM2 := Lib.hid hM2
      have hg0 : (0 : Int) < (m : Int) := by omega
      have hmi : (m : Int) ≤ 144115188075855871 := by omega
      clear hE2 hM2 hm
      go_wp2_with (at_builtin; go_must (refine wpList_append_own _ rfl _ _ 26 rfl w.heap.size 3 i0 (.int .i64 0) 1 8 Tryz.underlying26 hi hz0 hz1 hz2 rfl (by decide) _ _ _ rfl (World.ownsRow.alloc hO _) ⟨wr.heap.size, 0, none⟩ 1 1 [.int .i64 ((m : Int) % 128)] rfl rfl (cell_one_new _ _ _) (fun x hx => by simp at hx; subst hx; rfl) (by unfold maxLen; omega) (by omega) (by simp; omega) ?_); intro v' w2 hO3 hgrow _)
      go_roundw
      case rel =>
        refine ⟨m / 128, k + 1, o ++ [m % 128], hk8, by omega, by go_num, ?_, by simp; omega, ?_, HM2, HE2⟩
        · rw [← toI_append]
          have := Own.app hO3
          rw [show (((m % 128 : Nat)) : Int) = (m : Int) % 128 by omega]
          exact this
        · exact (hB.alloc (by omega) _).grown hgrow (by simp; omega) (fun k e => (hOlt k e).1)
      case measure => simp [intOf]; omega

theorem digits_at (n : Nat) (R : List Nat) (w : World) (hn : n < 18446744073709551616) (hR : dig n = R) :
    Calls Tryz.prog 137 #[.int .u64 n] w fun e w' => ∃ v, e = .returned v ∧ Own w' w.heap.size v (toI R) ∧ Below w.heap.size w w' := hR ▸ digits_any n w hn
/-- the bytes out of the digits -/
def enc : List Nat → List UInt8
  | [] => []
  | [c] => [UInt8.ofNat c]
  | c :: d :: l => UInt8.ofNat (c + 128) :: enc (d :: l)
theorem enc_dig (f : Nat) : ∀ m, m < 128 ^ (f + 1) → enc (m % 128 :: digF f (m / 128)) = Pl.Seat.putF (f + 1) m := by
  induction f with
  | zero =>
    intro m h
    have : m < 128 := by simpa using h
    simp [digF, enc, Pl.Seat.putF, this, Nat.mod_eq_of_lt this]
  | succ f ih =>
    intro m h
    have hp : (128 : Nat) ^ (f + 1 + 1) = 128 * 128 ^ (f + 1) := by rw [Nat.pow_succ, Nat.mul_comm]
    by_cases h1 : m < 128
    · have e : m / 128 = 0 := by omega
      rw [e]
      simp [digF, enc, Pl.Seat.putF, h1, Nat.mod_eq_of_lt h1]
    · have e := ih (m / 128) (by rw [hp] at h; omega)
      rw [digF, if_neg (by omega), enc, e]
      conv => rhs; rw [Pl.Seat.putF, if_neg h1]
theorem enc_put (n : Nat) (h : n < 18446744073709551616) : enc (dig n) = Pl.Seat.put n := by
  refine enc_dig 9 n ?_
  have : (128 : Nat) ^ (9 + 1) = 1180591620717411303424 := by decide
  omega
theorem dig_len (f : Nat) : ∀ m, (digF f m).length ≤ f := by
  induction f with
  | zero => intro m; simp [digF]
  | succ f ih => intro m; unfold digF; split
                 · simp
                 · simp; exact ih _
theorem enc_len (l : List Nat) : (enc l).length = l.length := by
  induction l with
  | nil => rfl
  | cons c l ih =>
    cases l with
    | nil => rfl
    | cons d l => simp only [enc, List.length_cons] at ih ⊢; rw [ih]
theorem conv_one (w : World) (x : Int) :
    (convert 107 9 (.slice (some ⟨w.heap.size, 0, none⟩) 1 1)).run Tryz.prog (w.alloc (.cells #[.int .u8 x] 5)) = .ok (.string (strOfNums [x])) (w.alloc (.cells #[.int .u8 x] 5)) :=
  run_convert_bytes_arg _ 107 5 Tryz.underlying107 Tryz.underlying5 _ 0 1 1 [x] rfl (fun i hi => by (obtain rfl : i = 0 := by omega); go_simp) _ Tryz.underlying9
theorem bs_one (pre : List UInt8) (c : Nat) : bs pre ++ strOfNums [(c : Int) % 256] = bs (pre ++ [UInt8.ofNat c]) := by
  have e : strOfNums [(c : Int) % 256] = bs [UInt8.ofNat c] := by
    rw [← nums_bs]
    congr 1
  rw [e, bs_append]
theorem dig_lt (f : Nat) : ∀ m, ∀ c ∈ digF f m, c < 128 := by
  induction f with
  | zero => intro m c h; simp [digF] at h
  | succ f ih =>
    intro m c h
    unfold digF at h
    split at h
    · simp at h
    · rcases List.mem_cons.1 h with rfl | h
      · omega
      · exact ih _ c h

set_option maxHeartbeats 1600000 in
theorem refPut_any (n : Nat) (w : World) (hn : n < 18446744073709551616) :
    Calls Tryz.prog 128 #[.int .u64 n] w fun e w' => e = .returned (.string (bs (Pl.Seat.put n))) ∧ Below w.heap.size w w' := by
  rw [← enc_put n hn]
  have HN := Lib.hid hn
  have hc1 := conv_one
  have hdl : (dig n).length ≤ 10 := by unfold dig; have := dig_len 9 (n / 128); simp; omega
  have hdc : ∀ c ∈ dig n, c < 128 := by
    intro c h
    unfold dig at h
    rcases List.mem_cons.1 h with rfl | h
    · omega
    · exact dig_lt _ _ c h
  clear hn
  obtain ⟨D, hD⟩ : ∃ D, dig n = D := ⟨_, rfl⟩
  rw [hD] at hdl hdc ⊢
  have HD := Lib.hid hD
  clear hD
  obtain ⟨R, hR⟩ : ∃ R, enc D = R := ⟨_, rfl⟩
  rw [hR]
  have HR := Lib.hid hR
  clear hR
  go_enter Tryz.func128, Tryz.ntmps128
  go_wp2_with (go_at_call 137; refine (digits_at _ D _ HN.out HD.out).mono ?_; rintro e w1 ⟨v, rfl, hO, hB1⟩)
  obtain ⟨A, cp, rfl, hI, hAb, hAl, _⟩ := own_reads hO
  rw [toI_length]
  go_loopw [4, 5, 6] (fun out i c wr => ∃ (k : Nat) (pre : List UInt8), k ≤ D.length ∧ pre.length = k ∧ i = .int .i64 k ∧ out = .string (bs pre) ∧ Below w.heap.size w wr ∧ Below w1.heap.size w1 wr ∧ Hid (R = pre ++ enc (D.drop k))) (fun _ i _ _ => D.length - (intOf i).toNat)
  case atStart => exact ⟨0, [], by omega, rfl, rfl, rfl, hB1, Below.refl _ _, HR.out.symm⟩
  case round =>
    obtain ⟨k, pre, hk, hp, rfl, rfl, hBw, hBr, HE⟩ := hrel
    have hHp := Lib.hid hp
    by_cases hlt : k < D.length
    · obtain ⟨g, off, rfl⟩ := hI.addr (by intro e; have := congrArg List.length e; rw [toI_length] at this; simp at this; rw [this] at hlt; simp at hlt)
      have hgb := (hAb g off rfl).2
      have hcl : wr.cell? ⟨g, off + k, none⟩ = some (.int .i64 (D.getD k 0 : Nat)) := by
        rw [hBr.cell (p := ⟨g, off + k, none⟩) hgb, hI.cell (by rw [toI_length]; exact hlt)]
        simp [toI, List.getD_eq_getElem?_getD, hlt]
      have hc128 : D.getD k 0 < 128 := hdc _ (by rw [List.getD_eq_getElem?_getD, List.getElem?_eq_getElem hlt]; exact List.getElem_mem hlt)
      have hz : ¬ (9223372036854775807 < (bs pre).size + (strOfNums [((D.getD k 0 : Nat) : Int) % 256]).size) := by rw [bs_size, strOfNums_size, hp]; simp; omega
      have hdr : D.drop k = D.getD k 0 :: D.drop (k + 1) := by rw [List.drop_eq_getElem_cons hlt]; simp [List.getD_eq_getElem?_getD, hlt]
      have hsl := hBw.size
      have hsl1 := hBr.size
      by_cases hlast : k + 1 < D.length
      · have hE2 : R = (pre ++ [UInt8.ofNat (D.getD k 0 + 128)]) ++ enc (D.drop (k + 1)) := by
          rw [HE.out, hdr]
          have : D.drop (k + 1) = D.getD (k + 1) 0 :: D.drop (k + 2) := by rw [List.drop_eq_getElem_cons hlast]; simp [List.getD_eq_getElem?_getD, hlast]
          rw [this, enc]
          simp
        have HE2 := Lib.hid hE2
        have hz2 : ¬ (9223372036854775807 < (bs pre).size + (strOfNums [((D.getD k 0 : Nat) : Int) + 128]).size) := by rw [bs_size, strOfNums_size, hp]; simp; omega
        have hb1 : bs pre ++ strOfNums [((D.getD k 0 : Nat) : Int) + 128] = bs (pre ++ [UInt8.ofNat (D.getD k 0 + 128)]) := by
          rw [← bs_one]
          congr 2
          simp only [List.cons.injEq, and_true]
          omega
        have HB1 := Lib.hid hb1
        have hli : (k : Int) + 1 < (D.length : Int) := by omega
        clear hE2 hb1 hdr hdc
        generalize D.getD k 0 = c at *
        go_wp2
        go_roundw
        case rel => exact ⟨k + 1, _, by omega, by simp [hHp.out], by go_num, by rw [HB1.out], hBw.alloc hsl _, hBr.alloc hsl1 _, HE2⟩
        case measure => simp [intOf]; omega
      · have hE2 : R = (pre ++ [UInt8.ofNat (D.getD k 0)]) ++ enc (D.drop (k + 1)) := by
          rw [HE.out, hdr]
          have : D.drop (k + 1) = [] := List.drop_eq_nil_of_le (by omega)
          rw [this]
          simp [enc]
        have HE2 := Lib.hid hE2
        have hz2 : ¬ (9223372036854775807 < (bs pre).size + (strOfNums [((D.getD k 0 : Nat) : Int)]).size) := by rw [bs_size, strOfNums_size, hp]; simp; omega
        have hb1 : bs pre ++ strOfNums [((D.getD k 0 : Nat) : Int)] = bs (pre ++ [UInt8.ofNat (D.getD k 0)]) := by
          rw [← bs_one]
          congr 2
          simp only [List.cons.injEq, and_true]
          omega
        have HB1 := Lib.hid hb1
        have hli : (D.length : Int) ≤ (k : Int) + 1 := by omega
        clear hE2 hb1 hdr hdc
        generalize D.getD k 0 = c at *
        go_wp2
        go_roundw
        case rel => exact ⟨k + 1, _, by omega, by simp [hHp.out], by go_num, by rw [HB1.out], hBw.alloc hsl _, hBr.alloc hsl1 _, HE2⟩
        case measure => simp [intOf]; omega
    · have hke : k = D.length := by omega
      have hE2 : R = pre := by rw [HE.out, hke, List.drop_length]; simp [enc]
      have HE2 := Lib.hid hE2
      have hge : (D.length : Int) ≤ (k : Int) := by omega
      clear hE2 hdc
      go_wp2
      go_ret
      exact ⟨by rw [HE2.out]; rfl, hBw⟩
theorem refPut_at (n : Nat) (R : List UInt8) (w : World) (hn : n < 18446744073709551616) (hR : Pl.Seat.put n = R) :
    Calls Tryz.prog 128 #[.int .u64 n] w fun e w' => e = .returned (.string (bs R)) ∧ Below w.heap.size w w' := hR ▸ refPut_any n w hn
end Go.Proofs.YtfbakelpplpomaaGreatDoor.WalkVar
/-
  The walks of varint.Get and of the document's Get.
-/
namespace Go.Proofs.YtfbakelpplpomaaGreatDoor.WalkVar
open Go.RowKit Go.Proofs.YtfbakelpplpomaaGreatDoor.WalkInts
set_option linter.unusedVariables false
set_option linter.unusedSimpArgs false
set_option maxRecDepth 100000

theorem minInt2 (k k' : IntKind) (x y : Int) : Builtin.min2 (.int k x) (.int k' y) = pure (.int k (if y < x then y else x)) := by simp only [Builtin.min2]
theorem minTwo (ats : Array TypeId) (ty : TypeId) (a b : Value) : Builtin.min_ ats ty #[a, b] = (Builtin.min2 a b >>= fun s => pure s) := by simp only [Builtin.min_, List.foldlM_cons, List.foldlM_nil]
attribute [local go_sem] minTwo

/-- the number, and how many bytes it has, if there is one -/
def gN : Option (Nat × Nat) → Nat
  | none => 0
  | some p => p.1
def gK : Option (Nat × Nat) → Nat
  | none => 0
  | some p => p.2
/-- what is left to be read behind k bytes -/
def upto (acc k : Nat) (o : Option (Nat × Nat)) : Option (Nat × Nat) := o.map fun p => (acc + 128 ^ k * p.1, p.2 + k)
theorem or_shift (acc k c : Nat) (h : acc < 128 ^ k) (hk : k ≤ 9) (hc : c < 256) (h9 : k = 9 → c ≤ 1) :
    bits .or .u64 (acc : Int) (IntKind.u64.wrap (bits .and .u64 (c : Int) 127 * 2 ^ (7 * k))) = ((acc + 128 ^ k * (c % 128) : Nat) : Int) := by
  have e1 : bits .and .u64 (c : Int) 127 = ((c % 128 : Nat) : Int) := by
    have := u64_and_nat c 127 (by omega) (by omega)
    rw [show c &&& 127 = c % 128 from Nat.and_two_pow_sub_one_eq_mod c 7] at this
    exact this
  have e2 : (2 : Nat) ^ (7 * k) = 128 ^ k := by rw [Nat.pow_mul]
  have hkk : k = 0 ∨ k = 1 ∨ k = 2 ∨ k = 3 ∨ k = 4 ∨ k = 5 ∨ k = 6 ∨ k = 7 ∨ k = 8 ∨ k = 9 := by omega
  have hb : 128 ^ k * (c % 128) < 18446744073709551616 := by
    rcases hkk with rfl | rfl | rfl | rfl | rfl | rfl | rfl | rfl | rfl | rfl <;> simp <;> omega
  have ha : acc < 18446744073709551616 := by
    rcases hkk with rfl | rfl | rfl | rfl | rfl | rfl | rfl | rfl | rfl | rfl <;> simp at h <;> omega
  have e3 : IntKind.u64.wrap (((c % 128 : Nat) : Int) * 2 ^ (7 * k)) = ((128 ^ k * (c % 128) : Nat) : Int) := by
    have e4 : ((c % 128 : Nat) : Int) * 2 ^ (7 * k) = ((128 ^ k * (c % 128) : Nat) : Int) := by
      rw [← e2]
      push_cast
      rw [Int.mul_comm]
    rw [e4]
    rw [IntKind.wrap_u64]
    omega
  rw [e1, e3, u64_or_nat _ _ ha hb]
  congr 1
  rw [← e2] at h ⊢
  rw [Nat.or_comm, Nat.add_comm, Nat.two_pow_add_eq_or_of_lt h]

set_option maxHeartbeats 1600000 in
theorem get_at (s : ByteArray) (o : Option (Nat × Nat)) (w : World) (hv : Pl.Seat.get s.data.toList = o) (hs : s.size ≤ 9223372036854775806) :
    Calls Tryz.prog 118 #[.string s] w fun e w' => e = .returned (.tuple #[.int .u64 (gN o : Nat), .int .i64 (gK o : Nat), .bool o.isSome]) ∧ w = w' := by
  have HV := Lib.hid hv
  clear hv
  have hos := or_shift
  have HOS := Lib.hid hos
  clear hos
  have hsl : s.data.toList.length = s.size := by simp
  have HSL := Lib.hid hsl
  clear hsl
  have hm : ∃ m : Nat, m ≤ 10 ∧ m ≤ s.size ∧ (m = 10 ∨ m = s.size) ∧ Builtin.min2 (.int .i64 (s.size : Int)) (.int .i64 10) = pure (.int .i64 (m : Int)) := by
    rcases Nat.lt_or_ge 10 s.size with h | h
    · exact ⟨10, by omega, by omega, .inl rfl, by rw [minInt2, if_pos (by omega)]; rfl⟩
    · exact ⟨s.size, by omega, by omega, .inr rfl, by rw [minInt2, if_neg (by omega)]⟩
  obtain ⟨m, hm1, hm2, hm3, hmin⟩ := hm
  have HM3 := Lib.hid hm3
  clear hm3
  go_enter Tryz.func118, Tryz.ntmps118
  go_wp2
  go_loop [2, 10] (fun n i => ∃ (k acc : Nat), k ≤ m ∧ i = .int .i64 k ∧ n = .int .u64 acc ∧ Hid (acc < 128 ^ k) ∧ Hid (o = upto acc k (Pl.Seat.getF (10 - k) (s.data.toList.drop k)))) (fun _ i => 10 - (intOf i).toNat)
  case atStart =>
    refine ⟨0, 0, by omega, rfl, rfl, by show 0 < 128 ^ 0; omega, ?_⟩
    show o = _
    rw [← HV.out]
    unfold upto Pl.Seat.get
    simp
  case round =>
    obtain ⟨k, acc, hk, rfl, rfl, HA, HE⟩ := hrel
    by_cases hlt : k < m
    · have hks : k < s.size := by omega
      have hdr : s.data.toList.drop k = s[k] :: s.data.toList.drop (k + 1) := by
        rw [List.drop_eq_getElem_cons (by rw [HSL.out]; exact hks)]
        rfl
      have hst := HE.out
      rw [hdr, show 10 - k = (9 - k) + 1 by omega] at hst
      simp only [Pl.Seat.getF] at hst
      have hcl : s[k].toNat < 256 := UInt8.toNat_lt _
      obtain ⟨C, hC⟩ : ∃ C, s[k].toNat = C := ⟨_, rfl⟩
      rw [hC] at hst hcl
      have HST := Lib.hid hst
      have HS0 := Lib.hid hs
      clear hst hdr
      have hk9 : k ≤ 9 := by omega
      have hki : (0 : Int) ≤ (k : Int) := by omega
      rcases (by omega : (k = 9 ∧ 1 < C) ∨ (k < 9 ∧ 128 ≤ C) ∨ (k < 9 ∧ C = 0 ∧ 0 < k) ∨ (k = 9 ∧ C = 0) ∨ (k < 9 ∧ C < 128 ∧ C ≠ 0) ∨ (k = 9 ∧ C = 1) ∨ (k = 0 ∧ C = 0)) with ⟨h1, h2⟩ | ⟨h1, h2⟩ | ⟨h1, h2, h3⟩ | ⟨h1, h2⟩ | ⟨h1, h2, h3⟩ | ⟨h1, h2⟩ | ⟨h1, h2⟩
      · have hf : o = none := by
          rw [HST.out, if_pos (by omega)]; rfl
        subst hf
        subst h1
        have hci : (1 : Int) < (C : Int) := by omega
        clear HST HE h2
        go_wp2
        go_ret3
        exact ⟨rfl, rfl⟩
      · have hor := HOS.out acc k C HA.out hk9 hcl (by omega)
        have HOR := Lib.hid hor
        have hCi : (128 : Int) ≤ (C : Int) := by omega
        have t1 : ((k : Int) == 9) = false := by simp; omega
        have hA2 : acc + 128 ^ k * (C % 128) < 128 ^ (k + 1) := by
          have := HA.out
          have e : 128 ^ k * (C % 128) ≤ 128 ^ k * 127 := Nat.mul_le_mul_left _ (by omega)
          rw [Nat.pow_succ]
          omega
        have hE2 : o = upto (acc + 128 ^ k * (C % 128)) (k + 1) (Pl.Seat.getF (10 - (k + 1)) (s.data.toList.drop (k + 1))) := by
          rw [HST.out, if_neg (by omega), if_pos h2, show 10 - (k + 1) = 9 - k by omega]
          unfold upto
          cases Pl.Seat.getF (9 - k) (s.data.toList.drop (k + 1)) with
          | none => rfl
          | some p =>
            simp only [Option.map_some, Option.some.injEq, Prod.mk.injEq]
            refine ⟨?_, by omega⟩
            rw [Nat.pow_succ, Nat.mul_add, Nat.add_assoc, Nat.mul_assoc]
        have HA2 := Lib.hid hA2
        have HE2 := Lib.hid hE2
        clear hor hA2 hE2 HST HE h2
        go_wp2
        go_round
        case rel => exact ⟨k + 1, acc + 128 ^ k * (C % 128), by omega, by go_num, by rw [HOR.out], HA2, HE2⟩
        case measure => simp [intOf]; omega
      · have hf : o = none := by
          rw [HST.out, if_neg (by omega), if_neg (by omega), if_pos (by omega)]; rfl
        subst hf
        subst h2
        have t1 : ((k : Int) == 9) = false := by simp; omega
        have t3 : (0 : Int) < (k : Int) := by omega
        clear HST HE h3
        go_wp2
        go_ret3
        exact ⟨rfl, rfl⟩
      · have hf : o = none := by
          rw [HST.out, if_neg (by omega), if_neg (by omega), if_pos (by omega)]; rfl
        subst hf
        subst h2
        subst h1
        clear HST HE
        go_wp2
        go_ret3
        exact ⟨rfl, rfl⟩
      · have hf : o = some (acc + 128 ^ k * (C % 128), k + 1) := by
          rw [HST.out, if_neg (by omega), if_neg (by omega), if_neg (by omega), show C % 128 = C by omega]
          unfold upto
          simp; omega
        subst hf
        have hor := HOS.out acc k C HA.out hk9 hcl (by omega)
        have HOR := Lib.hid hor
        have t1 : ((k : Int) == 9) = false := by simp; omega
        have t2 : ((C : Int) == 0) = false := by simp; omega
        have t4 : (C : Int) < 128 := by omega
        have t5 : decide ((128 : Int) ≤ (C : Int)) = false := by simp; omega
        clear hor HST HE h2 h3
        go_wp2
        go_ret3
        exact ⟨by rw [HOR.out]; rfl, rfl⟩
      · have hf : o = some (acc + 128 ^ k * (C % 128), k + 1) := by
          rw [HST.out, if_neg (by omega), if_neg (by omega), if_neg (by omega), show C % 128 = C by omega]
          unfold upto
          simp; omega
        subst hf
        subst h1
        have hor := HOS.out acc 9 C HA.out (by omega) hcl (by omega)
        subst h2
        have hor2 : bits .or .u64 (acc : Int) (IntKind.u64.wrap (bits .and .u64 1 127 * 9223372036854775808)) = ((acc + 128 ^ 9 * (1 % 128) : Nat) : Int) := by
          rw [← hor]
          congr 2
        have HOR := Lib.hid hor2
        clear hor2
        clear hor HST HE
        go_wp2
        go_ret3
        exact ⟨by rw [HOR.out]; rfl, rfl⟩
      · have hf : o = some (acc + 128 ^ k * (C % 128), k + 1) := by
          rw [HST.out, if_neg (by omega), if_neg (by omega), if_neg (by omega), show C % 128 = C by omega]
          unfold upto
          simp; omega
        subst hf
        have hor := HOS.out acc k C HA.out hk9 hcl (by omega)
        subst h1
        subst h2
        have hor2 : bits .or .u64 (acc : Int) (IntKind.u64.wrap (bits .and .u64 0 127)) = ((acc + 128 ^ 0 * (0 % 128) : Nat) : Int) := by
          rw [← hor]
          congr 2
        have HOR := Lib.hid hor2
        clear hor2
        clear hor HST HE
        go_wp2
        go_ret3
        exact ⟨by rw [HOR.out]; rfl, rfl⟩
    · have hke : k = m := by omega
      have hf : o = none := by
        rw [HE.out]
        rcases HM3.out with h | h
        · rw [show 10 - k = 0 by omega]; simp [Pl.Seat.getF, upto]
        · rw [List.drop_of_length_le (by rw [HSL.out]; omega)]
          cases 10 - k <;> simp [Pl.Seat.getF, upto]
      subst hf
      have hge : (m : Int) ≤ (k : Int) := by omega
      clear HE
      go_wp2
      go_ret3
      exact ⟨rfl, rfl⟩

theorem vf_drop (l : List UInt8) (q : Nat) (h : q < l.length) : Pl.Seat.vf (l.drop q) = (l.getD q 0).toNat % 128 + 128 * Pl.Seat.vf (l.drop (q + 1)) := by
  rw [List.drop_eq_getElem_cons h]
  simp [Pl.Seat.vf, List.getD_eq_getElem?_getD, h]

set_option maxHeartbeats 3200000 in
theorem refGet_at (s : ByteArray) (o : Option (Nat × Nat)) (w : World) (hv : Pl.Seat.get s.data.toList = o) (hs : s.size ≤ 9223372036854775806) :
    Calls Tryz.prog 126 #[.string s] w fun e w' => e = .returned (.tuple #[.int .u64 (gN o : Nat), .int .i64 (gK o : Nat), .bool o.isSome]) ∧ Below w.heap.size w w' := by
  have HV := Lib.hid hv
  clear hv
  have hsl : s.data.toList.length = s.size := by simp
  have HSL := Lib.hid hsl
  clear hsl
  have hgd : ∀ k (h : k < s.size), (s.data.toList.getD k 0) = s[k] := fun k h => by
    rw [List.getD_eq_getElem?_getD, List.getElem?_eq_getElem (by rw [HSL.out]; exact h)]; rfl
  have HGD := Lib.hid hgd
  clear hgd
  go_enter Tryz.func126, Tryz.ntmps126
  go_wp2
  go_loop [5] (fun i => ∃ (k : Nat), k ≤ s.size ∧ i = .int .i64 k ∧ Hid (∀ j, j < k → 128 ≤ (s.data.toList.getD j 0).toNat)) (fun i => s.size - (intOf i).toNat)
  case atStart => exact ⟨0, by omega, rfl, by intro j hj; omega⟩
  case round =>
    obtain ⟨k, hk, rfl, HF⟩ := hrel
    by_cases hlt : k < s.size
    · obtain ⟨C, hC⟩ : ∃ C, s[k].toNat = C := ⟨_, rfl⟩
      have hcl : C < 256 := by rw [← hC]; exact UInt8.toNat_lt _
      by_cases hc : 128 ≤ C
      · have hF2 : Hid (∀ j, j < k + 1 → 128 ≤ (s.data.toList.getD j 0).toNat) := fun j hj => by
          rcases Nat.lt_or_ge j k with h | h
          · exact HF.out j h
          · rw [show j = k by omega, HGD.out k hlt, hC]; exact hc
        have hci : (128 : Int) ≤ (C : Int) := by omega
        clear hc
        go_wp2
        go_round
        case rel => exact ⟨k + 1, by omega, by go_num, hF2⟩
        case measure => simp [intOf]; omega
      · have t5 : decide ((128 : Int) ≤ (C : Int)) = false := by simp; omega
        have hci : (C : Int) < 128 := by omega
        by_cases h9 : k ≤ 9
        · have h9i : (k : Int) ≤ 9 := by omega
          have HC2 := Lib.hid (show (s.data.toList.getD k 0).toNat < 128 by rw [HGD.out k hlt, hC]; omega)
          have H9 := Lib.hid h9
          have HC := Lib.hid hC
          clear hc h9
          go_wp2
          go_loop [6, 7] (fun n i => ∃ (r N : Nat), r ≤ k + 1 ∧ i = .int .i64 ((r : Int) - 1) ∧ n = .int .u64 N ∧ N ≤ 18446744073709551615 ∧ Hid (N = Pl.Seat.vf ((s.data.toList.take (k + 1)).drop r) % 18446744073709551616)) (fun _ i => (intOf i + 1).toNat)
          case atStart => exact ⟨k + 1, 0, by omega, by go_num, rfl, by omega, by show 0 = _; rw [List.drop_of_length_le (by simp; omega)]; rfl⟩
          case round =>
            obtain ⟨r, N, hr, rfl, rfl, hN, HN⟩ := hrel
            rcases Nat.eq_zero_or_pos r with rfl | hp
            · have hvN : N = Pl.Seat.vf (s.data.toList.take (k + 1)) % 18446744073709551616 := by simpa using HN.out
              have hof := Pl.Seat.get_of_first s.data.toList k HF.out (by rw [HSL.out]; exact hlt) HC2.out N hvN
              rw [HV.out] at hof
              obtain ⟨P, hP⟩ : ∃ P, Pl.Seat.put N = P := ⟨_, rfl⟩
              rw [hP] at hof
              have HP := Lib.hid hP
              have hxe : (s.extract 0 (k + 1)).toList = s.data.toList.take (k + 1) := by
                rw [ByteArray.toList_eq]
                simp [ByteArray.data_extract, Array.toList_extract, List.extract]
              have hN2 : N < 18446744073709551616 := by omega
              have HNN := Lib.hid hN2
              clear hP hvN HN hN2
              by_cases hpp : P = s.data.toList.take (k + 1)
              · rw [if_pos hpp] at hof
                subst hof
                have ht : ((bs P).toList == (s.extract 0 (k + 1)).toList) = true := by rw [bs_toList, hxe, hpp]; simp
                have hks : (k : Int) + 1 ≤ (s.size : Int) := by omega
                have e1 : IntKind.i64.wrap ((k : Int) + 1) = (k : Int) + 1 := IntWalk.i64_in _ (by omega)
                have e2 : (0 : Int) ≤ (k : Int) + 1 := by omega
                have e3 : ((k : Int) + 1).toNat = k + 1 := by omega
                clear hxe hpp
                go_wp2
                go_region_with (go_at_call 128; refine (refPut_at N P _ HNN.out HP.out).mono ?_; rintro e w1 ⟨rfl, hB⟩)
                all_goals go_wp2
                all_goals go_ret3
                all_goals exact ⟨rfl, ⟨hB.os, hB.tape, hB.output, hB.size, hB.block⟩⟩
              · rw [if_neg hpp] at hof
                subst hof
                have ht : ((bs P).toList == (s.extract 0 (k + 1)).toList) = false := by rw [bs_toList, hxe]; simpa using hpp
                have hks : (k : Int) + 1 ≤ (s.size : Int) := by omega
                have e1 : IntKind.i64.wrap ((k : Int) + 1) = (k : Int) + 1 := IntWalk.i64_in _ (by omega)
                have e2 : (0 : Int) ≤ (k : Int) + 1 := by omega
                have e3 : ((k : Int) + 1).toNat = k + 1 := by omega
                clear hxe hpp
                go_wp2
                go_region_with (go_at_call 128; refine (refPut_at N P _ HNN.out HP.out).mono ?_; rintro e w1 ⟨rfl, hB⟩)
                all_goals go_wp2
                all_goals go_ret3
                all_goals exact ⟨rfl, ⟨hB.os, hB.tape, hB.output, hB.size, hB.block⟩⟩
            · obtain ⟨q, rfl⟩ : ∃ q, r = q + 1 := ⟨r - 1, by omega⟩
              have hqs : q < s.size := by omega
              have hq1 : (((q + 1 : Nat) : Int) - 1) = (q : Int) := by omega
              rw [hq1]
              obtain ⟨D, hD⟩ : ∃ D, s[q].toNat = D := ⟨_, rfl⟩
              have hDl : D < 256 := by rw [← hD]; exact UInt8.toNat_lt _
              have hN2 : (N * 128 + D % 128) % 18446744073709551616 = Pl.Seat.vf ((s.data.toList.take (k + 1)).drop q) % 18446744073709551616 := by
                rw [vf_drop _ q (by simp [HSL.out]; omega), HN.out]
                have : (List.take (k + 1) s.data.toList).getD q 0 = s[q] := by
                  rw [← HGD.out q hqs]
                  simp only [List.getD_eq_getElem?_getD]
                  rw [List.getElem?_take, if_pos (by omega)]
                rw [this, hD]
                omega
              have HN2 := Lib.hid hN2
              have hqk : q ≤ k + 1 := by omega
              clear hN2 HN hq1
              go_wp2
              go_round
              case rel => exact ⟨q, (N * 128 + D % 128) % 18446744073709551616, hqk, by go_num, by rw [IntKind.wrap_u64, IntKind.wrap_u64]; congr 1; omega, by omega, HN2⟩
              case measure => simp [intOf]
        · have hof : o = none := by
            rw [← HV.out]
            exact Pl.Seat.get_none_of _ k HF.out (.inr (by omega))
          subst hof
          have h9i : (9 : Int) < (k : Int) := by omega
          clear hc h9
          go_wp2
          go_ret3
          exact ⟨rfl, Below.refl _ _⟩
    · have hof : o = none := by
        rw [← HV.out]
        exact Pl.Seat.get_none_of _ k HF.out (.inl (by rw [HSL.out]; omega))
      subst hof
      have hge : (s.size : Int) ≤ (k : Int) := by omega
      go_wp2
      go_ret3
      exact ⟨rfl, Below.refl _ _⟩
end Go.Proofs.YtfbakelpplpomaaGreatDoor.WalkVar
