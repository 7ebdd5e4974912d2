/-
  The walk of the document's padded.
-/
import Derived.Test.YtfnjcobgbdioeaaDoorWalkShaRefA
import Derived.Test.YtfnjcobgbdioeaaDoorLawSha
namespace Go.Proofs.YtfnjcobgbdioeaaDoor.WalkSha
open Go.RowKit Go.Proofs.YtfnjcobgbdioeaaDoor.BytesRow Go.Proofs.YtfnjcobgbdioeaaDoor.WalkBytes
set_option linter.unusedVariables false
set_option linter.unusedSimpArgs false
set_option maxRecDepth 100000

def strLen : Value → Nat
  | .string t => t.size
  | _ => 0
theorem bs_lit (l : List UInt8) (a : UInt8) : bs l ++ ⟨#[a]⟩ = bs (l ++ [a]) := bs_append l ⟨#[a]⟩
set_option maxHeartbeats 1600000 in
theorem padded_any (s : ByteArray) (P : List UInt8) (w : World) (hs : (s.size : Int) ≤ 1000000) (hP : Pl.Sha.pad s.data.toList s.size = P) :
    Calls Tryd.prog 19 #[.string s] w fun e w' => e = .returned (.string (bs P)) ∧ Below w.heap.size w w' := by
  obtain ⟨r, hr⟩ : ∃ r, s.data.toList = r := ⟨_, rfl⟩
  have hsr : s = bs r := by rw [← hr]; exact (bs_eta s).symm
  have hrl : r.length = s.size := by rw [← hr]; simp
  rw [hr, ← hrl] at hP
  have hn : (r.length : Int) ≤ 1000000 := by omega
  clear hrl hs
  subst hsr
  clear hr
  obtain ⟨q, hq⟩ : ∃ q, r.length + 1 + Pl.Sha.gap r.length = q := ⟨_, rfl⟩
  have hq56 : q % 64 = 56 ∧ r.length + 1 ≤ q ∧ q < r.length + 65 := by rw [← hq]; unfold Pl.Sha.gap; omega
  obtain ⟨hq1, hq2, hq3⟩ := hq56
  have HQ := Lib.hid hq
  have HQ1 := Lib.hid hq1
  have HP := Lib.hid hP
  have e0 : bs r ++ ⟨#[128]⟩ = bs (r ++ [128]) := bs_lit r 128
  have z0 : ¬ (9223372036854775807 < (bs r).size + 1) := by rw [bs_size]; omega
  clear hq hq1 hP
  go_enter Tryd.func19, Tryd.ntmps19
  go_upto_region 2 with fail
  clear e0 z0
  go_loop [3] (fun o => ∃ m : Nat, r.length + 1 ≤ m ∧ m ≤ q ∧ o = .string (bs (r ++ [128] ++ List.replicate (m - r.length - 1) 0))) (fun o => q - strLen o)
  case atStart => exact ⟨r.length + 1, by omega, hq2, by simp⟩
  case round =>
    obtain ⟨m, hm1, hm2, rfl⟩ := hrel
    obtain ⟨X, hX⟩ : ∃ X, r ++ [128] ++ List.replicate (m - r.length - 1) (0 : UInt8) = X := ⟨_, rfl⟩
    have hXl : (bs X).size = m := by rw [bs_size, ← hX]; simp; omega
    have hl1 : r ++ [128] ++ List.replicate (m + 1 - r.length - 1) (0 : UInt8) = X ++ [0] := by
      rw [← hX, show m + 1 - r.length - 1 = (m - r.length - 1) + 1 by omega, List.replicate_succ', List.append_assoc, List.append_assoc, List.append_assoc]
    have hXi : ((bs X).size : Int) = (m : Int) := by omega
    rw [hX]
    by_cases hlt : m < q
    · have hne : ¬ ((m : Int) % 64 = 56) := by have := HQ1.out; omega
      have e1 : bs X ++ ⟨#[0]⟩ = bs (X ++ [0]) := bs_lit X 0
      have z1 : ¬ (9223372036854775807 < m + 1) := by omega
      have HL := Lib.hid hl1
      have HXL := Lib.hid hXl
      clear hl1 hX
      go_wp2
      go_round
      case rel => exact ⟨m + 1, by omega, by omega, by rw [HL.out]⟩
      case measure =>
        show q - (bs (X ++ [0])).size < q - (bs X).size
        rw [HXL.out, bs_size, List.length_append, ← bs_size X, HXL.out]
        simp
        omega
    · have hmq : m = q := by omega
      subst hmq
      have hy : (m : Int) % 64 = 56 := by have := HQ1.out; omega
      obtain ⟨n, hn8⟩ : ∃ n, (bs r).size = n := ⟨_, rfl⟩
      have hnr : n = r.length := by rw [← hn8, bs_size]
      have hPX : X ++ Pl.Sha.len8 n = P := by
        rw [← HP.out, ← hX, hnr]
        unfold Pl.Sha.pad
        rw [show m - r.length - 1 = Pl.Sha.gap r.length by have := HQ.out; omega]
      have hXb : X.length ≤ 1000100 := by rw [← bs_size X, hXl]; omega
      have hni : (n : Int) ≤ 1000000 := by omega
      have HPX := Lib.hid hPX
      clear hl1 hX hPX hnr
      go_upto_region 6 with fail
      clear hXi hXl hn8 hy
      go_loopw [3, 5] (fun o i wr => ∃ z : Int, -1 ≤ z ∧ z ≤ 7 ∧ i = .int .i64 z ∧ o = .string (bs (X ++ (Pl.Sha.len8 n).take (7 - z).toNat)) ∧ Below w.heap.size w wr) (fun _ i _ => (intOf i + 1).toNat)
      case atStart => exact ⟨7, by omega, by omega, rfl, by simp, Below.refl _ _⟩
      case round =>
        obtain ⟨z, hz1, hz2, rfl, rfl, bz⟩ := hrel
        by_cases hge : 0 ≤ z
        · obtain ⟨k, rfl⟩ := Int.eq_ofNat_of_zero_le hge
          have hk : k ≤ 7 := by omega
          have ht8 := len8_take n (7 - k) (by omega)
          have hb8 := byte_of n (7 - k)
          rw [show 56 - 8 * (7 - k) = 8 * k by omega] at ht8 hb8
          rw [show (7 - ((k : Nat) : Int)).toNat = 7 - k by omega]
          obtain ⟨x, hx⟩ : ∃ x, UInt8.ofNat (n * 8 / 2 ^ (8 * k)) = x := ⟨_, rfl⟩
          rw [hx] at ht8 hb8
          obtain ⟨Y, hY⟩ : ∃ Y, X ++ (Pl.Sha.len8 n).take (7 - k) = Y := ⟨_, rfl⟩
          have hYl : Y.length ≤ 1000110 := by rw [← hY, List.length_append]; simp; omega
          have hYn : X ++ (Pl.Sha.len8 n).take (7 - k + 1) = Y ++ [x] := by rw [ht8, ← List.append_assoc, hY]
          rw [hY]
          have hbs := bz.size
          have hcv := conv_sl (wr.alloc (.cells #[.int .u8 (x.toNat : Nat)] 5)) wr.heap.size _ [x] (Sl.one wr x)
          have hcat : bs Y ++ ⟨#[x]⟩ = bs (Y ++ [x]) := bs_lit Y x
          have hzs : ¬ (9223372036854775807 < (bs Y).size + 1) := by rw [bs_size]; omega
          have HYn := Lib.hid hYn
          clear ht8 hx hY hYn hXb
          go_wp2
          go_round
          case rel => exact ⟨(k : Int) - 1, by omega, by omega, rfl, by rw [show (7 - ((k : Int) - 1)).toNat = 7 - k + 1 by omega, HYn.out], bz.alloc hbs _⟩
          case measure => simp [intOf]
        · have : z = -1 := by omega
          subst this
          have : X ++ (Pl.Sha.len8 n).take ((7 : Int) - (-1)).toNat = P := by
            rw [← HPX.out, List.take_of_length_le (by simp [Pl.Sha.len8])]
          rw [this]
          go_wp2
          go_ret
          exact ⟨rfl, bz⟩
end Go.Proofs.YtfnjcobgbdioeaaDoor.WalkSha
