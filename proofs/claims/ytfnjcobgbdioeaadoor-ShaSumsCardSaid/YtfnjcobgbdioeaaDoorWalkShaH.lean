/-
  The walk of sha.Hex.
-/
import Derived.Test.YtfnjcobgbdioeaaDoorWalkShaG
namespace Go.Proofs.YtfnjcobgbdioeaaDoor.WalkSha
open Go.RowKit Go.Proofs.YtfnjcobgbdioeaaDoor.BytesRow Go.Proofs.YtfnjcobgbdioeaaDoor.WalkBytes
set_option linter.unusedVariables false
set_option linter.unusedSimpArgs false
set_option maxRecDepth 100000

/-- the digits -/
def digs : List UInt8 := [48, 49, 50, 51, 52, 53, 54, 55, 56, 57, 97, 98, 99, 100, 101, 102]
/-- a byte's two digits -/
def hex1 (c : UInt8) : List UInt8 := [digs.getD (c.toNat / 16) 0, digs.getD (c.toNat % 16) 0]
def hexL (l : List UInt8) : List UInt8 := l.flatMap hex1
theorem hexL_take (s : ByteArray) (k : Nat) (h : k < s.size) : hexL (s.data.toList.take (k + 1)) = hexL (s.data.toList.take k) ++ hex1 s[k] := by
  have hl : k < s.data.toList.length := by simpa using h
  unfold hexL
  rw [List.take_succ_eq_append_getElem hl, List.flatMap_append]
  simp; rfl
theorem hexL_length (l : List UInt8) : (hexL l).length = 2 * l.length := by
  induction l with
  | nil => rfl
  | cons c l ih =>
    have : hexL (c :: l) = hex1 c ++ hexL l := by simp [hexL]
    rw [this, List.length_append, ih]
    simp [hex1]; omega
theorem idxS (s : ByteArray) (kd : IntKind) (k : Nat) (c : UInt8) (hk : k < s.size) (h : s[k] = c) (w : World) :
    (Instr.index 9 (.string s) (.int kd (k : Int))).run Tryd.prog w = .ok (.int .u8 (c.toNat : Nat)) w := by
  have h1 : s[k]? = some c := by rw [← h]; exact getElem?_pos s k hk
  go_simp
def digS : ByteArray := ⟨#[48, 49, 50, 51, 52, 53, 54, 55, 56, 57, 97, 98, 99, 100, 101, 102]⟩
theorem idxD (z : Int) (n : Nat) (hz : z = (n : Int)) (hn : n < 16) (w : World) :
    (Instr.index 9 (.string ⟨#[48, 49, 50, 51, 52, 53, 54, 55, 56, 57, 97, 98, 99, 100, 101, 102]⟩) (.int .u8 z)).run Tryd.prog w = .ok (.int .u8 ((digs.getD n 0).toNat : Nat)) w := by
  subst hz
  refine idxS digS .u8 n (digs.getD n 0) hn ?_ w
  have : n = 0 ∨ n = 1 ∨ n = 2 ∨ n = 3 ∨ n = 4 ∨ n = 5 ∨ n = 6 ∨ n = 7 ∨ n = 8 ∨ n = 9 ∨ n = 10 ∨ n = 11 ∨ n = 12 ∨ n = 13 ∨ n = 14 ∨ n = 15 := by omega
  rcases this with rfl | rfl | rfl | rfl | rfl | rfl | rfl | rfl | rfl | rfl | rfl | rfl | rfl | rfl | rfl | rfl <;> rfl
theorem Sl.two (w : World) (x y : UInt8) : Sl (w.alloc (.cells #[.int .u8 (x.toNat : Nat), .int .u8 (y.toNat : Nat)] 5)) w.heap.size (.slice (some ⟨w.heap.size, 0, none⟩) 2 2) [x, y] := by
  rcases Sl.new w [x, y] with h | h
  · exact h
  · simp [maxLen] at h
set_option maxHeartbeats 1600000 in
theorem hex_any (s : ByteArray) (w : World) (hs : (s.size : Int) ≤ 1000000) :
    Calls Tryd.prog 17 #[.string s] w fun e w' => e = .returned (.string (bs (hexL s.data.toList))) ∧ Below w.heap.size w w' := by
  obtain ⟨i0, hi, hz0, hz1, hz2⟩ := info_parts info_u8
  go_enter Tryd.func17, Tryd.ntmps17
  go_upto_region 3 with (first | (at_make; refine wpList_make_own _ rfl _ _ 37 rfl w.heap.size 5 i0 (.int .u8 0) 1 Tryd.underlying37 hi hz0 hz1 _ _ _ (2 * s.size) rfl rfl (by omega) (by rw [hz2]; omega) (by unfold maxLen; omega) (Nat.le_refl _) ?_; intro w1 o1 g1; have b1 := (Below.refl w.heap.size w).grown g1 (Nat.le_refl _) (by simp)) | go_in)
  go_loopw [3, 11] (fun o i wr => ∃ k : Nat, k ≤ s.size ∧ i = .int .i64 k ∧ wr.ownsRow w.heap.size 5 1 o (2 * k) (bc (hexL (s.data.toList.take k))) ∧ Below w.heap.size w wr) (fun _ i _ => s.size - (intOf i).toNat)
  case atStart => exact ⟨0, by omega, rfl, o1, b1⟩
  case round =>
    obtain ⟨k, hk, rfl, ok, bk⟩ := hrel
    obtain ⟨ak, ck, rfl⟩ := own_shape ok
    by_cases hlt : k < s.size
    · have hkt := hexL_take s k hlt
      obtain ⟨c, hc⟩ : ∃ c, s[k] = c := ⟨_, rfl⟩
      rw [hc] at hkt
      have i1 := idxS s .i64 k c hlt hc
      have hC := UInt8.toNat_lt c
      have hC2 : c.toNat / 16 < 16 := by omega
      have hC3 : c.toNat % 16 < 16 := by omega
      have i2 := idxD ((c.toNat : Int) / 16) (c.toNat / 16) (by omega) hC2
      have i3 := idxD ((c.toNat : Int) % 16) (c.toNat % 16) (by omega) hC3
      obtain ⟨d1, hd1⟩ : ∃ d, digs.getD (c.toNat / 16) 0 = d := ⟨_, rfl⟩
      obtain ⟨d2, hd2⟩ : ∃ d, digs.getD (c.toNat % 16) 0 = d := ⟨_, rfl⟩
      unfold hex1 at hkt
      rw [hd1, hd2] at hkt
      rw [hd1] at i2
      rw [hd2] at i3
      obtain ⟨C, hCC⟩ : ∃ C, c.toNat = C := ⟨_, rfl⟩
      rw [hCC] at i1 i2 i3 hC
      have HK := Lib.hid hkt
      have hbs := bk.size
      have hand : bits .and .u8 (C : Int) 15 = (C : Int) % 16 := by
        have h1 := u8_and_nat C 15 (by omega) (by decide)
        rw [show (15 : Int) = ((15 : Nat) : Int) from rfl, h1, show (15 : Nat) = 2 ^ 4 - 1 from rfl, Nat.and_two_pow_sub_one_eq_mod]
        omega
      clear hd1 hd2 hkt hc hCC hC2 hC3
      go_upto_region 5 with fail
      go_region_law (refine step_append_own_sl rfl _ _ rfl w.heap.size wr.heap.size (2 * k) (.slice ak (2 * k) ck) (.slice (some ⟨wr.heap.size, 0, none⟩) 2 2) _ [d1, d2] rfl rfl (ok.alloc _) (Sl.two _ d1 d2) (by simp; omega) (by simp; omega) ?_; intro v3 w3 o3 g3)
      all_goals
        have b3 := (Below.drew ((bk.alloc hbs _))).trans (below_own g3 (World.ownsRow.drew (ok.alloc _)) (by simp; omega))
        go_wp2
        go_round
        case rel => exact ⟨k + 1, by omega, by go_num, by rw [HK.out]; exact o3, b3⟩
        case measure => simp [intOf]; omega
    · have : k = s.size := by omega
      subst this
      rw [List.take_of_length_le (by simp)] at ok
      have hcv := conv_sl wr w.heap.size _ _ (Sl.of_own ok)
      go_wp2
      go_ret
      exact ⟨rfl, bk⟩
end Go.Proofs.YtfnjcobgbdioeaaDoor.WalkSha
