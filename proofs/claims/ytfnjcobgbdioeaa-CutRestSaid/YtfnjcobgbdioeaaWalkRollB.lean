/-
  The walks of roll.Of, roll.Hits, of the document's sums of a row, a key, and of the chapter's example.
-/
import Derived.Test.YtfnjcobgbdioeaaWalkRoll
namespace Go.Proofs.Ytfnjcobgbdioeaa.WalkRoll
open Go.RowKit
set_option linter.unusedVariables false
set_option linter.unusedSimpArgs false

/-- a string's bytes, as numbers -/
def bl (s : ByteArray) : List Int := s.data.toList.map fun c => (c.toNat : Int)
theorem bl_length (s : ByteArray) : (bl s).length = s.size := by simp [bl]
theorem bl_take (s : ByteArray) (k : Nat) (h : k < s.size) : (bl s).take (k + 1) = (bl s).take k ++ [(s[k].toNat : Int)] := by
  rw [List.take_succ_eq_append_getElem (by rw [bl_length]; exact h)]; simp [bl]; rfl
/-- the sum of a row's last eight bytes -/
def rs (l : List Int) : Int := Pl.Roll.sum 0 (Pl.Roll.last8 l)
theorem rs_bd (l : List Int) : 0 ≤ rs l ∧ rs l < 4294967296 := sum_bd _

set_option maxHeartbeats 800000 in
theorem of_any (level : Int) (s : ByteArray) (w : World) (hs : s.size ≤ 9223372036854775806) :
    Calls Try.prog 24 #[.int .i64 level, .string s] w fun e w' => e = .returned (.int .u32 (rs (bl s ++ [level % 256]))) ∧ Below w.heap.size w w' := by
  have hmf : ∀ (fn : Fn) (first cap : Array Value) (w : World), (Instr.makeFunc fn first cap).run Try.prog w = .ok (.func fn first cap) w := fun _ _ _ _ => rfl
  go_enter Try.func24, Try.ntmps24
  go_wp2
  go_loopw [11] (fun i wr => ∃ k : Nat, k ≤ s.size ∧ i = .int .i64 k ∧ RollIs w.heap.size ((bl s).take k) wr ∧ Below w.heap.size w wr) (fun i _ => s.size - (intOf i).toNat)
  case atStart => exact ⟨0, Nat.zero_le _, rfl, by simpa using RollIs.new w, (Below.refl _ _).alloc (Nat.le_refl _) _⟩
  case round =>
    obtain ⟨k, hk, rfl, hR, hB⟩ := hrel
    by_cases hlt : k < s.size
    · have ht := Lib.hid (bl_take s k hlt)
      have h0 : 0 ≤ (s[k].toNat : Int) := by omega
      have h1 : (s[k].toNat : Int) ≤ 255 := by have := s[k].toNat_lt; omega
      go_wp2_with (go_at_call 26; refine (feed_any _ _ _ _ hR h0 h1).mono ?_; rintro e w1 ⟨rfl, hR1, hU⟩)
      go_roundw
      case rel => exact ⟨k + 1, by omega, by go_num, by rw [ht.out]; exact hR1, hB.trans (hU.below (Nat.le_refl _))⟩
      case measure => simp [intOf]; omega
    · have : k = s.size := by omega
      subst this
      rw [List.take_of_length_le (by rw [bl_length]; exact Nat.le_refl _)] at hR
      have l0 : 0 ≤ level % 256 := by omega
      have l1 : level % 256 ≤ 255 := by omega
      go_wp2_with (first | (go_at_call 26; refine (feed_any _ _ _ _ hR l0 l1).mono ?_; rintro e w1 ⟨rfl, hR1, hU⟩) | (go_at_call 27; refine (rollSum_any _ _ _ hR1).mono ?_; rintro e w2 ⟨rfl, rfl⟩))
      go_ret
      exact ⟨rfl, hB.trans (hU.below (Nat.le_refl _))⟩

/-- may a chunk end behind this sum? -/
def mayEnd (n : Int) : Bool :=
  bits .and .u32 (bits .xor .u32 (bits .xor .u32 n (n / 65536)) (bits .xor .u32 n (n / 65536) / 256)) 3 == 3
theorem hits_any (level : Int) (s : ByteArray) (w : World) (hs : s.size ≤ 9223372036854775806) :
    Calls Try.prog 20 #[.int .i64 level, .string s] w fun e w' => e = .returned (.bool (mayEnd (rs (bl s ++ [level % 256])))) ∧ Below w.heap.size w w' := by
  obtain ⟨b0, b1⟩ := rs_bd (bl s ++ [level % 256])
  go_enter Try.func20, Try.ntmps20
  go_wp2_with (go_at_call 24; refine (of_any _ _ _ hs).mono ?_; rintro e w1 ⟨rfl, hB⟩)
  go_ret
  exact ⟨rfl, hB⟩

/-- the document's sum of a row -/
theorem refSum_any (s : ByteArray) (w : World) (hs : s.size ≤ 9223372036854775000) :
    Calls Try.prog 23 #[.string s] w fun e w' => e = .returned (.int .u32 (rs (bl s))) ∧ w = w' := by
  go_enter Try.func23, Try.ntmps23
  go_wp2
  go_loop [3, 4] (fun n i => ∃ k : Nat, k ≤ s.size ∧ i = .int .i64 k ∧ n = .int .u32 (Pl.Roll.sum 0 (((bl s).take k).drop (s.size - 8)))) (fun _ i => s.size - (intOf i).toNat)
  case atStart => exact ⟨0, Nat.zero_le _, rfl, by simp [Pl.Roll.sum]⟩
  case round =>
    obtain ⟨k, hk, rfl, rfl⟩ := hrel
    have hb := sum_bd (((bl s).take k).drop (s.size - 8))
    obtain ⟨b0, b1⟩ := hb
    by_cases hlt : k < s.size
    · have ht := bl_take s k hlt
      by_cases h8 : s.size ≤ k + 8
      · have hd : Pl.Roll.sum 0 (((bl s).take (k + 1)).drop (s.size - 8)) = (Pl.Roll.sum 0 (((bl s).take k).drop (s.size - 8)) * 16777619 + Pl.Roll.worth (s[k].toNat : Int)) % 4294967296 := by
          rw [ht, List.drop_append_of_le_length (by simp [bl_length]; omega), Pl.Roll.sum_append]; rfl
        have HD := Lib.hid hd
        have h0 : 0 ≤ (s[k].toNat : Int) := by omega
        have h1 : (s[k].toNat : Int) ≤ 255 := by have := s[k].toNat_lt; omega
        clear ht hd
        go_wp2
        go_round
        case rel =>
          refine ⟨k + 1, by omega, by go_num, ?_⟩
          rw [HD.out]
          unfold Pl.Roll.worth
          congr 1
          omega
        case measure => simp [intOf]; omega
      · have hd : Pl.Roll.sum 0 (((bl s).take (k + 1)).drop (s.size - 8)) = Pl.Roll.sum 0 (((bl s).take k).drop (s.size - 8)) := by
          rw [List.drop_eq_nil_of_le (by simp [bl_length]; omega), List.drop_eq_nil_of_le (by simp [bl_length]; omega)]
        have HD := Lib.hid hd
        clear ht hd
        go_wp2
        go_round
        case rel => exact ⟨k + 1, by omega, by go_num, by rw [HD.out]⟩
        case measure => simp [intOf]; omega
    · have : k = s.size := by omega
      subst this
      have hl : Pl.Roll.sum 0 (((bl s).take s.size).drop (s.size - 8)) = rs (bl s) := by
        unfold rs Pl.Roll.last8; rw [List.take_of_length_le (by rw [bl_length]; exact Nat.le_refl _), bl_length]
      have HL := Lib.hid hl
      clear hl
      go_wp2
      go_ret
      exact ⟨ret_u32 HL.out, rfl⟩

theorem bl_app_one (s : ByteArray) (x : Int) (h0 : 0 ≤ x) (h1 : x < 256) : bl (s ++ strOfNums [x]) = bl s ++ [x] := by
  simp [bl, strOfNums]
  omega
theorem conv_one (w : World) (x : Int) :
    (convert 46 9 (.slice (some ⟨w.heap.size, 0, none⟩) 1 1)).run Try.prog (w.alloc (.cells #[.int .u8 x] 5)) = .ok (.string (strOfNums [x])) (w.alloc (.cells #[.int .u8 x] 5)) :=
  run_convert_bytes_arg _ 46 5 Try.underlying46 Try.underlying5 _ 0 1 1 [x] rfl (fun i hi => by (obtain rfl : i = 0 := by omega); go_simp) _ Try.underlying9
set_option maxHeartbeats 800000 in
theorem refOf_any (level : Int) (s : ByteArray) (w : World) (hs : s.size ≤ 140737488351232) :
    Calls Try.prog 19 #[.int .i64 level, .string s] w fun e w' => e = .returned (.int .u32 (rs (bl s ++ [level % 256]))) ∧ Below w.heap.size w w' := by
  have l0 : 0 ≤ level % 256 := by omega
  have l1 : level % 256 < 256 := by omega
  have hcv := conv_one
  have hz : ¬ (9223372036854775807 < s.size + (strOfNums [level % 256]).size) := by rw [strOfNums_size]; simp; omega
  have hz2 : (s ++ strOfNums [level % 256]).size ≤ 9223372036854775000 := by simp [strOfNums_size]; omega
  go_enter Try.func19, Try.ntmps19
  go_wp2_with (go_at_call 23; refine (refSum_any _ _ hz2).mono ?_; rintro e w1 ⟨rfl, rfl⟩)
  go_ret
  exact ⟨ret_u32 (by rw [bl_app_one _ _ l0 l1]), (Below.refl _ _).alloc (Nat.le_refl _) _⟩
theorem mayEnd_ref (n : Int) (b0 : 0 ≤ n) (b1 : n < 4294967296) :
    ((bits .xor .u32 (bits .xor .u32 n (n / 65536)) ((bits .xor .u32 n (n / 65536)).tdiv 256 % 4294967296)).tmod 4 == 3) = mayEnd n := by
  unfold mayEnd
  have hx : ∃ m : Nat, bits .xor .u32 n (n / 65536) = (m : Int) ∧ m < 4294967296 := by
    rw [u32_xor _ _ b0 b1 (by omega) (by omega)]
    exact ⟨_, rfl, Nat.xor_lt_two_pow (n := 32) (by omega) (by omega)⟩
  obtain ⟨m, hm, hlt⟩ := hx
  rw [hm, Int.tdiv_eq_ediv_of_nonneg (by omega), show ((m : Int) / 256) % 4294967296 = (m : Int) / 256 from by omega]
  have hy : ∃ q : Nat, bits .xor .u32 (m : Int) ((m : Int) / 256) = (q : Int) ∧ q < 4294967296 := by
    rw [u32_xor _ _ (by omega) (by omega) (by omega) (by omega)]
    exact ⟨_, rfl, Nat.xor_lt_two_pow (n := 32) (by omega) (by omega)⟩
  obtain ⟨q, hq, hlt2⟩ := hy
  rw [hq, Int.tmod_eq_emod_of_nonneg (by omega), u32_and _ _ (by omega) (by omega) (by omega) (by omega)]
  rw [show ((q : Int).toNat &&& (3 : Int).toNat) = q % 4 from by have := Nat.and_two_pow_sub_one_eq_mod q 2; simpa using this]
  rfl
theorem refHits_any (level : Int) (s : ByteArray) (w : World) (hs : s.size ≤ 140737488351232) :
    Calls Try.prog 10 #[.int .i64 level, .string s] w fun e w' => e = .returned (.bool (mayEnd (rs (bl s ++ [level % 256])))) ∧ Below w.heap.size w w' := by
  obtain ⟨b0, b1⟩ := rs_bd (bl s ++ [level % 256])
  go_enter Try.func10, Try.ntmps10
  go_wp2_with (go_at_call 19; refine (refOf_any _ _ _ hs).mono ?_; rintro e w1 ⟨rfl, hB⟩)
  go_ret
  exact ⟨by rw [← mayEnd_ref _ b0 b1]; rfl, hB⟩

end Go.Proofs.Ytfnjcobgbdioeaa.WalkRoll
