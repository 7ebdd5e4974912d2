/-
  pleachplain.Bytes: how many bytes texts have, as long as that is below a million.
-/
import Derived.Test.YtfnjcobgbdioeaaDoorStrs
namespace Go.Proofs.YtfnjcobgbdioeaaDoor.WalkBytes
open Go.RowKit
set_option linter.unusedVariables false
set_option linter.unusedSimpArgs false

theorem minInt2 (k k' : IntKind) (x y : Int) : Builtin.min2 (.int k x) (.int k' y) = pure (.int k (if y < x then y else x)) := by simp only [Builtin.min2]
theorem minTwo (ats : Array TypeId) (ty : TypeId) (a b : Value) : Builtin.min_ ats ty #[a, b] = (Builtin.min2 a b >>= fun s => pure s) := by simp only [Builtin.min_, List.foldlM_cons, List.foldlM_nil]
attribute [local go_sem] minInt2 minTwo

def bys : List ByteArray → Nat → Nat
  | [], n => n
  | s :: l, n => if 1000000 ≤ n + min s.size 1000000 then n + min s.size 1000000 else bys l (n + min s.size 1000000)
/-- how many bytes texts have -/
def total : List ByteArray → Nat
  | [] => 0
  | s :: l => s.size + total l
theorem bys_total (l : List ByteArray) : ∀ n, bys l n < 1000000 → bys l n = n + total l := by
  induction l with
  | nil => intro n _; rfl
  | cons s l ih =>
    intro n h
    simp only [bys, total] at h ⊢
    by_cases g : 1000000 ≤ n + min s.size 1000000
    · rw [if_pos g] at h; omega
    · rw [if_neg g] at h ⊢
      rw [ih _ h]
      omega
theorem drop_getD (l : List ByteArray) (k : Nat) (h : k < l.length) : l.drop k = l.getD k ByteArray.empty :: l.drop (k + 1) := by
  rw [List.drop_eq_getElem_cons h]; simp [List.getD_eq_getElem?_getD, h]
theorem ret_int {k : IntKind} {a b : Int} (h : a = b) : Ending.returned (.int k a) = .returned (.int k b) := by rw [h]

set_option maxHeartbeats 800000 in
set_option maxRecDepth 100000 in
theorem bytes_any (A : Option Addr) (c : Nat) (ss : List ByteArray) (w : World) (hA : Strs w A ss) (hl : ss.length ≤ 9223372036854775807) (hs : ∀ s ∈ ss, s.size ≤ 9223372036854775807) :
    Calls Tryd.prog 10 #[.slice A ss.length c] w fun e w' => e = .returned (.int .i64 (bys ss 0 : Nat)) ∧ w = w' := by
  rcases hA with rfl | ⟨b, off, rfl, hc⟩
  · go_enter Tryd.func10, Tryd.ntmps10
    go_wp2
    go_loop [3, 8] (fun n i => i = .int .i64 0 ∧ n = .int .i64 0) (fun _ i => 0)
    case atStart => exact ⟨rfl, rfl⟩
    case round =>
      obtain ⟨rfl, rfl⟩ := hrel
      go_wp2
      go_ret
      exact ⟨rfl, rfl⟩
  · obtain ⟨R, hR⟩ : ∃ R, bys ss 0 = R := ⟨_, rfl⟩
    rw [hR]
    have HR0 := Lib.hid hR
    clear hR
    go_enter Tryd.func10, Tryd.ntmps10
    go_wp2
    go_loop [3, 8] (fun n i => ∃ k a : Nat, k ≤ ss.length ∧ i = .int .i64 k ∧ n = .int .i64 (a : Int) ∧ Hid (a < 1000000) ∧ Hid (bys (ss.drop k) a = R)) (fun _ i => ss.length - (intOf i).toNat)
    case atStart => exact ⟨0, 0, Nat.zero_le _, rfl, rfl, (by omega : 0 < 1000000), HR0.out⟩
    case round =>
      obtain ⟨k, a, hk, rfl, rfl, HA, HR⟩ := hrel
      have ha := HA.out
      by_cases hlt : k < ss.length
      · have hck := hc k hlt
        have hsz : (ss.getD k ByteArray.empty).size ≤ 9223372036854775807 := by
          rw [List.getD_eq_getElem?_getD, List.getElem?_eq_getElem hlt]; exact hs _ (List.getElem_mem hlt)
        have hst := HR.out
        rw [drop_getD ss k hlt] at hst
        simp only [bys] at hst
        clear hc hs
        generalize ss.getD k ByteArray.empty = t at hck hsz hst
        have ha0 : (a : Int) ≤ 999999 := by omega
        have hk0 : (k : Int) < (ss.length : Int) := by omega
        have hs0 : (t.size : Int) ≤ 9223372036854775807 := by omega
        have hl0 : (ss.length : Int) ≤ 9223372036854775807 := by omega
        have HST := Lib.hid hst
        clear hst HR ha hsz hlt hk hl
        have q1 : (1000000 : Int) ≤ (a : Int) + 1000000 := by omega
        have q2 : decide ((1000000 : Int) ≤ (a : Int) + 1000000) = true := by simpa using q1
        by_cases g : (1000000 : Int) < (t.size : Int)
        · have hf : (a : Int) + 1000000 = (R : Int) := by
            have h := HST.out
            rw [Nat.min_eq_right (by omega), if_pos (by omega)] at h
            omega
          have HF := Lib.hid hf
          clear hf
          go_wp2
          go_ret
          exact ⟨ret_int HF.out, rfl⟩
        · by_cases g2 : (1000000 : Int) ≤ (a : Int) + (t.size : Int)
          · have hf : (a : Int) + (t.size : Int) = (R : Int) := by
              have h := HST.out
              rw [Nat.min_eq_left (by omega), if_pos (by omega)] at h
              omega
            have HF := Lib.hid hf
            clear hf
            go_wp2
            go_ret
            exact ⟨ret_int HF.out, rfl⟩
          · have hf : bys (ss.drop (k + 1)) (a + t.size) = R := by
              have h := HST.out
              rw [Nat.min_eq_left (by omega), if_neg (by omega)] at h
              exact h
            have HF := Lib.hid hf
            have HX : Hid (a + t.size < 1000000) := (by omega : a + t.size < 1000000)
            have HK : Hid (k + 1 ≤ ss.length) := (by omega : k + 1 ≤ ss.length)
            clear hf
            go_wp2
            go_round
            case rel => exact ⟨k + 1, a + t.size, HK.out, by go_num, by go_num, HX, HF⟩
            case measure => simp [intOf]; omega
      · have hke : k = ss.length := by omega
        have hf : a = R := by
          have h := HR.out
          rw [hke, List.drop_length] at h
          exact h
        have hf2 : (a : Int) = (R : Int) := by omega
        have HF := Lib.hid hf2
        have hge : (ss.length : Int) ≤ (k : Int) := by omega
        clear hf hf2 hke hc hs HR HA ha
        go_wp2
        go_ret
        exact ⟨ret_int HF.out, rfl⟩
end Go.Proofs.YtfnjcobgbdioeaaDoor.WalkBytes
