/-
  pleachplain.Ints: are two rows of numbers the same?
-/
import Derived.Test.YtpaegpbabfohcaaInts
namespace Go.Proofs.Ytpaegpbabfohcaa.WalkInts
open Go.RowKit
set_option linter.unusedVariables false
set_option linter.unusedSimpArgs false

theorem ne_of_getD {a b : List Int} (hl : a.length = b.length) {k : Nat} (hk : k < a.length) (h : a.getD k 0 ≠ b.getD k 0) : (a == b) = false := by
  rw [beq_eq_false_iff_ne]
  rintro rfl
  exact h rfl
theorem eq_of_all {a b : List Int} (hl : a.length = b.length) (h : ∀ i, i < a.length → a.getD i 0 = b.getD i 0) : (a == b) = true := by
  rw [beq_iff_eq]
  refine List.ext_getElem hl fun i h1 h2 => ?_
  have := h i h1
  simpa [List.getD_eq_getElem?_getD, h1, h2] using this

set_option maxHeartbeats 1600000 in
theorem ints_any (A B : Option Addr) (c d : Nat) (a b : List Int) (w : World) (hA : Ints w A a) (hB : Ints w B b) (ha : a.length ≤ 9223372036854775807) (hb : b.length ≤ 9223372036854775807) :
    Calls Try.prog 16 #[.slice A a.length c, .slice B b.length d] w fun e w' => e = .returned (.bool (a == b)) ∧ Below w.heap.size w w' := by
  by_cases hl : a.length = b.length
  · have t1 : ((a.length : Int) != (b.length : Int)) = false := by simp; omega
    rcases Nat.eq_zero_or_pos a.length with h0 | hp
    · have e1 : a = [] := List.eq_nil_of_length_eq_zero h0
      have e2 : b = [] := List.eq_nil_of_length_eq_zero (by omega)
      subst e1 e2
      go_enter Try.func16, Try.ntmps16
      go_wp2
      go_loop [13] (fun i => i = .int .i64 0) (fun i => 0)
      case atStart => rfl
      case round =>
        subst hrel
        go_wp2
        go_ret
        exact ⟨rfl, Below.refl _ _⟩
    · rcases hA with rfl | ⟨g, o, rfl, hc⟩
      · simp at hp
      rcases hB with rfl | ⟨g2, o2, rfl, hc2⟩
      · simp at hl; simp [hl] at hp
      obtain ⟨R, hR⟩ : ∃ R, (a == b) = R := ⟨_, rfl⟩
      rw [hR]
      have HR := Lib.hid hR
      have HL := Lib.hid hl
      have hb0 : (b.length : Int) = (a.length : Int) := by omega
      have HB0 := Lib.hid hb0
      clear hR hb hb0
      go_enter Try.func16, Try.ntmps16
      go_wp2
      go_loopw [13] (fun i wr => ∃ k : Nat, k ≤ a.length ∧ i = .int .i64 k ∧ Hid (∀ i, i < k → a.getD i 0 = b.getD i 0) ∧ (∃ n, wr = w.drewN n)) (fun i _ => a.length - (intOf i).toNat)
      case atStart => exact ⟨0, by omega, rfl, by intro i hi; omega, 0, rfl⟩
      case round =>
        obtain ⟨k, hk, rfl, HE, n, rfl⟩ := hrel
        by_cases hlt : k < a.length
        · have c1 := hc k hlt
          have c2 := hc2 k (by omega)
          have hlb : (k : Int) < (b.length : Int) := by omega
          have hlb2 : k < b.length := by omega
          by_cases e : a.getD k 0 = b.getD k 0
          · have HE2 : Hid (∀ i, i < k + 1 → a.getD i 0 = b.getD i 0) := fun i hi => by
              rcases Nat.lt_or_ge i k with g | g
              · exact HE.out i g
              · rw [show i = k by omega]; exact e
            rw [← e] at c2
            clear e hc hc2
            generalize a.getD k 0 = x at c1 c2
            have t2 : (x != x) = false := by simp
            go_wp2_with fail
            go_quiet (fail)
            go_wp2
            go_roundw
            case rel => exact ⟨k + 1, by omega, by go_num, HE2, _, rfl⟩
            case measure => simp [intOf]; omega
          · have hf := ne_of_getD HL.out hlt e
            rw [HR.out] at hf
            subst hf
            generalize a.getD k 0 = x at c1 e
            generalize b.getD k 0 = y at c2 e
            have t2 : (x != y) = true := by simpa using e
            clear hc hc2
            go_wp2_with fail
            go_quiet (fail)
            go_wp2
            go_ret
            exact ⟨rfl, (Below.refl _ _).trans ⟨rfl, rfl, rfl, Nat.le_refl _, fun _ _ => rfl⟩⟩
        · have : k = a.length := by omega
          subst this
          have hf := eq_of_all HL.out HE.out
          rw [HR.out] at hf
          subst hf
          clear hc hc2
          go_wp2
          go_ret
          exact ⟨rfl, (Below.refl _ _).trans ⟨rfl, rfl, rfl, Nat.le_refl _, fun _ _ => rfl⟩⟩
  · have t1 : ((a.length : Int) != (b.length : Int)) = true := by simp; omega
    have hf : (a == b) = false := by rw [beq_eq_false_iff_ne]; rintro rfl; exact hl rfl
    rw [hf]
    go_enter Try.func16, Try.ntmps16
    go_wp2
    go_ret
    exact ⟨rfl, Below.refl _ _⟩
end Go.Proofs.Ytpaegpbabfohcaa.WalkInts
