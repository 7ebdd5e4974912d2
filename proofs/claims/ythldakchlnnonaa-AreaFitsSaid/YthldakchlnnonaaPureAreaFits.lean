/-
  The plain part of the law AreaFits: what the printed functions compute, as numbers; the law's answer is true for every input of the given kinds.
-/
import Derived.Test.YthldakchlnnonaaPAreaFitsx1
namespace Go.Proofs.Ythldakchlnnonaa.Pure
open Go.RowKit Go.Proofs.Ythldakchlnnonaa.PAreaFits Go.Proofs.YthldakchlnnonaaW.PrintWords Go.Proofs.YthldakchlnnonaaW.PrintLast

def HF (n : Int) : Int := if n < 16 then 0 else if n > 4096 then 0 else (n - 2) / 2
def SC (b : Int) : Int := if b ≤ 0 then 0 else (b - 1) / 128 + 1
theorem HF_bd (n : Int) : 0 ≤ HF n ∧ HF n ≤ 2047 := by unfold HF; repeat' split
                                                       all_goals omega
theorem SC_bd (b : Int) (h : b ≤ 9223372036854775807) : 0 ≤ SC b ∧ SC b ≤ 72057594037927936 := by unfold SC; split <;> omega
theorem wf_bd {n : Int} (h : (Lit.int .i64 n).wf = true) : -9223372036854775808 ≤ n ∧ n ≤ 9223372036854775807 := by
  simp [Lit.wf, IntKind.min, IntKind.max, IntKind.bits, IntKind.signed] at h
  omega
theorem w64 {n : Int} (h : -9223372036854775808 ≤ n ∧ n ≤ 9223372036854775807) : wrap64 n = n := by unfold wrap64; omega


theorem check_eq (n : Int) : area_Check.f n = some (if n < 16 then 2 else if n > 4096 then 2 else 0) := by
  unfold area_Check.f; repeat' split
  all_goals rfl


theorem half_eq (n : Int) : area_Half.f n = some (HF n) := by
  unfold area_Half.f HF; rw [check_eq]; simp only [Option.bind_some]
  by_cases h1 : n < 16
  · simp [h1]
  · by_cases h2 : n > 4096
    · simp [h1, h2]
    · simp only [if_neg h1, if_neg h2, if_true]
      rw [w64 (n := n - 2) (by omega), Int.tdiv_eq_ediv_of_nonneg (by omega), w64 (by omega)]


theorem first_eq (n h : Int) : area_First.f n h = some (if h = 1 then 2 + HF n else 2) := by
  unfold area_First.f; rw [half_eq]; simp only [Option.bind_some]
  have := HF_bd n
  rw [w64 (by omega)]; split <;> rfl


theorem place_eq (k : Nat) (n h s : Int) (hs : s ≤ 9223372036854775807) : area_Place.f (k + 1) n h s = some (if s < 0 then (0, 8) else if s ≥ HF n then (0, 8) else ((if h = 1 then 2 + HF n else 2) + HF n - 1 - s, 0)) := by
  unfold area_Place.f
  simp only [area_Place.j0, half_eq, first_eq, Option.bind_some, if_true, decide_eq_true_eq]
  have := HF_bd n
  by_cases h1 : s < 0
  · rw [if_pos h1, if_pos h1]
  · rw [if_neg h1, if_neg h1]
    by_cases h2 : s ≥ HF n
    · rw [if_pos h2, if_pos h2]
    · rw [if_neg h2, if_neg h2]
      rw [w64 (n := _ + HF n) (by split <;> omega), w64 (n := _ - 1) (by split <;> omega), w64 (n := _ - s) (by split <;> omega)]


theorem rhalf_eq (n : Int) : pleachref09_Half.f n = some (HF n) := by
  unfold pleachref09_Half.f HF
  by_cases h1 : n < 16
  · simp [h1]
  · by_cases h2 : n > 4096
    · simp [h1, h2]
    · simp only [if_neg h1, if_neg h2]
      rw [w64 (n := n - 2) (by omega), Int.tdiv_eq_ediv_of_nonneg (by omega), w64 (by omega)]


theorem sectors_eq (b : Int) (h : b ≤ 9223372036854775807) : area_Sectors.f b = some (SC b) := by
  unfold area_Sectors.f SC
  by_cases h1 : b ≤ 0
  · simp [h1]
  · simp only [if_neg h1]
    rw [w64 (n := b - 1) (by omega), Int.tdiv_eq_ediv_of_nonneg (by omega), w64 (n := (b - 1) / 128) (by omega), w64 (by omega)]


theorem rsectors_eq (b : Int) (h : b ≤ 9223372036854775807) : pleachref09_Sectors.f b = some (SC b) := by
  unfold pleachref09_Sectors.f SC
  by_cases h1 : b ≤ 0
  · simp [h1]
  · simp only [if_neg h1]
    rw [Int.tdiv_eq_ediv_of_nonneg (by omega), Int.tmod_eq_emod_of_nonneg (by omega), w64 (n := b / 128) (by omega), w64 (n := b / 128 + 1) (by omega)]
    split <;> congr 1 <;> omega


theorem awake_eq (k : Nat) : pleachlaw09_awake.f (k + 1) = some true := by
  unfold pleachlaw09_awake.f
  simp only [place_eq _ _ _ _ (show (0 : Int) ≤ 9223372036854775807 by omega), half_eq, first_eq, Option.bind_some]
  have h : HF 16 = 7 := by decide
  rw [h]; decide


theorem taken_eq (n p r : Int) (hp : p ≤ 9223372036854775807) : area_taken.f n p r = some (mn (SC p) (HF n + 1) + mn (mx r 0) (HF n) + 1) := by
  unfold area_taken.f; rw [half_eq, sectors_eq _ hp]; simp only [Option.bind_some]
  have := HF_bd n
  have := SC_bd p hp
  have hm : 0 ≤ mx r 0 := by unfold mx; split <;> omega
  rw [w64 (n := HF n + 1) (by omega)]
  have h1 : 0 ≤ mn (SC p) (HF n + 1) ∧ mn (SC p) (HF n + 1) ≤ 2048 := by unfold mn; split <;> omega
  have h2 : 0 ≤ mn (mx r 0) (HF n) ∧ mn (mx r 0) (HF n) ≤ 2047 := by unfold mn; split <;> omega
  rw [w64 (n := _ + mn (mx r 0) _) (by omega), w64 (by omega)]


def TK (n p r : Int) : Int := mn (SC p) (HF n + 1) + mn (mx r 0) (HF n) + 1
theorem TK_bd (n p r : Int) (hp : p ≤ 9223372036854775807) : 1 ≤ TK n p r ∧ TK n p r ≤ 5000 := by
  unfold TK
  have := HF_bd n
  have := SC_bd p hp
  have hm : 0 ≤ mx r 0 := by unfold mx; split <;> omega
  have h1 : 0 ≤ mn (SC p) (HF n + 1) ∧ mn (SC p) (HF n + 1) ≤ 2048 := by unfold mn; split <;> omega
  have h2 : 0 ≤ mn (mx r 0) (HF n) ∧ mn (mx r 0) (HF n) ≤ 2047 := by unfold mn; split <;> omega
  omega
theorem fits_eq (n p t r : Int) (hp : p ≤ 9223372036854775807) (ht : t ≤ 9223372036854775807) : area_Fits.f n p t r = some (if HF n - TK n p r ≥ 0 then decide (SC t ≤ HF n - TK n p r) else false) := by
  unfold area_Fits.f; rw [half_eq, taken_eq _ _ _ hp, sectors_eq _ ht]; simp only [Option.bind_some]
  have := HF_bd n
  have := TK_bd n p r hp
  show (if wrap64 (HF n - TK n p r) ≥ 0 then some (decide (SC t ≤ wrap64 (HF n - TK n p r))) else some false) = _
  rw [w64 (by omega)]; split <;> rfl


theorem room_eq (n p r : Int) (hp : p ≤ 9223372036854775807) : area_Room.f n p r = some (mx (HF n - TK n p r) 0 * 128) := by
  unfold area_Room.f; rw [half_eq, taken_eq _ _ _ hp]; simp only [Option.bind_some]
  have := HF_bd n
  have := TK_bd n p r hp
  show some (wrap64 (mx (wrap64 (HF n - TK n p r)) 0 * 128)) = _
  rw [w64 (n := HF n - TK n p r) (by omega), w64]
  unfold mx; split <;> omega


def LF (n p r : Int) : Int := if r > HF n - 1 ∨ SC p > HF n - 1 then -1 else if r > 0 then HF n - 1 - r - SC p else HF n - 1 - SC p
theorem left_eq (k : Nat) (n p r : Int) (hp : p ≤ 9223372036854775807) : pleachref09_Left.f (k + 1) n p r = some (LF n p r) := by
  unfold pleachref09_Left.f LF; rw [rhalf_eq, rsectors_eq _ hp]; simp only [Option.bind_some]
  have := HF_bd n
  have := SC_bd p hp
  rw [w64 (n := HF n - 1) (by omega)]
  simp only [pleachref09_Left.j0, rsectors_eq _ hp, Option.bind_some, if_true, decide_eq_true_eq]
  by_cases h1 : r > HF n - 1
  · rw [if_pos h1, if_pos (Or.inl h1)]
  · by_cases h2 : SC p > HF n - 1
    · rw [if_neg h1, if_pos h2, if_pos (Or.inr h2)]
    · have h4 : ¬ (r > HF n - 1 ∨ SC p > HF n - 1) := by omega
      rw [if_neg h1, if_neg h2, if_neg h4]
      by_cases h3 : r > 0
      · rw [if_pos h3, if_pos h3, w64 (n := HF n - 1 - r) (by omega), w64 (by omega)]
      · rw [if_neg h3, if_neg h3, w64 (by omega)]
theorem left_TK (n p r : Int) (hp : p ≤ 9223372036854775807) : (LF n p r ≥ 0 ↔ HF n - TK n p r ≥ 0) ∧ (LF n p r ≥ 0 → LF n p r = HF n - TK n p r) := by
  have := HF_bd n
  have := SC_bd p hp
  unfold LF TK mn mx
  repeat' split
  all_goals omega


theorem rfits_eq (k : Nat) (n p t r : Int) (hp : p ≤ 9223372036854775807) (ht : t ≤ 9223372036854775807) : pleachref09_Fits.f (k + 1) n p t r = some (if LF n p r ≥ 0 then decide (SC t ≤ LF n p r) else false) := by
  unfold pleachref09_Fits.f; rw [left_eq _ _ _ _ hp, rsectors_eq _ ht]; simp only [Option.bind_some]
  split <;> rfl


theorem AreaFits : pleachlaw09_AreaFits.Pure := by
  intro a0 a1 a2 a3 w0 w1 w2 w3
  have b1 := wf_bd w1
  have b2 := wf_bd w2
  have hb := HF_bd a0
  have hl := left_TK a0 a1 a3 b1.2
  have ht := TK_bd a0 a1 a3 b1.2
  refine ⟨4, ?_⟩
  unfold pleachlaw09_AreaFits.f
  simp only [left_eq _ _ _ _ b1.2, fits_eq _ _ _ _ b1.2 b2.2, rfits_eq _ _ _ _ _ b1.2 b2.2, room_eq _ _ _ b1.2, awake_eq, Option.bind_some]
  by_cases h : LF a0 a1 a3 ≥ 0
  · have h1 := hl.1.1 h
    have h2 := hl.2 h
    rw [if_pos h, if_pos h1, h2]
    simp only [beq_self_eq_true, if_true]
    rw [w64 (n := 128 * _) (by unfold mx; split <;> omega), if_pos (by rw [Int.mul_comm])]
  · have h1 : ¬ HF a0 - TK a0 a1 a3 ≥ 0 := fun x => h (hl.1.2 x)
    rw [if_neg h, if_neg h1]
    simp only [beq_self_eq_true, if_true]
    rw [show mx (HF a0 - TK a0 a1 a3) 0 = 0 from by unfold mx; split <;> omega, show mx (LF a0 a1 a3) 0 = 0 from by unfold mx; split <;> omega]
    rw [if_pos (by unfold wrap64; decide)]

end Go.Proofs.Ythldakchlnnonaa.Pure
