/-
  The plain part of the law AreaTells: what the printed functions compute, as numbers; the law's answer is true for every input of the given kinds.
-/
import Derived.Test.YthldakchlnnonaaPAreaTellsx1
namespace Go.Proofs.Ythldakchlnnonaa.Pure
open Go.RowKit Go.Proofs.Ythldakchlnnonaa.PAreaTells Go.Proofs.YthldakchlnnonaaW.PrintWords Go.Proofs.YthldakchlnnonaaW.PrintLast

def HF (n : Int) : Int := if n < 16 then 0 else if n > 4096 then 0 else (n - 2) / 2
def SC (b : Int) : Int := if b ≤ 0 then 0 else (b - 1) / 128 + 1
theorem HF_bd (n : Int) : 0 ≤ HF n ∧ HF n ≤ 2047 := by unfold HF; repeat' split
                                                       all_goals omega
theorem SC_bd (b : Int) (h : b ≤ 9223372036854775807) : 0 ≤ SC b ∧ SC b ≤ 72057594037927936 := by unfold SC; split <;> omega
theorem wf_bd {n : Int} (h : (Lit.int .i64 n).wf = true) : -9223372036854775808 ≤ n ∧ n ≤ 9223372036854775807 := by
  simp [Lit.wf, IntKind.min, IntKind.max, IntKind.bits, IntKind.signed] at h
  omega
theorem w64 {n : Int} (h : -9223372036854775808 ≤ n ∧ n ≤ 9223372036854775807) : wrap64 n = n := by unfold wrap64; omega


theorem check_eq (n : Int) : area_Check.f n = some (if n < 16 then 2 else if n > 4096 then 2 else 0) := by
  unfold area_Check.f; repeat' split
  all_goals rfl


theorem half_eq (n : Int) : area_Half.f n = some (HF n) := by
  unfold area_Half.f HF; rw [check_eq]; simp only [Option.bind_some]
  by_cases h1 : n < 16
  · simp [h1]
  · by_cases h2 : n > 4096
    · simp [h1, h2]
    · simp only [if_neg h1, if_neg h2, if_true]
      rw [w64 (n := n - 2) (by omega), Int.tdiv_eq_ediv_of_nonneg (by omega), w64 (by omega)]


theorem first_eq (n h : Int) : area_First.f n h = some (if h = 1 then 2 + HF n else 2) := by
  unfold area_First.f; rw [half_eq]; simp only [Option.bind_some]
  have := HF_bd n
  rw [w64 (by omega)]; split <;> rfl


theorem place_eq (k : Nat) (n h s : Int) (hs : s ≤ 9223372036854775807) : area_Place.f (k + 1) n h s = some (if s < 0 then (0, 8) else if s ≥ HF n then (0, 8) else ((if h = 1 then 2 + HF n else 2) + HF n - 1 - s, 0)) := by
  unfold area_Place.f
  simp only [area_Place.j0, half_eq, first_eq, Option.bind_some, if_true, decide_eq_true_eq]
  have := HF_bd n
  by_cases h1 : s < 0
  · rw [if_pos h1, if_pos h1]
  · rw [if_neg h1, if_neg h1]
    by_cases h2 : s ≥ HF n
    · rw [if_pos h2, if_pos h2]
    · rw [if_neg h2, if_neg h2]
      rw [w64 (n := _ + HF n) (by split <;> omega), w64 (n := _ - 1) (by split <;> omega), w64 (n := _ - s) (by split <;> omega)]


theorem rhalf_eq (n : Int) : pleachref09_Half.f n = some (HF n) := by
  unfold pleachref09_Half.f HF
  by_cases h1 : n < 16
  · simp [h1]
  · by_cases h2 : n > 4096
    · simp [h1, h2]
    · simp only [if_neg h1, if_neg h2]
      rw [w64 (n := n - 2) (by omega), Int.tdiv_eq_ediv_of_nonneg (by omega), w64 (by omega)]


theorem rfirst_eq (n h : Int) : pleachref09_First.f n h = some (if h = 1 then 2 + HF n else 2) := by
  unfold pleachref09_First.f; rw [rhalf_eq]; simp only [Option.bind_some]
  have := HF_bd n
  rw [w64 (by omega)]; split <;> rfl


theorem sectors_eq (b : Int) (h : b ≤ 9223372036854775807) : area_Sectors.f b = some (SC b) := by
  unfold area_Sectors.f SC
  by_cases h1 : b ≤ 0
  · simp [h1]
  · simp only [if_neg h1]
    rw [w64 (n := b - 1) (by omega), Int.tdiv_eq_ediv_of_nonneg (by omega), w64 (n := (b - 1) / 128) (by omega), w64 (by omega)]


theorem rsectors_eq (b : Int) (h : b ≤ 9223372036854775807) : pleachref09_Sectors.f b = some (SC b) := by
  unfold pleachref09_Sectors.f SC
  by_cases h1 : b ≤ 0
  · simp [h1]
  · simp only [if_neg h1]
    rw [Int.tdiv_eq_ediv_of_nonneg (by omega), Int.tmod_eq_emod_of_nonneg (by omega), w64 (n := b / 128) (by omega), w64 (n := b / 128 + 1) (by omega)]
    split <;> congr 1 <;> omega


theorem log_eq (n h p : Int) (hp : p ≤ 9223372036854775807) : area_Log.f n h p = some ((if h = 1 then 2 + HF n else 2) + mn (SC p) (HF n)) := by
  unfold area_Log.f; rw [first_eq, sectors_eq _ hp, half_eq]; simp only [Option.bind_some]
  have := HF_bd n
  have := SC_bd p hp
  rw [w64]; unfold mn; split <;> split <;> omega


theorem rlog_eq (n h p : Int) (hp : p ≤ 9223372036854775807) : pleachref09_Log.f n h p = some ((if h = 1 then 2 + HF n else 2) + mn (SC p) (HF n)) := by
  unfold pleachref09_Log.f; rw [rfirst_eq, rsectors_eq _ hp, rhalf_eq]; simp only [Option.bind_some]
  have := HF_bd n
  have := SC_bd p hp
  have e1 : wrap64 ((if h = 1 then 2 + HF n else 2) + HF n) = (if h = 1 then 2 + HF n else 2) + HF n := w64 (by split <;> omega)
  by_cases h1 : SC p > HF n
  · have e2 : mn (SC p) (HF n) = HF n := by unfold mn; split <;> omega
    rw [if_pos h1, e1, e2]
  · have e2 : mn (SC p) (HF n) = SC p := by unfold mn; split <;> omega
    rw [if_neg h1, w64 (by split <;> omega), e2]


theorem awake_eq (k : Nat) : pleachlaw09_awake.f (k + 1) = some true := by
  unfold pleachlaw09_awake.f
  simp only [place_eq _ _ _ _ (show (0 : Int) ≤ 9223372036854775807 by omega), half_eq, first_eq, Option.bind_some]
  have h : HF 16 = 7 := by decide
  rw [h]; decide


theorem AreaTells : pleachlaw09_AreaTells.Pure := by
  intro a0 a1 a2 a3 w0 w1 w2 w3
  have b0 := wf_bd w0
  have b2 := wf_bd w2
  have b3 := wf_bd w3
  have hb := HF_bd a0
  refine ⟨4, ?_⟩
  have e0 : (if a0 < 16 then (2 : Int) else if a0 > 4096 then 2 else 0) = if HF a0 > 0 then 0 else 2 := by
    unfold HF; repeat' split
    all_goals omega
  have ej : pleachlaw09_AreaTells.j1 3 a0 a1 a2 = some true := by
    simp only [pleachlaw09_AreaTells.j1, check_eq, rhalf_eq, half_eq, first_eq, rfirst_eq, sectors_eq _ b2.2, rsectors_eq _ b2.2, log_eq _ _ _ b2.2, rlog_eq _ _ _ b2.2, awake_eq, Option.bind_some, if_true, e0]
    by_cases h : HF a0 > 0 <;> simp [h]
  unfold pleachlaw09_AreaTells.f
  simp only [place_eq _ _ _ _ b3.2, rhalf_eq, Option.bind_some, pleachlaw09_AreaTells.j0, rfirst_eq, ej]
  by_cases h1 : a3 < 0
  · simp [h1]
  · by_cases h2 : a3 ≥ HF a0
    · simp [h1, h2]
    · rw [w64 (n := _ + HF a0) (by split <;> omega), w64 (n := _ - 1) (by split <;> omega), w64 (n := _ - a3) (by split <;> omega)]
      simp [h1, h2]

end Go.Proofs.Ythldakchlnnonaa.Pure
