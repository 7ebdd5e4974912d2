/-
  The plain part of the law AreaOf: what the printed functions compute, as numbers; the law's answer is true for every input of the given kinds.
-/
import Derived.Test.YthldakchlnnonaaPAreaOfx2
namespace Go.Proofs.Ythldakchlnnonaa.Pure
open Go.RowKit Go.Proofs.Ythldakchlnnonaa.PAreaOf Go.Proofs.YthldakchlnnonaaW.PrintWords Go.Proofs.YthldakchlnnonaaW.PrintLast

def HF (n : Int) : Int := if n < 16 then 0 else if n > 4096 then 0 else (n - 2) / 2
def SC (b : Int) : Int := if b ≤ 0 then 0 else (b - 1) / 128 + 1
theorem HF_bd (n : Int) : 0 ≤ HF n ∧ HF n ≤ 2047 := by (unfold HF; (repeat' split) <;> omega)
theorem SC_bd (b : Int) (h : b ≤ 9223372036854775807) : 0 ≤ SC b ∧ SC b ≤ 72057594037927936 := by unfold SC; split <;> omega
theorem wf_bd {n : Int} (h : (Lit.int .i64 n).wf = true) : -9223372036854775808 ≤ n ∧ n ≤ 9223372036854775807 := by
  simp [Lit.wf, IntKind.min, IntKind.max, IntKind.bits, IntKind.signed] at h
  omega
theorem w64 {n : Int} (h : -9223372036854775808 ≤ n ∧ n ≤ 9223372036854775807) : wrap64 n = n := by unfold wrap64; omega


theorem check_eq (n : Int) : area_Check.f n = some (if n < 16 then 2 else if n > 4096 then 2 else 0) := by
  unfold area_Check.f; repeat' split
  all_goals rfl


theorem half_eq (n : Int) : area_Half.f n = some (HF n) := by
  unfold area_Half.f HF; rw [check_eq]; simp only [Option.bind_some]
  by_cases h1 : n < 16
  · simp [h1]
  · by_cases h2 : n > 4096
    · simp [h1, h2]
    · simp only [if_neg h1, if_neg h2, if_true]
      rw [w64 (n := n - 2) (by omega), Int.tdiv_eq_ediv_of_nonneg (by omega), w64 (by omega)]


theorem first_eq (n h : Int) : area_First.f n h = some (if h = 1 then 2 + HF n else 2) := by
  unfold area_First.f; rw [half_eq]; simp only [Option.bind_some]
  have := HF_bd n
  rw [w64 (by omega)]; split <;> rfl


theorem place_eq (k : Nat) (n h s : Int) (hs : s ≤ 9223372036854775807) : area_Place.f (k + 1) n h s = some (if s < 0 then (0, 8) else if s ≥ HF n then (0, 8) else ((if h = 1 then 2 + HF n else 2) + HF n - 1 - s, 0)) := by
  unfold area_Place.f
  simp only [area_Place.j0, half_eq, first_eq, Option.bind_some, if_true, decide_eq_true_eq]
  have := HF_bd n
  by_cases h1 : s < 0
  · rw [if_pos h1, if_pos h1]
  · rw [if_neg h1, if_neg h1]
    by_cases h2 : s ≥ HF n
    · rw [if_pos h2, if_pos h2]
    · rw [if_neg h2, if_neg h2]
      rw [w64 (n := _ + HF n) (by split <;> omega), w64 (n := _ - 1) (by split <;> omega), w64 (n := _ - s) (by split <;> omega)]


theorem rhalf_eq (n : Int) : pleachref09_Half.f n = some (HF n) := by
  unfold pleachref09_Half.f HF
  by_cases h1 : n < 16
  · simp [h1]
  · by_cases h2 : n > 4096
    · simp [h1, h2]
    · simp only [if_neg h1, if_neg h2]
      rw [w64 (n := n - 2) (by omega), Int.tdiv_eq_ediv_of_nonneg (by omega), w64 (by omega)]


theorem rfirst_eq (n h : Int) : pleachref09_First.f n h = some (if h = 1 then 2 + HF n else 2) := by
  unfold pleachref09_First.f; rw [rhalf_eq]; simp only [Option.bind_some]
  have := HF_bd n
  rw [w64 (by omega)]; split <;> rfl


theorem sectors_eq (b : Int) (h : b ≤ 9223372036854775807) : area_Sectors.f b = some (SC b) := by
  unfold area_Sectors.f SC
  by_cases h1 : b ≤ 0
  · simp [h1]
  · simp only [if_neg h1]
    rw [w64 (n := b - 1) (by omega), Int.tdiv_eq_ediv_of_nonneg (by omega), w64 (n := (b - 1) / 128) (by omega), w64 (by omega)]


theorem rsectors_eq (b : Int) (h : b ≤ 9223372036854775807) : pleachref09_Sectors.f b = some (SC b) := by
  unfold pleachref09_Sectors.f SC
  by_cases h1 : b ≤ 0
  · simp [h1]
  · simp only [if_neg h1]
    rw [Int.tdiv_eq_ediv_of_nonneg (by omega), Int.tmod_eq_emod_of_nonneg (by omega), w64 (n := b / 128) (by omega), w64 (n := b / 128 + 1) (by omega)]
    split <;> congr 1 <;> omega


theorem log_eq (n h p : Int) (hp : p ≤ 9223372036854775807) : area_Log.f n h p = some ((if h = 1 then 2 + HF n else 2) + mn (SC p) (HF n)) := by
  unfold area_Log.f; rw [first_eq, sectors_eq _ hp, half_eq]; simp only [Option.bind_some]
  have := HF_bd n
  have := SC_bd p hp
  rw [w64]; unfold mn; split <;> split <;> omega


theorem rlog_eq (n h p : Int) (hp : p ≤ 9223372036854775807) : pleachref09_Log.f n h p = some ((if h = 1 then 2 + HF n else 2) + mn (SC p) (HF n)) := by
  unfold pleachref09_Log.f; rw [rfirst_eq, rsectors_eq _ hp, rhalf_eq]; simp only [Option.bind_some]
  have := HF_bd n
  have := SC_bd p hp
  have e1 : wrap64 ((if h = 1 then 2 + HF n else 2) + HF n) = (if h = 1 then 2 + HF n else 2) + HF n := w64 (by split <;> omega)
  by_cases h1 : SC p > HF n
  · have e2 : mn (SC p) (HF n) = HF n := by unfold mn; split <;> omega
    rw [if_pos h1, e1, e2]
  · have e2 : mn (SC p) (HF n) = SC p := by unfold mn; split <;> omega
    rw [if_neg h1, w64 (by split <;> omega), e2]


theorem awake_eq (k : Nat) : pleachlaw09_awake.f (k + 1) = some true := by
  unfold pleachlaw09_awake.f
  simp only [place_eq _ _ _ _ (show (0 : Int) ≤ 9223372036854775807 by omega), half_eq, first_eq, Option.bind_some]
  have h : HF 16 = 7 := by decide
  rw [h]; decide

def OF (n h p t r s : Int) : Int :=
  if n < 16 ∨ n > 4096 ∨ s < 0 ∨ s ≥ n then 6 else if s < 2 then 0 else
  if s - (if h = 1 then 2 + HF n else 2) < 0 ∨ s - (if h = 1 then 2 + HF n else 2) ≥ HF n then 5 else
  if s - (if h = 1 then 2 + HF n else 2) < SC p then 1 else
  if s - (if h = 1 then 2 + HF n else 2) < mn (SC p) (HF n) + SC t then 2 else
  if s - (if h = 1 then 2 + HF n else 2) ≥ HF n - mn (mx r 0) (HF n) then 3 else 4
theorem of_eq (k : Nat) (n e h p c t r s : Int) (hp : p ≤ 9223372036854775807) (ht : t ≤ 9223372036854775807) : area_Of.f (k + 2) n e h p c t r s = some (OF n h p t r s) := by
  have hb := HF_bd n
  have hsp := SC_bd p hp
  have hst := SC_bd t ht
  have hm : 0 ≤ mn (mx r 0) (HF n) ∧ mn (mx r 0) (HF n) ≤ 2047 := by unfold mn mx; (repeat' split) <;> omega
  have hl : 0 ≤ mn (SC p) (HF n) ∧ mn (SC p) (HF n) ≤ 2047 := by unfold mn; split <;> omega
  unfold area_Of.f OF
  rw [first_eq, check_eq]; simp only [Option.bind_some]
  by_cases h1 : n < 16
  · simp [h1, area_Of.j0]
  by_cases h2 : n > 4096
  · simp [h1, h2, area_Of.j0]
  by_cases h3 : s < 0
  · simp [h1, h2, h3, area_Of.j0]
  by_cases h4 : s ≥ n
  · simp [h1, h2, h3, h4, area_Of.j0]
  generalize hf : (if h = 1 then 2 + HF n else 2) = F
  have hF : 2 ≤ F ∧ F ≤ 2049 := by rw [← hf]; split <;> omega
  rw [if_neg h1, if_neg h2, if_pos rfl, if_neg h3, if_neg (show ¬ (n < 16 ∨ n > 4096 ∨ s < 0 ∨ s ≥ n) by omega), w64 (n := s - F) (by omega)]
  simp only [area_Of.j0, h4, decide_false, Bool.false_eq_true, if_false]
  by_cases h5 : s < 2
  · rw [if_pos h5, if_pos h5]
  rw [if_neg h5, if_neg h5]
  simp only [area_Of.j1, half_eq, sectors_eq _ hp, sectors_eq _ ht, log_eq _ _ _ hp, Option.bind_some, if_true, hf]
  by_cases h6 : s - F < 0
  · rw [if_pos h6, if_pos (Or.inl h6)]
  by_cases h7 : s - F ≥ HF n
  · rw [if_neg h6, if_pos (Or.inr h7)]; simp [h7]
  rw [if_neg h6, if_neg (show ¬ (s - F < 0 ∨ s - F ≥ HF n) by omega)]
  simp only [h7, decide_false, Bool.false_eq_true, if_false]
  rw [w64 (n := F + mn (SC p) (HF n) - F) (by omega), w64 (n := _ + SC t) (by omega), w64 (n := HF n - _) (by omega)]
  rw [show F + mn (SC p) (HF n) - F + SC t = mn (SC p) (HF n) + SC t by omega]
  repeat' split
  all_goals rfl
theorem rof_eq (k : Nat) (n e h p c t r s : Int) (hp : p ≤ 9223372036854775807) (ht : t ≤ 9223372036854775807) : pleachref09_Of.f (k + 2) n e h p c t r s = some (OF n h p t r s) := by
  have hb := HF_bd n
  have hsp := SC_bd p hp
  have hst := SC_bd t ht
  have hl : 0 ≤ mn (SC p) (HF n) ∧ mn (SC p) (HF n) ≤ 2047 := by unfold mn; split <;> omega
  unfold pleachref09_Of.f OF
  by_cases h1 : n < 16
  · simp [h1, pleachref09_Of.j0]
  by_cases h2 : n > 4096
  · simp [h1, h2, pleachref09_Of.j0]
  by_cases h3 : s < 0
  · simp [h1, h2, h3, pleachref09_Of.j0]
  by_cases h4 : s ≥ n
  · simp [h1, h2, h3, h4, pleachref09_Of.j0]
  generalize hf : (if h = 1 then 2 + HF n else 2) = F
  have hF : 2 ≤ F ∧ F ≤ 2049 := by rw [← hf]; split <;> omega
  rw [if_neg h1, if_neg h2, if_neg h3, if_neg (show ¬ (n < 16 ∨ n > 4096 ∨ s < 0 ∨ s ≥ n) by omega)]
  simp only [pleachref09_Of.j0, h4, decide_false, Bool.false_eq_true, if_false]
  by_cases h5 : s < 2
  · rw [if_pos h5, if_pos h5]
  rw [if_neg h5, if_neg h5, rfirst_eq, rhalf_eq]
  simp only [pleachref09_Of.j1, rsectors_eq _ hp, rsectors_eq _ ht, rlog_eq _ _ _ hp, Option.bind_some, if_true, hf]
  rw [w64 (n := F + HF n) (by omega)]
  by_cases h6 : s < F
  · rw [if_pos h6, if_pos (Or.inl (by omega))]
  by_cases h7 : s ≥ F + HF n
  · rw [if_neg h6, if_pos (Or.inr (by omega))]; simp [h7]
  rw [if_neg h6, if_neg (show ¬ (s - F < 0 ∨ s - F ≥ HF n) by omega)]
  simp only [h7, decide_false, Bool.false_eq_true, if_false]
  rw [w64 (n := s - F) (by omega), w64 (n := s - _) (by omega), w64 (n := F + HF n - 1) (by omega), w64 (n := F + HF n - 1 - s) (by omega)]
  have e1 : (s - (F + mn (SC p) (HF n)) < SC t) = (s - F < mn (SC p) (HF n) + SC t) := propext (by omega)
  have e2 : (F + HF n - 1 - s < r) = (s - F ≥ HF n - mn (mx r 0) (HF n)) := propext (by unfold mn mx; (repeat' split) <;> omega)
  simp only [e1, e2]
  repeat' split
  all_goals rfl
theorem awake_eq' {k : Nat} (h : 1 ≤ k) : pleachlaw09_awake.f k = some true := by
  obtain ⟨m, rfl⟩ : ∃ m, k = m + 1 := ⟨k - 1, by omega⟩
  exact awake_eq m
theorem AreaOf (n e h p c t r s : Int) (hp : (Lit.int .i64 p).wf = true) (ht : (Lit.int .i64 t).wf = true) : pleachlaw09_AreaOf.f 5 n e h p c t r s = some true := by
  have b1 := wf_bd hp
  have b2 := wf_bd ht
  unfold pleachlaw09_AreaOf.f
  rw [of_eq 3 _ _ _ _ _ _ _ _ b1.2 b2.2, Option.bind_some, rof_eq 3 _ _ _ _ _ _ _ _ b1.2 b2.2, Option.bind_some, if_pos rfl, awake_eq' (by omega), Option.bind_some]
end Go.Proofs.Ythldakchlnnonaa.Pure
