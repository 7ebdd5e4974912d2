/-
  The plain part of the law AreaApart: what the printed functions compute, as numbers; the law's answer is true for every input of the given kinds.
-/
import Derived.Test.YthldakchlnnonaaPAreaApartx1
namespace Go.Proofs.Ythldakchlnnonaa.Pure
open Go.RowKit Go.Proofs.Ythldakchlnnonaa.PAreaApart Go.Proofs.YthldakchlnnonaaW.PrintWords Go.Proofs.YthldakchlnnonaaW.PrintLast
set_option linter.unusedVariables false

def HF (n : Int) : Int := if n < 16 then 0 else if n > 4096 then 0 else (n - 2) / 2
def SC (b : Int) : Int := if b ≤ 0 then 0 else (b - 1) / 128 + 1
theorem HF_bd (n : Int) : 0 ≤ HF n ∧ HF n ≤ 2047 := by (unfold HF; (repeat' split) <;> omega)
theorem SC_bd (b : Int) (h : b ≤ 9223372036854775807) : 0 ≤ SC b ∧ SC b ≤ 72057594037927936 := by unfold SC; split <;> omega
theorem wf_bd {n : Int} (h : (Lit.int .i64 n).wf = true) : -9223372036854775808 ≤ n ∧ n ≤ 9223372036854775807 := by
  simp [Lit.wf, IntKind.min, IntKind.max, IntKind.bits, IntKind.signed] at h
  omega
theorem w64 {n : Int} (h : -9223372036854775808 ≤ n ∧ n ≤ 9223372036854775807) : wrap64 n = n := by unfold wrap64; omega


theorem check_eq (n : Int) : area_Check.f n = some (if n < 16 then 2 else if n > 4096 then 2 else 0) := by
  unfold area_Check.f; repeat' split
  all_goals rfl


theorem half_eq (n : Int) : area_Half.f n = some (HF n) := by
  unfold area_Half.f HF; rw [check_eq]; simp only [Option.bind_some]
  by_cases h1 : n < 16
  · simp [h1]
  · by_cases h2 : n > 4096
    · simp [h1, h2]
    · simp only [if_neg h1, if_neg h2, if_true]
      rw [w64 (n := n - 2) (by omega), Int.tdiv_eq_ediv_of_nonneg (by omega), w64 (by omega)]


theorem first_eq (n h : Int) : area_First.f n h = some (if h = 1 then 2 + HF n else 2) := by
  unfold area_First.f; rw [half_eq]; simp only [Option.bind_some]
  have := HF_bd n
  rw [w64 (by omega)]; split <;> rfl


theorem place_eq (k : Nat) (n h s : Int) (hs : s ≤ 9223372036854775807) : area_Place.f (k + 1) n h s = some (if s < 0 then (0, 8) else if s ≥ HF n then (0, 8) else ((if h = 1 then 2 + HF n else 2) + HF n - 1 - s, 0)) := by
  unfold area_Place.f
  simp only [area_Place.j0, half_eq, first_eq, Option.bind_some, if_true, decide_eq_true_eq]
  have := HF_bd n
  by_cases h1 : s < 0
  · rw [if_pos h1, if_pos h1]
  · rw [if_neg h1, if_neg h1]
    by_cases h2 : s ≥ HF n
    · rw [if_pos h2, if_pos h2]
    · rw [if_neg h2, if_neg h2]
      rw [w64 (n := _ + HF n) (by split <;> omega), w64 (n := _ - 1) (by split <;> omega), w64 (n := _ - s) (by split <;> omega)]


theorem sectors_eq (b : Int) (h : b ≤ 9223372036854775807) : area_Sectors.f b = some (SC b) := by
  unfold area_Sectors.f SC
  by_cases h1 : b ≤ 0
  · simp [h1]
  · simp only [if_neg h1]
    rw [w64 (n := b - 1) (by omega), Int.tdiv_eq_ediv_of_nonneg (by omega), w64 (n := (b - 1) / 128) (by omega), w64 (by omega)]


theorem log_eq (n h p : Int) (hp : p ≤ 9223372036854775807) : area_Log.f n h p = some ((if h = 1 then 2 + HF n else 2) + mn (SC p) (HF n)) := by
  unfold area_Log.f; rw [first_eq, sectors_eq _ hp, half_eq]; simp only [Option.bind_some]
  have := HF_bd n
  have := SC_bd p hp
  rw [w64]; unfold mn; split <;> split <;> omega


theorem awake_eq (k : Nat) : pleachlaw09_awake.f (k + 1) = some true := by
  unfold pleachlaw09_awake.f
  simp only [place_eq _ _ _ _ (show (0 : Int) ≤ 9223372036854775807 by omega), half_eq, first_eq, Option.bind_some]
  have h : HF 16 = 7 := by decide
  rw [h]; decide


theorem taken_eq (n p r : Int) (hp : p ≤ 9223372036854775807) : area_taken.f n p r = some (mn (SC p) (HF n + 1) + mn (mx r 0) (HF n) + 1) := by
  unfold area_taken.f; rw [half_eq, sectors_eq _ hp]; simp only [Option.bind_some]
  have := HF_bd n
  have := SC_bd p hp
  have hm : 0 ≤ mx r 0 := by unfold mx; split <;> omega
  rw [w64 (n := HF n + 1) (by omega)]
  have h1 : 0 ≤ mn (SC p) (HF n + 1) ∧ mn (SC p) (HF n + 1) ≤ 2048 := by unfold mn; split <;> omega
  have h2 : 0 ≤ mn (mx r 0) (HF n) ∧ mn (mx r 0) (HF n) ≤ 2047 := by unfold mn; split <;> omega
  rw [w64 (n := _ + mn (mx r 0) _) (by omega), w64 (by omega)]


def TK (n p r : Int) : Int := mn (SC p) (HF n + 1) + mn (mx r 0) (HF n) + 1
theorem TK_bd (n p r : Int) (hp : p ≤ 9223372036854775807) : 1 ≤ TK n p r ∧ TK n p r ≤ 5000 := by
  unfold TK
  have := HF_bd n
  have := SC_bd p hp
  have hm : 0 ≤ mx r 0 := by unfold mx; split <;> omega
  have h1 : 0 ≤ mn (SC p) (HF n + 1) ∧ mn (SC p) (HF n + 1) ≤ 2048 := by unfold mn; split <;> omega
  have h2 : 0 ≤ mn (mx r 0) (HF n) ∧ mn (mx r 0) (HF n) ≤ 2047 := by unfold mn; split <;> omega
  omega
theorem fits_eq (n p t r : Int) (hp : p ≤ 9223372036854775807) (ht : t ≤ 9223372036854775807) : area_Fits.f n p t r = some (if HF n - TK n p r ≥ 0 then decide (SC t ≤ HF n - TK n p r) else false) := by
  unfold area_Fits.f; rw [half_eq, taken_eq _ _ _ hp, sectors_eq _ ht]; simp only [Option.bind_some]
  have := HF_bd n
  have := TK_bd n p r hp
  show (if wrap64 (HF n - TK n p r) ≥ 0 then some (decide (SC t ≤ wrap64 (HF n - TK n p r))) else some false) = _
  rw [w64 (by omega)]; split <;> rfl

def OF (n h p t r s : Int) : Int :=
  if n < 16 ∨ n > 4096 ∨ s < 0 ∨ s ≥ n then 6 else if s < 2 then 0 else
  if s - (if h = 1 then 2 + HF n else 2) < 0 ∨ s - (if h = 1 then 2 + HF n else 2) ≥ HF n then 5 else
  if s - (if h = 1 then 2 + HF n else 2) < SC p then 1 else
  if s - (if h = 1 then 2 + HF n else 2) < mn (SC p) (HF n) + SC t then 2 else
  if s - (if h = 1 then 2 + HF n else 2) ≥ HF n - mn (mx r 0) (HF n) then 3 else 4
theorem of_eq (k : Nat) (n e h p c t r s : Int) (hp : p ≤ 9223372036854775807) (ht : t ≤ 9223372036854775807) : area_Of.f (k + 2) n e h p c t r s = some (OF n h p t r s) := by
  have hb := HF_bd n
  have hsp := SC_bd p hp
  have hst := SC_bd t ht
  have hm : 0 ≤ mn (mx r 0) (HF n) ∧ mn (mx r 0) (HF n) ≤ 2047 := by unfold mn mx; (repeat' split) <;> omega
  have hl : 0 ≤ mn (SC p) (HF n) ∧ mn (SC p) (HF n) ≤ 2047 := by unfold mn; split <;> omega
  unfold area_Of.f OF
  rw [first_eq, check_eq]; simp only [Option.bind_some]
  by_cases h1 : n < 16
  · simp [h1, area_Of.j0]
  by_cases h2 : n > 4096
  · simp [h1, h2, area_Of.j0]
  by_cases h3 : s < 0
  · simp [h1, h2, h3, area_Of.j0]
  by_cases h4 : s ≥ n
  · simp [h1, h2, h3, h4, area_Of.j0]
  generalize hf : (if h = 1 then 2 + HF n else 2) = F
  have hF : 2 ≤ F ∧ F ≤ 2049 := by rw [← hf]; split <;> omega
  rw [if_neg h1, if_neg h2, if_pos rfl, if_neg h3, if_neg (show ¬ (n < 16 ∨ n > 4096 ∨ s < 0 ∨ s ≥ n) by omega), w64 (n := s - F) (by omega)]
  simp only [area_Of.j0, h4, decide_false, Bool.false_eq_true, if_false]
  by_cases h5 : s < 2
  · rw [if_pos h5, if_pos h5]
  rw [if_neg h5, if_neg h5]
  simp only [area_Of.j1, half_eq, sectors_eq _ hp, sectors_eq _ ht, log_eq _ _ _ hp, Option.bind_some, if_true, hf]
  by_cases h6 : s - F < 0
  · rw [if_pos h6, if_pos (Or.inl h6)]
  by_cases h7 : s - F ≥ HF n
  · rw [if_neg h6, if_pos (Or.inr h7)]; simp [h7]
  rw [if_neg h6, if_neg (show ¬ (s - F < 0 ∨ s - F ≥ HF n) by omega)]
  simp only [h7, decide_false, Bool.false_eq_true, if_false]
  rw [w64 (n := F + mn (SC p) (HF n) - F) (by omega), w64 (n := _ + SC t) (by omega), w64 (n := HF n - _) (by omega)]
  rw [show F + mn (SC p) (HF n) - F + SC t = mn (SC p) (HF n) + SC t by omega]
  repeat' split
  all_goals rfl
theorem awake_eq' {k : Nat} (h : 1 ≤ k) : pleachlaw09_awake.f k = some true := by
  obtain ⟨m, rfl⟩ : ∃ m, k = m + 1 := ⟨k - 1, by omega⟩
  exact awake_eq m
theorem OF_bd (n h p t r s : Int) : 0 ≤ OF n h p t r s ∧ OF n h p t r s ≤ 6 := by unfold OF; (repeat' split) <;> omega

/-- how many of the sectors ahead of number k are for c -/
def cnt (n h p t r c : Int) : Nat → Int
  | 0 => 0
  | k + 1 => cnt n h p t r c k + if OF n h p t r k = c then 1 else 0
theorem cnt_bd (n h p t r c : Int) (k : Nat) : 0 ≤ cnt n h p t r c k ∧ cnt n h p t r c k ≤ k := by
  induction k with
  | zero => simp [cnt]
  | succ k ih => simp only [cnt]; push_cast; split <;> omega
theorem cnt_range (n h p t r c a b : Int) (ha : 0 ≤ a) (hab : a ≤ b) (N : Nat) (H : ∀ k : Nat, k < N → (OF n h p t r k = c ↔ a ≤ k ∧ (k : Int) < b)) (k : Nat) (hk : k ≤ N) :
    cnt n h p t r c k = if (k : Int) ≤ a then 0 else if (k : Int) ≤ b then k - a else b - a := by
  induction k with
  | zero => simp only [cnt]; (repeat' split) <;> omega
  | succ k ih =>
    have h1 := H k (by omega)
    simp only [cnt]
    rw [ih (by omega)]
    push_cast
    by_cases h2 : OF n h p t r k = c
    · have h3 := h1.1 h2
      rw [if_pos h2]; (repeat' split) <;> omega
    · have h3 : ¬ (a ≤ k ∧ (k : Int) < b) := fun x => h2 (h1.2 x)
      rw [if_neg h2]; (repeat' split) <;> omega

structure Fit (n h p t r : Int) : Prop where
  n1 : 16 ≤ n
  n2 : n ≤ 400
  hf : HF n = (n - 2) / 2
  sp : 0 ≤ SC p
  st : 0 ≤ SC t
  h0 : h = 0 ∨ h = 1
  r0 : 0 ≤ r
  fit : SC p + SC t + r + 1 ≤ HF n
theorem Fit.mk' {n h p t r : Int} (hfit : (if HF n - TK n p r ≥ 0 then decide (SC t ≤ HF n - TK n p r) else false) = true) (h1 : ¬ n > 400) (h2 : ¬ h < 0) (h3 : ¬ h > 1) (h4 : ¬ p < 0) (h5 : ¬ t < 0) (h6 : ¬ r < 0)
    (hp : p ≤ 9223372036854775807) (ht : t ≤ 9223372036854775807) : Fit n h p t r := by
  have hb := HF_bd n
  have hsp := SC_bd p hp
  have hst := SC_bd t ht
  by_cases hx : HF n - TK n p r ≥ 0
  · rw [if_pos hx] at hfit
    simp only [decide_eq_true_eq] at hfit
    have hT : TK n p r = mn (SC p) (HF n + 1) + mn (mx r 0) (HF n) + 1 := rfl
    have hm : mx r 0 = r := by unfold mx; split <;> omega
    rw [hm] at hT
    have e1 : mn (SC p) (HF n + 1) = SC p ∨ HF n + 1 ≤ mn (SC p) (HF n + 1) := by unfold mn; split <;> omega
    have e2 : mn r (HF n) = r ∨ HF n ≤ mn r (HF n) := by unfold mn; split <;> omega
    have e3 : 0 ≤ mn (SC p) (HF n + 1) := by unfold mn; split <;> omega
    have e4 : 0 ≤ mn r (HF n) := by unfold mn; split <;> omega
    have hn : 16 ≤ n ∧ HF n = (n - 2) / 2 := by
      have hpos : 0 < HF n := by omega
      unfold HF at hpos ⊢
      by_cases g1 : n < 16
      · rw [if_pos g1] at hpos; omega
      · by_cases g2 : n > 4096
        · omega
        · rw [if_neg g1, if_neg g2]; exact ⟨by omega, rfl⟩
    exact ⟨hn.1, by omega, hn.2, hsp.1, hst.1, by omega, by omega, by omega⟩
  · rw [if_neg hx] at hfit; cases hfit
theorem OF_fit {n h p t r : Int} (f : Fit n h p t r) (s : Int) (hs : 0 ≤ s) (hn : s < n) :
    OF n h p t r s = if s < 2 then 0 else if s - (if h = 1 then 2 + HF n else 2) < 0 ∨ s - (if h = 1 then 2 + HF n else 2) ≥ HF n then 5 else
      if s - (if h = 1 then 2 + HF n else 2) < SC p then 1 else if s - (if h = 1 then 2 + HF n else 2) < SC p + SC t then 2 else
      if s - (if h = 1 then 2 + HF n else 2) ≥ HF n - r then 3 else 4 := by
  obtain ⟨f1, f2, f3, f4, f5, f6, f7, f8⟩ := f
  have e1 : mn (SC p) (HF n) = SC p := by unfold mn; split <;> omega
  have e2 : mn (mx r 0) (HF n) = r := by unfold mn mx; (repeat' split) <;> omega
  unfold OF
  rw [e1, e2, if_neg (by omega)]
theorem cnt_all {n h p t r : Int} (f : Fit n h p t r) (N : Nat) (hN : (N : Int) = n) :
    cnt n h p t r 0 N = 2 ∧ cnt n h p t r 1 N = SC p ∧ cnt n h p t r 2 N = SC t ∧ cnt n h p t r 3 N = r ∧ cnt n h p t r 6 N = 0 := by
  have hO := fun (k : Nat) (hk : k < N) => OF_fit f k (by omega) (by omega)
  obtain ⟨f1, f2, f3, f4, f5, f6, f7, f8⟩ := f
  have hF : ∃ F : Int, (if h = 1 then 2 + HF n else 2) = F ∧ (F = 2 ∨ F = 2 + HF n) := ⟨_, rfl, by split <;> simp⟩
  obtain ⟨F, hF, hF2⟩ := hF
  rw [hF] at hO
  have c0 := cnt_range n h p t r 0 0 2 (by omega) (by omega) N (fun k hk => by rw [hO k hk]; (repeat' split) <;> omega) N (Nat.le_refl _)
  have c1 := cnt_range n h p t r 1 F (F + SC p) (by omega) (by omega) N (fun k hk => by rw [hO k hk]; (repeat' split) <;> omega) N (Nat.le_refl _)
  have c2 := cnt_range n h p t r 2 (F + SC p) (F + SC p + SC t) (by omega) (by omega) N (fun k hk => by rw [hO k hk]; (repeat' split) <;> omega) N (Nat.le_refl _)
  have c3 := cnt_range n h p t r 3 (F + HF n - r) (F + HF n) (by omega) (by omega) N (fun k hk => by rw [hO k hk]; (repeat' split) <;> omega) N (Nat.le_refl _)
  have c6 := cnt_range n h p t r 6 0 0 (by omega) (by omega) N (fun k hk => by rw [hO k hk]; (repeat' split) <;> omega) N (Nat.le_refl _)
  refine ⟨?_, ?_, ?_, ?_, ?_⟩
  · rw [c0]; (repeat' split) <;> omega
  · rw [c1]; (repeat' split) <;> omega
  · rw [c2]; (repeat' split) <;> omega
  · rw [c3]; (repeat' split) <;> omega
  · rw [c6]; (repeat' split) <;> omega
theorem OF_empty {n h p t r : Int} (f : Fit n h p t r) : OF n h p t r ((if h = 1 then 2 + HF n else 2) + HF n - 1 - r) = 4 := by
  have f' := f
  obtain ⟨f1, f2, f3, f4, f5, f6, f7, f8⟩ := f
  rw [OF_fit f' _ (by split <;> omega) (by split <;> omega)]
  generalize hF : (if h = 1 then 2 + HF n else 2) = F
  have hF2 : F = 2 ∨ F = 2 + HF n := by rw [← hF]; split <;> simp
  (repeat' split) <;> omega
theorem OF_rec {n h p t r q : Int} (f : Fit n h p t r) (h0 : 0 ≤ q) (h1 : q < r) : OF n h p t r ((if h = 1 then 2 + HF n else 2) + HF n - 1 - q) = 3 := by
  have f' := f
  obtain ⟨f1, f2, f3, f4, f5, f6, f7, f8⟩ := f
  rw [OF_fit f' _ (by split <;> omega) (by split <;> omega)]
  generalize hF : (if h = 1 then 2 + HF n else 2) = F
  have hF2 : F = 2 ∨ F = 2 + HF n := by rw [← hF]; split <;> simp
  (repeat' split) <;> omega
end Go.Proofs.Ythldakchlnnonaa.Pure
