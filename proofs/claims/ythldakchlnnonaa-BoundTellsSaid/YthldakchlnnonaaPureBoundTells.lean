/-
  The plain part of the law BoundTells: what the printed functions compute, as numbers; the law's answer is true for every input of the given kinds.
-/
import Derived.Test.YthldakchlnnonaaPBoundTellsx2
namespace Go.Proofs.Ythldakchlnnonaa.Pure
open Go.RowKit Go.Proofs.Ythldakchlnnonaa.PBoundTells Go.Proofs.YthldakchlnnonaaW.PrintWords Go.Proofs.YthldakchlnnonaaW.PrintLast

def HF (n : Int) : Int := if n < 16 then 0 else if n > 4096 then 0 else (n - 2) / 2
def SC (b : Int) : Int := if b ≤ 0 then 0 else (b - 1) / 128 + 1
theorem HF_bd (n : Int) : 0 ≤ HF n ∧ HF n ≤ 2047 := by (unfold HF; (repeat' split) <;> omega)
theorem SC_bd (b : Int) (h : b ≤ 9223372036854775807) : 0 ≤ SC b ∧ SC b ≤ 72057594037927936 := by unfold SC; split <;> omega
theorem wf_bd {n : Int} (h : (Lit.int .i64 n).wf = true) : -9223372036854775808 ≤ n ∧ n ≤ 9223372036854775807 := by
  simp [Lit.wf, IntKind.min, IntKind.max, IntKind.bits, IntKind.signed] at h
  omega
theorem w64 {n : Int} (h : -9223372036854775808 ≤ n ∧ n ≤ 9223372036854775807) : wrap64 n = n := by unfold wrap64; omega


theorem check_eq (n : Int) : area_Check.f n = some (if n < 16 then 2 else if n > 4096 then 2 else 0) := by
  unfold area_Check.f; repeat' split
  all_goals rfl


theorem half_eq (n : Int) : area_Half.f n = some (HF n) := by
  unfold area_Half.f HF; rw [check_eq]; simp only [Option.bind_some]
  by_cases h1 : n < 16
  · simp [h1]
  · by_cases h2 : n > 4096
    · simp [h1, h2]
    · simp only [if_neg h1, if_neg h2, if_true]
      rw [w64 (n := n - 2) (by omega), Int.tdiv_eq_ediv_of_nonneg (by omega), w64 (by omega)]


theorem rhalf_eq (n : Int) : pleachref09_Half.f n = some (HF n) := by
  unfold pleachref09_Half.f HF
  by_cases h1 : n < 16
  · simp [h1]
  · by_cases h2 : n > 4096
    · simp [h1, h2]
    · simp only [if_neg h1, if_neg h2]
      rw [w64 (n := n - 2) (by omega), Int.tdiv_eq_ediv_of_nonneg (by omega), w64 (by omega)]


theorem open_eq (n : Int) : bound_Open.f n = some (if HF n > 0 then 2 * n + 8 else 0) := by
  unfold bound_Open.f HF; rw [check_eq]; simp only [Option.bind_some]
  by_cases h1 : n < 16
  · simp [h1]
  · by_cases h2 : n > 4096
    · simp [h1, h2]
    · simp only [if_neg h1, if_neg h2, if_true]
      rw [w64 (n := 2 * n) (by omega), w64 (by omega), if_pos (by omega)]


def DO (n k : Int) : Int := if HF n = 0 then 0 else if k = 1 ∨ k = 13 then HF n + 5 else if 2 ≤ k ∧ k ≤ 6 then 5 else if k = 17 ∨ k = 18 then HF n + 3 else 0
theorem DO_bd (n k : Int) : 0 ≤ DO n k ∧ DO n k ≤ 2052 := by
  have := HF_bd n
  unfold DO; repeat' split
  all_goals omega
theorem do_eq (k : Nat) (n c : Int) : bound_Do.f (k + 3) n c = some (DO n c) := by
  unfold bound_Do.f DO
  have := HF_bd n
  rw [check_eq]
  by_cases h1 : n < 16
  · simp [h1, HF]
  by_cases h2 : n > 4096
  · simp [h1, h2, HF]
  have h3 : HF n ≠ 0 := by unfold HF; rw [if_neg h1, if_neg h2]; omega
  have hw : wrap64 (HF n + 5) = HF n + 5 := w64 (by omega)
  have hw3 : wrap64 (HF n + 3) = HF n + 3 := w64 (by omega)
  simp only [if_neg h1, if_neg h2, if_neg h3, Option.bind_some, if_true, bound_Do.j0, bound_Do.j1, half_eq, hw, hw3]
  simp only [beq_iff_eq]
  repeat' split
  all_goals first | rfl | (exfalso; omega) | (congr 1; omega) | (exfalso; simp only [decide_eq_true_eq] at *; omega) | (exfalso; contradiction) | (exfalso; simp at *; done) | skip


theorem one_eq (k : Nat) (n c : Int) : pleachlaw45_one.f (k + 3) n c = some (DO n c) := by
  unfold pleachlaw45_one.f DO
  have := HF_bd n
  have hw : wrap64 (HF n + 5) = HF n + 5 := w64 (by omega)
  have hw3 : wrap64 (HF n + 3) = HF n + 3 := w64 (by omega)
  simp only [rhalf_eq, Option.bind_some, pleachlaw45_one.j0, pleachlaw45_one.j1, hw, hw3]
  simp only [beq_iff_eq]
  repeat' split
  all_goals first | rfl | (exfalso; omega) | (congr 1; omega) | (exfalso; simp only [decide_eq_true_eq] at *; omega) | (exfalso; contradiction) | (exfalso; simp at *; done) | skip


theorem do_eq' {k : Nat} (h : 3 ≤ k) (n c : Int) : bound_Do.f k n c = some (DO n c) := by
  obtain ⟨m, rfl⟩ : ∃ m, k = m + 3 := ⟨k - 3, by omega⟩
  exact do_eq m n c
theorem one_eq' {k : Nat} (h : 3 ≤ k) (n c : Int) : pleachlaw45_one.f k n c = some (DO n c) := by
  obtain ⟨m, rfl⟩ : ∃ m, k = m + 3 := ⟨k - 3, by omega⟩
  exact one_eq m n c
def tot (n : Int) : List Int → Int
  | [] => 0
  | c :: l => DO n c + tot n l
theorem tot_bd (n : Int) (l : List Int) : 0 ≤ tot n l ∧ tot n l ≤ 2052 * l.length := by
  induction l with
  | nil => simp [tot]
  | cons c l ih =>
    have := DO_bd n c
    simp only [tot, List.length_cons]
    push_cast
    omega
theorem drop_rd (l : List Int) (i : Nat) (h : i < l.length) : l.drop i = rd l (i : Int) :: l.drop (i + 1) := by
  rw [List.drop_eq_getElem_cons h]; simp [rd, List.getD_eq_getElem?_getD, h]
theorem all_loop (n : Int) (l : List Int) (hl : l.length ≤ 1000) (d : Nat) : ∀ (k i : Nat) (s : Int), i + d = l.length → 0 ≤ s → s ≤ 10000000 - 2052 * d → d + 4 ≤ k → bound_All.l0 k n s l (l.length : Int) (i : Int) = some (s + tot n (l.drop i)) := by
  induction d with
  | zero =>
    intro k i s h1 h2 h3 h4
    obtain ⟨k, rfl⟩ : ∃ m, k = m + 1 := ⟨k - 1, by omega⟩
    simp only [bound_All.l0]
    rw [if_neg (by omega), List.drop_eq_nil_of_le (by omega)]; simp [tot]
  | succ d ih =>
    intro k i s h1 h2 h3 h4
    obtain ⟨k, rfl⟩ : ∃ m, k = m + 1 := ⟨k - 1, by omega⟩
    have hi : i < l.length := by omega
    have hd := DO_bd n (rd l (i : Int))
    simp only [bound_All.l0]
    rw [if_pos (by omega), if_pos (by omega), if_pos (by omega), do_eq' (by omega), Option.bind_some, w64 (n := s + _) (by omega), w64 (n := (i : Int) + 1) (by omega)]
    rw [show (i : Int) + 1 = ((i + 1 : Nat) : Int) from by push_cast; rfl, ih k (i + 1) _ (by omega) (by omega) (by omega) (by omega), drop_rd l i hi]
    simp only [tot]; congr 1; omega
theorem all_eq (k : Nat) (n : Int) (l : List Int) (hl : l.length ≤ 1000) (hk : l.length + 4 ≤ k) : bound_All.f k n l = some ((if HF n > 0 then 2 * n + 8 else 0) + tot n l) := by
  unfold bound_All.f
  rw [open_eq, Option.bind_some]
  have hb : 0 ≤ (if HF n > 0 then 2 * n + 8 else 0) ∧ (if HF n > 0 then 2 * n + 8 else 0) ≤ 9000 := by (unfold HF; (repeat' split) <;> omega)
  have := all_loop n l hl l.length k 0 (if HF n > 0 then 2 * n + 8 else 0) (by omega) hb.1 (by omega) hk
  simpa using this
theorem awake_eq {k : Nat} (hk : 3 ≤ k) : pleachlaw45_awake.f k = some true := by
  unfold pleachlaw45_awake.f
  have h1 : DO 16 1 = 12 := by decide
  have h2 : DO 16 7 = 0 := by decide
  have h3 : HF 16 > 0 := by decide
  simp only [do_eq' hk, open_eq, Option.bind_some, h1, h2, if_pos h3]; decide
theorem law_loop (n b o : Int) (l : List Int) (ho : (if HF n > 0 then 2 * n + 8 else 0) = o) (hl : l.length ≤ 1000) (d : Nat) : ∀ (k i : Nat) (s : Int), i + d = l.length → 0 ≤ s → s ≤ 10000000 - 2052 * d → s + tot n (l.drop i) = o + tot n l → d + l.length + 8 ≤ k → pleachlaw45_BoundTells.l0 k n b l o s l (l.length : Int) (i : Int) = some true := by
  induction d with
  | zero =>
    intro k i s h1 h2 h3 h4 h5
    obtain ⟨k, rfl⟩ : ∃ m, k = m + 1 := ⟨k - 1, by omega⟩
    simp only [pleachlaw45_BoundTells.l0]
    rw [if_neg (by omega)]
    rw [List.drop_eq_nil_of_le (by omega)] at h4
    simp only [tot, Int.add_zero] at h4
    rw [open_eq, Option.bind_some, if_pos ho, do_eq' (by omega), Option.bind_some, one_eq' (by omega), Option.bind_some, if_pos rfl, all_eq _ _ _ hl (by omega), Option.bind_some, if_pos (by omega), awake_eq (by omega), Option.bind_some]
  | succ d ih =>
    intro k i s h1 h2 h3 h4 h5
    obtain ⟨k, rfl⟩ : ∃ m, k = m + 1 := ⟨k - 1, by omega⟩
    have hi : i < l.length := by omega
    have hd := DO_bd n (rd l (i : Int))
    simp only [pleachlaw45_BoundTells.l0]
    rw [if_pos (by omega), if_pos (by omega), if_pos (by omega), one_eq' (by omega), Option.bind_some, w64 (n := s + _) (by omega), w64 (n := (i : Int) + 1) (by omega)]
    rw [show (i : Int) + 1 = ((i + 1 : Nat) : Int) from by push_cast; rfl]
    refine ih k (i + 1) _ (by omega) (by omega) (by omega) ?_ (by omega)
    rw [drop_rd l i hi] at h4
    simp only [tot] at h4
    omega
theorem BoundTells : pleachlaw45_BoundTells.Pure := by
  intro n b l w0 w1 _ _ _
  have b0 := wf_bd w0
  refine ⟨2 * l.length + 20, ?_⟩
  unfold pleachlaw45_BoundTells.f
  by_cases hl : (l.length : Int) > 1000
  · rw [if_pos hl, awake_eq (by omega), Option.bind_some]
  · rw [if_neg hl, rhalf_eq, Option.bind_some]
    have hb : 0 ≤ (if HF n > 0 then 2 * n + 8 else 0) ∧ (if HF n > 0 then 2 * n + 8 else 0) ≤ 9000 := by (unfold HF; (repeat' split) <;> omega)
    by_cases h : HF n > 0
    · rw [if_pos h] at hb
      rw [if_pos h, w64 (n := 2 * n) (by omega), w64 (n := 2 * n + 8) (by omega)]
      simp only [pleachlaw45_BoundTells.j0]
      have := law_loop n b (2 * n + 8) l (by rw [if_pos h]) (by omega) l.length (2 * l.length + 19) 0 (2 * n + 8) (by omega) (by omega) (by omega) (by simp) (by omega)
      simpa using this
    · rw [if_neg h]
      simp only [pleachlaw45_BoundTells.j0]
      have := law_loop n b 0 l (by rw [if_neg h]) (by omega) l.length (2 * l.length + 19) 0 0 (by omega) (by omega) (by omega) (by simp) (by omega)
      simpa using this

end Go.Proofs.Ythldakchlnnonaa.Pure
