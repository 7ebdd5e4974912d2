namespace Pl.Cut

/-- the program's cuts: n keys stand in the open chunk, i keys were taken in; of each key whether a chunk may end with it -/
def go : Nat → Nat → List Bool → List Nat
  | n, i, [] => if 0 < n then [i] else []
  | n, i, b :: l => if 8 ≤ n + 1 || (2 ≤ n + 1 && b) then (i + 1) :: go 0 (i + 1) l else go (n + 1) (i + 1) l

/-- the document's: how many keys the first chunk has -/
def first : Nat → List Bool → Nat
  | i, [] => i
  | i, b :: l => if i == 7 || (1 ≤ i && b) then i + 1 else first (i + 1) l

theorem first_bd (l : List Bool) : ∀ i, i ≤ first i l ∧ first i l ≤ i + l.length ∧ (l ≠ [] → i < first i l) := by
  induction l with
  | nil => intro i; simp [first]
  | cons b l ih =>
    intro i
    simp only [first, List.length_cons]
    split
    · exact ⟨by omega, by omega, fun _ => by omega⟩
    · have := ih (i + 1)
      exact ⟨by omega, by omega, fun _ => by omega⟩

theorem go_first (l : List Bool) : ∀ n i, n ≤ i → n ≤ 7 → (0 < n ∨ l ≠ []) → go n i l = (i - n + first n l) :: go 0 (i - n + first n l) (l.drop (first n l - n)) := by
  induction l with
  | nil =>
    intro n i h h7 hn
    have hp : 0 < n := by rcases hn with h | h; · exact h
                          · exact absurd rfl h
    simp only [go, first, if_pos hp, List.drop_nil]
    rw [if_neg (by omega), show i - n + n = i by omega]
  | cons b l ih =>
    intro n i h h7 _
    have hc : (8 ≤ n + 1 || (2 ≤ n + 1 && b)) = (n == 7 || (1 ≤ n && b)) := by
      have e1 : decide (8 ≤ n + 1) = (n == 7) := by rw [Bool.eq_iff_iff]; simp; omega
      have e2 : decide (2 ≤ n + 1) = decide (1 ≤ n) := by rw [Bool.eq_iff_iff]; simp
      rw [e1, e2]
    simp only [go, first]
    rw [hc]
    by_cases hb : (n == 7 || (decide (1 ≤ n) && b)) = true
    · rw [if_pos hb, if_pos hb, show i - n + (n + 1) = i + 1 by omega, show n + 1 - n = 1 by omega, List.drop_one, List.tail_cons]
    · rw [if_neg hb, if_neg hb]
      have h8 : n ≤ 6 := by
        simp only [Bool.or_eq_true, beq_iff_eq, not_or] at hb
        omega
      rw [ih (n + 1) (i + 1) (by omega) (by omega) (.inl (by omega)), show i + 1 - (n + 1) = i - n by omega]
      have := (first_bd l (n + 1)).1
      rw [show first (n + 1) l - n = (first (n + 1) l - (n + 1)) + 1 by omega, List.drop_succ_cons]

/-- the document's cuts -/
def ends (fuel : Nat) (a : Nat) (l : List Bool) : List Nat :=
  match fuel, l with
  | _, [] => []
  | 0, _ => []
  | f + 1, b :: l => (a + first 0 (b :: l)) :: ends f (a + first 0 (b :: l)) ((b :: l).drop (first 0 (b :: l)))

theorem ends_go (f : Nat) : ∀ a l, l.length ≤ f → ends f a l = go 0 a l := by
  induction f with
  | zero => intro a l h; have : l = [] := List.eq_nil_of_length_eq_zero (by omega)
            subst this; simp [ends, go]
  | succ f ih =>
    intro a l h
    cases l with
    | nil => simp [ends, go]
    | cons b l =>
      have hb := first_bd (b :: l) 0
      have hp := hb.2.2 (by simp)
      rw [go_first (b :: l) 0 a (by omega) (by omega) (.inr (by simp))]
      simp only [ends, Nat.sub_zero]
      rw [ih _ _ (by rw [List.length_drop]; simp only [List.length_cons] at *; omega)]

theorem first_le (l : List Bool) : ∀ i, i ≤ 8 → first i l ≤ 8 ∨ (i = 8) := by
  induction l with
  | nil => intro i h; simp [first]; omega
  | cons b l ih =>
    intro i h
    simp only [first]
    split
    · rcases Nat.lt_or_ge i 8 with g | g <;> omega
    · rename_i hb
      simp only [Bool.or_eq_true, beq_iff_eq, not_or] at hb
      rcases Nat.lt_or_ge i 8 with g | g
      · rcases ih (i + 1) (by omega) with h1 | h1
        · exact .inl h1
        · omega
      · omega
/-- a chunk that doesn't end with the row has two keys at least -/
theorem first_two (l : List Bool) : first 0 l < l.length → 2 ≤ first 0 l := by
  cases l with
  | nil => simp [first]
  | cons b l =>
    intro h
    simp only [first] at h ⊢
    simp only [Nat.zero_add] at h ⊢
    rw [if_neg (by simp)] at h ⊢
    have hb := first_bd l 1
    cases l with
    | nil => simp [first] at h
    | cons c l => have := hb.2.2 (by simp); omega

/-- what the law asks of the places, from one on -/
def Good (N : Nat) : Nat → List Nat → Prop
  | was, [] => was = N
  | was, e :: l => e ≤ N ∧ was < e ∧ e - was ≤ 8 ∧ (l ≠ [] → 2 ≤ e - was) ∧ Good N e l

theorem ends_good (f : Nat) : ∀ a l, l.length ≤ f → Good (a + l.length) a (ends f a l) := by
  induction f with
  | zero => intro a l h; have : l = [] := List.eq_nil_of_length_eq_zero (by omega)
            subst this; simp [ends, Good]
  | succ f ih =>
    intro a l h
    cases l with
    | nil => simp [ends, Good]
    | cons b l =>
      have hb := first_bd (b :: l) 0
      have hp := hb.2.2 (by simp)
      have h8 := first_le (b :: l) 0 (by omega)
      simp only [ends, Good]
      have hlen : ((b :: l).drop (first 0 (b :: l))).length = (b :: l).length - first 0 (b :: l) := List.length_drop
      refine ⟨by omega, by omega, by omega, fun hne => ?_, ?_⟩
      · have : first 0 (b :: l) < (b :: l).length := by
          rcases Nat.lt_or_ge (first 0 (b :: l)) (b :: l).length with g | g
          · exact g
          · exfalso; apply hne
            rw [List.drop_eq_nil_of_le g]
            cases f <;> simp [ends]
        have := first_two (b :: l) this
        omega
      · have := ih (a + first 0 (b :: l)) ((b :: l).drop (first 0 (b :: l))) (by rw [hlen]; simp only [List.length_cons] at *; omega)
        rw [hlen] at this
        rw [show a + (b :: l).length = a + first 0 (b :: l) + ((b :: l).length - first 0 (b :: l)) by omega]
        exact this

theorem ends_fuel (f g a : Nat) (l : List Bool) (h1 : l.length ≤ f) (h2 : l.length ≤ g) : ends f a l = ends g a l := by rw [ends_go f a l h1, ends_go g a l h2]

theorem go_shift (l : List Bool) : ∀ n i c, go n (i + c) l = (go n i l).map (· + c) := by
  induction l with
  | nil => intro n i c; simp only [go]; split <;> simp
  | cons b l ih =>
    intro n i c
    simp only [go]
    rw [show i + c + 1 = i + 1 + c by omega, ih 0 (i + 1) c, ih (n + 1) (i + 1) c]
    split <;> simp

/-- behind an end a row is cut as its rest alone -/
theorem ends_rest (f : Nat) : ∀ a l k, l.length ≤ f → k < (ends f a l).length →
    a ≤ (ends f a l).getD k 0 ∧ (ends f a l).getD k 0 ≤ a + l.length ∧ (ends f a l).drop (k + 1) = go 0 ((ends f a l).getD k 0) (l.drop ((ends f a l).getD k 0 - a)) := by
  induction f with
  | zero => intro a l k h hk; have : l = [] := List.eq_nil_of_length_eq_zero (by omega)
            subst this; simp [ends] at hk
  | succ f ih =>
    intro a l k h hk
    cases l with
    | nil => simp [ends] at hk
    | cons b l =>
      have hb := first_bd (b :: l) 0
      have hp := hb.2.2 (by simp)
      have hlen : ((b :: l).drop (first 0 (b :: l))).length = (b :: l).length - first 0 (b :: l) := List.length_drop
      have hfuel : ((b :: l).drop (first 0 (b :: l))).length ≤ f := by rw [hlen]; simp only [List.length_cons] at *; omega
      simp only [ends] at hk ⊢
      cases k with
      | zero =>
        simp only [List.getD_cons_zero, List.drop_succ_cons, List.drop_zero]
        refine ⟨by omega, by omega, ?_⟩
        rw [ends_go _ _ _ hfuel, show a + first 0 (b :: l) - a = first 0 (b :: l) by omega]
      | succ k =>
        simp only [List.length_cons] at hk
        have := ih (a + first 0 (b :: l)) ((b :: l).drop (first 0 (b :: l))) k hfuel (by omega)
        simp only [List.getD_cons_succ, List.drop_succ_cons]
        obtain ⟨h1, h2, h3⟩ := this
        rw [hlen] at h2
        refine ⟨by omega, by omega, ?_⟩
        rw [h3, List.drop_drop]
        congr 2
        omega

end Pl.Cut
