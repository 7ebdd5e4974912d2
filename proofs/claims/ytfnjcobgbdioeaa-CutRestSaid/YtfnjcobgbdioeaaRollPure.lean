/-
  The rolling sum over numbers alone: what is in the sum behind any row of bytes is that of the last eight.
-/
namespace Pl.Roll

/-- what a byte counts -/
def worth (b : Int) : Int := (b + 1) * 2654435761 % 4294967296

/-- a row's sum -/
def sum : Int → List Int → Int
  | s, [] => s
  | s, b :: l => sum ((s * 16777619 + worth b) % 4294967296) l

theorem sum_append (l m : List Int) : ∀ s, sum s (l ++ m) = sum (sum s l) m := by
  induction l with
  | nil => intro s; rfl
  | cons b l ih => intro s; exact ih _

def P : Nat → Int
  | 0 => 1
  | n + 1 => P n * 16777619 % 4294967296

/-- what was in the sum at the begin, behind a row -/
theorem sum_split (l : List Int) : ∀ s d : Int, sum ((s + d) % 4294967296) l % 4294967296 = (sum (s % 4294967296) l + d * P l.length) % 4294967296 := by
  induction l with
  | nil => intro s d; simp [sum, P, Int.add_emod]
  | cons b l ih =>
    intro s d
    simp only [sum, List.length_cons, P]
    have h1 : ((s + d) % 4294967296 * 16777619 + worth b) % 4294967296 = ((s % 4294967296 * 16777619 + worth b) + d * 16777619) % 4294967296 := by omega
    rw [h1, ih]
    have h2 : (d * 16777619 * P l.length) % 4294967296 = (d * (P l.length * 16777619 % 4294967296)) % 4294967296 := by
      rw [Int.mul_emod d (P l.length * 16777619 % 4294967296), Int.emod_emod, ← Int.mul_emod, Int.mul_assoc, Int.mul_comm 16777619]
    rw [Int.add_emod, h2, ← Int.add_emod]

theorem sum_mod (l : List Int) : ∀ s : Int, s % 4294967296 = s → sum s l % 4294967296 = sum s l := by
  induction l with
  | nil => intro s h; exact h
  | cons b l ih => intro s _; simp only [sum]; exact ih _ (by omega)

def last8 (l : List Int) : List Int := l.drop (l.length - 8)

def out (c : Int) : Int := worth c * P 8 % 4294967296

/-- one more byte -/
theorem sum_last8 (l : List Int) (b : Int) :
    sum 0 (last8 (l ++ [b])) = if l.length < 8 then (sum 0 (last8 l) * 16777619 + worth b) % 4294967296
      else ((sum 0 (last8 l) * 16777619 + worth b) % 4294967296 - out (l.getD (l.length - 8) 0)) % 4294967296 := by
  unfold last8
  split
  · rename_i h
    rw [show (l ++ [b]).length - 8 = 0 from by simp; omega, show l.length - 8 = 0 from by omega]
    simp only [List.drop_zero, sum_append, sum]
  · rename_i h
    have hlt : l.length - 8 < l.length := by omega
    rw [show (l ++ [b]).length - 8 = (l.length - 8) + 1 from by simp; omega, List.drop_append_of_le_length (by omega)]
    rw [List.drop_eq_getElem_cons hlt]
    have hd : (List.drop (l.length - 8 + 1) l).length = 7 := by simp; omega
    generalize hr : List.drop (l.length - 8 + 1) l = r at *
    have hg : l.getD (l.length - 8) 0 = l[l.length - 8] := by simp [List.getD_eq_getElem?_getD, hlt]
    rw [hg]
    generalize l[l.length - 8] = c
    have e1 : (sum 0 (c :: r) * 16777619 + worth b) % 4294967296 = sum 0 (c :: (r ++ [b])) := by
      rw [show c :: (r ++ [b]) = (c :: r) ++ [b] from rfl, sum_append]; rfl
    rw [e1]
    have e2 := sum_split (r ++ [b]) 0 (worth c)
    have hw : worth c % 4294967296 = worth c := by unfold worth; omega
    have e3 : sum 0 (c :: (r ++ [b])) = sum ((0 + worth c) % 4294967296) (r ++ [b]) := by simp only [sum]; rw [show (0 : Int) * 16777619 + worth c = 0 + worth c by omega]
    rw [e3]
    have e4 := sum_mod (r ++ [b]) ((0 + worth c) % 4294967296) (by omega)
    rw [e4] at e2
    rw [e2]
    have hl : (r ++ [b]).length = 8 := by simp [hd]
    rw [hl]
    have e5 := sum_mod (r ++ [b]) 0 (by omega)
    rw [show (0 : Int) % 4294967296 = 0 from rfl]
    unfold out
    omega

end Pl.Roll
