/-
  Plain Lean: numbers in as few bytes as they need, texts behind their lengths, sectors.
-/
namespace Pl.Seat
abbrev L := List UInt8
def putF : Nat → Nat → L
  | 0, _ => []
  | f + 1, n => if n < 128 then [UInt8.ofNat n] else UInt8.ofNat (n % 128 + 128) :: putF f (n / 128)
/-- a number's bytes -/
def put (n : Nat) : L := putF 10 n
def getF : Nat → L → Option (Nat × Nat)
  | 0, _ => none
  | _ + 1, [] => none
  | f + 1, c :: l =>
    if f = 0 ∧ 1 < c.toNat then none
    else if 128 ≤ c.toNat then (getF f l).map fun p => (c.toNat % 128 + 128 * p.1, p.2 + 1)
    else if c.toNat = 0 ∧ f < 9 then none
    else some (c.toNat, 1)
/-- the number with which bytes begin, and how many bytes it has -/
def get (l : L) : Option (Nat × Nat) := getF 10 l

theorem putF_pos (f n : Nat) : 0 < (putF (f + 1) n).length := by
  unfold putF; split <;> simp
theorem putF_le (f : Nat) : ∀ n, (putF f n).length ≤ f := by
  induction f with
  | zero => intro n; simp [putF]
  | succ f ih => intro n; unfold putF; split
                 · simp
                 · simp; exact ih _
theorem put_le (n : Nat) : (put n).length ≤ 10 := putF_le 10 n
theorem put_pos (n : Nat) : 0 < (put n).length := putF_pos 9 n

/-- how far f bytes reach -/
def top (f : Nat) : Nat := if f = 10 then 2 ^ 64 else 2 * 128 ^ (f - 1)
theorem getF_put (f : Nat) : ∀ (n : Nat) (r : L), f < 10 → n < 2 * 128 ^ f → 0 < n → getF (f + 1) (putF (f + 1) n ++ r) = some (n, (putF (f + 1) n).length) := by
  induction f with
  | zero =>
    intro n r _ h h0
    have : n = 1 := by omega
    subst this
    simp [putF, getF]
  | succ f ih =>
    intro n r hf h h0
    by_cases h1 : n < 128
    · have e : putF (f + 1 + 1) n = [UInt8.ofNat n] := by rw [putF, if_pos h1]
      rw [e]
      have e2 : (UInt8.ofNat n).toNat = n := by simp; omega
      simp only [List.cons_append, List.nil_append, getF, e2]
      rw [if_neg (by omega), if_neg (by omega), if_neg (by omega)]
      rfl
    · have e : putF (f + 1 + 1) n = UInt8.ofNat (n % 128 + 128) :: putF (f + 1) (n / 128) := by rw [putF, if_neg h1]
      rw [e]
      have e2 : (UInt8.ofNat (n % 128 + 128)).toNat = n % 128 + 128 := by simp; omega
      simp only [List.cons_append, getF, e2]
      have hp : (128 : Nat) ^ (f + 1) = 128 * 128 ^ f := by rw [Nat.pow_succ, Nat.mul_comm]
      rw [if_neg (by omega), if_pos (by omega)]
      rw [ih (n / 128) r (by omega) (by rw [hp] at h; omega) (by omega)]
      simp
      omega
theorem get_put (n : Nat) (r : L) (h : n < 18446744073709551616) : get (put n ++ r) = some (n, (put n).length) := by
  unfold get put
  rcases Nat.eq_zero_or_pos n with rfl | h0
  · simp [putF, getF]
  · exact getF_put 9 n r (by omega) (by have : (2 : Nat) * 128 ^ 9 = 18446744073709551616 := by decide
                                        omega) h0

theorem getF_some (f : Nat) : ∀ (l : L) (n k : Nat), f < 10 → getF (f + 1) l = some (n, k) → n < 2 * 128 ^ f ∧ (f < 9 → 0 < n) ∧ l.take k = putF (f + 1) n ∧ k = (putF (f + 1) n).length ∧ k ≤ l.length := by
  induction f with
  | zero =>
    intro l n k _ h
    cases l with
    | nil => simp [getF] at h
    | cons c l =>
      simp only [getF] at h
      by_cases h1 : 1 < c.toNat
      · simp [h1] at h
      · rw [if_neg (by omega), if_neg (by omega)] at h
        by_cases h2 : c.toNat = 0
        · rw [if_pos ⟨h2, by omega⟩] at h; simp at h
        · rw [if_neg (by omega)] at h
          simp at h
          obtain ⟨rfl, rfl⟩ := h
          have hc : UInt8.ofNat c.toNat = c := by simp
          refine ⟨by omega, by omega, ?_, ?_, by simp⟩
          · simp [putF, hc]; omega
          · rw [putF, if_pos (by omega)]; rfl
  | succ f ih =>
    intro l n k hf h
    cases l with
    | nil => simp [getF] at h
    | cons c l =>
      simp only [getF] at h
      have hc : UInt8.ofNat c.toNat = c := by simp
      have hcl : c.toNat < 256 := UInt8.toNat_lt c
      rw [if_neg (by omega)] at h
      by_cases h1 : 128 ≤ c.toNat
      · rw [if_pos h1] at h
        cases hg : getF (f + 1) l with
        | none => rw [hg] at h; simp at h
        | some p =>
          obtain ⟨m, j⟩ := p
          rw [hg] at h
          simp at h
          obtain ⟨rfl, rfl⟩ := h
          obtain ⟨a1, a2, a3, a4, a5⟩ := ih l m j (by omega) hg
          have hp : (128 : Nat) ^ (f + 1) = 128 * 128 ^ f := by rw [Nat.pow_succ, Nat.mul_comm]
          have a2' := a2 (by omega)
          have ed : (c.toNat % 128 + 128 * m) / 128 = m := by omega
          have em : (c.toNat % 128 + 128 * m) % 128 + 128 = c.toNat := by omega
          have e : putF (f + 1 + 1) (c.toNat % 128 + 128 * m) = c :: putF (f + 1) m := by
            rw [putF, if_neg (by omega), ed, em, hc]
          rw [e]
          refine ⟨by rw [hp]; omega, by omega, ?_, ?_, ?_⟩
          · simp [a3]
          · simp [a4]
          · simp; exact a5
      · rw [if_neg h1] at h
        by_cases h2 : c.toNat = 0 ∧ f + 1 < 9
        · rw [if_pos h2] at h; simp at h
        · rw [if_neg h2] at h
          simp at h
          obtain ⟨rfl, rfl⟩ := h
          have hp : 1 ≤ (128 : Nat) ^ f := Nat.one_le_pow f 128 (by omega)
          have hp2 : (128 : Nat) ^ (f + 1) = 128 * 128 ^ f := by rw [Nat.pow_succ, Nat.mul_comm]
          have e : putF (f + 1 + 1) c.toNat = [c] := by rw [putF, if_pos (by omega), hc]
          rw [e]
          exact ⟨by rw [hp2]; omega, by omega, by simp, rfl, by simp⟩
theorem get_some {l : L} {n k : Nat} (h : get l = some (n, k)) : n < 18446744073709551616 ∧ l.take k = put n ∧ k = (put n).length ∧ k ≤ l.length := by
  obtain ⟨a1, _, a3, a4, a5⟩ := getF_some 9 l n k (by omega) h
  have : (2 : Nat) * 128 ^ 9 = 18446744073709551616 := by decide
  exact ⟨by omega, a3, a4, a5⟩

/-- the number of digits to the base 128, the lowest one first -/
def vf : L → Nat
  | [] => 0
  | c :: l => c.toNat % 128 + 128 * vf l
theorem getF_shape (f : Nat) : ∀ (l : L) (n k : Nat), getF f l = some (n, k) → 0 < k ∧ k ≤ f ∧ k ≤ l.length ∧ (∀ j, j + 1 < k → 128 ≤ (l.getD j 0).toNat) ∧ (l.getD (k - 1) 0).toNat < 128 ∧ vf (l.take k) = n := by
  induction f with
  | zero => intro l n k h; simp [getF] at h
  | succ f ih =>
    intro l n k h
    cases l with
    | nil => simp [getF] at h
    | cons c l =>
      simp only [getF] at h
      by_cases h0 : f = 0 ∧ 1 < c.toNat
      · rw [if_pos h0] at h; simp at h
      · rw [if_neg h0] at h
        by_cases h1 : 128 ≤ c.toNat
        · rw [if_pos h1] at h
          cases hg : getF f l with
          | none => rw [hg] at h; simp at h
          | some p =>
            obtain ⟨m, j⟩ := p
            rw [hg] at h
            simp at h
            obtain ⟨rfl, rfl⟩ := h
            obtain ⟨a1, a2, a3, a4, a5, a6⟩ := ih l m j hg
            refine ⟨by omega, by omega, by simp; omega, ?_, ?_, ?_⟩
            · intro i hi
              cases i with
              | zero => simpa using h1
              | succ i => have := a4 i (by omega); simpa using this
            · have e : j + 1 - 1 = (j - 1) + 1 := by omega
              rw [e]
              simpa using a5
            · simp [vf, a6]
        · rw [if_neg h1] at h
          by_cases h2 : c.toNat = 0 ∧ f < 9
          · rw [if_pos h2] at h; simp at h
          · rw [if_neg h2] at h
            simp at h
            obtain ⟨rfl, rfl⟩ := h
            refine ⟨by omega, by omega, by simp, by intro j hj; omega, by simp; omega, ?_⟩
            simp [vf]
            omega
theorem get_none_of (l : L) (k : Nat) (h1 : ∀ j, j < k → 128 ≤ (l.getD j 0).toNat) (h2 : l.length ≤ k ∨ 9 < k) : get l = none := by
  cases h : get l with
  | none => rfl
  | some p =>
    obtain ⟨n, j⟩ := p
    obtain ⟨a1, a2, a3, a4, a5, a6⟩ := getF_shape 10 l n j h
    have := h1 (j - 1) (by omega)
    omega
theorem get_of_first (l : L) (k : Nat) (h1 : ∀ j, j < k → 128 ≤ (l.getD j 0).toNat) (h2 : k < l.length) (h3 : (l.getD k 0).toNat < 128) (v : Nat) (hv : v = vf (l.take (k + 1)) % 18446744073709551616) :
    get l = if put v = l.take (k + 1) then some (v, k + 1) else none := by
  by_cases hp : put v = l.take (k + 1)
  · rw [if_pos hp]
    have e := get_put v (l.drop (k + 1)) (by omega)
    rw [hp, List.take_append_drop] at e
    rw [e]
    simp
    omega
  · rw [if_neg hp]
    cases h : get l with
    | none => rfl
    | some p =>
      obtain ⟨n, j⟩ := p
      obtain ⟨a1, a2, a3, a4, a5, a6⟩ := getF_shape 10 l n j h
      have h4 : ¬ j ≤ k := fun h => by have := h1 (j - 1) (by omega); omega
      have h5 : ¬ k + 1 < j := fun h => by have := a4 k (by omega); omega
      obtain rfl : j = k + 1 := by omega
      obtain ⟨b1, b2, b3, b4⟩ := get_some h
      rw [a6, Nat.mod_eq_of_lt b1] at hv
      subst hv
      exact absurd b2.symm hp

/-- a number of at most most, read off -/
def numP (most : Nat) (l : L) : Option (Nat × L) :=
  match get l with
  | none => none
  | some p => if p.1 ≤ most then some (p.1, l.drop p.2) else none
theorem numP_iff (most : Nat) (l : L) (n : Nat) (r : L) (hm : most < 18446744073709551616) : numP most l = some (n, r) ↔ n ≤ most ∧ l = put n ++ r := by
  unfold numP
  constructor
  · intro h
    cases hg : get l with
    | none => rw [hg] at h; simp at h
    | some p =>
      obtain ⟨m, k⟩ := p
      rw [hg] at h
      simp at h
      obtain ⟨h1, rfl, rfl⟩ := h
      obtain ⟨_, a2, a3, _⟩ := get_some hg
      refine ⟨h1, ?_⟩
      rw [← a2, List.take_append_drop]
  · rintro ⟨h1, rfl⟩
    rw [get_put n r (by omega)]
    simp [h1]
/-- a text of at most most bytes, read off -/
def txtP (most : Nat) (l : L) : Option (L × L) :=
  match numP most l with
  | none => none
  | some p => if p.1 ≤ p.2.length then some (p.2.take p.1, p.2.drop p.1) else none
theorem txtP_iff (most : Nat) (l s r : L) (hm : most < 18446744073709551616) : txtP most l = some (s, r) ↔ s.length ≤ most ∧ l = put s.length ++ (s ++ r) := by
  unfold txtP
  constructor
  · intro h
    cases hg : numP most l with
    | none => rw [hg] at h; simp at h
    | some p =>
      obtain ⟨m, q⟩ := p
      rw [hg] at h
      simp at h
      obtain ⟨h1, rfl, rfl⟩ := h
      obtain ⟨b1, rfl⟩ := (numP_iff most l m q hm).1 hg
      have e : (q.take m).length = m := by simp; omega
      rw [e]
      exact ⟨b1, by simp⟩
  · rintro ⟨h1, rfl⟩
    rw [(numP_iff most _ s.length (s ++ r) hm).2 ⟨h1, rfl⟩]
    simp

/-- a text as a sector -/
def full (x : L) : L := x ++ List.replicate (128 - x.length) 0
/-- a text behind its length -/
def putT (s : L) : L := put s.length ++ s
/-- the text at a sector's front -/
def bare (l : L) : Option L :=
  match txtP 128 l with
  | none => none
  | some p => if l.length = 128 ∧ p.2.all (· == 0) = true then some p.1 else none
theorem all_zero (l : L) : l.all (· == 0) = true ↔ l = List.replicate l.length 0 := by
  rw [List.eq_replicate_iff]
  simp
theorem bare_iff (l s : L) : bare l = some s ↔ (putT s).length ≤ 128 ∧ l = full (putT s) := by
  unfold bare
  constructor
  · intro h
    cases hg : txtP 128 l with
    | none => rw [hg] at h; simp at h
    | some p =>
      obtain ⟨t, q⟩ := p
      rw [hg] at h
      by_cases hx : l.length = 128 ∧ q.all (· == 0) = true
      · simp only [if_pos hx] at h
        obtain rfl : t = s := by simpa using h
        obtain ⟨_, e⟩ := (txtP_iff 128 l t q (by omega)).1 hg
        have e2 : l = putT t ++ q := by rw [e]; simp [putT]
        have hl := congrArg List.length e2
        rw [List.length_append] at hl
        refine ⟨by omega, ?_⟩
        unfold full
        have hz := (all_zero q).1 hx.2
        rw [e2, show 128 - (putT t).length = q.length by omega, ← hz]
      · simp only [if_neg hx] at h
        simp at h
  · rintro ⟨h1, rfl⟩
    have hs : s.length ≤ 128 := by unfold putT at h1; simp at h1; omega
    have e : full (putT s) = put s.length ++ (s ++ List.replicate (128 - (putT s).length) 0) := by unfold full putT; simp
    have hl : (full (putT s)).length = 128 := by unfold full; simp; omega
    rw [hl, e, (txtP_iff 128 _ s _ (by omega)).2 ⟨hs, rfl⟩]
    simp
theorem bare_len {l s : L} (h : bare l = some s) : l.length = 128 := by
  obtain ⟨h1, rfl⟩ := (bare_iff l s).1 h
  unfold full; simp; omega

/-- a head -/
structure Head where
  epoch : Int
  half : Int
  pack : Int
  num : Int
deriving DecidableEq
def Head.zero : Head := ⟨0, 0, 0, 0⟩
/-- may a head be? -/
def isH (h : Head) : Bool := decide (1 ≤ h.epoch) && decide (h.epoch ≤ 4294967295) && decide (0 ≤ h.half) && decide (h.half ≤ 1) && decide (0 ≤ h.pack) && decide (h.pack ≤ 524288) && decide (1 ≤ h.num) && decide (h.num ≤ 4294967296)
theorem isH_iff (h : Head) : isH h = true ↔ 1 ≤ h.epoch ∧ h.epoch ≤ 4294967295 ∧ 0 ≤ h.half ∧ h.half ≤ 1 ∧ 0 ≤ h.pack ∧ h.pack ≤ 524288 ∧ 1 ≤ h.num ∧ h.num ≤ 4294967296 := by
  unfold isH; simp [and_assoc]
def nums4 (a b c d : Nat) : L := put a ++ (put b ++ (put c ++ put d))
def mark : L := [112, 108, 101, 97, 99, 104]
/-- a head's bytes -/
def textH (h : Head) : L := mark ++ nums4 h.epoch.toNat h.half.toNat h.pack.toNat h.num.toNat
theorem nums4_len (a b c d : Nat) : (nums4 a b c d).length ≤ 40 := by
  unfold nums4
  have := put_le a; have := put_le b; have := put_le c; have := put_le d
  simp; omega
/-- what a scan gives that has st left -/
def numV (m : Nat) (st : Option L) : Nat := match st.bind (numP m) with
  | none => 0
  | some p => p.1
def numR (m : Nat) (st : Option L) : Option L := (st.bind (numP m)).map (·.2)
def txtV (m : Nat) (st : Option L) : L := match st.bind (txtP m) with
  | none => []
  | some p => p.1
def txtR (m : Nat) (st : Option L) : Option L := (st.bind (txtP m)).map (·.2)
theorem numR_some {m : Nat} {st : Option L} {r : L} (hm : m < 18446744073709551616) (h : numR m st = some r) : st = some (put (numV m st) ++ r) ∧ numV m st ≤ m := by
  unfold numR at h
  unfold numV
  cases st with
  | none => simp at h
  | some l =>
    simp only [Option.bind_some] at h ⊢
    cases hp : numP m l with
    | none => rw [hp] at h; simp at h
    | some p =>
      obtain ⟨n, q⟩ := p
      rw [hp] at h
      obtain rfl : q = r := by simpa using h
      obtain ⟨h1, rfl⟩ := (numP_iff m l n q hm).1 hp
      exact ⟨rfl, h1⟩
theorem txtR_some {m : Nat} {st : Option L} {r : L} (hm : m < 18446744073709551616) (h : txtR m st = some r) : st = some (putT (txtV m st) ++ r) ∧ (txtV m st).length ≤ m := by
  unfold txtR at h
  unfold txtV
  cases st with
  | none => simp at h
  | some l =>
    simp only [Option.bind_some] at h ⊢
    cases hp : txtP m l with
    | none => rw [hp] at h; simp at h
    | some p =>
      obtain ⟨n, q⟩ := p
      rw [hp] at h
      obtain rfl : q = r := by simpa using h
      obtain ⟨h1, rfl⟩ := (txtP_iff m l n q hm).1 hp
      exact ⟨by simp [putT], h1⟩
theorem num_put (m n : Nat) (r : L) (hm : m < 18446744073709551616) (h : n ≤ m) : numV m (some (put n ++ r)) = n ∧ numR m (some (put n ++ r)) = some r := by
  have := (numP_iff m (put n ++ r) n r hm).2 ⟨h, rfl⟩
  unfold numV numR
  simp [this]
theorem txt_put (m : Nat) (s r : L) (hm : m < 18446744073709551616) (h : s.length ≤ m) : txtV m (some (putT s ++ r)) = s ∧ txtR m (some (putT s ++ r)) = some r := by
  have := (txtP_iff m (putT s ++ r) s r hm).2 ⟨h, by simp [putT]⟩
  unfold txtV txtR
  simp [this]
theorem numV_le (m : Nat) (st : Option L) : numV m st ≤ m := by
  unfold numV
  cases st with
  | none => simp
  | some l =>
    simp only [Option.bind_some]
    unfold numP
    cases get l with
    | none => simp
    | some p => by_cases h : p.1 ≤ m <;> simp [h]

/-- four numbers that a scan gives -/
def h4 (m1 m2 m3 m4 : Nat) (st : Option L) : Head × Option L :=
  (⟨numV m1 st, numV m2 (numR m1 st), numV m3 (numR m2 (numR m1 st)), numV m4 (numR m3 (numR m2 (numR m1 st)))⟩, numR m4 (numR m3 (numR m2 (numR m1 st))))
theorem h4_some {m1 m2 m3 m4 : Nat} {l r : L} (h1 : m1 < 18446744073709551616) (h2 : m2 < 18446744073709551616) (h3 : m3 < 18446744073709551616) (h4' : m4 < 18446744073709551616) (h : (h4 m1 m2 m3 m4 (some l)).2 = some r) :
    l = nums4 (h4 m1 m2 m3 m4 (some l)).1.epoch.toNat (h4 m1 m2 m3 m4 (some l)).1.half.toNat (h4 m1 m2 m3 m4 (some l)).1.pack.toNat (h4 m1 m2 m3 m4 (some l)).1.num.toNat ++ r := by
  unfold h4 at h ⊢
  simp only at h ⊢
  obtain ⟨e4, _⟩ := numR_some h4' h
  obtain ⟨e3, _⟩ := numR_some h3 e4
  obtain ⟨e2, _⟩ := numR_some h2 e3
  obtain ⟨e1, _⟩ := numR_some h1 e2
  have := Option.some.inj e1
  simp only [Int.toNat_natCast, nums4, List.append_assoc]
  exact this
theorem h4_put (m1 m2 m3 m4 a b c d : Nat) (r : L) (h1 : m1 < 18446744073709551616) (h2 : m2 < 18446744073709551616) (h3 : m3 < 18446744073709551616) (h4' : m4 < 18446744073709551616)
    (k1 : a ≤ m1) (k2 : b ≤ m2) (k3 : c ≤ m3) (k4 : d ≤ m4) : h4 m1 m2 m3 m4 (some (nums4 a b c d ++ r)) = (⟨a, b, c, d⟩, some r) := by
  unfold h4
  have e : nums4 a b c d ++ r = put a ++ (put b ++ (put c ++ (put d ++ r))) := by simp [nums4]
  rw [e]
  obtain ⟨a1, a2⟩ := num_put m1 a (put b ++ (put c ++ (put d ++ r))) h1 k1
  obtain ⟨b1, b2⟩ := num_put m2 b (put c ++ (put d ++ r)) h2 k2
  obtain ⟨c1, c2⟩ := num_put m3 c (put d ++ r) h3 k3
  obtain ⟨d1, d2⟩ := num_put m4 d r h4' k4
  rw [a1, a2, b1, b2, c1, c2, d1, d2]
theorem textH_len (h : Head) : (textH h).length ≤ 46 := by
  unfold textH
  have := nums4_len h.epoch.toNat h.half.toNat h.pack.toNat h.num.toNat
  simp [mark]; omega
section
variable (tail : L → L) (ht : ∀ l, (tail l).length = 4)
/-- a text with its sum, behind its length, as a sector -/
def sealedS (s : L) : L := full (putT (s ++ tail s))
def putH (h : Head) : L := sealedS tail (textH h)
/-- a text whose sum is behind it -/
def openS (s : L) : Option L := if 4 ≤ s.length ∧ tail (s.take (s.length - 4)) = s.drop (s.length - 4) then some (s.take (s.length - 4)) else none
include ht
theorem openS_iff (s t : L) : openS tail s = some t ↔ s = t ++ tail t := by
  unfold openS
  constructor
  · intro h
    by_cases hx : 4 ≤ s.length ∧ tail (s.take (s.length - 4)) = s.drop (s.length - 4)
    · rw [if_pos hx] at h
      obtain rfl := Option.some.inj h
      rw [hx.2, List.take_append_drop]
    · rw [if_neg hx] at h; simp at h
  · rintro rfl
    have e1 : (t ++ tail t).length - 4 = t.length := by simp [ht]
    rw [e1]
    have e2 : (t ++ tail t).take t.length = t := by simp
    have e3 : (t ++ tail t).drop t.length = tail t := by simp
    rw [e2, e3, if_pos ⟨by simp [ht], rfl⟩]
/-- a sealed text of a sector -/
def textOf (l : L) : Option L := (bare l).bind (openS tail)
theorem textOf_iff (l t : L) (h : t.length ≤ 122) : textOf tail l = some t ↔ l = sealedS tail t := by
  unfold textOf sealedS
  constructor
  · intro hx
    cases hb : bare l with
    | none => rw [hb] at hx; simp at hx
    | some s =>
      rw [hb] at hx
      obtain rfl := (openS_iff tail ht s t).1 hx
      exact ((bare_iff _ _).1 hb).2
  · intro e
    have h2 : (t ++ tail t).length ≤ 126 := by simp [ht]; omega
    have h3 : (putT (t ++ tail t)).length ≤ 128 := by
      unfold putT
      have h4 : (put (t ++ tail t).length).length = 1 := by
        generalize (t ++ tail t).length = n at *
        unfold put putF
        rw [if_pos (by omega)]
        rfl
      rw [List.length_append]
      omega
    rw [(bare_iff l _).2 ⟨h3, e⟩]
    exact (openS_iff tail ht _ _).2 rfl
omit ht in
theorem sealed_len (t : L) (h : t.length ≤ 122) (ht : ∀ l, (tail l).length = 4) : (sealedS tail t).length = 128 := by
  have h2 : (t ++ tail t).length ≤ 126 := by simp [ht]; omega
  have h3 : (putT (t ++ tail t)).length ≤ 128 := by
    unfold putT
    have h4 : (put (t ++ tail t).length).length = 1 := by
      generalize (t ++ tail t).length = n at *
      unfold put putF
      rw [if_pos (by omega)]
      rfl
    rw [List.length_append]
    omega
  unfold sealedS full
  simp; omega
theorem putH_len (h : Head) : (putH tail h).length = 128 := sealed_len tail _ (by have := textH_len h; omega) ht
/-- the head of a sector -/
def takeH (l : L) : Option Head :=
  match textOf tail l with
  | none => none
  | some t => if t.take 6 = mark ∧ (h4 4294967295 1 524288 4294967296 (some (t.drop 6))).2 = some [] ∧ isH (h4 4294967295 1 524288 4294967296 (some (t.drop 6))).1 = true then some (h4 4294967295 1 524288 4294967296 (some (t.drop 6))).1 else none
theorem takeH_iff (l : L) (h : Head) : takeH tail l = some h ↔ isH h = true ∧ putH tail h = l := by
  unfold takeH
  constructor
  · intro hx
    cases hb : textOf tail l with
    | none => rw [hb] at hx; simp at hx
    | some t =>
      rw [hb] at hx
      simp only at hx
      by_cases hc : t.take 6 = mark ∧ (h4 4294967295 1 524288 4294967296 (some (t.drop 6))).2 = some [] ∧ isH (h4 4294967295 1 524288 4294967296 (some (t.drop 6))).1 = true
      · rw [if_pos hc] at hx
        obtain rfl := Option.some.inj hx
        obtain ⟨c1, c2, c3⟩ := hc
        have e := h4_some (by omega) (by omega) (by omega) (by omega) c2
        refine ⟨c3, ?_⟩
        have et : t = textH (h4 4294967295 1 524288 4294967296 (some (t.drop 6))).1 := by
          unfold textH
          rw [List.append_nil] at e
          rw [← e, ← c1, List.take_append_drop]
        unfold putH
        rw [← et]
        exact ((textOf_iff tail ht l t (by rw [et]; have := textH_len (h4 4294967295 1 524288 4294967296 (some (t.drop 6))).1; omega)).1 hb).symm
      · rw [if_neg hc] at hx; simp at hx
  · rintro ⟨h1, rfl⟩
    have hl := textH_len h
    rw [show textOf tail (putH tail h) = some (textH h) from (textOf_iff tail ht _ (textH h) (by omega)).2 rfl]
    simp only
    obtain ⟨a1, a2, a3, a4, a5, a6, a7, a8⟩ := (isH_iff h).1 h1
    have e1 : (textH h).take 6 = mark := by unfold textH; rw [List.take_append_of_le_length (by simp [mark])]; rfl
    have e2 : (textH h).drop 6 = nums4 h.epoch.toNat h.half.toNat h.pack.toNat h.num.toNat ++ [] := by unfold textH; rw [List.drop_append_of_le_length (by simp [mark])]; simp [mark]
    have e3 : (⟨(h.epoch.toNat : Int), (h.half.toNat : Int), (h.pack.toNat : Int), (h.num.toNat : Int)⟩ : Head) = h := by
      rw [Int.toNat_of_nonneg (by omega), Int.toNat_of_nonneg (by omega), Int.toNat_of_nonneg (by omega), Int.toNat_of_nonneg (by omega)]
    rw [e2, h4_put _ _ _ _ _ _ _ _ _ (by omega) (by omega) (by omega) (by omega) (by omega) (by omega) (by omega) (by omega), e3, if_pos ⟨e1, rfl, h1⟩]
/-- the head whose Put a sector is -/
def refTakeH (l : L) : Option Head :=
  match bare l with
  | none => none
  | some s => if 6 ≤ s.length ∧ (h4 4294967296 4294967296 4294967296 4294967296 (some (s.drop 6))).2 ≠ none ∧ isH (h4 4294967296 4294967296 4294967296 4294967296 (some (s.drop 6))).1 = true ∧ putH tail (h4 4294967296 4294967296 4294967296 4294967296 (some (s.drop 6))).1 = l then some (h4 4294967296 4294967296 4294967296 4294967296 (some (s.drop 6))).1 else none
theorem refTakeH_iff (l : L) (h : Head) : refTakeH tail l = some h ↔ isH h = true ∧ putH tail h = l := by
  unfold refTakeH
  constructor
  · intro hx
    cases hb : bare l with
    | none => rw [hb] at hx; simp at hx
    | some s =>
      rw [hb] at hx
      simp only at hx
      by_cases hc : 6 ≤ s.length ∧ (h4 4294967296 4294967296 4294967296 4294967296 (some (s.drop 6))).2 ≠ none ∧ isH (h4 4294967296 4294967296 4294967296 4294967296 (some (s.drop 6))).1 = true ∧ putH tail (h4 4294967296 4294967296 4294967296 4294967296 (some (s.drop 6))).1 = l
      · rw [if_pos hc] at hx
        obtain rfl := Option.some.inj hx
        exact ⟨hc.2.2.1, hc.2.2.2⟩
      · rw [if_neg hc] at hx; simp at hx
  · rintro ⟨h1, rfl⟩
    have hl := textH_len h
    have hto : textOf tail (putH tail h) = some (textH h) := (textOf_iff tail ht _ (textH h) (by omega)).2 rfl
    have hb : bare (putH tail h) = some (textH h ++ tail (textH h)) := by
      unfold textOf at hto
      cases hb : bare (putH tail h) with
      | none => rw [hb] at hto; simp at hto
      | some s =>
        rw [hb] at hto
        rw [(openS_iff tail ht s _).1 hto]
    rw [hb]
    simp only
    obtain ⟨a1, a2, a3, a4, a5, a6, a7, a8⟩ := (isH_iff h).1 h1
    have e1 : (textH h ++ tail (textH h)).drop 6 = nums4 h.epoch.toNat h.half.toNat h.pack.toNat h.num.toNat ++ tail (textH h) := by
      unfold textH
      rw [List.append_assoc, List.drop_append_of_le_length (by simp [mark])]
      simp [mark]
    have e3 : (⟨(h.epoch.toNat : Int), (h.half.toNat : Int), (h.pack.toNat : Int), (h.num.toNat : Int)⟩ : Head) = h := by
      rw [Int.toNat_of_nonneg (by omega), Int.toNat_of_nonneg (by omega), Int.toNat_of_nonneg (by omega), Int.toNat_of_nonneg (by omega)]
    rw [e1, h4_put _ _ _ _ _ _ _ _ _ (by omega) (by omega) (by omega) (by omega) (by omega) (by omega) (by omega) (by omega), e3, if_pos ⟨by simp [textH, mark]; try omega, by simp, h1, rfl⟩]
theorem refTakeH_eq (l : L) : refTakeH tail l = takeH tail l := by
  cases h : takeH tail l with
  | some x => exact (refTakeH_iff tail ht l x).2 ((takeH_iff tail ht l x).1 h)
  | none =>
    cases h2 : refTakeH tail l with
    | none => rfl
    | some y => rw [(takeH_iff tail ht l y).2 ((refTakeH_iff tail ht l y).1 h2)] at h; simp at h
end
end Pl.Seat
