/-
  The sum of 32 bits over numbers alone: four bits at a time by the table, bit by bit as the document has it, and that a burst of up to 32 bits is seen.
-/
namespace Pl.Crc

/-- one zero bit through the register -/
def T (r : Nat) : Nat := (r / 2) ^^^ (if r % 2 = 1 then 3988292384 else 0)

theorem xor_div2 (a b : Nat) : (a ^^^ b) / 2 = (a / 2) ^^^ (b / 2) := by
  have := Nat.shiftRight_xor_distrib (a := a) (b := b) (i := 1)
  simpa [Nat.shiftRight_succ] using this

theorem xor_mod2 (a b : Nat) : (a ^^^ b) % 2 = (a % 2 + b % 2) % 2 := by
  have h := Nat.testBit_xor a b 0
  simp only [Nat.testBit_zero] at h
  rcases Nat.mod_two_eq_zero_or_one (a ^^^ b) with h1 | h1 <;> rcases Nat.mod_two_eq_zero_or_one a with h2 | h2 <;> rcases Nat.mod_two_eq_zero_or_one b with h3 | h3 <;> simp [h1, h2, h3] at h ⊢

theorem T_xor (a b : Nat) : T (a ^^^ b) = T a ^^^ T b := by
  unfold T
  rw [xor_div2, xor_mod2]
  rcases Nat.mod_two_eq_zero_or_one a with h2 | h2 <;> rcases Nat.mod_two_eq_zero_or_one b with h3 | h3 <;> simp only [h2, h3]
  · simp
  · simp [Nat.xor_assoc]
  · simp only [if_true, if_neg (by decide : ¬ (0:Nat) = 1), Nat.xor_zero]; simp only [Nat.xor_assoc]; congr 1; rw [Nat.xor_comm]
  · simp only [if_true]
    rw [show (a / 2 ^^^ 3988292384) ^^^ (b / 2 ^^^ 3988292384) = (a / 2 ^^^ b / 2) ^^^ (3988292384 ^^^ 3988292384) from by
      rw [Nat.xor_assoc, Nat.xor_assoc, ← Nat.xor_assoc 3988292384 (b/2), Nat.xor_comm 3988292384 (b/2), Nat.xor_assoc (b/2)]]
    simp

def Tn : Nat → Nat → Nat
  | 0, r => r
  | n + 1, r => Tn n (T r)

theorem Tn_xor (n : Nat) : ∀ a b, Tn n (a ^^^ b) = Tn n a ^^^ Tn n b := by
  induction n with
  | zero => intro a b; rfl
  | succ n ih => intro a b; simp only [Tn, T_xor, ih]

theorem Tn_add (m n r : Nat) : Tn (m + n) r = Tn n (Tn m r) := by
  induction m generalizing r with
  | zero => simp [Tn]
  | succ m ih => rw [Nat.succ_add]; simp only [Tn, ih]

theorem T_lt {r : Nat} (h : r < 4294967296) : T r < 4294967296 := by
  unfold T
  have : r / 2 < 2 ^ 32 := by omega
  split
  · exact Nat.xor_lt_two_pow (n := 32) this (by decide)
  · simpa using by omega

theorem Tn_lt (n : Nat) : ∀ {r : Nat}, r < 4294967296 → Tn n r < 4294967296 := by
  induction n with
  | zero => intro r h; exact h
  | succ n ih => intro r h; exact ih (T_lt h)

theorem T_ne {r : Nat} (h : r < 4294967296) (h0 : r ≠ 0) : T r ≠ 0 := by
  unfold T
  intro e
  rcases Nat.mod_two_eq_zero_or_one r with h2 | h2
  · simp [h2] at e; omega
  · simp only [h2, if_true] at e
    have hb := congrArg (fun x => Nat.testBit x 31) e
    simp only [Nat.testBit_xor, Nat.zero_testBit] at hb
    have h1 : (r / 2).testBit 31 = false := Nat.testBit_lt_two_pow (by omega)
    rw [h1] at hb
    exact absurd hb (by decide)

theorem Tn_ne (n : Nat) : ∀ {r : Nat}, r < 4294967296 → r ≠ 0 → Tn n r ≠ 0 := by
  induction n with
  | zero => intro r _ h; exact h
  | succ n ih => intro r h h0; exact ih (T_lt h) (T_ne h h0)

theorem Tn_mul (n q : Nat) : Tn n (2 ^ n * q) = q := by
  induction n with
  | zero => simp [Tn]
  | succ n ih =>
    simp only [Tn]
    have : T (2 ^ (n + 1) * q) = 2 ^ n * q := by
      unfold T
      rw [show 2 ^ (n + 1) * q = 2 * (2 ^ n * q) from by rw [Nat.pow_succ]; rw [Nat.mul_comm (2^n) 2, Nat.mul_assoc]]
      simp
    rw [this, ih]

/-- the table of the program -/
def tab : List Nat := [0, 498536548, 997073096, 651767980, 1994146192, 1802195444, 1303535960, 1342533948, 3988292384, 4027552580, 3604390888, 3412177804, 2607071920, 2262029012, 2685067896, 3183342108]

theorem tab_T : ∀ n : Fin 16, Tn 4 n.val = tab.getD n.val 0 := by decide

theorem split16 (r : Nat) : r = (2 ^ 4 * (r / 16)) ^^^ (r % 16) := by
  have h := Nat.two_pow_add_eq_or_of_lt (i := 4) (b := r % 16) (by omega) (r / 16)
  have h2 : 2 ^ 4 * (r / 16) ^^^ (r % 16) = 2 ^ 4 * (r / 16) ||| (r % 16) := by
    apply Nat.eq_of_testBit_eq
    intro i
    simp only [Nat.testBit_xor, Nat.testBit_or]
    by_cases hi : i < 4
    · have : (2 ^ 4 * (r / 16)).testBit i = false := by
        rw [Nat.testBit_two_pow_mul]; simp; omega
      simp [this]
    · have : (r % 16).testBit i = false := Nat.testBit_lt_two_pow (Nat.lt_of_lt_of_le (show r % 16 < 2 ^ 4 by omega) (Nat.pow_le_pow_right (by decide) (by omega)))
      simp [this]
  rw [h2, ← h]; omega

/-- what the program does with four bits -/
def nib (r : Nat) : Nat := (r / 16) ^^^ tab.getD (r % 16) 0

theorem nib_T (r : Nat) : nib r = Tn 4 r := by
  unfold nib
  conv => rhs; rw [split16 r]
  rw [Tn_xor, Tn_mul]
  congr 1
  exact (tab_T ⟨r % 16, by omega⟩).symm

def byteStep (r c : Nat) : Nat := nib (nib (r ^^^ c))

theorem byteStep_T (r c : Nat) : byteStep r c = Tn 8 (r ^^^ c) := by
  unfold byteStep; rw [nib_T, nib_T, ← Tn_add]

theorem byteStep_lt {r c : Nat} (h : r < 4294967296) (hc : c < 256) : byteStep r c < 4294967296 := by
  rw [byteStep_T]
  exact Tn_lt _ (Nat.xor_lt_two_pow (n := 32) h (by omega))

def run (r : Nat) (l : List UInt8) : Nat := l.foldl (fun r c => byteStep r c.toNat) r

theorem run_lt (l : List UInt8) : ∀ {r : Nat}, r < 4294967296 → run r l < 4294967296 := by
  induction l with
  | nil => intro r h; exact h
  | cons c l ih => intro r h; exact ih (byteStep_lt h (by have := c.toNat_lt; omega))

/-- the program's sum -/
def on (sum : Nat) (l : List UInt8) : Nat := 4294967295 - run (4294967295 - sum) l

theorem on_lt (sum : Nat) (l : List UInt8) : on sum l < 4294967296 := by unfold on; omega

theorem on_append (sum : Nat) (a b : List UInt8) (hs : sum < 4294967296) : on (on sum a) b = on sum (a ++ b) := by
  unfold on
  have h : run (4294967295 - sum) a < 4294967296 := run_lt a (by omega)
  rw [show 4294967295 - (4294967295 - run (4294967295 - sum) a) = run (4294967295 - sum) a from by omega]
  simp only [run, List.foldl_append]

/-! the document's sum, bit by bit -/
def bitStep (r l : Nat) : Nat := (r / 2) ^^^ (if r % 2 ≠ l then 3988292384 else 0)

theorem bitStep_T (r l : Nat) (hl : l < 2) : bitStep r l = T (r ^^^ l) := by
  unfold bitStep T
  rw [xor_div2, xor_mod2]
  have h0 : l / 2 = 0 := by omega
  rw [h0, Nat.xor_zero]
  congr 1
  rcases Nat.mod_two_eq_zero_or_one r with h2 | h2 <;> rcases (show l = 0 ∨ l = 1 by omega) with rfl | rfl <;> simp [h2]

def bitsOf (c : Nat) : Nat → List Nat
  | 0 => []
  | n + 1 => c % 2 :: bitsOf (c / 2) n

def brun (r : Nat) (l : List Nat) : Nat := l.foldl bitStep r

theorem split2 (c : Nat) : c = (2 * (c / 2)) ^^^ (c % 2) := by
  apply Nat.eq_of_testBit_eq
  intro i
  cases i with
  | zero => simp only [Nat.testBit_zero]; simp
  | succ i =>
    rw [Nat.testBit_xor, Nat.testBit_succ, Nat.testBit_succ, Nat.testBit_succ]
    rw [show 2 * (c / 2) / 2 = c / 2 from by omega, show c % 2 / 2 = 0 from by omega]; simp

theorem T_two (q : Nat) : T (2 * q) = q := by unfold T; simp

theorem brun_bits (n : Nat) : ∀ (r c : Nat), c < 2 ^ n → brun r (bitsOf c n) = Tn n (r ^^^ c) := by
  induction n with
  | zero => intro r c h; have : c = 0 := by simpa using h
            subst this; simp [brun, bitsOf, Tn]
  | succ n ih =>
    intro r c h
    have hs : brun r (bitsOf c (n + 1)) = brun (bitStep r (c % 2)) (bitsOf (c / 2) n) := rfl
    rw [hs, ih _ _ (by rw [Nat.pow_succ] at h; omega), bitStep_T _ _ (by omega)]
    show _ = Tn n (T (r ^^^ c))
    congr 1
    conv => rhs; rw [split2 c]
    rw [Nat.xor_comm (2 * (c / 2)), ← Nat.xor_assoc, T_xor (r ^^^ c % 2), T_two]


/-! a burst is seen -/
def runN (r : Nat) (l : List Nat) : Nat := l.foldl byteStep r

theorem run_runN (l : List UInt8) : ∀ r, run r l = runN r (l.map UInt8.toNat) := by
  induction l with
  | nil => intro r; rfl
  | cons c l ih => intro r; exact ih _

theorem runN_xor (l : List Nat) : ∀ r d, runN (r ^^^ d) l = runN r l ^^^ Tn (8 * l.length) d := by
  induction l with
  | nil => intro r d; simp [runN, Tn]
  | cons c l ih =>
    intro r d
    have h1 : runN (r ^^^ d) (c :: l) = runN (byteStep (r ^^^ d) c) l := rfl
    have h2 : runN r (c :: l) = runN (byteStep r c) l := rfl
    rw [h1, h2, byteStep_T, byteStep_T, show r ^^^ d ^^^ c = (r ^^^ c) ^^^ d from by rw [Nat.xor_assoc, Nat.xor_comm d, ← Nat.xor_assoc], Tn_xor, ih]
    rw [List.length_cons, show 8 * (l.length + 1) = 8 + 8 * l.length from by omega, Tn_add]

theorem runN_set (l : List Nat) : ∀ (k : Nat) (r d : Nat), k < l.length → runN r (l.set k (l.getD k 0 ^^^ d)) = runN r l ^^^ Tn (8 * (l.length - k)) d := by
  induction l with
  | nil => intro k r d h; simp at h
  | cons c l ih =>
    intro k r d h
    cases k with
    | zero =>
      show runN (byteStep r (c ^^^ d)) l = runN (byteStep r c) l ^^^ _
      rw [byteStep_T, byteStep_T, ← Nat.xor_assoc, Tn_xor, runN_xor, List.length_cons, show 8 * (l.length + 1 - 0) = 8 + 8 * l.length from by omega, Tn_add]
    | succ k =>
      have := ih k (byteStep r c) d (by simpa using h)
      show runN (byteStep r c) (l.set k (l.getD k 0 ^^^ d)) = runN (byteStep r c) l ^^^ _
      rw [this, List.length_cons, show l.length + 1 - (k + 1) = l.length - k from by omega]

theorem Tn_pow (j : Nat) : Tn j (2 ^ j) = 1 := by have := Tn_mul j 1; simpa using this

/-- one bit turned, as the law turns it -/
def flip (l : List Nat) (p : Nat) : List Nat := l.set (p / 8) (l.getD (p / 8) 0 ^^^ 2 ^ (p % 8))

theorem flip_length (l : List Nat) (p : Nat) : (flip l p).length = l.length := by simp [flip]

theorem flip_run (l : List Nat) (p r : Nat) (h : p < 8 * l.length) : runN r (flip l p) = runN r l ^^^ Tn (8 * l.length - p) 1 := by
  unfold flip
  rw [runN_set l _ _ _ (by omega)]
  congr 1
  rw [show 8 * (l.length - p / 8) = p % 8 + (8 * l.length - p) from by omega, Tn_add, Tn_pow]

def burst (l : List Nat) (at_ turn : Nat) : Nat → List Nat
  | 0 => l
  | i + 1 => if turn / 2 ^ i % 2 = 1 then flip (burst l at_ turn i) (at_ + i) else burst l at_ turn i

theorem burst_length (l : List Nat) (at_ turn i : Nat) : (burst l at_ turn i).length = l.length := by
  induction i with
  | zero => rfl
  | succ i ih => unfold burst; split; · rw [flip_length, ih]
                 · exact ih

theorem mod_pow_succ (x i : Nat) : x % 2 ^ (i + 1) = (x % 2 ^ i) ^^^ (2 ^ i * (x / 2 ^ i % 2)) := by
  apply Nat.eq_of_testBit_eq
  intro j
  rw [Nat.testBit_xor, Nat.testBit_mod_two_pow, Nat.testBit_mod_two_pow, Nat.testBit_two_pow_mul]
  rcases Nat.lt_trichotomy j i with h | h | h
  · have : ¬ i ≤ j := by omega
    simp [this, h, show j < i + 1 by omega]
  · subst h
    simp [Nat.testBit_eq_decide_div_mod_eq]
  · have h1 : ¬ j < i + 1 := by omega
    have h2 : ¬ j < i := by omega
    have h3 : (x / 2 ^ i % 2).testBit (j - i) = false := Nat.testBit_lt_two_pow (Nat.lt_of_lt_of_le (show x / 2 ^ i % 2 < 2 ^ 1 by omega) (Nat.pow_le_pow_right (by decide) (by omega)))
    simp [h1, h2, h3]

theorem burst_run (l : List Nat) (at_ turn r i : Nat) (h : at_ + i ≤ 8 * l.length) : runN r (burst l at_ turn i) = runN r l ^^^ Tn (8 * l.length - at_) (turn % 2 ^ i) := by
  induction i with
  | zero =>
    have h0 : ∀ n, Tn n 0 = 0 := by
      intro n; induction n with
      | zero => rfl
      | succ n ih => simpa [Tn, T] using ih
    simp [burst, Nat.mod_one, h0]
  | succ i ih =>
    unfold burst
    rw [mod_pow_succ, Tn_xor, ← Nat.xor_assoc, ← ih (by omega)]
    rcases Nat.mod_two_eq_zero_or_one (turn / 2 ^ i) with h2 | h2
    · have h0 : ∀ n, Tn n 0 = 0 := by
        intro n; induction n with
        | zero => rfl
        | succ n ih => simpa [Tn, T] using ih
      simp [h2, h0]
    · rw [if_pos h2, h2, Nat.mul_one, flip_run _ _ _ (by rw [burst_length]; omega), burst_length]
      congr 1
      rw [show 8 * l.length - at_ = i + (8 * l.length - (at_ + i)) from by omega, Tn_add, Tn_pow]

/-- the four bytes of a sum, the lowest one first -/
def tailN (v : Nat) : List Nat := [v % 256, v / 256 % 256, v / 65536 % 256, v / 16777216 % 256]

theorem run_word (r b0 b1 b2 b3 : Nat) : runN r [b0, b1, b2, b3] = Tn 32 (r ^^^ (b0 ^^^ (2 ^ 8 * b1) ^^^ (2 ^ 16 * b2) ^^^ (2 ^ 24 * b3))) := by
  show byteStep (byteStep (byteStep (byteStep r b0) b1) b2) b3 = _
  simp only [byteStep_T]
  rw [show (32 : Nat) = 8 + (8 + (8 + 8)) from rfl, Tn_add, Tn_add, Tn_add]
  rw [show r ^^^ (b0 ^^^ 2 ^ 8 * b1 ^^^ 2 ^ 16 * b2 ^^^ 2 ^ 24 * b3) = (r ^^^ b0) ^^^ (2 ^ 8 * (b1 ^^^ (2 ^ 8 * (b2 ^^^ 2 ^ 8 * b3)))) from by
    rw [show 2 ^ 8 * (b1 ^^^ 2 ^ 8 * (b2 ^^^ 2 ^ 8 * b3)) = (2 ^ 8 * b1) ^^^ (2 ^ 16 * b2) ^^^ (2 ^ 24 * b3) from by
      have hx : ∀ k a b : Nat, 2 ^ k * (a ^^^ b) = (2 ^ k * a) ^^^ (2 ^ k * b) := by
        intro k a b
        have := Nat.shiftLeft_xor_distrib (a := a) (b := b) (i := k)
        simpa [Nat.shiftLeft_eq, Nat.mul_comm] using this
      rw [hx, hx, hx, ← Nat.mul_assoc, ← Nat.mul_assoc, ← Nat.mul_assoc, ← Nat.pow_add, ← Nat.pow_add, Nat.xor_assoc]]
    simp only [Nat.xor_assoc]]
  rw [Tn_xor 8 (r ^^^ b0), Tn_mul, ← Nat.xor_assoc (Tn 8 (r ^^^ b0)), Tn_xor 8 (Tn 8 (r ^^^ b0) ^^^ b1), Tn_mul, ← Nat.xor_assoc, Tn_xor 8 _ (2 ^ 8 * b3), Tn_mul]

theorem xor_add_pow (k a b : Nat) (h : a < 2 ^ k) : a ^^^ (2 ^ k * b) = a + 2 ^ k * b := by
  have h1 := Nat.two_pow_add_eq_or_of_lt h b
  rw [Nat.add_comm, h1]
  apply Nat.eq_of_testBit_eq
  intro i
  rw [Nat.testBit_xor, Nat.testBit_or, Nat.testBit_two_pow_mul]
  by_cases hi : k ≤ i
  · have : a.testBit i = false := Nat.testBit_lt_two_pow (Nat.lt_of_lt_of_le h (Nat.pow_le_pow_right (by decide) hi))
    simp [this]
  · simp [hi]

theorem tail_word (v : Nat) (h : v < 4294967296) : (v % 256 ^^^ (2 ^ 8 * (v / 256 % 256)) ^^^ (2 ^ 16 * (v / 65536 % 256)) ^^^ (2 ^ 24 * (v / 16777216 % 256))) = v := by
  rw [xor_add_pow 8 _ _ (by omega), xor_add_pow 16 _ _ (by omega), xor_add_pow 24 _ _ (by omega)]
  omega

theorem ones_xor (r : Nat) (h : r < 4294967296) : r ^^^ (4294967295 - r) = 4294967295 := by
  apply Nat.eq_of_testBit_eq
  intro i
  rw [Nat.testBit_xor]
  have h2 : (4294967295 - r).testBit i = (decide (i < 32) && !r.testBit i) := by
    have := Nat.testBit_two_pow_sub_succ (n := 32) (x := r) (by omega) i
    rw [show 2 ^ 32 - (r + 1) = 4294967295 - r from by omega] at this
    exact this
  have h3 : (4294967295 : Nat).testBit i = decide (i < 32) := by
    have := Nat.testBit_two_pow_sub_one 32 i
    simpa using this
  rw [h2, h3]
  by_cases hi : i < 32
  · cases hb : r.testBit i <;> simp [hi]
  · have : r.testBit i = false := Nat.testBit_lt_two_pow (Nat.lt_of_lt_of_le h (by have := Nat.pow_le_pow_right (n := 2) (by decide) (show 32 ≤ i by omega); simpa using this))
    simp [hi, this]

/-- what is sealed leads to one register -/
theorem sealed_run (l : List Nat) (R : Nat) (hR : runN 4294967295 l = R) (h : R < 4294967296) : runN 4294967295 (l ++ tailN (4294967295 - R)) = Tn 32 4294967295 := by
  unfold runN at hR ⊢
  rw [List.foldl_append, hR]
  show runN R (tailN _) = _
  unfold tailN
  rw [run_word, tail_word _ (by omega), ones_xor _ h]

theorem burst_seen (s text : List Nat) (at_ turn : Nat) (h0 : turn ≠ 0) (h1 : turn < 4294967296)
    (hs : runN 4294967295 s < 4294967296) (ht : runN 4294967295 text < 4294967296)
    (hat : at_ + 32 ≤ 8 * (s.length + 4)) :
    burst (s ++ tailN (4294967295 - runN 4294967295 s)) at_ turn 32 ≠ text ++ tailN (4294967295 - runN 4294967295 text) := by
  intro e
  have e2 := congrArg (runN 4294967295) e
  have hlen : (s ++ tailN (4294967295 - runN 4294967295 s)).length = s.length + 4 := by simp [tailN]
  rw [sealed_run text _ rfl ht, burst_run _ _ _ _ _ (by omega), sealed_run s _ rfl hs] at e2
  have hne := Tn_ne (8 * (s ++ tailN (4294967295 - runN 4294967295 s)).length - at_) (r := turn % 2 ^ 32) (by omega) (by omega)
  apply hne
  have h3 : ∀ a b : Nat, a ^^^ b = a → b = 0 := by
    intro a b hab
    have : a ^^^ (a ^^^ b) = a ^^^ a := by rw [hab]
    simpa [← Nat.xor_assoc] using this
  exact h3 _ _ e2

end Pl.Crc
