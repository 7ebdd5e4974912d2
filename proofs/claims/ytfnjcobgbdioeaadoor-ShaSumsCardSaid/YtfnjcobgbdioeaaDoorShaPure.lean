/-
  Plain Lean: SHA-256 of bytes; in pieces; digits to the base 16.
-/
namespace Pl.Sha
abbrev L := List UInt8
abbrev M : Nat := 4294967296
/-- a word turned to the right -/
def rotr (x n : Nat) : Nat := (x / 2 ^ n) ||| (x * 2 ^ (32 - n) % 4294967296)
def s0 (x : Nat) : Nat := rotr x 7 ^^^ rotr x 18 ^^^ (x / 8)
def s1 (x : Nat) : Nat := rotr x 17 ^^^ rotr x 19 ^^^ (x / 1024)
def S0 (x : Nat) : Nat := rotr x 2 ^^^ rotr x 13 ^^^ rotr x 22
def S1 (x : Nat) : Nat := rotr x 6 ^^^ rotr x 11 ^^^ rotr x 25
def ch (e f g : Nat) : Nat := (e &&& f) ^^^ ((4294967295 - e) &&& g)
def maj (a b c : Nat) : Nat := (a &&& b) ^^^ (a &&& c) ^^^ (b &&& c)
theorem compl_bit (e i : Nat) (h : e < 4294967296) : (4294967295 - e).testBit i = (decide (i < 32) && !e.testBit i) := by
  have := Nat.testBit_two_pow_sub_succ (x := e) (n := 32) h i
  have e2 : 2 ^ 32 - (e + 1) = 4294967295 - e := by omega
  rwa [e2] at this
theorem ch_or (e f g : Nat) (h : e < 4294967296) : (e &&& f) ||| ((4294967295 - e) &&& g) = ch e f g := by
  unfold ch
  apply Nat.eq_of_testBit_eq
  intro i
  simp only [Nat.testBit_or, Nat.testBit_and, Nat.testBit_xor, compl_bit e i h]
  cases e.testBit i <;> cases f.testBit i <;> cases g.testBit i <;> simp
theorem maj_or (a b c : Nat) : ((a &&& b) ||| (a &&& c)) ||| (b &&& c) = maj a b c := by
  unfold maj
  apply Nat.eq_of_testBit_eq
  intro i
  simp only [Nat.testBit_or, Nat.testBit_and, Nat.testBit_xor]
  cases a.testBit i <;> cases b.testBit i <;> cases c.testBit i <;> simp
def consts : List Nat := [
  0x428a2f98, 0x71374491, 0xb5c0fbcf, 0xe9b5dba5, 0x3956c25b, 0x59f111f1, 0x923f82a4, 0xab1c5ed5,
  0xd807aa98, 0x12835b01, 0x243185be, 0x550c7dc3, 0x72be5d74, 0x80deb1fe, 0x9bdc06a7, 0xc19bf174,
  0xe49b69c1, 0xefbe4786, 0x0fc19dc6, 0x240ca1cc, 0x2de92c6f, 0x4a7484aa, 0x5cb0a9dc, 0x76f988da,
  0x983e5152, 0xa831c66d, 0xb00327c8, 0xbf597fc7, 0xc6e00bf3, 0xd5a79147, 0x06ca6351, 0x14292967,
  0x27b70a85, 0x2e1b2138, 0x4d2c6dfc, 0x53380d13, 0x650a7354, 0x766a0abb, 0x81c2c92e, 0x92722c85,
  0xa2bfe8a1, 0xa81a664b, 0xc24b8b70, 0xc76c51a3, 0xd192e819, 0xd6990624, 0xf40e3585, 0x106aa070,
  0x19a4c116, 0x1e376c08, 0x2748774c, 0x34b0bcb5, 0x391c0cb3, 0x4ed8aa4a, 0x5b9cca4f, 0x682e6ff3,
  0x748f82ee, 0x78a5636f, 0x84c87814, 0x8cc70208, 0x90befffa, 0xa4506ceb, 0xbef9a3f7, 0xc67178f2]
/-- eight words -/
structure St where
  a : Nat
  b : Nat
  c : Nat
  d : Nat
  e : Nat
  f : Nat
  g : Nat
  h : Nat
deriving DecidableEq
def first : St := ⟨0x6a09e667, 0xbb67ae85, 0x3c6ef372, 0xa54ff53a, 0x510e527f, 0x9b05688c, 0x1f83d9ab, 0x5be0cd19⟩
def word (b : L) (i : Nat) : Nat := (b.getD (4 * i) 0).toNat * 16777216 + (b.getD (4 * i + 1) 0).toNat * 65536 + (b.getD (4 * i + 2) 0).toNat * 256 + (b.getD (4 * i + 3) 0).toNat
def wnext (l : List Nat) : Nat := (l.getD (l.length - 16) 0 + s0 (l.getD (l.length - 15) 0) + l.getD (l.length - 7) 0 + s1 (l.getD (l.length - 2) 0)) % 4294967296
/-- the first k words of a block's -/
def sched (b : L) : Nat → List Nat
  | 0 => []
  | k + 1 => sched b k ++ [if k < 16 then word b k else wnext (sched b k)]
theorem sched_length (b : L) (k : Nat) : (sched b k).length = k := by
  induction k with
  | zero => rfl
  | succ k ih => simp [sched, ih]
def rnd (s : St) (k w : Nat) : St :=
  let t1 := (s.h + S1 s.e + ch s.e s.f s.g + k + w) % 4294967296
  let t2 := (S0 s.a + maj s.a s.b s.c) % 4294967296
  ⟨(t1 + t2) % 4294967296, s.a, s.b, s.c, (s.d + t1) % 4294967296, s.e, s.f, s.g⟩
/-- a state behind k rounds -/
def rnds (s : St) (w : List Nat) : Nat → St
  | 0 => s
  | k + 1 => rnd (rnds s w k) (consts.getD k 0) (w.getD k 0)
def plus (s t : St) : St := ⟨(s.a + t.a) % 4294967296, (s.b + t.b) % 4294967296, (s.c + t.c) % 4294967296, (s.d + t.d) % 4294967296, (s.e + t.e) % 4294967296, (s.f + t.f) % 4294967296, (s.g + t.g) % 4294967296, (s.h + t.h) % 4294967296⟩
/-- a state behind a block -/
def turned (s : St) (b : L) : St := plus s (rnds s (sched b 64) 64)
/-- a state behind k blocks of bytes -/
def blocks (s : St) (l : L) : Nat → St
  | 0 => s
  | k + 1 => turned (blocks s l k) ((l.drop (64 * k)).take 64)
theorem blocks_append (s : St) (a b : L) (k : Nat) (h : 64 * k ≤ a.length) : blocks s (a ++ b) k = blocks s a k := by
  induction k with
  | zero => rfl
  | succ k ih =>
    simp only [blocks]
    rw [ih (by omega), List.drop_append_of_le_length (by omega), List.take_append_of_le_length (by simp; omega)]
theorem blocks_add (s : St) (l : L) (j k : Nat) : blocks s l (j + k) = blocks (blocks s l j) (l.drop (64 * j)) k := by
  induction k with
  | zero => rfl
  | succ k ih =>
    rw [← Nat.add_assoc]
    simp only [blocks]
    rw [ih, List.drop_drop, Nat.mul_add]
def len8 (n : Nat) : L := [UInt8.ofNat (n * 8 / 2 ^ 56), UInt8.ofNat (n * 8 / 2 ^ 48), UInt8.ofNat (n * 8 / 2 ^ 40), UInt8.ofNat (n * 8 / 2 ^ 32), UInt8.ofNat (n * 8 / 2 ^ 24), UInt8.ofNat (n * 8 / 2 ^ 16), UInt8.ofNat (n * 8 / 2 ^ 8), UInt8.ofNat (n * 8)]
/-- so many noughts -/
def gap (n : Nat) : Nat := (119 - n % 64) % 64
def pad (l : L) (n : Nat) : L := l ++ [128] ++ List.replicate (gap l.length) 0 ++ len8 n
theorem pad_length (l : L) (n : Nat) : (pad l n).length % 64 = 0 ∧ (pad l n).length = l.length + 9 + gap l.length := by
  unfold pad len8
  have h : (l ++ [128] ++ List.replicate (gap l.length) 0 ++ [UInt8.ofNat (n * 8 / 2 ^ 56), UInt8.ofNat (n * 8 / 2 ^ 48), UInt8.ofNat (n * 8 / 2 ^ 40), UInt8.ofNat (n * 8 / 2 ^ 32), UInt8.ofNat (n * 8 / 2 ^ 24), UInt8.ofNat (n * 8 / 2 ^ 16), UInt8.ofNat (n * 8 / 2 ^ 8), UInt8.ofNat (n * 8)]).length = l.length + 9 + gap l.length := by
    simp; omega
  rw [h]
  refine ⟨?_, rfl⟩
  unfold gap
  omega
def bytes4 (w : Nat) : L := [UInt8.ofNat (w / 2 ^ 24), UInt8.ofNat (w / 2 ^ 16), UInt8.ofNat (w / 2 ^ 8), UInt8.ofNat w]
def text (s : St) : L := bytes4 s.a ++ bytes4 s.b ++ bytes4 s.c ++ bytes4 s.d ++ bytes4 s.e ++ bytes4 s.f ++ bytes4 s.g ++ bytes4 s.h
theorem text_length (s : St) : (text s).length = 32 := by simp [text, bytes4]
/-- the sum of bytes -/
def sum (l : L) : L := text (blocks first (pad l l.length) ((pad l l.length).length / 64))
/-- what is left, behind whole blocks -/
def rest (l : L) : L := l.drop (64 * (l.length / 64))
theorem rest_length (l : L) : (rest l).length = l.length % 64 := by unfold rest; rw [List.length_drop]; omega
theorem blocks_take (l X : L) (q : Nat) (h : 64 * q ≤ l.length) : blocks first (l.take (64 * q) ++ X) q = blocks first l q := by
  rw [blocks_append _ _ _ _ (by simp; omega)]
  have := blocks_append first (l.take (64 * q)) (l.drop (64 * q)) q (by simp; omega)
  rw [List.take_append_drop] at this
  exact this.symm
/-- a sum in two steps: whole blocks, and what is left -/
theorem sum_two (l : L) : sum l = text (blocks (blocks first l (l.length / 64)) (pad (rest l) l.length) ((pad (rest l) l.length).length / 64)) := by
  unfold sum
  have e1 : pad l l.length = l.take (64 * (l.length / 64)) ++ pad (rest l) l.length := by
    unfold pad
    have : gap (rest l).length = gap l.length := by rw [rest_length]; unfold gap; omega
    rw [this]
    unfold rest
    simp only [← List.append_assoc]
    rw [List.take_append_drop]
  have e2 := (pad_length l l.length).2
  have e3 := (pad_length l l.length).1
  have e4 := (pad_length (rest l) l.length).2
  have e5 := (pad_length (rest l) l.length).1
  have hr := rest_length l
  have e6 : (pad l l.length).length / 64 = l.length / 64 + (pad (rest l) l.length).length / 64 := by
    have e7 := congrArg List.length e1
    rw [List.length_append, List.length_take] at e7
    omega
  rw [e6, blocks_add]
  have hlt : (l.take (64 * (l.length / 64))).length = 64 * (l.length / 64) := by simp; omega
  have e8 : blocks first (pad l l.length) (l.length / 64) = blocks first l (l.length / 64) := by
    rw [e1]
    exact blocks_take l _ _ (by omega)
  have e9 : (pad l l.length).drop (64 * (l.length / 64)) = pad (rest l) l.length := by
    rw [e1, List.drop_append_of_le_length (by omega), List.drop_of_length_le (by omega), List.nil_append]
  rw [e8, e9]
theorem sum_abc : sum [97, 98, 99] = [186, 120, 22, 191, 143, 1, 207, 234, 65, 65, 64, 222, 93, 174, 34, 35, 176, 3, 97, 163, 150, 23, 122, 156, 180, 16, 255, 97, 242, 0, 21, 173] := by decide +kernel
end Pl.Sha
