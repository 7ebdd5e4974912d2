import Derived.Test.YtfbakelpplpomaaGreatDoorSeatPure
/-
  Plain Lean: a record of the journal as a sector, and back.
-/
namespace Pl.Seat
/-- a record -/
structure Rec where
  epoch : Int
  seq : Int
  kind : Int
  name : L
  old : L
  new : L
  tail : Int
  num : Int
deriving DecidableEq
def Rec.zero : Rec := ⟨0, 0, 0, [], [], [], 0, 0⟩
def nameByte (c : UInt8) : Bool := (decide (97 ≤ c.toNat) && decide (c.toNat ≤ 122)) || (decide (48 ≤ c.toNat) && decide (c.toNat ≤ 57)) || decide (c.toNat = 45)
/-- is a text a name? -/
def isName (s : L) : Bool := decide (1 ≤ s.length) && decide (s.length ≤ 12) && s.all nameByte
def isHash (s : L) : Bool := decide (s.length = 0) || decide (s.length = 32)
/-- may a record be? -/
def isR (r : Rec) : Bool :=
  decide (1 ≤ r.epoch) && decide (r.epoch ≤ 4294967295) && decide (0 ≤ r.seq) && decide (r.seq ≤ 4095) && decide (1 ≤ r.kind) && decide (r.kind ≤ 2) && isName r.name && isHash r.old && isHash r.new && !(decide (r.old.length = 0) && decide (r.new.length = 0)) && decide (0 ≤ r.tail) && decide (r.tail ≤ 524288) && decide (1 ≤ r.num) && decide (r.num ≤ 4294967296)
theorem isR_iff (r : Rec) : isR r = true ↔ 1 ≤ r.epoch ∧ r.epoch ≤ 4294967295 ∧ 0 ≤ r.seq ∧ r.seq ≤ 4095 ∧ 1 ≤ r.kind ∧ r.kind ≤ 2 ∧ isName r.name = true ∧ isHash r.old = true ∧ isHash r.new = true ∧ ¬ (r.old.length = 0 ∧ r.new.length = 0) ∧ 0 ≤ r.tail ∧ r.tail ≤ 524288 ∧ 1 ≤ r.num ∧ r.num ≤ 4294967296 := by
  unfold isR
  generalize isName r.name = a
  generalize isHash r.old = b
  generalize isHash r.new = c
  simp [and_assoc]
  intros
  by_cases h : r.old = [] <;> simp [h]
/-- a record's fields, one behind the other -/
def f8 (a b c : Nat) (x y z : L) (d e : Nat) : L := put a ++ (put b ++ (put c ++ (putT x ++ (putT y ++ (putT z ++ (put d ++ put e))))))
def textR (r : Rec) : L := 82 :: f8 r.epoch.toNat r.seq.toNat r.kind.toNat r.name r.old r.new r.tail.toNat r.num.toNat
theorem put_short (n : Nat) (h : n < 34359738368) : (put n).length ≤ 5 := by
  unfold put
  have a1 : n / 128 < 268435456 := by omega
  have a2 : n / 128 / 128 < 2097152 := by omega
  have a3 : n / 128 / 128 / 128 < 16384 := by omega
  have a4 : n / 128 / 128 / 128 / 128 < 128 := by omega
  repeat (rw [putF]; split; simp)
  simp_all
theorem put_one (n : Nat) (h : n < 128) : (put n).length = 1 := by
  unfold put putF
  rw [if_pos h]; rfl
theorem textR_len (r : Rec) (h : isR r = true) : (textR r).length ≤ 110 := by
  obtain ⟨a1, a2, a3, a4, a5, a6, a7, a8, a9, a10, a11, a12, a13, a14⟩ := (isR_iff r).1 h
  have n1 : r.name.length ≤ 12 := by unfold isName at a7; simp at a7; omega
  have n2 : r.old.length ≤ 32 := by unfold isHash at a8; simp at a8; rcases a8 with h | h <;> simp [h]
  have n3 : r.new.length ≤ 32 := by unfold isHash at a9; simp at a9; rcases a9 with h | h <;> simp [h]
  unfold textR f8 putT
  have := put_short r.epoch.toNat (by omega)
  have := put_short r.seq.toNat (by omega)
  have := put_short r.kind.toNat (by omega)
  have := put_short r.tail.toNat (by omega)
  have := put_short r.num.toNat (by omega)
  have := put_one r.name.length (by omega)
  have := put_one r.old.length (by omega)
  have := put_one r.new.length (by omega)
  simp; omega
/-- the fields that a scan gives -/
def r8 (m1 m2 m3 k1 k2 k3 m4 m5 : Nat) (st : Option L) : Rec × Option L :=
  let s1 := numR m1 st
  let s2 := numR m2 s1
  let s3 := numR m3 s2
  let s4 := txtR k1 s3
  let s5 := txtR k2 s4
  let s6 := txtR k3 s5
  let s7 := numR m4 s6
  (⟨numV m1 st, numV m2 s1, numV m3 s2, txtV k1 s3, txtV k2 s4, txtV k3 s5, numV m4 s6, numV m5 s7⟩, numR m5 s7)
theorem r8_some {m1 m2 m3 k1 k2 k3 m4 m5 : Nat} {l r : L} (h1 : m1 < 18446744073709551616) (h2 : m2 < 18446744073709551616) (h3 : m3 < 18446744073709551616) (j1 : k1 < 18446744073709551616) (j2 : k2 < 18446744073709551616) (j3 : k3 < 18446744073709551616) (h4 : m4 < 18446744073709551616) (h5 : m5 < 18446744073709551616)
    {x : Rec} (hx : r8 m1 m2 m3 k1 k2 k3 m4 m5 (some l) = (x, some r)) :
    l = f8 x.epoch.toNat x.seq.toNat x.kind.toNat x.name x.old x.new x.tail.toNat x.num.toNat ++ r := by
  unfold r8 at hx
  simp only [Prod.mk.injEq] at hx
  obtain ⟨rfl, h⟩ := hx
  simp only [Int.toNat_natCast]
  obtain ⟨e8, _⟩ := numR_some h5 h
  obtain ⟨e7, _⟩ := numR_some h4 e8
  obtain ⟨e6, _⟩ := txtR_some j3 e7
  obtain ⟨e5, _⟩ := txtR_some j2 e6
  obtain ⟨e4, _⟩ := txtR_some j1 e5
  obtain ⟨e3, _⟩ := numR_some h3 e4
  obtain ⟨e2, _⟩ := numR_some h2 e3
  obtain ⟨e1, _⟩ := numR_some h1 e2
  have := Option.some.inj e1
  simp only [f8, List.append_assoc]
  exact this
theorem r8_put (m1 m2 m3 k1 k2 k3 m4 m5 a b c : Nat) (x y z : L) (d e : Nat) (r : L) (h1 : m1 < 18446744073709551616) (h2 : m2 < 18446744073709551616) (h3 : m3 < 18446744073709551616) (j1 : k1 < 18446744073709551616) (j2 : k2 < 18446744073709551616) (j3 : k3 < 18446744073709551616) (h4 : m4 < 18446744073709551616) (h5 : m5 < 18446744073709551616)
    (q1 : a ≤ m1) (q2 : b ≤ m2) (q3 : c ≤ m3) (p1 : x.length ≤ k1) (p2 : y.length ≤ k2) (p3 : z.length ≤ k3) (q4 : d ≤ m4) (q5 : e ≤ m5) :
    r8 m1 m2 m3 k1 k2 k3 m4 m5 (some (f8 a b c x y z d e ++ r)) = (⟨a, b, c, x, y, z, d, e⟩, some r) := by
  unfold r8
  have e0 : f8 a b c x y z d e ++ r = put a ++ (put b ++ (put c ++ (putT x ++ (putT y ++ (putT z ++ (put d ++ (put e ++ r))))))) := by simp [f8]
  rw [e0]
  obtain ⟨a1, a2⟩ := num_put m1 a (put b ++ (put c ++ (putT x ++ (putT y ++ (putT z ++ (put d ++ (put e ++ r))))))) h1 q1
  obtain ⟨b1, b2⟩ := num_put m2 b (put c ++ (putT x ++ (putT y ++ (putT z ++ (put d ++ (put e ++ r)))))) h2 q2
  obtain ⟨c1, c2⟩ := num_put m3 c (putT x ++ (putT y ++ (putT z ++ (put d ++ (put e ++ r))))) h3 q3
  obtain ⟨d1, d2⟩ := txt_put k1 x (putT y ++ (putT z ++ (put d ++ (put e ++ r)))) j1 p1
  obtain ⟨e1, e2⟩ := txt_put k2 y (putT z ++ (put d ++ (put e ++ r))) j2 p2
  obtain ⟨f1, f2⟩ := txt_put k3 z (put d ++ (put e ++ r)) j3 p3
  obtain ⟨g1, g2⟩ := num_put m4 d (put e ++ r) h4 q4
  obtain ⟨i1, i2⟩ := num_put m5 e r h5 q5
  simp only [a1, a2, b1, b2, c1, c2, d1, d2, e1, e2, f1, f2, g1, g2, i1, i2]
theorem rec_nat (x : Rec) (h : isR x = true) : (⟨(x.epoch.toNat : Int), (x.seq.toNat : Int), (x.kind.toNat : Int), x.name, x.old, x.new, (x.tail.toNat : Int), (x.num.toNat : Int)⟩ : Rec) = x := by
  obtain ⟨a1, a2, a3, a4, a5, a6, a7, a8, a9, a10, a11, a12, a13, a14⟩ := (isR_iff x).1 h
  rw [Int.toNat_of_nonneg (by omega), Int.toNat_of_nonneg (by omega), Int.toNat_of_nonneg (by omega), Int.toNat_of_nonneg (by omega), Int.toNat_of_nonneg (by omega)]
section
variable (tail : L → L) (ht : ∀ l, (tail l).length = 4)
include ht
def putR (r : Rec) : L := sealedS tail (textR r)
theorem putR_len (r : Rec) (h : isR r = true) : (putR tail r).length = 128 := sealed_len tail _ (by have := textR_len r h; omega) ht
/-- the record of a sector -/
def takeR (l : L) : Option Rec :=
  match textOf tail l with
  | none => none
  | some t => if t.head? = some 82 ∧ (r8 4294967295 4096 2 12 32 32 524288 4294967296 (some (t.drop 1))).2 = some [] ∧ isR (r8 4294967295 4096 2 12 32 32 524288 4294967296 (some (t.drop 1))).1 = true then some (r8 4294967295 4096 2 12 32 32 524288 4294967296 (some (t.drop 1))).1 else none
theorem takeR_iff (l : L) (x : Rec) : takeR tail l = some x ↔ isR x = true ∧ putR tail x = l := by
  unfold takeR
  constructor
  · intro hx
    cases hb : textOf tail l with
    | none => rw [hb] at hx; simp at hx
    | some t =>
      rw [hb] at hx
      simp only at hx
      obtain ⟨p, hp⟩ : ∃ p, r8 4294967295 4096 2 12 32 32 524288 4294967296 (some (t.drop 1)) = p := ⟨_, rfl⟩
      rw [hp] at hx
      obtain ⟨y, st⟩ := p
      simp only at hx
      by_cases hc : t.head? = some 82 ∧ st = some [] ∧ isR y = true
      · rw [if_pos hc] at hx
        obtain rfl := Option.some.inj hx
        obtain ⟨c1, rfl, c3⟩ := hc
        have e := r8_some (by omega) (by omega) (by omega) (by omega) (by omega) (by omega) (by omega) (by omega) hp
        refine ⟨c3, ?_⟩
        have et : t = textR y := by
          cases t with
          | nil => simp at c1
          | cons c t =>
            simp at c1
            subst c1
            unfold textR
            rw [List.append_nil] at e
            rw [← e]
            rfl
        unfold putR
        rw [← et]
        exact ((textOf_iff tail ht l t (by rw [et]; have := textR_len y c3; omega)).1 hb).symm
      · rw [if_neg hc] at hx; simp at hx
  · rintro ⟨h1, rfl⟩
    have hl := textR_len x h1
    rw [show textOf tail (putR tail x) = some (textR x) from (textOf_iff tail ht _ (textR x) (by omega)).2 rfl]
    simp only
    obtain ⟨a1, a2, a3, a4, a5, a6, a7, a8, a9, a10, a11, a12, a13, a14⟩ := (isR_iff x).1 h1
    have n1 : x.name.length ≤ 12 := by unfold isName at a7; simp at a7; omega
    have n2 : x.old.length ≤ 32 := by unfold isHash at a8; simp at a8; rcases a8 with h | h <;> simp [h]
    have n3 : x.new.length ≤ 32 := by unfold isHash at a9; simp at a9; rcases a9 with h | h <;> simp [h]
    have e2 : (textR x).drop 1 = f8 x.epoch.toNat x.seq.toNat x.kind.toNat x.name x.old x.new x.tail.toNat x.num.toNat ++ [] := by unfold textR; simp
    rw [e2, r8_put _ _ _ _ _ _ _ _ _ _ _ _ _ _ _ _ _ (by omega) (by omega) (by omega) (by omega) (by omega) (by omega) (by omega) (by omega) (by omega) (by omega) (by omega) n1 n2 n3 (by omega) (by omega), rec_nat x h1, if_pos ⟨rfl, rfl, h1⟩]
def refTakeR (l : L) : Option Rec :=
  match textOf tail l with
  | none => none
  | some s => if 1 ≤ s.length ∧ (r8 4294967296 4294967296 4294967296 128 128 128 4294967296 4294967296 (some (s.drop 1))).2 ≠ none ∧ isR (r8 4294967296 4294967296 4294967296 128 128 128 4294967296 4294967296 (some (s.drop 1))).1 = true ∧ putR tail (r8 4294967296 4294967296 4294967296 128 128 128 4294967296 4294967296 (some (s.drop 1))).1 = l then some (r8 4294967296 4294967296 4294967296 128 128 128 4294967296 4294967296 (some (s.drop 1))).1 else none
theorem refTakeR_iff (l : L) (x : Rec) : refTakeR tail l = some x ↔ isR x = true ∧ putR tail x = l := by
  unfold refTakeR
  constructor
  · intro hx
    cases hb : textOf tail l with
    | none => rw [hb] at hx; simp at hx
    | some t =>
      rw [hb] at hx
      simp only at hx
      obtain ⟨p, hp⟩ : ∃ p, r8 4294967296 4294967296 4294967296 128 128 128 4294967296 4294967296 (some (t.drop 1)) = p := ⟨_, rfl⟩
      rw [hp] at hx
      by_cases hc : 1 ≤ t.length ∧ p.2 ≠ none ∧ isR p.1 = true ∧ putR tail p.1 = l
      · rw [if_pos hc] at hx
        obtain rfl := Option.some.inj hx
        exact ⟨hc.2.2.1, hc.2.2.2⟩
      · rw [if_neg hc] at hx; simp at hx
  · rintro ⟨h1, rfl⟩
    have hl := textR_len x h1
    rw [show textOf tail (putR tail x) = some (textR x) from (textOf_iff tail ht _ (textR x) (by omega)).2 rfl]
    simp only
    obtain ⟨a1, a2, a3, a4, a5, a6, a7, a8, a9, a10, a11, a12, a13, a14⟩ := (isR_iff x).1 h1
    have n1 : x.name.length ≤ 12 := by unfold isName at a7; simp at a7; omega
    have n2 : x.old.length ≤ 32 := by unfold isHash at a8; simp at a8; rcases a8 with h | h <;> simp [h]
    have n3 : x.new.length ≤ 32 := by unfold isHash at a9; simp at a9; rcases a9 with h | h <;> simp [h]
    have e2 : (textR x).drop 1 = f8 x.epoch.toNat x.seq.toNat x.kind.toNat x.name x.old x.new x.tail.toNat x.num.toNat ++ [] := by unfold textR; simp
    rw [e2, r8_put _ _ _ _ _ _ _ _ _ _ _ _ _ _ _ _ _ (by omega) (by omega) (by omega) (by omega) (by omega) (by omega) (by omega) (by omega) (by omega) (by omega) (by omega) (by omega) (by omega) (by omega) (by omega) (by omega), rec_nat x h1, if_pos ⟨by simp [textR], by simp, h1, rfl⟩]
theorem refTakeR_eq (l : L) : refTakeR tail l = takeR tail l := by
  cases h : takeR tail l with
  | some x => exact (refTakeR_iff tail ht l x).2 ((takeR_iff tail ht l x).1 h)
  | none =>
    cases h2 : refTakeR tail l with
    | none => rfl
    | some y => rw [(takeR_iff tail ht l y).2 ((refTakeR_iff tail ht l y).1 h2)] at h; simp at h
end
end Pl.Seat
