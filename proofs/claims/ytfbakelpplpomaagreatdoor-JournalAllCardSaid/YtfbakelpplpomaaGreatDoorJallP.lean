/-
  JournalAll, the plain law: what an Append that may be cut off leaves.
-/
import Derived.Test.YtfbakelpplpomaaGreatDoorJournI
import Derived.Test.YtfbakelpplpomaaGreatDoorJournC
import Derived.Laws.StructEq
import Derived.Deep.QuietTactic
import Derived.BigQuiet
import Derived.Test.YtfbakelpplpomaaGreatDoorWalkDiskJ
import Derived.Deep.RegionLaw
namespace Go.Proofs.YtfbakelpplpomaaGreatDoor.Disk
open Go.Proofs.YtfbakelpplpomaaGreatDoor.WalkSeat (rc putRV isRB isRV takeRB takeRV)
open Pl.Seat (Rec isR)
set_option linter.unusedVariables false
set_option linter.unusedSimpArgs false

/-- the sectors of half 1 of a disk of 40 have these records, and noughts behind them -/
structure Hv (S : List ByteArray) (ep : Nat) (L : List Rec) : Prop where
  len : S.length = 40
  recs : ∀ i, i < L.length → S[39 - i]? = some (WalkVar.bs (putRV (L.getD i Rec.zero))) ∧ isR (L.getD i Rec.zero) = true ∧ (L.getD i Rec.zero).epoch = ep ∧ (L.getD i Rec.zero).seq = i
  zero : S[39 - L.length]? = some (bs (zeros 128))
theorem placeV_40 (k : Nat) : placeV 40 1 k = 39 - k := by
  unfold placeV firstV halfV
  rw [if_pos rfl]
theorem isRB_put (x : Rec) (h : isR x = true) (ep sq : Nat) (he : x.epoch = ep) (hs : x.seq = sq) : isRB (putRV x) ep sq = true ∧ isRV (putRV x) ep sq = x := by
  have hb : isRB (putRV x) ep sq = true := by
    have hp : putRV x = Pl.Seat.putR WalkSeat.tailU x := by unfold putRV; rw [if_pos h]
    have hh := (Pl.Seat.takeR_iff WalkSeat.tailU WalkSeat.tailU_len (putRV x) x).2 ⟨h, hp.symm⟩
    unfold isRB takeRB takeRV
    rw [hh]
    simp [he, hs]
  refine ⟨hb, ?_⟩
  unfold isRV
  rw [if_pos hb]
  have hp : putRV x = Pl.Seat.putR WalkSeat.tailU x := by unfold putRV; rw [if_pos h]
  have hh := (Pl.Seat.takeR_iff WalkSeat.tailU WalkSeat.tailU_len (putRV x) x).2 ⟨h, hp.symm⟩
  unfold takeRV
  rw [hh]
  rfl
theorem isRB_zeros (ep sq : Int) : isRB (zeros 128) ep sq = false := by
  have h1 := WalkSeat.takeR_zeros.2
  rw [show WalkSeat.zeros 128 = zeros 128 from rfl] at h1
  unfold isRB
  rw [h1]
  simp
theorem getD_of_get {S : List ByteArray} {p : Nat} {x : ByteArray} (h : S[p]? = some x) : S.getD p ByteArray.empty = x := by
  rw [List.getD_eq_getElem?_getD, h]
  rfl
/-- what is read -/
theorem Hv.read {S : List ByteArray} {ep : Nat} {L : List Rec} (h : Hv S ep L) (hL : L.length < 19) (d : Dk) (hH : d.H = S) (hS : d.S.length = 40) : jrecs d 1 ep = L := by
  have hsh : ∀ k, shown d 1 k = (S.getD (39 - k) ByteArray.empty).data.toList := fun k => by
    unfold shown
    rw [hS, placeV_40, hH]
  have h40 : halfV d.S.length = 19 := by rw [hS]; rfl
  have key : ∀ f k, k ≤ L.length → k + f = 19 → jscan (shown d 1) ep f k = L.drop k := by
    intro f
    induction f with
    | zero => intro k hk hf; omega
    | succ f ih =>
      intro k hk hf
      rw [jscan, hsh]
      rcases Nat.lt_or_ge k L.length with g | g
      · obtain ⟨r1, r2, r3, r4⟩ := h.recs k g
        rw [getD_of_get r1, WalkVar.bs_list]
        obtain ⟨b1, b2⟩ := isRB_put _ r2 ep k r3 r4
        rw [if_pos b1, b2, ih (k + 1) (by omega) (by omega)]
        have e : L.getD k Rec.zero = L[k] := by simp [List.getD_eq_getElem?_getD, List.getElem?_eq_getElem g]
        rw [e, ← List.drop_eq_getElem_cons g]
      · obtain rfl : k = L.length := by omega
        rw [getD_of_get h.zero, bs_list, isRB_zeros, if_neg (by decide), List.drop_length]
  unfold jrecs
  rw [h40, key 19 0 (by omega) (by omega), List.drop_zero]
/-- a sector behind the noughts is written -/
theorem Hv.other {S : List ByteArray} {ep : Nat} {L : List Rec} (h : Hv S ep L) (hL : L.length < 19) (q : Nat) (hq : L.length < q) (hq2 : q ≤ 39) (x : ByteArray) : Hv (S.set (39 - q) x) ep L := by
  refine ⟨by rw [List.length_set]; exact h.len, fun i hi => ⟨?_, (h.recs i hi).2⟩, ?_⟩
  · rw [List.getElem?_set_ne (by omega)]
    exact (h.recs i hi).1
  · rw [List.getElem?_set_ne (by omega)]
    exact h.zero
/-- the next record, and noughts behind it -/
theorem Hv.next {S : List ByteArray} {ep : Nat} {L : List Rec} (h : Hv S ep L) (hL : L.length < 18) (x : Rec) (hx : isR x = true) (he : x.epoch = ep) (hs : x.seq = L.length) : Hv ((S.set (39 - (L.length + 1)) (bs (zeros 128))).set (39 - L.length) (WalkVar.bs (putRV x))) ep (L ++ [x]) := by
  have hlen := h.len
  refine ⟨by rw [List.length_set, List.length_set]; exact h.len, fun i hi => ?_, ?_⟩
  · rw [List.length_append, List.length_singleton] at hi
    rcases Nat.lt_or_ge i L.length with g | g
    · have e : (L ++ [x]).getD i Rec.zero = L.getD i Rec.zero := by simp [List.getD_eq_getElem?_getD, List.getElem?_append_left g]
      rw [e, List.getElem?_set_ne (by omega), List.getElem?_set_ne (by omega)]
      exact h.recs i g
    · obtain rfl : i = L.length := by omega
      have e : (L ++ [x]).getD L.length Rec.zero = x := by simp [List.getD_eq_getElem?_getD]
      rw [e, List.getElem?_set_self (by rw [List.length_set]; omega)]
      exact ⟨rfl, hx, he, hs⟩
  · rw [List.length_append, List.length_singleton, List.getElem?_set_ne (by omega), List.getElem?_set_self (by omega)]
/-- all that a play keeps -/
structure Jok (d : Dk) (ep : Nat) (L : List Rec) : Prop where
  S : Hv d.S ep L
  H : d.H = d.S
  C : d.C = []
  armed : d.armed = 0
  down : d.down = false
  sz : ∀ x ∈ d.S, x.size = 128
theorem set_sz {S : List ByteArray} (h : ∀ x ∈ S, x.size = 128) (p : Nat) {y : ByteArray} (hy : y.size = 128) : ∀ x ∈ S.set p y, x.size = 128 := by
  intro x hx
  rcases List.mem_or_eq_of_mem_set hx with hx | rfl
  · exact h x hx
  · exact hy
theorem z128 : (bs (zeros 128)).size = 128 := by rw [bs_size]; simp [zeros]
/-- a write where nothing is armed, or more than one step is to come -/
theorem jw_go (d : Dk) (ha : d.armed ≠ 1) (hd : d.down = false) (i : Nat) (hi : i < d.S.length) (s : ByteArray) (hs : s.size = 128) : d.write i s = ({ S := d.S, H := d.H.set i s, C := d.C ++ [(i, s)], armed := d.armed - 1, down := false, ops := d.ops + 1 }, 0) := by
  have hh : d.has (i : Nat) := ⟨by omega, by omega⟩
  unfold Dk.write
  rw [if_neg (by simp [hd]), if_pos hh, if_pos hs, if_neg (by simp [Dk.step, ha])]
  simp [Dk.step, ha, hd]
theorem jw_stop (d : Dk) (ha : d.armed = 1) (hd : d.down = false) (i : Nat) (hi : i < d.S.length) (s : ByteArray) (hs : s.size = 128) : d.write i s = ({ d with armed := 0, down := true }, 7) := by
  have hh : d.has (i : Nat) := ⟨by omega, by omega⟩
  unfold Dk.write
  rw [if_neg (by simp [hd]), if_pos hh, if_pos hs, if_pos (by simp [Dk.step, ha])]
  simp [Dk.step, ha, hd]
theorem jf_go (d : Dk) (ha : d.armed ≠ 1) (hd : d.down = false) : d.flush = ({ S := shows d.S d.C, H := d.H, C := [], armed := d.armed - 1, down := false, ops := d.ops + 1 }, 0) := by
  unfold Dk.flush
  rw [if_neg (by simp [hd]), if_neg (by simp [Dk.step, ha])]
  simp [Dk.step, ha, hd]
theorem jf_stop (d : Dk) (ha : d.armed = 1) (hd : d.down = false) : d.flush = ({ d with armed := 0, down := true }, 7) := by
  unfold Dk.flush
  rw [if_neg (by simp [hd]), if_pos (by simp [Dk.step, ha])]
  simp [Dk.step, ha, hd]
/-- an Append, the disk armed or not: how the sure sectors stand, and what was not flushed -/
theorem jput_cases (d : Dk) (hd : d.down = false) (hC : d.C = []) (p0 p1 : Nat) (hp0 : p0 < d.S.length) (hp1 : p1 < d.S.length) (z s : ByteArray) (hz : z.size = 128) (hs : s.size = 128) :
    ((jput d p0 p1 z s).2 = 7 ∧ (((jput d p0 p1 z s).1.S = d.S ∧ ((jput d p0 p1 z s).1.C = [] ∨ (jput d p0 p1 z s).1.C = [(p0, z)])) ∨ ((jput d p0 p1 z s).1.S = d.S.set p0 z ∧ ((jput d p0 p1 z s).1.C = [] ∨ (jput d p0 p1 z s).1.C = [(p1, s)])))) ∨
    ((jput d p0 p1 z s).2 = 0 ∧ (jput d p0 p1 z s).1.S = (d.S.set p0 z).set p1 s ∧ (jput d p0 p1 z s).1.C = [] ∧ (jput d p0 p1 z s).1.H = (d.H.set p0 z).set p1 s ∧ (jput d p0 p1 z s).1.down = false ∧ (d.armed = 0 → (jput d p0 p1 z s).1.armed = 0)) := by
  unfold jput
  by_cases a1 : d.armed = 1
  · rw [jw_stop d a1 hd p0 hp0 z hz]
    left
    simp [hC]
  · rw [jw_go d a1 hd p0 hp0 z hz]
    simp only [ne_eq, not_true_eq_false, if_false]
    by_cases a2 : d.armed - 1 = 1
    · rw [jf_stop _ a2 rfl]
      left
      simp [hC]
    · rw [jf_go _ a2 rfl]
      simp only [ne_eq, not_true_eq_false, if_false]
      have hsh : shows d.S (d.C ++ [(p0, z)]) = d.S.set p0 z := by rw [hC]; rfl
      rw [hsh]
      by_cases a3 : d.armed - 1 - 1 = 1
      · rw [jw_stop _ a3 rfl p1 (by simp; exact hp1) s hs]
        left
        simp
      · rw [jw_go _ a3 rfl p1 (by simp; exact hp1) s hs]
        simp only [ne_eq, not_true_eq_false, if_false]
        by_cases a4 : d.armed - 1 - 1 - 1 = 1
        · rw [jf_stop _ a4 rfl]
          left
          simp
        · rw [jf_go _ a4 rfl]
          right
          refine ⟨rfl, ?_, rfl, rfl, rfl, fun h => by simp [h]⟩
          simp [shows]
end Go.Proofs.YtfbakelpplpomaaGreatDoor.Disk
/-
  JournalAll, the plain law: all or nothing.
-/
namespace Go.Proofs.YtfbakelpplpomaaGreatDoor.Disk
open Go.Proofs.YtfbakelpplpomaaGreatDoor.WalkSeat (rc putRV isRB isRV takeRB takeRV)
open Pl.Seat (Rec isR)
set_option linter.unusedVariables false
set_option linter.unusedSimpArgs false

/-- a record as the journal puts it -/
def jrec (x : Rec) (ep n : Nat) : Rec := { x with epoch := ep, seq := n }
theorem jrec_at (x : Rec) (ep n : Nat) : (jrec x ep n).epoch = ep ∧ (jrec x ep n).seq = n := ⟨rfl, rfl⟩
theorem appV_bad (d : Dk) (ep n : Nat) (x : Rec) (h : isR (jrec x ep n) = false) : appV d 1 ep n x = (d, 2) := by
  unfold appV
  show (if isR (jrec x ep n) = false then _ else _) = _
  rw [if_pos h]
theorem appV_good (d : Dk) (ep n : Nat) (x : Rec) (h : isR (jrec x ep n) = true) (hS : d.S.length = 40) (hn : n < 18) : appV d 1 ep n x = jput d (39 - (n + 1)) (39 - n) (bs (zeros 128)) (WalkVar.bs (putRV (jrec x ep n))) := by
  unfold appV
  have hh : halfV 40 = 19 := rfl
  show (if isR (jrec x ep n) = false then _ else _) = _
  rw [if_neg (by rw [h]; decide), hS, hh, if_neg (by omega), placeV_40, placeV_40]
  rfl
theorem jput_ops (d : Dk) (p0 p1 : Nat) (z s : ByteArray) : (jput d p0 p1 z s).1.ops ≤ d.ops + 4 ∧ (jput d p0 p1 z s).1.C.length ≤ d.C.length + 2 := by
  have g1 := jwrite_grows d p0 z
  have g2 := jflush_grows (d.write p0 z).1
  have g3 := jwrite_grows (d.write p0 z).1.flush.1 p1 s
  have g4 := jflush_grows ((d.write p0 z).1.flush.1.write p1 s).1
  unfold jput
  split
  · omega
  · split
    · omega
    · split
      · omega
      · omega
theorem Jok.append {d : Dk} {ep : Nat} {L : List Rec} (h : Jok d ep L) (hL : L.length < 18) (x : Rec) :
    (isR (jrec x ep L.length) = false ∧ appV d 1 ep L.length x = (d, 2)) ∨ (isR (jrec x ep L.length) = true ∧ (appV d 1 ep L.length x).2 = 0 ∧ Jok (appV d 1 ep L.length x).1 ep (L ++ [jrec x ep L.length]) ∧ (appV d 1 ep L.length x).1.ops ≤ d.ops + 4) := by
  cases hi : isR (jrec x ep L.length)
  · exact .inl ⟨rfl, appV_bad d ep _ x hi⟩
  · right
    have hS := h.S.len
    rw [appV_good d ep _ x hi hS hL]
    have hz := putRV_size _ hi
    obtain ⟨c1, c2, c3, c4⟩ := jput_free d h.armed h.down (39 - (L.length + 1)) (39 - L.length) (by omega) (by omega) _ _ z128 hz
    have hc := jput_cases d h.down h.C (39 - (L.length + 1)) (39 - L.length) (by omega) (by omega) _ _ z128 hz
    rcases hc with hc | hc
    · rw [c1] at hc; exact absurd hc.1 (by decide)
    · obtain ⟨e1, e2, e3, e4, e5, e6⟩ := hc
      have hn := h.S.next hL (jrec x ep L.length) hi rfl rfl
      refine ⟨rfl, e1, ⟨by rw [e2]; exact hn, by rw [e4, e2, h.H], e3, e6 h.armed, e5, by rw [e2]; exact set_sz (set_sz h.sz _ z128) _ hz⟩, (jput_ops d _ _ _ _).1⟩
theorem Jok.over {d : Dk} {ep : Nat} {L : List Rec} (h : Jok d ep L) (hL : L.length < 18) (q : Nat) (hq : L.length < q) (hq2 : q < 19) (x : ByteArray) (hx : x.size = 128) :
    Jok (d.over ((39 - q : Nat) : Int) x).1 ep L ∧ (d.over ((39 - q : Nat) : Int) x).1.ops = d.ops := by
  have hS := h.S.len
  have hh : d.has ((39 - q : Nat) : Int) := ⟨by omega, by omega⟩
  have e : d.over ((39 - q : Nat) : Int) x = ({ d with S := d.S.set (39 - q) x, H := shows (d.S.set (39 - q) x) d.C }, 0) := by
    unfold Dk.over
    rw [if_pos hh, if_pos hx, Int.toNat_natCast]
  rw [e]
  exact ⟨⟨h.S.other (by omega) q hq (by omega) x, by show shows _ d.C = _; rw [h.C]; rfl, h.C, h.armed, h.down, set_sz h.sz _ hx⟩, rfl⟩
theorem keeps_none (S : List ByteArray) (l : List Int) (C : List (Nat × ByteArray)) (hC : C = []) : keeps S C l C.length = S := by
  subst hC
  rfl
theorem keeps_one (S : List ByteArray) (l : List Int) (C : List (Nat × ByteArray)) (p : Nat) (x : ByteArray) (hC : C = [(p, x)]) : keeps S C l C.length = S ∨ keeps S C l C.length = S.set p x := by
  subst hC
  show (if l.contains ((0 : Nat) : Int) then _ else _) = S ∨ (if l.contains ((0 : Nat) : Int) then _ else _) = _
  split
  · right; rfl
  · left; rfl
/-- how it ends -/
structure JEnd (d : Dk) (ep : Nat) (L : List Rec) (x : Rec) (f : Int) : Prop where
  down : d.down = false
  len : d.S.length = 40 ∧ d.H.length = 40
  sz : ∀ y ∈ d.H, y.size = 128
  ops : d.ops ≤ 700000
  all : (f ≠ 0 ∧ jrecs d 1 ep = L) ∨ (f ≠ 2 ∧ jrecs d 1 ep = L ++ [jrec x ep L.length])
theorem Jok.last {d : Dk} {ep : Nat} {L : List Rec} (h : Jok d ep L) (hL : L.length < 18) (step : Nat) (x : Rec) (l : List Int) (ho : d.ops ≤ 600000) (d1 : Dk) (e1 : (d.arm step).1 = d1) (q : Dk × Int) (eq : appV d1 1 ep L.length x = q) : JEnd ((q.1.crash l).boot) ep L x q.2 := by
  have hS := h.S.len
  have ha : d1 = { d with armed := step } := by
    rw [← e1]
    unfold Dk.arm
    rw [if_neg (by simp [h.down]), if_neg (by omega)]
    simp
  have hS1 : d1.S = d.S := by rw [ha]
  have hC1 : d1.C = [] := by rw [ha]; exact h.C
  have hd1 : d1.down = false := by rw [ha]; exact h.down
  have ho1 : d1.ops = d.ops := by rw [ha]
  -- what is kept
  have fin : ∀ K : List ByteArray, keeps q.1.S q.1.C l q.1.C.length = K → (∃ L', Hv K ep L' ∧ L'.length < 19 ∧ (∀ y ∈ K, y.size = 128) ∧ ((q.2 ≠ 0 ∧ L' = L) ∨ (q.2 ≠ 2 ∧ L' = L ++ [jrec x ep L.length]))) → q.1.ops ≤ 700000 → JEnd ((q.1.crash l).boot) ep L x q.2 := by
    intro K hK hx hop
    obtain ⟨L', h1, h2, h3, h4⟩ := hx
    have eS : ((q.1.crash l).boot).S = K := hK
    have eH : ((q.1.crash l).boot).H = K := hK
    have hr := h1.read h2 ((q.1.crash l).boot) eH (by rw [eS]; exact h1.len)
    refine ⟨rfl, ⟨by rw [eS]; exact h1.len, by rw [eH]; exact h1.len⟩, by rw [eH]; exact h3, hop, ?_⟩
    rcases h4 with ⟨h4, rfl⟩ | ⟨h4, rfl⟩
    · exact .inl ⟨h4, hr⟩
    · exact .inr ⟨h4, hr⟩
  cases hi : isR (jrec x ep L.length)
  · rw [appV_bad d1 ep _ x hi] at eq
    subst eq
    exact fin d.S (by show keeps d1.S d1.C l d1.C.length = _; rw [keeps_none _ _ _ hC1, hS1]) ⟨L, h.S, by omega, h.sz, .inl ⟨by show (2 : Int) ≠ 0; decide, rfl⟩⟩ (by show d1.ops ≤ _; omega)
  · rw [appV_good d1 ep _ x hi (by rw [hS1]; exact hS) hL] at eq
    have hz := putRV_size _ hi
    have hc := jput_cases d1 hd1 hC1 (39 - (L.length + 1)) (39 - L.length) (by rw [hS1]; omega) (by rw [hS1]; omega) _ _ z128 hz
    have hop := (jput_ops d1 (39 - (L.length + 1)) (39 - L.length) (bs (zeros 128)) (WalkVar.bs (putRV (jrec x ep L.length)))).1
    rw [eq, hS1] at hc
    rw [eq] at hop
    have hop' : q.1.ops ≤ 700000 := by omega
    have h0 := h.S.other (by omega) (L.length + 1) (by omega) (by omega) (bs (zeros 128))
    have s0 := set_sz h.sz (39 - (L.length + 1)) z128
    have h2 := h.S.next hL (jrec x ep L.length) hi rfl rfl
    have s2 := set_sz s0 (39 - L.length) hz
    have hl2 : (L ++ [jrec x ep L.length]).length < 19 := by simp; omega
    rcases hc with ⟨hf, hc | hc⟩ | ⟨hf, hS2, hC2, -⟩
    · obtain ⟨hSq, hCq | hCq⟩ := hc
      · exact fin d.S (by rw [keeps_none _ _ _ hCq, hSq]) ⟨L, h.S, by omega, h.sz, .inl ⟨by rw [hf]; decide, rfl⟩⟩ hop'
      · rcases keeps_one q.1.S l _ _ _ hCq with hk | hk
        · exact fin d.S (by rw [hk, hSq]) ⟨L, h.S, by omega, h.sz, .inl ⟨by rw [hf]; decide, rfl⟩⟩ hop'
        · exact fin _ hk ⟨L, by rw [hSq]; exact h0, by omega, by rw [hSq]; exact s0, .inl ⟨by rw [hf]; decide, rfl⟩⟩ hop'
    · obtain ⟨hSq, hCq | hCq⟩ := hc
      · exact fin _ (by rw [keeps_none _ _ _ hCq, hSq]) ⟨L, h0, by omega, s0, .inl ⟨by rw [hf]; decide, rfl⟩⟩ hop'
      · rcases keeps_one q.1.S l _ _ _ hCq with hk | hk
        · exact fin _ (by rw [hk, hSq]) ⟨L, h0, by omega, s0, .inl ⟨by rw [hf]; decide, rfl⟩⟩ hop'
        · exact fin _ hk ⟨_, by rw [hSq]; exact h2, hl2, by rw [hSq]; exact s2, .inr ⟨by rw [hf]; decide, rfl⟩⟩ hop'
    · exact fin _ (by rw [keeps_none _ _ _ hC2, hS2]) ⟨_, h2, hl2, s2, .inr ⟨by rw [hf]; decide, rfl⟩⟩ hop'
/-- the fresh disk -/
theorem jok_fresh (ep : Nat) (d : Dk) (hS : d.S = List.replicate 40 (bs (zeros 128))) (hH : d.H = d.S) (hC : d.C = []) (ha : d.armed = 0) (hd : d.down = false) : Jok d ep [] := by
  refine ⟨⟨by rw [hS]; simp, fun i hi => absurd hi (by simp), ?_⟩, hH, hC, ha, hd, fun y hy => ?_⟩
  · rw [hS, List.getElem?_replicate]
    rfl
  · rw [hS] at hy
    obtain ⟨-, rfl⟩ := List.mem_replicate.1 hy
    exact z128
end Go.Proofs.YtfbakelpplpomaaGreatDoor.Disk
/-
  JournalAll: the walks of the document's areas, of Same, of Bytes.
-/
namespace Go.Proofs.YtfbakelpplpomaaGreatDoor.Disk
open Go.RowKit Go.Proofs.YtfbakelpplpomaaGreatDoor.DiskRows
open Pl.Seat (Rec)
set_option linter.unusedVariables false
set_option linter.unusedSimpArgs false
set_option maxRecDepth 100000

theorem refHalf_ok (n v : Nat) (w : World) (h : 16 ≤ n ∧ n ≤ 4096) (hv : halfV n = v) :
    Calls Tryz.prog 10 #[.int .i64 n] w fun x w' => x = .returned (.int .i64 (v : Nat)) ∧ w = w' := by
  have h1 : (16 : Int) ≤ (n : Int) := by omega
  have h2 : (n : Int) ≤ 4096 := by omega
  have hw1 : IntKind.i64.wrap ((n : Int) - 2) = (n : Int) - 2 := by rw [IntKind.wrap_i64]; omega
  have hq : Int.tdiv ((n : Int) - 2) 2 = (v : Int) := by
    rw [Int.tdiv_eq_ediv_of_nonneg (by omega)]
    unfold halfV at hv
    omega
  have hvb : (v : Int) ≤ 4096 := by unfold halfV at hv; omega
  clear h hv
  go_enter Tryz.func10, Tryz.ntmps10
  go_wp2
  go_ret
  exact ⟨rfl, rfl⟩
theorem refFirst_ok (n half f : Nat) (w : World) (h : 16 ≤ n ∧ n ≤ 4096) (hh : half ≤ 1) (hf : firstV n half = f) :
    Calls Tryz.prog 45 #[.int .i64 n, .int .i64 half] w fun x w' => x = .returned (.int .i64 (f : Nat)) ∧ w = w' := by
  obtain ⟨v, hv⟩ : ∃ v, halfV n = v := ⟨_, rfl⟩
  have HC := Lib.hid (refHalf_ok n v w h hv)
  have hvb : v ≤ 4096 := by rw [← hv]; unfold halfV; omega
  have hvi : (v : Int) ≤ 4096 := by omega
  unfold firstV at hf
  rw [hv] at hf
  clear h hv hvb
  have hc : half = 0 ∨ half = 1 := by omega
  rcases hc with rfl | rfl
  · rw [if_neg (by decide)] at hf
    subst hf
    go_enter Tryz.func45, Tryz.ntmps45
    go_wp2
    go_ret
    exact ⟨rfl, rfl⟩
  · rw [if_pos rfl] at hf
    have hfi : (2 : Int) + (v : Int) = (f : Int) := by omega
    have hw1 : IntKind.i64.wrap ((2 : Int) + (v : Int)) = (f : Int) := by rw [hfi, IntKind.wrap_i64]; omega
    clear hf
    go_enter Tryz.func45, Tryz.ntmps45
    go_wp2_with fail
    refine HC.out.mono ?_
    rintro x w1 ⟨rfl, rfl⟩
    go_wp2
    go_ret
    exact ⟨rfl, rfl⟩
theorem refPlace_ok (n half seq p : Nat) (w : World) (h : 16 ≤ n ∧ n ≤ 4096) (hh : half ≤ 1) (hs : seq < halfV n) (hp : placeV n half seq = p) :
    Calls Tryz.prog 12 #[.int .i64 n, .int .i64 half, .int .i64 seq] w fun x w' => x = .returned (.int .i64 (p : Nat)) ∧ w = w' := by
  obtain ⟨v, hv⟩ : ∃ v, halfV n = v := ⟨_, rfl⟩
  obtain ⟨f, hf⟩ : ∃ f, firstV n half = f := ⟨_, rfl⟩
  have HH := Lib.hid (fun W => refHalf_ok n v W h hv)
  have HF := Lib.hid (fun W => refFirst_ok n half f W h hh hf)
  have hvb : v ≤ 4096 := by rw [← hv]; unfold halfV; omega
  have hfb : f ≤ 4200 ∧ 2 ≤ f := by rw [← hf]; unfold firstV; rw [hv]; split <;> omega
  unfold placeV at hp
  rw [hv] at hs
  rw [hv, hf] at hp
  have e1 : (f : Int) + (v : Int) - 1 - (seq : Int) = (p : Int) := by omega
  have h3 : (v : Int) ≤ 4096 := by omega
  have h4 : (f : Int) ≤ 4200 := by omega
  have hw1 : IntKind.i64.wrap ((f : Int) + (v : Int)) = (f : Int) + (v : Int) := by rw [IntKind.wrap_i64]; omega
  have hw2 : IntKind.i64.wrap ((f : Int) + (v : Int) - 1) = (f : Int) + (v : Int) - 1 := by rw [IntKind.wrap_i64]; omega
  have hw3 : IntKind.i64.wrap ((f : Int) + (v : Int) - 1 - (seq : Int)) = (p : Int) := by rw [e1, IntKind.wrap_i64]; omega
  clear h hh hs hp hv hf hvb hfb e1
  go_enter Tryz.func12, Tryz.ntmps12
  go_wp2_with fail
  refine (HF.out _).mono ?_
  rintro x w1 ⟨rfl, rfl⟩
  go_wp2_with fail
  refine (HH.out _).mono ?_
  rintro x w1 ⟨rfl, rfl⟩
  go_wp2
  go_ret
  exact ⟨rfl, rfl⟩
/-- a row of records lies there -/
def RecRow (w : World) (A : Option Addr) (l : List Rec) : Prop := l = [] ∨ ∃ g off, A = some ⟨g, off, none⟩ ∧ g < w.heap.size ∧ ∀ k (h : k < l.length) j u, (rcells l[k])[j]? = some u → w.cell? ⟨g, off + k * 8 + j, none⟩ = some u
theorem RecRow.later {w w' : World} {A : Option Addr} {l : List Rec} (h : RecRow w A l) (k : Below w.heap.size w w') : RecRow w' A l := by
  rcases h with rfl | ⟨g, off, rfl, hg, hc⟩
  · exact .inl rfl
  · exact .inr ⟨g, off, rfl, Nat.lt_of_lt_of_le hg k.size, fun i hi j u hu => by rw [k.cell (p := ⟨g, off + i * 8 + j, none⟩) hg]; exact hc i hi j u hu⟩
theorem rvs_get (l : List Rec) : ∀ (k : Nat) (h : k < l.length) j u, (rcells l[k])[j]? = some u → (rvs l)[k * 8 + j]? = some u := by
  induction l with
  | nil => intro k h; simp at h
  | cons x l ih =>
    intro k h j u hu
    rw [rvs_cons]
    cases k with
    | zero =>
      have hj : j < (rcells x).length := (List.getElem?_eq_some_iff.1 hu).1
      rw [List.getElem?_append_left (by simpa using hj)]
      simpa using hu
    | succ k =>
      have hl : (rcells x).length = 8 := rfl
      rw [List.getElem?_append_right (by rw [hl]; omega), hl, show (k + 1) * 8 + j - 8 = k * 8 + j by omega]
      exact ih k (by simpa using h) j u hu
/-- a row of its own, read -/
theorem RecRow.of_own {w : World} {base n : Nat} {v : Value} {l : List Rec} (h : w.ownsRow base 24 8 v n (rvs l)) : ∃ A c, v = .slice A l.length c ∧ RecRow w A l := by
  have hn : l.length = n := by have := h.1; rw [rvs_length] at this; omega
  rcases h.2 with ⟨rfl, h0⟩ | ⟨g, cap, cur, rfl, hb, hg, hnc, hm, hs, ht⟩
  · have : l = [] := List.eq_nil_of_length_eq_zero (by omega)
    subst this
    exact ⟨none, 0, by simp, .inl rfl⟩
  · refine ⟨some ⟨g, 0, none⟩, cap, by rw [hn], .inr ⟨g, 0, rfl, (Array.getElem?_eq_some_iff.1 hg).1, fun k hk j u hu => ?_⟩⟩
    have := rvs_get l k hk j u hu
    rw [← ht, List.getElem?_take] at this
    split at this
    · rw [cell_of_row w g _ cur _ _ hg, ← this, Nat.zero_add]
      simp
    · cases this
theorem bsq (l m : List UInt8) : ((WalkVar.bs l).toList = (WalkVar.bs m).toList) = (l = m) := by
  rw [ByteArray.toList_eq, ByteArray.toList_eq, WalkVar.bs_list, WalkVar.bs_list]
theorem neqRec (x y : Rec) (w : World) : (binOp .neq 24 (.agg (rcells x).toArray) (.agg (rcells y).toArray)).run Tryz.prog w = .ok (.bool (!decide (x = y))) w := by
  have u3 := Tryz.underlying3
  have a3 := Tryz.isAgg3
  have z3 := Tryz.sizeOf3
  have u9 := Tryz.underlying9
  have a9 := Tryz.isAgg9
  have z9 := Tryz.sizeOf9
  have hS : Tryz.prog.underlying 24 = some (.struct (Tryz.prog.fieldsOf 24)) := by kernel_rfl
  have hp : Tryz.prog.stoodInHeld 24 = false := by kernel_rfl
  obtain ⟨e, q, k, N, O, M, t, u⟩ := x
  obtain ⟨e', q', k', N', O', M', t', u'⟩ := y
  simp only [rcells]
  rw [run_neq_struct, show (10000 : Nat) = 9999 + 1 from rfl, run_equalIn_agg w 9999 24 _ _ hS hp]
  simp only [Program.fieldsOf, Tryz.underlying24]
  go_simp
  simp only [bsq]
  by_cases h1 : e = e' <;> by_cases h2 : q = q' <;> by_cases h3 : k = k' <;> by_cases h4 : N = N' <;> by_cases h5 : O = O' <;> by_cases h6 : M = M' <;> by_cases h7 : t = t' <;> by_cases h8 : u = u' <;> simp [h1, h2, h3, h4, h5, h6, h7, h8]
end Go.Proofs.YtfbakelpplpomaaGreatDoor.Disk
/-
  The walk of Same: are two rows of records the same?
-/
namespace Go.Proofs.YtfbakelpplpomaaGreatDoor.Disk
open Go.RowKit Go.Proofs.YtfbakelpplpomaaGreatDoor.DiskRows
open Pl.Seat (Rec)
set_option linter.unusedVariables false
set_option linter.unusedSimpArgs false
set_option maxRecDepth 100000

theorem belowNq {B : Nat} {w w' : World} (h : Below B w w') (n : Nat) : Below B w (w'.drewN n) := ⟨h.os, h.tape, h.output, h.size, h.block⟩
theorem recs_eq {l m : List Rec} (hl : l.length = m.length) (h : ∀ i (h1 : i < l.length) (h2 : i < m.length), l[i] = m[i]) : l = m := List.ext_getElem hl h
set_option maxHeartbeats 6400000 in
theorem refSame_any (A B : Option Addr) (c c' : Nat) (l m : List Rec) (w : World) (hA : RecRow w A l) (hB : RecRow w B m) (hl : (l.length : Int) ≤ 1000000) (hm : (m.length : Int) ≤ 1000000) (r : Bool) (hr : decide (l = m) = r) :
    Calls Tryz.prog 17 #[.slice A l.length c, .slice B m.length c'] w fun x w' => x = .returned (.bool r) ∧ Below w.heap.size w w' := by
  by_cases hlen : l.length = m.length
  · have HL := Lib.hid (And.intro hA (And.intro hB (And.intro hlen hr)))
    obtain ⟨n, hn⟩ : ∃ n, l.length = n := ⟨_, rfl⟩
    have HN := Lib.hid hn
    rw [← hlen, hn]
    rw [hn] at hl
    clear hA hB hm hr hn hlen
    go_enter Tryz.func17, Tryz.ntmps17
    go_upto_region 4 with fail
    go_loopw [13] (fun i wr => ∃ k : Nat, k ≤ n ∧ i = .int .i64 k ∧ Hid (∀ i (h1 : i < l.length) (h2 : i < m.length), i < k → l[i] = m[i]) ∧ Below w.heap.size w wr) (fun i _ => n - (intOf i).toNat)
    case atStart => exact ⟨0, by omega, rfl, Lib.hid (fun i _ _ hi => absurd hi (by omega)), Below.refl _ _⟩
    case round =>
      obtain ⟨k, hk, rfl, HE, bk⟩ := hrel
      have HBk := Lib.hid bk
      by_cases hlt : k < n
      · have hql : k < l.length := by have := HN.out; omega
        have hpl : k < m.length := by have := HN.out; have := HL.out.2.2.1; omega
        obtain ⟨g, off, rfl, hg, hc⟩ : ∃ g off, A = some ⟨g, off, none⟩ ∧ g < w.heap.size ∧ ∀ k (h : k < l.length) j u, (rcells l[k])[j]? = some u → w.cell? ⟨g, off + k * 8 + j, none⟩ = some u := by
          rcases HL.out.1 with h | h
          · rw [h] at hql; simp at hql
          · exact h
        obtain ⟨g', off', rfl, hg', hc'⟩ : ∃ g off, B = some ⟨g, off, none⟩ ∧ g < w.heap.size ∧ ∀ k (h : k < m.length) j u, (rcells m[k])[j]? = some u → w.cell? ⟨g, off + k * 8 + j, none⟩ = some u := by
          rcases HL.out.2.1 with h | h
          · rw [h] at hpl; simp at hpl
          · exact h
        have q0 := (bk.cell (p := ⟨g, off + k * 8 + 0, none⟩) hg).trans (hc k hql 0 _ rfl)
        have q1 := (bk.cell (p := ⟨g, off + k * 8 + 1, none⟩) hg).trans (hc k hql 1 _ rfl)
        have q2 := (bk.cell (p := ⟨g, off + k * 8 + 2, none⟩) hg).trans (hc k hql 2 _ rfl)
        have q3 := (bk.cell (p := ⟨g, off + k * 8 + 3, none⟩) hg).trans (hc k hql 3 _ rfl)
        have q4 := (bk.cell (p := ⟨g, off + k * 8 + 4, none⟩) hg).trans (hc k hql 4 _ rfl)
        have q5 := (bk.cell (p := ⟨g, off + k * 8 + 5, none⟩) hg).trans (hc k hql 5 _ rfl)
        have q6 := (bk.cell (p := ⟨g, off + k * 8 + 6, none⟩) hg).trans (hc k hql 6 _ rfl)
        have q7 := (bk.cell (p := ⟨g, off + k * 8 + 7, none⟩) hg).trans (hc k hql 7 _ rfl)
        rw [Nat.add_zero] at q0
        have p0 := (bk.cell (p := ⟨g', off' + k * 8 + 0, none⟩) hg').trans (hc' k hpl 0 _ rfl)
        have p1 := (bk.cell (p := ⟨g', off' + k * 8 + 1, none⟩) hg').trans (hc' k hpl 1 _ rfl)
        have p2 := (bk.cell (p := ⟨g', off' + k * 8 + 2, none⟩) hg').trans (hc' k hpl 2 _ rfl)
        have p3 := (bk.cell (p := ⟨g', off' + k * 8 + 3, none⟩) hg').trans (hc' k hpl 3 _ rfl)
        have p4 := (bk.cell (p := ⟨g', off' + k * 8 + 4, none⟩) hg').trans (hc' k hpl 4 _ rfl)
        have p5 := (bk.cell (p := ⟨g', off' + k * 8 + 5, none⟩) hg').trans (hc' k hpl 5 _ rfl)
        have p6 := (bk.cell (p := ⟨g', off' + k * 8 + 6, none⟩) hg').trans (hc' k hpl 6 _ rfl)
        have p7 := (bk.cell (p := ⟨g', off' + k * 8 + 7, none⟩) hg').trans (hc' k hpl 7 _ rfl)
        rw [Nat.add_zero] at p0
        have hkn : (k : Int) < (n : Int) := by omega
        have hw2 : IntKind.i64.wrap ((k : Int) + 1) = ((k + 1 : Nat) : Int) := by rw [IntKind.wrap_i64]; omega
        have hnx : l[k] = m[k] → ∀ i (h1 : i < l.length) (h2 : i < m.length), i < k + 1 → l[i] = m[i] := fun e i h1 h2 hi => by
          rcases Nat.lt_or_ge i k with g | g
          · exact HE.out i h1 h2 g
          · obtain rfl : i = k := by omega
            exact e
        have hno : l[k] ≠ m[k] → r = false := fun e => by
          rw [← HL.out.2.2.2]
          exact decide_eq_false (fun h => e (by simp [h]))
        have hne := fun W => neqRec l[k] m[k] W
        generalize l[k] = x at q0 q1 q2 q3 q4 q5 q6 q7 hnx hno hne
        generalize m[k] = y at p0 p1 p2 p3 p4 p5 p6 p7 hnx hno hne
        have HX := Lib.hid (And.intro hnx hno)
        have HK := Lib.hid (And.intro hlt hk)
        by_cases e : x = y
        · have hd : decide (x = y) = true := decide_eq_true e
          rw [hd] at hne
          have HE2 := Lib.hid (HX.out.1 e)
          obtain ⟨x0, x1, x2, x3, x4, x5, x6, x7⟩ := x
          obtain ⟨y0, y1, y2, y3, y4, y5, y6, y7⟩ := y
          simp only [rcells] at hne
          clear e hd hnx hno HX hc hc' hg hg' hql hpl bk hlt hk HE
          go_upto_region 6 with fail
          go_quiet (fail)
          go_wp2
          go_round
          case rel => exact ⟨k + 1, by have := HK.out; omega, rfl, HE2, belowNq HBk.out _⟩
          case measure => have := HK.out; simp [intOf]; omega
        · have hd : decide (x = y) = false := decide_eq_false e
          rw [hd] at hne
          have HE2 := Lib.hid (HX.out.2 e)
          obtain ⟨x0, x1, x2, x3, x4, x5, x6, x7⟩ := x
          obtain ⟨y0, y1, y2, y3, y4, y5, y6, y7⟩ := y
          simp only [rcells] at hne
          clear e hd hnx hno HX hc hc' hg hg' hql hpl bk hlt hk HE
          go_upto_region 6 with fail
          go_quiet (fail)
          go_wp2
          go_ret
          exact ⟨by show Ending.returned (Value.bool false) = _; rw [HE2.out], belowNq HBk.out _⟩
      · obtain rfl : k = n := by omega
        have hkk : ¬ (k : Int) < (k : Int) := by omega
        have hr1 : r = true := by
          rw [← HL.out.2.2.2]
          exact decide_eq_true (recs_eq HL.out.2.2.1 (fun i h1 h2 => HE.out i h1 h2 (by have := HN.out; omega)))
        have HR := Lib.hid hr1
        clear hr1 bk hlt hk HE
        go_wp2
        go_ret
        exact ⟨by show Ending.returned (Value.bool true) = _; rw [HR.out], HBk.out⟩
  · have hr1 : r = false := by rw [← hr]; exact decide_eq_false (fun h => hlen (by rw [h]))
    have HR := Lib.hid hr1
    obtain ⟨n, hn⟩ : ∃ n, l.length = n := ⟨_, rfl⟩
    obtain ⟨n', hn'⟩ : ∃ n, m.length = n := ⟨_, rfl⟩
    rw [hn, hn'] at hlen ⊢
    have hb : ((n : Int) == (n' : Int)) = false := by simp; omega
    have hb2 : ((n : Int) != (n' : Int)) = true := by simp; omega
    clear hn hn' hl hm hA hB hr hr1
    go_enter Tryz.func17, Tryz.ntmps17
    go_wp2
    go_ret
    exact ⟨by show Ending.returned (Value.bool false) = _; rw [HR.out], Below.refl _ _⟩
end Go.Proofs.YtfbakelpplpomaaGreatDoor.Disk
/-
  The walk of pleachplain.Bytes.
-/
namespace Go.Proofs.YtfbakelpplpomaaGreatDoor.Disk
open Go.RowKit Go.Proofs.YtfbakelpplpomaaGreatDoor.DiskRows
set_option linter.unusedVariables false
set_option linter.unusedSimpArgs false
set_option maxRecDepth 100000
theorem bminTwo (ats : Array TypeId) (ty : TypeId) (a b : Value) : Builtin.min_ ats ty #[a, b] = (Builtin.min2 a b >>= fun s => pure s) := by simp only [Builtin.min_, List.foldlM_cons, List.foldlM_nil]
theorem bminInt2 (k k' : IntKind) (x y : Int) : Builtin.min2 (.int k x) (.int k' y) = pure (.int k (if y < x then y else x)) := by simp only [Builtin.min2]
attribute [local go_sem] bminTwo

/-- how many bytes texts have, as long as that is below a million -/
def byV (n : Nat) : List ByteArray → Nat
  | [] => n
  | s :: l => if 1000000 ≤ n + min s.size 1000000 then n + min s.size 1000000 else byV (n + min s.size 1000000) l
theorem byV_le (l : List ByteArray) : ∀ n, n ≤ byV n l := by
  induction l with
  | nil => intro n; exact Nat.le_refl _
  | cons s l ih =>
    intro n
    rw [byV]
    split
    · omega
    · have := ih (n + min s.size 1000000)
      omega
theorem byV_small (l : List ByteArray) : ∀ n, byV n l ≤ 6000 → ∀ s ∈ l, s.size ≤ 6000 := by
  induction l with
  | nil => intro n _ s hs; cases hs
  | cons s l ih =>
    intro n hn t ht
    rw [byV] at hn
    split at hn
    · omega
    · have h1 := byV_le l (n + min s.size 1000000)
      rcases List.mem_cons.1 ht with rfl | ht
      · omega
      · exact ih _ hn t ht
theorem byV_bound (l : List ByteArray) : ∀ n, n < 1000000 → byV n l ≤ 2000000 := by
  induction l with
  | nil => intro n h; rw [byV]; omega
  | cons s l ih =>
    intro n h
    rw [byV]
    split
    · omega
    · exact ih _ (by omega)
theorem byV_step (l : List ByteArray) (k n : Nat) (h : k < l.length) : byV n (l.drop k) = if 1000000 ≤ n + min l[k].size 1000000 then n + min l[k].size 1000000 else byV (n + min l[k].size 1000000) (l.drop (k + 1)) := by
  rw [List.drop_eq_getElem_cons h, byV]
set_option maxHeartbeats 3200000 in
theorem bytes_any (A : Option Addr) (c : Nat) (l : List ByteArray) (w : World) (h : Txs w A l) (hl : (l.length : Int) ≤ 9223372036854775807) (hs : ∀ s ∈ l, (s.size : Int) ≤ 9223372036854775807) (r : Nat) (hr : byV 0 l = r) :
    Calls Tryz.prog 5 #[.slice A l.length c] w fun x w' => x = .returned (.int .i64 (r : Nat)) ∧ Below w.heap.size w w' := by
  have H := Lib.hid (And.intro h (And.intro hs hr))
  obtain ⟨n, hn⟩ : ∃ n, l.length = n := ⟨_, rfl⟩
  have HN := Lib.hid hn
  rw [hn] at hl ⊢
  clear h hs hr hn
  go_enter Tryz.func5, Tryz.ntmps5
  go_upto_region 3 with fail
  go_loopw [3, 8] (fun v i wr => ∃ k m : Nat, k ≤ n ∧ m < 1000000 ∧ i = .int .i64 k ∧ v = .int .i64 m ∧ Hid (byV m (l.drop k) = r) ∧ wr = w) (fun _ i _ => n - (intOf i).toNat)
  case atStart => exact ⟨0, 0, by omega, by omega, rfl, rfl, Lib.hid H.out.2.2, rfl⟩
  case round =>
    obtain ⟨k, m, hk, hm, rfl, rfl, HB, rfl⟩ := hrel
    have HK := Lib.hid (And.intro hk hm)
    by_cases hlt : k < n
    · have hql : k < l.length := by have := HN.out; omega
      obtain ⟨g, off, rfl, hg, hc⟩ : ∃ g off, A = some ⟨g, off, none⟩ ∧ g < wr.heap.size ∧ ∀ i, i < l.length → wr.cell? ⟨g, off + i, none⟩ = some (.string (l.getD i ByteArray.empty)) := by
        rcases H.out.1 with h | h
        · rw [h] at hql; simp at hql
        · exact h
      have q0 := hc k hql
      have e : l.getD k ByteArray.empty = l[k] := by simp [List.getD_eq_getElem?_getD, List.getElem?_eq_getElem hql]
      rw [e] at q0
      have hst := byV_step l k m hql
      rw [HB.out] at hst
      have hsz := H.out.2.1 _ (List.getElem_mem hql)
      generalize l[k] = s at q0 hst hsz
      obtain ⟨z, hz⟩ : ∃ z, min s.size 1000000 = z := ⟨_, rfl⟩
      rw [hz] at hst
      have n1 : Builtin.min2 (.int .i64 (s.size : Int)) (.int .i64 1000000) = pure (.int .i64 (z : Nat)) := by
        rw [bminInt2]; congr 2; split <;> omega
      have hkn : (k : Int) < (n : Int) := by omega
      have hzb : (z : Int) ≤ 1000000 := by omega
      have hmb : (m : Int) < 1000000 := by omega
      have hw1 : IntKind.i64.wrap ((m : Int) + (z : Int)) = (m : Int) + (z : Int) := by rw [IntKind.wrap_i64]; omega
      have hw2 : IntKind.i64.wrap ((k : Int) + 1) = (k : Int) + 1 := by rw [IntKind.wrap_i64]; omega
      have HS := Lib.hid hst
      clear hst e hz hsz hc hg hql
      by_cases g1 : 1000000 ≤ m + z
      · have d1 : decide ((1000000 : Int) ≤ (m : Int) + (z : Int)) = true := decide_eq_true (by omega)
        have hrz : r = m + z := by rw [HS.out, if_pos g1]
        have HR := Lib.hid hrz
        clear g1 hrz hk hlt hm
        go_wp2
        go_ret
        exact ⟨by show Ending.returned (Value.int .i64 ((m : Int) + (z : Int))) = _; rw [HR.out]; rfl, Below.refl _ _⟩
      · have d1 : decide ((1000000 : Int) ≤ (m : Int) + (z : Int)) = false := decide_eq_false (by omega)
        have hrz : byV (m + z) (l.drop (k + 1)) = r := by have := HS.out; rw [if_neg g1] at this; exact this.symm
        have HR := Lib.hid (And.intro hrz (show m + z < 1000000 by omega))
        have HL := Lib.hid hlt
        clear g1 hrz hk hlt hm
        go_wp2
        go_round
        case rel => exact ⟨k + 1, m + z, by have := HL.out; omega, HR.out.2, by go_num, by go_num, Lib.hid HR.out.1, by trivial⟩
        case measure => have := HL.out; simp [intOf]; omega
    · obtain rfl : k = n := by omega
      have hrz : m = r := by
        have := HB.out
        rw [List.drop_of_length_le (Nat.le_of_eq HN.out)] at this
        exact this
      have HR := Lib.hid hrz
      have hkk : ¬ (k : Int) < (k : Int) := by omega
      clear hrz hk hlt hm
      go_wp2
      go_ret
      exact ⟨by show Ending.returned (Value.int .i64 (m : Int)) = _; rw [HR.out], Below.refl _ _⟩
end Go.Proofs.YtfbakelpplpomaaGreatDoor.Disk
/-
  JournalAll: how it stands between its calls.
-/
namespace Go.Proofs.YtfbakelpplpomaaGreatDoor.Disk
open Go.RowKit Go.Proofs.YtfbakelpplpomaaGreatDoor.DiskRows Go.Proofs.YtfbakelpplpomaaGreatDoor.WalkCrc
open Go.Proofs.YtfbakelpplpomaaGreatDoor.WalkSeat (rc RecAt)
open Pl.Seat (Rec isR)
set_option linter.unusedVariables false
set_option linter.unusedSimpArgs false
set_option maxRecDepth 100000

theorem DiskAt.mv {F : Nat → Prop} {b : Nat} {d : Dk} {w w' : World} (h : DiskAt F b d w) (hk : ∀ j, j < w.heap.size → Nf F j → w'.heap[j]? = w.heap[j]?) : DiskAt (Plus F w.heap.size w'.heap.size) b d w' := by
  obtain ⟨gS, cS, gH, cH, vC, h⟩ := h
  have hn : ∀ j, Nf F j → j < w.heap.size → Nf (Plus F w.heap.size w'.heap.size) j := fun j hj hl q => by
    rcases q with q | q
    · exact hj q
    · omega
  have hC : w'.ownsRow 0 89 2 vC d.C.length (wv d.C) := by
    refine ⟨h.rowC.1, ?_⟩
    rcases h.rowC.2 with q | ⟨g, cap, cur, rfl, hb, hg, q⟩
    · exact .inl q
    · exact .inr ⟨g, cap, cur, rfl, hb, by rw [hk g (Array.getElem?_eq_some_iff.1 hg).1 (h.nfC g rfl)]; exact hg, q⟩
  exact ⟨gS, cS, gH, cH, vC, { h with heap := by rw [hk b h.lt h.sep.1]; exact h.heap, rowS := h.rowS.keep (hk gS h.rowS.lt h.sep.2.1), rowH := h.rowH.keep (hk gH h.rowH.lt h.sep.2.2.1), rowC := hC, sep := ⟨hn _ h.sep.1 h.lt, hn _ h.sep.2.1 h.rowS.lt, hn _ h.sep.2.2.1 h.rowH.lt, h.sep.2.2.2⟩, nfC := fun j hj => hn _ (h.nfC j hj) (h.rowC.lt j hj).2 }⟩
/-- a disk, a journal over it, the records that should be there; blocks G are none of theirs -/
structure JA (w0 : World) (b bj ep : Nat) (G : Nat → Prop) (d : Dk) (L : List Rec) (v : Value) (w : World) : Prop where
  ex : ∃ F, DiskAt F b d w ∧ Top F w.heap.size ∧ F bj ∧ (∀ k, G k → F k) ∧ (∀ k, k < w0.heap.size → F k) ∧ ∀ k, v.ownBlock = some k → F k
  jn : JnAt bj b 1 ep L.length w
  own : w.ownsRow w0.heap.size 24 8 v L.length (rvs L)
  ne : ¬ G bj ∧ (∀ k, v.ownBlock = some k → k ≠ bj ∧ ¬ G k)
  ge : w0.heap.size ≤ bj
  bel : Below w0.heap.size w0 w
  tab : Tab w
theorem JA.grow {w0 w w' : World} {b bj ep : Nat} {G : Nat → Prop} {d : Dk} {L : List Rec} {v : Value} (h : JA w0 b bj ep G d L v w) (k : Below w.heap.size w w') : JA w0 b bj ep (Plus G w.heap.size w'.heap.size) d L v w' := by
  obtain ⟨F, h1, h2, h3, h4, h5, h6⟩ := h.ex
  refine ⟨⟨Plus F w.heap.size w'.heap.size, h1.grow k, Plus.top h2 k.size, .inl h3, fun j hj => ?_, fun j hj => .inl (h5 j hj), fun j hj => .inl (h6 j hj)⟩, h.jn.later k, own_below h.own k (fun g hg => (h.own.lt g hg).2), ⟨fun q => ?_, fun j hj => ⟨(h.ne.2 j hj).1, fun q => ?_⟩⟩, h.ge, h.bel.trans (k.mono h.bel.size), h.tab.below k h.tab.lt⟩
  · rcases hj with q | q
    · exact .inl (h4 j q)
    · exact .inr q
  · rcases q with q | q
    · exact h.ne.1 q
    · have := h.jn.lt; omega
  · rcases q with q | q
    · exact (h.ne.2 j hj).2 q
    · have := (h.own.lt j hj).2; omega
theorem JA.sub {w0 w : World} {b bj ep : Nat} {G G' : Nat → Prop} {d : Dk} {L : List Rec} {v : Value} (h : JA w0 b bj ep G d L v w) (k : ∀ j, G' j → G j) : JA w0 b bj ep G' d L v w := by
  obtain ⟨F, h1, h2, h3, h4, h5, h6⟩ := h.ex
  exact ⟨⟨F, h1, h2, h3, fun j hj => h4 j (k j hj), h5, h6⟩, h.jn, h.own, ⟨fun q => h.ne.1 (k _ q), fun j hj => ⟨(h.ne.2 j hj).1, fun q => (h.ne.2 j hj).2 (k _ q)⟩⟩, h.ge, h.bel, h.tab⟩
theorem own_kpF {w w' : World} {F : Nat → Prop} {base n : Nat} {v : Value} {xs : List Value} (h : w.ownsRow base 24 8 v n xs) (k : Kp F w w') (hF : ∀ j, v.ownBlock = some j → F j) : w'.ownsRow base 24 8 v n xs := by
  refine ⟨h.1, ?_⟩
  rcases h.2 with q | ⟨g, cap, cur, rfl, hb, hg, q⟩
  · exact .inl q
  · exact .inr ⟨g, cap, cur, rfl, hb, by rw [k.block g (Array.getElem?_eq_some_iff.1 hg).1 (hF g rfl)]; exact hg, q⟩
/-- a call that writes to the disk alone -/
theorem JA.on {w0 w : World} {b bj ep : Nat} {G : Nat → Prop} {d : Dk} {L : List Rec} {v : Value} (h : JA w0 b bj ep G d L v w) {f : Nat} {args : Array Value} {P : Ending → Prop} {d' : Dk} (ht0 : 0 < w0.heap.size) (c : ∀ F, DiskAt F b d w → Top F w.heap.size → Calls Tryz.prog f args w fun x w' => P x ∧ DiskAt F b d' w' ∧ Kp F w w') :
    Calls Tryz.prog f args w fun z w' => P z ∧ JA w0 b bj ep G d' L v w' ∧ Kp G w w' := by
  obtain ⟨F, h1, h2, h3, h4, h5, h6⟩ := h.ex
  refine (c F h1 h2).mono ?_
  rintro z w' ⟨hp, hd, hk⟩
  exact ⟨hp, ⟨⟨F, hd, h2.trans hk.size, h3, h4, h5, h6⟩, h.jn.kp hk h3, own_kpF h.own hk h6, h.ne, h.ge, hk.bel0 h.bel h5, tab_kp h.tab hk (h5 _ ht0)⟩, hk.sub h4⟩
theorem bs_eta (s : ByteArray) : WalkVar.bs s.data.toList = s := by
  cases s
  rfl
/-- the cells of a record -/
theorem rcells_rc (e q k : Int) (N O M : ByteArray) (t u : Int) (ep n : Nat) : rcells (jrec (rc e q k N O M t u) ep n) = [.int .i64 (ep : Nat), .int .i64 (n : Nat), .int .i64 k, .string N, .string O, .string M, .int .i64 t, .int .i64 u] := by
  unfold rcells jrec rc
  simp only [bs_eta]
/-- Append is refused -/
theorem JA.refused {w0 w : World} {b bj ep : Nat} {G : Nat → Prop} {d : Dk} {L : List Rec} {v : Value} (h : JA w0 b bj ep G d L v w) (ht0 : 0 < w0.heap.size) (e q k : Int) (N O M : ByteArray) (t u : Int) (hS : d.S.length = 40) (hL : L.length ≤ 17) (ho : d.ops ≤ 800000) (hC : d.C.length ≤ 30000) (Q : Dk × Int) (hQ : appV d 1 ep L.length (rc e q k N O M t u) = Q) (hn : Q.2 ≠ 0) :
    Calls Tryz.prog 9 #[.pointer (some ⟨bj, 0, none⟩), .agg #[.int .i64 e, .int .i64 q, .int .i64 k, .string N, .string O, .string M, .int .i64 t, .int .i64 u]] w fun z w' => z = .returned (.int .i64 Q.2) ∧ JA w0 b bj ep G Q.1 L v w' ∧ Kp G w w' := by
  obtain ⟨F, h1, h2, h3, h4, h5, h6⟩ := h.ex
  have hh : halfV d.S.length = 19 := by rw [hS]; rfl
  refine (append_any F bj b 1 ep L.length d e q k N O M t u w h1 h2 h.jn h3 h.tab (by omega) (by omega) ho hC Q hQ L.length (by rw [if_neg hn])).mono ?_
  rintro z w' ⟨rfl, hd, hj, hk⟩
  have hbj := h.ge
  exact ⟨rfl, ⟨⟨F, hd, h2.trans hk.size, h3, h4, h5, h6⟩, hj, own_kpF h.own hk (fun j hj => ⟨h6 j hj, (h.ne.2 j hj).1⟩), h.ne, h.ge, hk.bel0 h.bel (fun k hk => ⟨h5 k hk, by omega⟩), tab_kp h.tab hk ⟨h5 _ ht0, by omega⟩⟩, hk.sub (fun j hj => ⟨h4 j hj, fun e => h.ne.1 (e ▸ hj)⟩)⟩
/-- behind an Append that was answered, ahead of the row's: the journal has one more -/
structure JB (w0 : World) (b bj ep : Nat) (G : Nat → Prop) (d : Dk) (L : List Rec) (v : Value) (w : World) : Prop where
  ex : ∃ F, DiskAt F b d w ∧ Top F w.heap.size ∧ F bj ∧ (∀ k, G k → F k) ∧ (∀ k, k < w0.heap.size → F k) ∧ ∀ k, v.ownBlock = some k → F k
  jn : JnAt bj b 1 ep (L.length + 1) w
  own : w.ownsRow w0.heap.size 24 8 v L.length (rvs L)
  ne : ¬ G bj ∧ (∀ k, v.ownBlock = some k → k ≠ bj ∧ ¬ G k)
  ge : w0.heap.size ≤ bj
  bel : Below w0.heap.size w0 w
  tab : Tab w
theorem JA.answered {w0 w : World} {b bj ep : Nat} {G : Nat → Prop} {d : Dk} {L : List Rec} {v : Value} (h : JA w0 b bj ep G d L v w) (ht0 : 0 < w0.heap.size) (e q k : Int) (N O M : ByteArray) (t u : Int) (hS : d.S.length = 40) (hL : L.length ≤ 17) (ho : d.ops ≤ 800000) (hC : d.C.length ≤ 30000) (Q : Dk × Int) (hQ : appV d 1 ep L.length (rc e q k N O M t u) = Q) (hn : Q.2 = 0) :
    Calls Tryz.prog 9 #[.pointer (some ⟨bj, 0, none⟩), .agg #[.int .i64 e, .int .i64 q, .int .i64 k, .string N, .string O, .string M, .int .i64 t, .int .i64 u]] w fun z w' => z = .returned (.int .i64 0) ∧ JB w0 b bj ep G Q.1 L v w' ∧ Kp G w w' := by
  obtain ⟨F, h1, h2, h3, h4, h5, h6⟩ := h.ex
  have hh : halfV d.S.length = 19 := by rw [hS]; rfl
  refine (append_any F bj b 1 ep L.length d e q k N O M t u w h1 h2 h.jn h3 h.tab (by omega) (by omega) ho hC Q hQ (L.length + 1) (by rw [if_pos hn])).mono ?_
  rintro z w' ⟨rfl, hd, hj, hk⟩
  have hbj := h.ge
  exact ⟨by rw [hn], ⟨⟨F, hd, h2.trans hk.size, h3, h4, h5, h6⟩, hj, own_kpF h.own hk (fun j hj => ⟨h6 j hj, (h.ne.2 j hj).1⟩), h.ne, h.ge, hk.bel0 h.bel (fun k hk => ⟨h5 k hk, by omega⟩), tab_kp h.tab hk ⟨h5 _ ht0, by omega⟩⟩, hk.sub (fun j hj => ⟨h4 j hj, fun e => h.ne.1 (e ▸ hj)⟩)⟩
/-- blocks G are written -/
theorem JB.mv {w0 w w' : World} {b bj ep : Nat} {G : Nat → Prop} {d : Dk} {L : List Rec} {v : Value} (h : JB w0 b bj ep G d L v w) (ht0 : 0 < w0.heap.size) (k : Kp (fun j => ¬ G j) w w') (hG : ∀ j, G j → w0.heap.size ≤ j) : JB w0 b bj ep G d L v w' := by
  obtain ⟨F, h1, h2, h3, h4, h5, h6⟩ := h.ex
  have hlt0 : ∀ j, j < w0.heap.size → ¬ G j := fun j hj q => by have := hG j q; omega
  refine ⟨⟨F, (h1.mv (fun j hj hn => k.block j hj (fun q => hn (h4 j q)))).sub (fun j hj => .inl hj), h2.trans k.size, h3, h4, h5, h6⟩, h.jn.kp k h.ne.1, own_kpF h.own k (fun j hj => (h.ne.2 j hj).2), h.ne, h.ge, k.bel0 h.bel hlt0, tab_kp h.tab k (hlt0 _ ht0)⟩
theorem JB.later {w0 w w' : World} {b bj ep : Nat} {G : Nat → Prop} {d : Dk} {L : List Rec} {v : Value} (h : JB w0 b bj ep G d L v w) (k : Below w.heap.size w w') : JB w0 b bj ep G d L v w' := by
  obtain ⟨F, h1, h2, h3, h4, h5, h6⟩ := h.ex
  exact ⟨⟨F, h1.later k, h2.trans k.size, h3, h4, h5, h6⟩, h.jn.later k, own_below h.own k (fun g hg => (h.own.lt g hg).2), h.ne, h.ge, h.bel.trans (k.mono h.bel.size), h.tab.below k h.tab.lt⟩
theorem JA.later {w0 w w' : World} {b bj ep : Nat} {G : Nat → Prop} {d : Dk} {L : List Rec} {v : Value} (h : JA w0 b bj ep G d L v w) (k : Below w.heap.size w w') : JA w0 b bj ep G d L v w' := by
  obtain ⟨F, h1, h2, h3, h4, h5, h6⟩ := h.ex
  exact ⟨⟨F, h1.later k, h2.trans k.size, h3, h4, h5, h6⟩, h.jn.later k, own_below h.own k (fun g hg => (h.own.lt g hg).2), h.ne, h.ge, h.bel.trans (k.mono h.bel.size), h.tab.below k h.tab.lt⟩
/-- the row has one more -/
theorem JB.push {w0 w w' : World} {b bj ep : Nat} {G : Nat → Prop} {d : Dk} {L : List Rec} {v v' : Value} (h : JB w0 b bj ep G d L v w) (ht0 : 0 < w0.heap.size) (x : Rec) (o : w'.ownsRow w0.heap.size 24 8 v' (L ++ [x]).length (rvs (L ++ [x]))) (g : w.grownBy w' v.ownBlock) (l : v'.ownBlock = v.ownBlock ∨ v'.ownBlock = some w.heap.size) : JA w0 b bj ep G d (L ++ [x]) v' w' ∧ Kp G w w' := by
  obtain ⟨F, h1, h2, h3, h4, h5, h6⟩ := h.ex
  have hne : ∀ j, (v.ownBlock ≠ some j) → j < w.heap.size → w'.heap[j]? = w.heap[j]? := fun j hj hl => g.block j hl (fun e => hj e.symm)
  have hge : ∀ j, v.ownBlock = some j → w0.heap.size ≤ j := fun j hj => (h.own.lt j hj).1
  have kB : Below w0.heap.size w w' := (Below.refl _ w).grown g h.bel.size (fun j hj => hge j hj)
  refine ⟨⟨⟨Plus F w.heap.size w'.heap.size, h1.mv (fun j hj hn => hne j (fun e => hn (h6 j e)) hj), Plus.top h2 g.size, .inl h3, fun j hj => .inl (h4 j hj), fun j hj => .inl (h5 j hj), fun j hj => ?_⟩, ⟨?_⟩, o, ⟨h.ne.1, fun j hj => ?_⟩, h.ge, h.bel.trans kB, h.tab.below kB ht0⟩, ⟨g.os, g.tape, g.output, g.size, fun j hj hG => hne j (fun e => (h.ne.2 j e).2 hG) hj⟩⟩
  · rcases l with e | e
    · exact .inl (h6 j (e ▸ hj))
    · rw [e] at hj
      obtain rfl := Option.some.inj hj
      exact .inr ⟨Nat.le_refl _, (o.lt _ e).2⟩
  · rw [hne bj (fun e => (h.ne.2 bj e).1 rfl) h.jn.lt, List.length_append, List.length_singleton]
    exact h.jn.box
  · rcases l with e | e
    · exact h.ne.2 j (e ▸ hj)
    · rw [e] at hj
      obtain rfl := Option.some.inj hj
      exact ⟨fun q => by have := h.jn.lt; omega, fun q => absurd (h2 _ (h4 _ q)) (Nat.lt_irrefl _)⟩
theorem JA.mv {w0 w w' : World} {b bj ep : Nat} {G : Nat → Prop} {d : Dk} {L : List Rec} {v : Value} (h : JA w0 b bj ep G d L v w) (ht0 : 0 < w0.heap.size) (k : Kp (fun j => ¬ G j) w w') (hG : ∀ j, G j → w0.heap.size ≤ j) : JA w0 b bj ep G d L v w' := by
  obtain ⟨F, h1, h2, h3, h4, h5, h6⟩ := h.ex
  have hlt0 : ∀ j, j < w0.heap.size → ¬ G j := fun j hj q => by have := hG j q; omega
  exact ⟨⟨F, (h1.mv (fun j hj hn => k.block j hj (fun q => hn (h4 j q)))).sub (fun j hj => .inl hj), h2.trans k.size, h3, h4, h5, h6⟩, h.jn.kp k h.ne.1, own_kpF h.own k (fun j hj => (h.ne.2 j hj).2), h.ne, h.ge, k.bel0 h.bel hlt0, tab_kp h.tab k (hlt0 _ ht0)⟩
end Go.Proofs.YtfbakelpplpomaaGreatDoor.Disk
/-
  append of a row of records onto a row of its own.
-/
namespace Go.Proofs.YtfbakelpplpomaaGreatDoor.Disk
open Go.RowKit Go.Proofs.YtfbakelpplpomaaGreatDoor.DiskRows Go.Proofs.YtfbakelpplpomaaGreatDoor.WalkCrc
open Pl.Seat (Rec isR)
set_option linter.unusedVariables false
set_option linter.unusedSimpArgs false
set_option maxRecDepth 100000

theorem rvs_append (a l : List Rec) : rvs (a ++ l) = rvs a ++ rvs l := by simp [rvs]
theorem rvs_one (l : List Rec) : ∀ u ∈ rvs l, u.oneCell' = true := by
  intro u hu
  simp only [rvs, List.mem_flatMap] at hu
  obtain ⟨r, _, hu⟩ := hu
  simp [rcells] at hu
  rcases hu with rfl | rfl | rfl | rfl | rfl | rfl | rfl | rfl <;> rfl
theorem run_append_recs (w : World) (base base' : Nat) (t : TypeId) (v y : Value) (a l : List Rec) (hown : w.ownsRow base 24 8 v a.length (rvs a)) (hy : w.ownsRow base' 24 8 y l.length (rvs l)) (hb : a.length + l.length ≤ 100000) (hbase : base ≤ w.heap.size) :
    ∃ v' w', (Builtin.append_ #[22, 22] t #[v, y]).run Tryz.prog w = .ok v' w' ∧ w'.ownsRow base 24 8 v' (a ++ l).length (rvs (a ++ l)) ∧ w.grownBy w' v.ownBlock ∧ (v'.ownBlock = v.ownBlock ∨ v'.ownBlock = some w.heap.size) := by
  obtain ⟨i0, hi, hz0, hz1, hz2⟩ := info_parts info_rec
  rcases hy.2 with ⟨rfl, h0⟩ | ⟨g, cap, cur, rfl, hbb, hg, hn, hm, hs, ht⟩
  · have hl : l = [] := List.eq_nil_of_length_eq_zero h0
    subst hl
    refine ⟨v, w, ?_, by simpa using hown, ⟨rfl, rfl, rfl, Nat.le_refl _, fun _ _ _ => rfl⟩, .inl rfl⟩
    rcases hown.2 with ⟨rfl, h1⟩ | ⟨g, cap, cur, rfl, hbg, hg, hnc, hcm, hcs, htake⟩
    · have ha : a = [] := List.eq_nil_of_length_eq_zero h1
      subst ha
      simp [Builtin.append_, run_underlying Tryz.underlying22, sizeOf, typeInfo, hi, Builtin.lenOf, Builtin.firstCells, loadCells, loadCellsFrom]
    · simp [Builtin.append_, run_underlying Tryz.underlying22, sizeOf, typeInfo, hi, Builtin.lenOf, Builtin.firstCells, hnc, storeCells]
  · obtain ⟨v', w', h1, h2, h3, _, h5⟩ := run_append_own_at (P := Tryz.prog) w base 22 t 24 i0 _ 8 88 Tryz.underlying22 hi hz0 hz1 hz2 rfl (by decide) v a.length (rvs a) hown
      ⟨g, 0, none⟩ l.length cap (rvs l) (rvs_length l) (fun j u hj => by
        rw [Addr.add_lit, Nat.zero_add, cell_of_row w g j cur _ _ hg]
        rw [← ht, List.getElem?_take] at hj
        split at hj
        · rw [← hj]; simp
        · cases hj) (rvs_one l) (by unfold maxLen; omega) (by omega) hbase
    exact ⟨v', w', h1, by rw [rvs_append, List.length_append]; exact h2, h3, h5⟩
section
variable {ops : Array Oper} {rest : List Oper} {o : Oper} {a : Act} {w : World} {Q : Exit → Act → World → Prop}
theorem wp_append_recs {K : Act → World → Prop} (sl x : Operand) (ho : o.op = .call { callee := .builtin .append, args := #[sl, x], argTypes := #[22, 22] })
    (base base' : Nat) (v y : Value) (c l : List Rec) (hs : a.eval sl = v) (hx : a.eval x = y) (hown : w.ownsRow base 24 8 v c.length (rvs c)) (hy : w.ownsRow base' 24 8 y l.length (rvs l)) (hb : c.length + l.length ≤ 100000) (hbase : base ≤ w.heap.size)
    (h : ∀ v' w', w'.ownsRow base 24 8 v' (c ++ l).length (rvs (c ++ l)) → w.grownBy w' v.ownBlock → (v'.ownBlock = v.ownBlock ∨ v'.ownBlock = some w.heap.size) → K (a.put o.dst v') w') : o.wp Tryz.prog a w K Q := by
  obtain ⟨v', w', hr, h2, h3, h5⟩ := run_append_recs w base base' o.type v y c l hown hy hb hbase
  unfold Oper.wp execOp
  simp only [ho, resolve, invoke, builtin, Sem.run_bind, Sem.run_pure, Result.andThen_ok, List.map_toArray, List.map_cons, List.map_nil, hs, hx, hr]
  exact h v' w' h2 h3 h5
theorem step_append_recs {K : Act → World → Prop} {E : Prop} (hg : o.guard = none) (sl x : Operand) (ho : o.op = .call { callee := .builtin .append, args := #[sl, x], argTypes := #[22, 22] })
    (base base' : Nat) (v y : Value) (c l : List Rec) (hs : a.eval sl = v) (hx : a.eval x = y) (hown : w.ownsRow base 24 8 v c.length (rvs c)) (hy : w.ownsRow base' 24 8 y l.length (rvs l)) (hb : c.length + l.length ≤ 100000) (hbase : base ≤ w.heap.size)
    (h : ∀ v' w', w'.ownsRow base 24 8 v' (c ++ l).length (rvs (c ++ l)) → w.grownBy w' v.ownBlock → (v'.ownBlock = v.ownBlock ∨ v'.ownBlock = some w.heap.size) → K (a.put o.dst v') w') : if Region.wanted o (yielded ops a.tmps) = true then Oper.wp Tryz.prog o a w K Q else E := by
  have hw : Region.wanted o (yielded ops a.tmps) = true := by simp [Region.wanted, hg]
  rw [if_pos hw]
  exact wp_append_recs sl x ho base base' v y c l hs hx hown hy hb hbase h
end
end Go.Proofs.YtfbakelpplpomaaGreatDoor.Disk
/-
  JournalAll: behind the last Append.
-/
namespace Go.Proofs.YtfbakelpplpomaaGreatDoor.Disk
open Go.RowKit Go.Proofs.YtfbakelpplpomaaGreatDoor.DiskRows Go.Proofs.YtfbakelpplpomaaGreatDoor.WalkCrc
open Go.Proofs.YtfbakelpplpomaaGreatDoor.WalkSeat (rc RecAt)
open Pl.Seat (Rec isR)
set_option linter.unusedVariables false
set_option linter.unusedSimpArgs false
set_option maxRecDepth 100000

/-- a disk, and the records that should be there -/
structure JC (w0 : World) (b : Nat) (G : Nat → Prop) (d : Dk) (L : List Rec) (v : Value) (w : World) : Prop where
  ex : ∃ F, DiskAt F b d w ∧ Top F w.heap.size ∧ (∀ k, G k → F k) ∧ (∀ k, k < w0.heap.size → F k) ∧ ∀ k, v.ownBlock = some k → F k
  own : w.ownsRow w0.heap.size 24 8 v L.length (rvs L)
  ne : ∀ k, v.ownBlock = some k → ¬ G k
  bel : Below w0.heap.size w0 w
  tab : Tab w
theorem JC.on {w0 w : World} {b : Nat} {G : Nat → Prop} {d : Dk} {L : List Rec} {v : Value} (h : JC w0 b G d L v w) {f : Nat} {args : Array Value} {P : Ending → Prop} {d' : Dk} (ht0 : 0 < w0.heap.size) (c : ∀ F, DiskAt F b d w → Top F w.heap.size → Calls Tryz.prog f args w fun x w' => P x ∧ DiskAt F b d' w' ∧ Kp F w w') :
    Calls Tryz.prog f args w fun z w' => P z ∧ JC w0 b G d' L v w' ∧ Kp G w w' := by
  obtain ⟨F, h1, h2, h4, h5, h6⟩ := h.ex
  refine (c F h1 h2).mono ?_
  rintro z w' ⟨hp, hd, hk⟩
  exact ⟨hp, ⟨⟨F, hd, h2.trans hk.size, h4, h5, h6⟩, own_kpF h.own hk h6, h.ne, hk.bel0 h.bel h5, tab_kp h.tab hk (h5 _ ht0)⟩, hk.sub h4⟩
theorem JA.last {w0 w : World} {b bj ep : Nat} {G : Nat → Prop} {d : Dk} {L : List Rec} {v : Value} (h : JA w0 b bj ep G d L v w) (ht0 : 0 < w0.heap.size) (e q k : Int) (N O M : ByteArray) (t u : Int) (hS : d.S.length = 40) (hL : L.length ≤ 17) (ho : d.ops ≤ 800000) (hC : d.C.length ≤ 30000) (Q : Dk × Int) (hQ : appV d 1 ep L.length (rc e q k N O M t u) = Q) :
    Calls Tryz.prog 9 #[.pointer (some ⟨bj, 0, none⟩), .agg #[.int .i64 e, .int .i64 q, .int .i64 k, .string N, .string O, .string M, .int .i64 t, .int .i64 u]] w fun z w' => z = .returned (.int .i64 Q.2) ∧ JC w0 b G Q.1 L v w' ∧ Kp G w w' := by
  by_cases hn : Q.2 = 0
  · refine (h.answered ht0 e q k N O M t u hS hL ho hC Q hQ hn).mono ?_
    rintro z w' ⟨rfl, hb, hk⟩
    obtain ⟨F, h1, h2, h3, h4, h5, h6⟩ := hb.ex
    exact ⟨by rw [hn], ⟨⟨F, h1, h2, h4, h5, h6⟩, hb.own, fun j hj => (hb.ne.2 j hj).2, hb.bel, hb.tab⟩, hk⟩
  · refine (h.refused ht0 e q k N O M t u hS hL ho hC Q hQ hn).mono ?_
    rintro z w' ⟨rfl, hb, hk⟩
    obtain ⟨F, h1, h2, h3, h4, h5, h6⟩ := hb.ex
    exact ⟨rfl, ⟨⟨F, h1, h2, h4, h5, h6⟩, hb.own, fun j hj => (hb.ne.2 j hj).2, hb.bel, hb.tab⟩, hk⟩
theorem jarm_same (d : Dk) (n : Int) : (d.arm n).1.S = d.S ∧ (d.arm n).1.C = d.C ∧ (d.arm n).1.ops = d.ops := by
  unfold Dk.arm
  split
  · exact ⟨rfl, rfl, rfl⟩
  · split
    · exact ⟨rfl, rfl, rfl⟩
    · exact ⟨rfl, rfl, rfl⟩
/-- what Open leaves, where the records are kept -/
theorem JC.open {w0 w : World} {b ep : Nat} {G : Nat → Prop} {d : Dk} {L : List Rec} {v : Value} (h : JC w0 b G d L v w) (ht0 : 0 < w0.heap.size) (h2 : 1 ≤ ep) (h3 : ep ≤ 4294967295) (hdn : d.down = false) (ho : d.ops ≤ 1000000) (hl : d.H.length = d.S.length) (hz : ∀ x ∈ d.H, x.size = 128) (R : List Rec) (hR : jrecs d 1 ep = R) :
    Calls Tryz.prog 8 #[.pointer (some ⟨b, 0, none⟩), .int .i64 1, .int .i64 ep] w fun x w' => (∃ p vg, x = .returned (.tuple #[.pointer (some p), vg, .int .i64 0]) ∧ w'.ownsRow (w.heap.size + 1) 24 8 vg R.length (rvs R)) ∧ w'.ownsRow w0.heap.size 24 8 v L.length (rvs L) ∧ Below w0.heap.size w0 w' ∧ Tab w' ∧ Kp G w w' := by
  obtain ⟨F, h1, hT, h4, h5, h6⟩ := h.ex
  refine (jopen_ok F b d 1 ep w h1 hT hdn (by omega) h2 h3 ho hl hz h.tab (h5 _ ht0) R hR _ rfl).mono ?_
  rintro x w' ⟨⟨vg, rfl, -, ho', -⟩, hk⟩
  exact ⟨⟨_, vg, rfl, ho'⟩, own_kpF h.own hk h6, hk.bel0 h.bel h5, tab_kp h.tab hk (h5 _ ht0), hk.sub h4⟩
/-- a row of nothing, made -/
theorem own_e (W : World) (B : Nat) (hB : B ≤ W.heap.size) : (W.alloc (.cells #[] 24)).ownsRow B 24 8 (.slice (some ⟨W.heap.size, 0, none⟩) 0 0) ([] : List Rec).length (rvs []) :=
  ⟨rfl, .inr ⟨W.heap.size, 0, #[], rfl, hB, heap_alloc_last _ _, Nat.le_refl _, by simp [maxLen], rfl, rfl⟩⟩
/-- a row of one record -/
theorem own_c (W : World) (B g : Nat) (x : Rec) (cs : Array Value) (hx : cs.toList = rcells x) (h : W.heap[g]? = some (.cells cs 24 (0, 0))) (hB : B ≤ g) : W.ownsRow B 24 8 (.slice (some ⟨g, 0, none⟩) 1 1) [x].length (rvs [x]) := by
  have hl : cs.size = 8 := by rw [← Array.length_toList, hx]; rfl
  refine ⟨rfl, .inr ⟨g, 1, cs, rfl, hB, h, Nat.le_refl _, by simp [maxLen], hl, ?_⟩⟩
  rw [show rvs [x] = rcells x by simp [rvs], ← hx]
  exact List.take_of_length_le (by rw [Array.length_toList, hl]; exact Nat.le_refl _)
theorem _root_.Go.World.heap_lt_of {w : World} {g : Nat} {o : Obj} (h : w.heap[g]? = some o) : g < w.heap.size := (Array.getElem?_eq_some_iff.1 h).1
theorem recRow_own {w : World} {base n n' c : Nat} {A : Option Addr} {l : List Rec} (h : w.ownsRow base 24 8 (.slice A n c) n' (rvs l)) : RecRow w A l := by
  obtain ⟨A', c', e, hr⟩ := RecRow.of_own h
  obtain rfl := (Value.slice.inj e).1
  exact hr
end Go.Proofs.YtfbakelpplpomaaGreatDoor.Disk
