/-
  Noughts are no record.
-/
import Derived.Test.YtfbakelpplpomaaGreatDoorWalkEntryIs
import Derived.Test.YtfbakelpplpomaaGreatDoorJournH
namespace Go.Proofs.YtfbakelpplpomaaGreatDoor.WalkSeat
open Go.RowKit Go.Proofs.YtfbakelpplpomaaGreatDoor.WalkVar Go.Proofs.YtfbakelpplpomaaGreatDoor.WalkScan Go.Proofs.YtfbakelpplpomaaGreatDoor.WalkCrc
open Pl.Seat (numV numR txtV txtR numP txtP Head isH putH openS isName nameByte isHash Rec isR putR)
set_option linter.unusedVariables false
set_option linter.unusedSimpArgs false
set_option maxRecDepth 100000

theorem takeR_zeros : takeRV (zeros 128) = Pl.Seat.Rec.zero ∧ takeRB (zeros 128) = false := by
  rcases takeRV_is (zeros 128) with ⟨h1, h2, h3⟩ | ⟨h1, h2⟩
  · exfalso
    obtain ⟨x, hx⟩ : ∃ x, takeRV (zeros 128) = x := ⟨_, rfl⟩
    rw [hx] at h2 h3
    have h3' : putR tailU x = zeros 128 := by unfold putRV at h3; rw [if_pos h2] at h3; exact h3
    have h5 : (putR tailU x).head? = some 0 := by rw [h3']; rfl
    have hl := Pl.Seat.textR_len x h2
    have hu := tailU_len (Pl.Seat.textR x)
    have h4 : (putR tailU x).head? = (Pl.Seat.put (Pl.Seat.textR x ++ tailU (Pl.Seat.textR x)).length).head? := by
      show (Pl.Seat.full (Pl.Seat.putT _)).head? = _
      unfold Pl.Seat.full Pl.Seat.putT
      rw [List.append_assoc, List.head?_append]
      have := Pl.Seat.put_pos (Pl.Seat.textR x ++ tailU (Pl.Seat.textR x)).length
      cases hq : Pl.Seat.put (Pl.Seat.textR x ++ tailU (Pl.Seat.textR x)).length with
      | nil => rw [hq] at this; simp at this
      | cons c l => rfl
    have h6 : 0 < (Pl.Seat.textR x ++ tailU (Pl.Seat.textR x)).length := by simp; omega
    have h7 : (Pl.Seat.textR x ++ tailU (Pl.Seat.textR x)).length < 128 := by simp; omega
    generalize (Pl.Seat.textR x ++ tailU (Pl.Seat.textR x)).length = m at h4 h6 h7
    unfold Pl.Seat.put Pl.Seat.putF at h4
    rw [if_pos h7, h5] at h4
    simp only [List.head?_cons, Option.some.injEq] at h4
    have := congrArg UInt8.toNat h4
    simp at this
    omega
  · exact ⟨h2, h1⟩
end Go.Proofs.YtfbakelpplpomaaGreatDoor.WalkSeat
/-
  Append, whatever the record; the journal's first play.
-/
namespace Go.Proofs.YtfbakelpplpomaaGreatDoor.Disk
open Go.RowKit Go.Proofs.YtfbakelpplpomaaGreatDoor.DiskRows Go.Proofs.YtfbakelpplpomaaGreatDoor.WalkCrc
open Go.Proofs.YtfbakelpplpomaaGreatDoor.WalkSeat (rc putRV isRB isRV takeRB)
open Pl.Seat (Rec isR)
set_option linter.unusedVariables false
set_option linter.unusedSimpArgs false
set_option maxRecDepth 100000

/-- what Append does -/
def appV (d : Dk) (half epoch count : Nat) (x : Rec) : Dk × Int :=
  if isR { x with epoch := epoch, seq := count } = false then (d, 2)
  else if halfV d.S.length ≤ count + 1 then (d, 6)
  else jput d (placeV d.S.length half (count + 1)) (placeV d.S.length half count) (bs (zeros 128)) (WalkVar.bs (putRV { x with epoch := epoch, seq := count }))
theorem append_any (F : Nat → Prop) (bj b half epoch count : Nat) (d : Dk) (e q k : Int) (N O M : ByteArray) (t u : Int) (w : World) (hD : DiskAt F b d w) (hT : Top F w.heap.size) (hj : JnAt bj b half epoch count w) (hFj : F bj) (htab : Tab w) (hh : half ≤ 1) (hc : count ≤ halfV d.S.length) (ho : d.ops ≤ 800000) (hC : d.C.length ≤ 30000) (Q : Dk × Int) (hQ : appV d half epoch count (rc e q k N O M t u) = Q) (c' : Nat) (hc' : (if Q.2 = 0 then count + 1 else count) = c') :
    Calls Tryz.prog 9 #[.pointer (some ⟨bj, 0, none⟩), .agg #[.int .i64 e, .int .i64 q, .int .i64 k, .string N, .string O, .string M, .int .i64 t, .int .i64 u]] w fun x w' => x = .returned (.int .i64 Q.2) ∧ DiskAt F b Q.1 w' ∧ JnAt bj b half epoch c' w' ∧ Kp (fun j => F j ∧ j ≠ bj) w w' := by
  have er : ({ rc e q k N O M t u with epoch := (epoch : Int), seq := (count : Int) } : Rec) = rc epoch count k N O M t u := rfl
  unfold appV at hQ
  rw [er] at hQ
  by_cases h1 : isR (rc epoch count k N O M t u) = false
  · rw [if_pos h1] at hQ
    subst hQ
    obtain rfl : count = c' := by rw [← hc']; rfl
    refine (append_bad F bj b half epoch count d e q k N O M t u w hD hj htab h1).mono ?_
    rintro x w' ⟨rfl, k'⟩
    exact ⟨rfl, hD.later k', hj.later k', k'.kp⟩
  · have h1' : isR (rc epoch count k N O M t u) = true := by simpa using h1
    rw [if_neg h1] at hQ
    by_cases h2 : halfV d.S.length ≤ count + 1
    · rw [if_pos h2] at hQ
      subst hQ
      obtain rfl : count = c' := by rw [← hc']; rfl
      refine (append_full F bj b half epoch count d e q k N O M t u w hD hj htab h1' hh hc h2).mono ?_
      rintro x w' ⟨rfl, k'⟩
      exact ⟨rfl, hD.later k', hj.later k', k'.kp⟩
    · rw [if_neg h2] at hQ
      exact append_go F bj b half epoch count d e q k N O M t u w hD hj htab hT h1' hh (by omega) ho hC hFj Q hQ c' hc'
/-- the record of the first play -/
theorem some_any (w : World) : Calls Tryz.prog 25 #[] w fun x w' => x = .returned (.agg #[.int .i64 0, .int .i64 0, .int .i64 1, .string ⟨#[97]⟩, .string ⟨#[]⟩, .string ⟨#[46, 46, 46, 46, 46, 46, 46, 46, 46, 46, 46, 46, 46, 46, 46, 46, 46, 46, 46, 46, 46, 46, 46, 46, 46, 46, 46, 46, 46, 46, 46, 46]⟩, .int .i64 0, .int .i64 1]) ∧ Below w.heap.size w w' := by
  go_enter Tryz.func25, Tryz.ntmps25
  go_wp2
  refine bodyPost_ret (by simp [results, Tryz.results25, go_sem]; try rfl) rfl ?_
  exact ⟨rfl, Joins.below_alloc1 _ _⟩
theorem fresh_recs (N half ep : Nat) : jrecs (fresh N) half ep = [] := by
  unfold jrecs
  cases h : halfV (fresh N).S.length with
  | zero => rfl
  | succ f =>
    rw [jscan, if_neg]
    have hz : (WalkSeat.zeros 128) = zeros 128 := rfl
    have hs : shown (fresh N) half 0 = zeros 128 ∨ shown (fresh N) half 0 = [] := by
      unfold shown fresh
      dsimp only
      rw [List.getD_eq_getElem?_getD, List.getElem?_replicate]
      split
      · left; rfl
      · right; rfl
    have h1 := WalkSeat.takeR_zeros.2
    rw [hz] at h1
    rcases hs with hs | hs
    · rw [hs]; unfold isRB; rw [h1]; simp
    · rw [hs]
      unfold isRB
      have : takeRB [] = false := by decide
      rw [this]; simp
theorem write_free (d : Dk) (h0 : d.armed = 0) (hd : d.down = false) (i : Nat) (hi : i < d.S.length) (s : ByteArray) (hs : s.size = 128) : (d.write i s).2 = 0 ∧ (d.write i s).1.armed = 0 ∧ (d.write i s).1.down = false ∧ (d.write i s).1.S = d.S ∧ (d.write i s).1.ops = d.ops + 1 := by
  have hh : d.has (i : Nat) := ⟨by omega, by omega⟩
  unfold Dk.write
  rw [if_neg (by simp [hd]), if_pos hh, if_pos hs, if_neg (by simp [Dk.step, h0])]
  simp [Dk.step, h0, hd]
theorem flush_free (d : Dk) (h0 : d.armed = 0) (hd : d.down = false) : d.flush.2 = 0 ∧ d.flush.1.armed = 0 ∧ d.flush.1.down = false ∧ d.flush.1.S.length = d.S.length ∧ d.flush.1.ops = d.ops + 1 := by
  unfold Dk.flush
  rw [if_neg (by simp [hd]), if_neg (by simp [Dk.step, h0])]
  simp [Dk.step, h0, hd, shows_length]
theorem jput_free (d : Dk) (h0 : d.armed = 0) (hd : d.down = false) (p0 p1 : Nat) (hp0 : p0 < d.S.length) (hp1 : p1 < d.S.length) (z s : ByteArray) (hz : z.size = 128) (hs : s.size = 128) : (jput d p0 p1 z s).2 = 0 ∧ (jput d p0 p1 z s).1.ops = d.ops + 4 ∧ (jput d p0 p1 z s).1.armed = 0 ∧ (jput d p0 p1 z s).1.down = false := by
  obtain ⟨a1, a2, a3, a4, a5⟩ := write_free d h0 hd p0 hp0 z hz
  obtain ⟨b1, b2, b3, b4, b5⟩ := flush_free _ a2 a3
  rw [a4] at b4
  obtain ⟨c1, c2, c3, c4, c5⟩ := write_free _ b2 b3 p1 (by rw [b4]; exact hp1) s hs
  obtain ⟨d1, d2, d3, d4, d5⟩ := flush_free _ c2 c3
  unfold jput
  rw [if_neg (by simpa using a1), if_neg (by simpa using b1), if_neg (by simpa using c1)]
  exact ⟨d1, by omega, d2, d3⟩
theorem putRV_size (x : Rec) (h : isR x = true) : (WalkVar.bs (putRV x)).size = 128 := by
  unfold putRV
  rw [if_pos h, WalkVar.bs_size]
  exact Pl.Seat.putR_len WalkSeat.tailU WalkSeat.tailU_len _ h
end Go.Proofs.YtfbakelpplpomaaGreatDoor.Disk
/-
  The journal's first play (pleachlaw38's awake).
-/
namespace Go.Proofs.YtfbakelpplpomaaGreatDoor.Disk
open Go.RowKit Go.Proofs.YtfbakelpplpomaaGreatDoor.DiskRows Go.Proofs.YtfbakelpplpomaaGreatDoor.WalkCrc
open Go.Proofs.YtfbakelpplpomaaGreatDoor.WalkSeat (rc putRV isRB isRV takeRB)
open Pl.Seat (Rec isR)
set_option linter.unusedVariables false
set_option linter.unusedSimpArgs false
set_option maxRecDepth 100000

def dots : ByteArray := ⟨#[46, 46, 46, 46, 46, 46, 46, 46, 46, 46, 46, 46, 46, 46, 46, 46, 46, 46, 46, 46, 46, 46, 46, 46, 46, 46, 46, 46, 46, 46, 46, 46]⟩
set_option maxHeartbeats 6400000 in
theorem awake38_any (w : World) (ht : Tab w) : Calls Tryz.prog 6 #[] w fun x w' => x = .returned (.bool true) ∧ Below w.heap.size w w' := by
  obtain ⟨N, hN⟩ : ∃ N : Nat, 16 = N := ⟨_, rfl⟩
  have hnew : ∀ W, Calls Tryz.prog 7 #[.int .i64 16] W fun x w' => (∃ b, x = .returned (.tuple #[.pointer (some ⟨b, 0, none⟩), .int .i64 0]) ∧ DiskAt (lo W.heap.size) b (fresh N) w') ∧ Below W.heap.size W w' := fun W => by
    rw [← hN]; exact new_ok 16 W (by omega) (by omega)
  have hl0 : (fresh N).S.length = N := by simp [fresh]
  have hl1 : (fresh N).H.length = N := by simp [fresh]
  have hz0 : ∀ x ∈ (fresh N).H, x.size = 128 := by
    intro x hx
    obtain ⟨-, rfl⟩ := List.mem_replicate.1 hx
    show (bs (zeros 128)).size = 128
    rw [bs_size]; simp [zeros]
  have hL := fresh_recs N 0 1
  have hr : jreads (fresh N) 0 1 = 1 := by
    unfold jreads
    rw [hL, hl0, ← hN]
    rfl
  obtain ⟨D, hD⟩ : ∃ D, dots = D := ⟨_, rfl⟩
  have hsm : ∀ W, Calls Tryz.prog 25 #[] W fun x w' => x = .returned (.agg #[.int .i64 0, .int .i64 0, .int .i64 1, .string ⟨#[97]⟩, .string ⟨#[]⟩, .string D, .int .i64 0, .int .i64 1]) ∧ Below W.heap.size W w' := fun W => by
    rw [← hD]; exact some_any W
  obtain ⟨d2, hd2⟩ : ∃ d2 : Dk, { fresh N with ops := (fresh N).ops + 1 } = d2 := ⟨_, rfl⟩
  have e2 : d2.S.length = N ∧ d2.armed = 0 ∧ d2.down = false ∧ d2.ops = 1 ∧ d2.C.length = 0 := by subst hd2; exact ⟨hl0, rfl, rfl, rfl, rfl⟩
  obtain ⟨Q, hQ⟩ : ∃ Q, appV d2 0 1 0 (rc 0 0 1 ⟨#[97]⟩ ⟨#[]⟩ D 0 1) = Q := ⟨_, rfl⟩
  have hQ0 : Q.2 = 0 ∧ Q.1.ops = 5 := by
    have hi : isR (rc 1 0 1 ⟨#[97]⟩ ⟨#[]⟩ D 0 1) = true := by rw [← hD]; decide
    have hsz := putRV_size _ hi
    have hz : (bs (zeros 128)).size = 128 := by rw [bs_size]; simp [zeros]
    have e : appV d2 0 1 0 (rc 0 0 1 ⟨#[97]⟩ ⟨#[]⟩ D 0 1) = jput d2 (placeV d2.S.length 0 (0 + 1)) (placeV d2.S.length 0 0) (bs (zeros 128)) (WalkVar.bs (putRV (rc 1 0 1 ⟨#[97]⟩ ⟨#[]⟩ D 0 1))) := by
      unfold appV
      rw [show ({ rc 0 0 1 ⟨#[97]⟩ ⟨#[]⟩ D 0 1 with epoch := ((1 : Nat) : Int), seq := ((0 : Nat) : Int) } : Rec) = rc 1 0 1 ⟨#[97]⟩ ⟨#[]⟩ D 0 1 from rfl, if_neg (by rw [hi]; decide), if_neg (by rw [e2.1, ← hN]; decide)]
    rw [e] at hQ
    have := jput_free d2 e2.2.1 e2.2.2.1 (placeV d2.S.length 0 (0 + 1)) (placeV d2.S.length 0 0) (by rw [e2.1, ← hN]; decide) (by rw [e2.1, ← hN]; decide) _ _ hz hsz
    rw [hQ] at this
    exact ⟨this.1, by omega⟩
  have HNew := Lib.hid hnew
  have HN := Lib.hid (And.intro hN (And.intro hl0 (And.intro hl1 (And.intro hz0 (And.intro hL hr)))))
  have HSm := Lib.hid hsm
  have HQ := Lib.hid (And.intro hQ (And.intro hQ0 (And.intro e2 (And.intro hd2 (show D.size ≤ 1048576 by rw [← hD]; decide)))))
  have HT := Lib.hid ht
  clear hnew hN hl0 hl1 hz0 hL hr hD hsm hd2 e2 hQ hQ0 ht
  go_enter Tryz.func6, Tryz.ntmps6
  go_wp2_with fail
  refine (HNew.out w).mono ?_
  rintro x w1 ⟨⟨b, rfl, hd⟩, k1⟩
  have hjo := jopen_ok (lo w.heap.size) b (fresh N) 0 1 w1 hd ((lo_top _).trans k1.size) rfl (by omega) (by omega) (by omega) (by simp [fresh]) (by rw [HN.out.2.1, HN.out.2.2.1]) HN.out.2.2.2.1 (HT.out.below k1 HT.out.lt) HT.out.lt [] HN.out.2.2.2.2.1 1 HN.out.2.2.2.2.2
  rw [HQ.out.2.2.2.1] at hjo
  have HJo := Lib.hid hjo
  have HK1 := Lib.hid k1
  clear hd k1 hjo
  go_wp2_with fail
  refine HJo.out.mono ?_
  rintro x w2 ⟨⟨v, rfl, hj2, ho2, hd2⟩, k2⟩
  obtain ⟨hlv, av, cv, rfl⟩ := own_lenOf ho2
  have hops := ops_any _ b d2 w2 hd2
  rw [HQ.out.2.2.1.2.2.2.1] at hops
  have HO := Lib.hid hops
  have H2 := Lib.hid (And.intro hj2 (And.intro hd2 k2))
  clear hj2 ho2 hd2 k2 hlv hops
  go_wp2_with fail
  refine HO.out.mono ?_
  rintro x w3 ⟨rfl, rfl⟩
  go_wp2_with fail
  refine (HSm.out _).mono ?_
  rintro x w3 ⟨rfl, k3⟩
  have hbel2 := H2.out.2.2.bel0 HK1.out (fun k hk => hk)
  have hap := append_any (Plus (lo w.heap.size) w1.heap.size w2.heap.size) w1.heap.size b 0 1 0 d2 0 0 1 ⟨#[97]⟩ ⟨#[]⟩ D 0 1 w3 (H2.out.2.1.later k3) ((Plus.top ((lo_top _).trans HK1.out.size) H2.out.2.2.size).trans k3.size) (H2.out.1.later k3) (.inr ⟨Nat.le_refl _, H2.out.1.lt⟩) (HT.out.below (hbel2.trans (k3.mono hbel2.size)) HT.out.lt) (by omega) (by omega) (by have := HQ.out.2.2.1; omega) (by have := HQ.out.2.2.1; omega) Q HQ.out.1 1 (by rw [if_pos HQ.out.2.1.1])
  rw [HQ.out.2.1.1] at hap
  have HAp := Lib.hid hap
  have H3 := Lib.hid (And.intro hbel2 (hbel2.trans (k3.mono hbel2.size)))
  clear hap hbel2 k3
  go_wp2_with fail
  refine HAp.out.mono ?_
  rintro x w4 ⟨rfl, hd4, hj4, k4⟩
  have hops := ops_any _ b Q.1 w4 hd4
  rw [HQ.out.2.1.2] at hops
  have HO4 := Lib.hid hops
  have HC4 := Lib.hid (count_any _ b 0 1 1 w4 hj4)
  have HB4 := Lib.hid (k4.bel0 H3.out.2 (fun k hk => ⟨.inl hk, by have := HK1.out.size; omega⟩))
  clear hd4 hj4 k4 hops
  go_wp2_with fail
  refine HC4.out.mono ?_
  rintro x w5 ⟨rfl, rfl⟩
  go_wp2_with fail
  refine HO4.out.mono ?_
  rintro x w5 ⟨rfl, rfl⟩
  go_wp2
  go_ret
  exact ⟨rfl, HB4.out⟩
end Go.Proofs.YtfbakelpplpomaaGreatDoor.Disk
