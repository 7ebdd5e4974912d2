/-
  Append, whatever the record; the journal's first play.
-/
import Derived.Test.YtfbakelpplpomaaDoorJournH
import Derived.Test.YtfbakelpplpomaaDoorEntryZeros
namespace Go.Proofs.YtfbakelpplpomaaDoor.Disk
open Go.RowKit Go.Proofs.YtfbakelpplpomaaDoor.DiskRows Go.Proofs.YtfbakelpplpomaaDoor.WalkCrc
open Go.Proofs.YtfbakelpplpomaaDoor.WalkSeat (rc putRV isRB isRV takeRB)
open Pl.Seat (Rec isR)
set_option linter.unusedVariables false
set_option linter.unusedSimpArgs false
set_option maxRecDepth 100000

/-- what Append does -/
def appV (d : Dk) (half epoch count : Nat) (x : Rec) : Dk × Int :=
  if isR { x with epoch := epoch, seq := count } = false then (d, 2)
  else if halfV d.S.length ≤ count + 1 then (d, 6)
  else jput d (placeV d.S.length half (count + 1)) (placeV d.S.length half count) (bs (zeros 128)) (WalkVar.bs (putRV { x with epoch := epoch, seq := count }))
theorem append_any (F : Nat → Prop) (bj b half epoch count : Nat) (d : Dk) (e q k : Int) (N O M : ByteArray) (t u : Int) (w : World) (hD : DiskAt F b d w) (hT : Top F w.heap.size) (hj : JnAt bj b half epoch count w) (hFj : F bj) (htab : Tab w) (hO : O.size ≤ 1048576) (hM : M.size ≤ 1048576) (hh : half ≤ 1) (hc : count ≤ halfV d.S.length) (ho : d.ops ≤ 800000) (hC : d.C.length ≤ 30000) (Q : Dk × Int) (hQ : appV d half epoch count (rc e q k N O M t u) = Q) (c' : Nat) (hc' : (if Q.2 = 0 then count + 1 else count) = c') :
    Calls Tryd.prog 7 #[.pointer (some ⟨bj, 0, none⟩), .agg #[.int .i64 e, .int .i64 q, .int .i64 k, .string N, .string O, .string M, .int .i64 t, .int .i64 u]] w fun x w' => x = .returned (.int .i64 Q.2) ∧ DiskAt F b Q.1 w' ∧ JnAt bj b half epoch c' w' ∧ Kp (fun j => F j ∧ j ≠ bj) w w' := by
  have er : ({ rc e q k N O M t u with epoch := (epoch : Int), seq := (count : Int) } : Rec) = rc epoch count k N O M t u := rfl
  unfold appV at hQ
  rw [er] at hQ
  by_cases h1 : isR (rc epoch count k N O M t u) = false
  · rw [if_pos h1] at hQ
    subst hQ
    obtain rfl : count = c' := by rw [← hc']; rfl
    refine (append_bad F bj b half epoch count d e q k N O M t u w hD hj htab hO hM h1).mono ?_
    rintro x w' ⟨rfl, k'⟩
    exact ⟨rfl, hD.later k', hj.later k', k'.kp⟩
  · have h1' : isR (rc epoch count k N O M t u) = true := by simpa using h1
    rw [if_neg h1] at hQ
    by_cases h2 : halfV d.S.length ≤ count + 1
    · rw [if_pos h2] at hQ
      subst hQ
      obtain rfl : count = c' := by rw [← hc']; rfl
      refine (append_full F bj b half epoch count d e q k N O M t u w hD hj htab hO hM h1' hh hc h2).mono ?_
      rintro x w' ⟨rfl, k'⟩
      exact ⟨rfl, hD.later k', hj.later k', k'.kp⟩
    · rw [if_neg h2] at hQ
      exact append_go F bj b half epoch count d e q k N O M t u w hD hj htab hO hM hT h1' hh (by omega) ho hC hFj Q hQ c' hc'
/-- the record of the first play -/
theorem some_any (w : World) : Calls Tryd.prog 27 #[] w fun x w' => x = .returned (.agg #[.int .i64 0, .int .i64 0, .int .i64 1, .string ⟨#[97]⟩, .string ⟨#[]⟩, .string ⟨#[46, 46, 46, 46, 46, 46, 46, 46, 46, 46, 46, 46, 46, 46, 46, 46, 46, 46, 46, 46, 46, 46, 46, 46, 46, 46, 46, 46, 46, 46, 46, 46]⟩, .int .i64 0, .int .i64 1]) ∧ Below w.heap.size w w' := by
  go_enter Tryd.func27, Tryd.ntmps27
  go_wp2
  refine bodyPost_ret (by simp [results, Tryd.results27, go_sem]; try rfl) rfl ?_
  exact ⟨rfl, Joins.below_alloc1 _ _⟩
theorem fresh_recs (N half ep : Nat) : jrecs (fresh N) half ep = [] := by
  unfold jrecs
  cases h : halfV (fresh N).S.length with
  | zero => rfl
  | succ f =>
    rw [jscan, if_neg]
    have hz : (WalkSeat.zeros 128) = zeros 128 := rfl
    have hs : shown (fresh N) half 0 = zeros 128 ∨ shown (fresh N) half 0 = [] := by
      unfold shown fresh
      dsimp only
      rw [List.getD_eq_getElem?_getD, List.getElem?_replicate]
      split
      · left; rfl
      · right; rfl
    have h1 := WalkSeat.takeR_zeros.2
    rw [hz] at h1
    rcases hs with hs | hs
    · rw [hs]; unfold isRB; rw [h1]; simp
    · rw [hs]
      unfold isRB
      have : takeRB [] = false := by decide
      rw [this]; simp
theorem write_free (d : Dk) (h0 : d.armed = 0) (hd : d.down = false) (i : Nat) (hi : i < d.S.length) (s : ByteArray) (hs : s.size = 128) : (d.write i s).2 = 0 ∧ (d.write i s).1.armed = 0 ∧ (d.write i s).1.down = false ∧ (d.write i s).1.S = d.S ∧ (d.write i s).1.ops = d.ops + 1 := by
  have hh : d.has (i : Nat) := ⟨by omega, by omega⟩
  unfold Dk.write
  rw [if_neg (by simp [hd]), if_pos hh, if_pos hs, if_neg (by simp [Dk.step, h0])]
  simp [Dk.step, h0, hd]
theorem flush_free (d : Dk) (h0 : d.armed = 0) (hd : d.down = false) : d.flush.2 = 0 ∧ d.flush.1.armed = 0 ∧ d.flush.1.down = false ∧ d.flush.1.S.length = d.S.length ∧ d.flush.1.ops = d.ops + 1 := by
  unfold Dk.flush
  rw [if_neg (by simp [hd]), if_neg (by simp [Dk.step, h0])]
  simp [Dk.step, h0, hd, shows_length]
theorem jput_free (d : Dk) (h0 : d.armed = 0) (hd : d.down = false) (p0 p1 : Nat) (hp0 : p0 < d.S.length) (hp1 : p1 < d.S.length) (z s : ByteArray) (hz : z.size = 128) (hs : s.size = 128) : (jput d p0 p1 z s).2 = 0 ∧ (jput d p0 p1 z s).1.ops = d.ops + 4 ∧ (jput d p0 p1 z s).1.armed = 0 ∧ (jput d p0 p1 z s).1.down = false := by
  obtain ⟨a1, a2, a3, a4, a5⟩ := write_free d h0 hd p0 hp0 z hz
  obtain ⟨b1, b2, b3, b4, b5⟩ := flush_free _ a2 a3
  rw [a4] at b4
  obtain ⟨c1, c2, c3, c4, c5⟩ := write_free _ b2 b3 p1 (by rw [b4]; exact hp1) s hs
  obtain ⟨d1, d2, d3, d4, d5⟩ := flush_free _ c2 c3
  unfold jput
  rw [if_neg (by simpa using a1), if_neg (by simpa using b1), if_neg (by simpa using c1)]
  exact ⟨d1, by omega, d2, d3⟩
theorem putRV_size (x : Rec) (h : isR x = true) : (WalkVar.bs (putRV x)).size = 128 := by
  unfold putRV
  rw [if_pos h, WalkVar.bs_size]
  exact Pl.Seat.putR_len WalkSeat.tailU WalkSeat.tailU_len _ h
end Go.Proofs.YtfbakelpplpomaaDoor.Disk
