/-
  The journal's first play (pleachlaw38's awake).
-/
import Derived.Test.YtfbakelpplpomaaDoorJournI
namespace Go.Proofs.YtfbakelpplpomaaDoor.Disk
open Go.RowKit Go.Proofs.YtfbakelpplpomaaDoor.DiskRows Go.Proofs.YtfbakelpplpomaaDoor.WalkCrc
open Go.Proofs.YtfbakelpplpomaaDoor.WalkSeat (rc putRV isRB isRV takeRB)
open Pl.Seat (Rec isR)
set_option linter.unusedVariables false
set_option linter.unusedSimpArgs false
set_option maxRecDepth 100000

def dots : ByteArray := ⟨#[46, 46, 46, 46, 46, 46, 46, 46, 46, 46, 46, 46, 46, 46, 46, 46, 46, 46, 46, 46, 46, 46, 46, 46, 46, 46, 46, 46, 46, 46, 46, 46]⟩
set_option maxHeartbeats 6400000 in
theorem awake38_any (w : World) (ht : Tab w) : Calls Tryd.prog 9 #[] w fun x w' => x = .returned (.bool true) ∧ Below w.heap.size w w' := by
  obtain ⟨N, hN⟩ : ∃ N : Nat, 16 = N := ⟨_, rfl⟩
  have hnew : ∀ W, Calls Tryd.prog 25 #[.int .i64 16] W fun x w' => (∃ b, x = .returned (.tuple #[.pointer (some ⟨b, 0, none⟩), .int .i64 0]) ∧ DiskAt (lo W.heap.size) b (fresh N) w') ∧ Below W.heap.size W w' := fun W => by
    rw [← hN]; exact new_ok 16 W (by omega) (by omega)
  have hl0 : (fresh N).S.length = N := by simp [fresh]
  have hl1 : (fresh N).H.length = N := by simp [fresh]
  have hz0 : ∀ x ∈ (fresh N).H, x.size = 128 := by
    intro x hx
    obtain ⟨-, rfl⟩ := List.mem_replicate.1 hx
    show (bs (zeros 128)).size = 128
    rw [bs_size]; simp [zeros]
  have hL := fresh_recs N 0 1
  have hr : jreads (fresh N) 0 1 = 1 := by
    unfold jreads
    rw [hL, hl0, ← hN]
    rfl
  obtain ⟨D, hD⟩ : ∃ D, dots = D := ⟨_, rfl⟩
  have hsm : ∀ W, Calls Tryd.prog 27 #[] W fun x w' => x = .returned (.agg #[.int .i64 0, .int .i64 0, .int .i64 1, .string ⟨#[97]⟩, .string ⟨#[]⟩, .string D, .int .i64 0, .int .i64 1]) ∧ Below W.heap.size W w' := fun W => by
    rw [← hD]; exact some_any W
  obtain ⟨d2, hd2⟩ : ∃ d2 : Dk, { fresh N with ops := (fresh N).ops + 1 } = d2 := ⟨_, rfl⟩
  have e2 : d2.S.length = N ∧ d2.armed = 0 ∧ d2.down = false ∧ d2.ops = 1 ∧ d2.C.length = 0 := by subst hd2; exact ⟨hl0, rfl, rfl, rfl, rfl⟩
  obtain ⟨Q, hQ⟩ : ∃ Q, appV d2 0 1 0 (rc 0 0 1 ⟨#[97]⟩ ⟨#[]⟩ D 0 1) = Q := ⟨_, rfl⟩
  have hQ0 : Q.2 = 0 ∧ Q.1.ops = 5 := by
    have hi : isR (rc 1 0 1 ⟨#[97]⟩ ⟨#[]⟩ D 0 1) = true := by rw [← hD]; decide
    have hsz := putRV_size _ hi
    have hz : (bs (zeros 128)).size = 128 := by rw [bs_size]; simp [zeros]
    have e : appV d2 0 1 0 (rc 0 0 1 ⟨#[97]⟩ ⟨#[]⟩ D 0 1) = jput d2 (placeV d2.S.length 0 (0 + 1)) (placeV d2.S.length 0 0) (bs (zeros 128)) (WalkVar.bs (putRV (rc 1 0 1 ⟨#[97]⟩ ⟨#[]⟩ D 0 1))) := by
      unfold appV
      rw [show ({ rc 0 0 1 ⟨#[97]⟩ ⟨#[]⟩ D 0 1 with epoch := ((1 : Nat) : Int), seq := ((0 : Nat) : Int) } : Rec) = rc 1 0 1 ⟨#[97]⟩ ⟨#[]⟩ D 0 1 from rfl, if_neg (by rw [hi]; decide), if_neg (by rw [e2.1, ← hN]; decide)]
    rw [e] at hQ
    have := jput_free d2 e2.2.1 e2.2.2.1 (placeV d2.S.length 0 (0 + 1)) (placeV d2.S.length 0 0) (by rw [e2.1, ← hN]; decide) (by rw [e2.1, ← hN]; decide) _ _ hz hsz
    rw [hQ] at this
    exact ⟨this.1, by omega⟩
  have HNew := Lib.hid hnew
  have HN := Lib.hid (And.intro hN (And.intro hl0 (And.intro hl1 (And.intro hz0 (And.intro hL hr)))))
  have HSm := Lib.hid hsm
  have HQ := Lib.hid (And.intro hQ (And.intro hQ0 (And.intro e2 (And.intro hd2 (show D.size ≤ 1048576 by rw [← hD]; decide)))))
  have HT := Lib.hid ht
  clear hnew hN hl0 hl1 hz0 hL hr hD hsm hd2 e2 hQ hQ0 ht
  go_enter Tryd.func9, Tryd.ntmps9
  go_wp2_with fail
  refine (HNew.out w).mono ?_
  rintro x w1 ⟨⟨b, rfl, hd⟩, k1⟩
  have hjo := jopen_ok (lo w.heap.size) b (fresh N) 0 1 w1 hd ((lo_top _).trans k1.size) rfl (by omega) (by omega) (by omega) (by simp [fresh]) (by rw [HN.out.2.1, HN.out.2.2.1]) HN.out.2.2.2.1 (HT.out.below k1 HT.out.lt) HT.out.lt [] HN.out.2.2.2.2.1 1 HN.out.2.2.2.2.2
  rw [HQ.out.2.2.2.1] at hjo
  have HJo := Lib.hid hjo
  have HK1 := Lib.hid k1
  clear hd k1 hjo
  go_wp2_with fail
  refine HJo.out.mono ?_
  rintro x w2 ⟨⟨v, rfl, hj2, ho2, hd2⟩, k2⟩
  obtain ⟨hlv, av, cv, rfl⟩ := own_lenOf ho2
  have hops := ops_any _ b d2 w2 hd2
  rw [HQ.out.2.2.1.2.2.2.1] at hops
  have HO := Lib.hid hops
  have H2 := Lib.hid (And.intro hj2 (And.intro hd2 k2))
  clear hj2 ho2 hd2 k2 hlv hops
  go_wp2_with fail
  refine HO.out.mono ?_
  rintro x w3 ⟨rfl, rfl⟩
  go_wp2_with fail
  refine (HSm.out _).mono ?_
  rintro x w3 ⟨rfl, k3⟩
  have hbel2 := H2.out.2.2.bel0 HK1.out (fun k hk => hk)
  have hap := append_any (Plus (lo w.heap.size) w1.heap.size w2.heap.size) w1.heap.size b 0 1 0 d2 0 0 1 ⟨#[97]⟩ ⟨#[]⟩ D 0 1 w3 (H2.out.2.1.later k3) ((Plus.top ((lo_top _).trans HK1.out.size) H2.out.2.2.size).trans k3.size) (H2.out.1.later k3) (.inr ⟨Nat.le_refl _, H2.out.1.lt⟩) (HT.out.below (hbel2.trans (k3.mono hbel2.size)) HT.out.lt) (by decide) HQ.out.2.2.2.2 (by omega) (by omega) (by have := HQ.out.2.2.1; omega) (by have := HQ.out.2.2.1; omega) Q HQ.out.1 1 (by rw [if_pos HQ.out.2.1.1])
  rw [HQ.out.2.1.1] at hap
  have HAp := Lib.hid hap
  have H3 := Lib.hid (And.intro hbel2 (hbel2.trans (k3.mono hbel2.size)))
  clear hap hbel2 k3
  go_wp2_with fail
  refine HAp.out.mono ?_
  rintro x w4 ⟨rfl, hd4, hj4, k4⟩
  have hops := ops_any _ b Q.1 w4 hd4
  rw [HQ.out.2.1.2] at hops
  have HO4 := Lib.hid hops
  have HC4 := Lib.hid (count_any _ b 0 1 1 w4 hj4)
  have HB4 := Lib.hid (k4.bel0 H3.out.2 (fun k hk => ⟨.inl hk, by have := HK1.out.size; omega⟩))
  clear hd4 hj4 k4 hops
  go_wp2_with fail
  refine HC4.out.mono ?_
  rintro x w5 ⟨rfl, rfl⟩
  go_wp2_with fail
  refine HO4.out.mono ?_
  rintro x w5 ⟨rfl, rfl⟩
  go_wp2
  go_ret
  exact ⟨rfl, HB4.out⟩
end Go.Proofs.YtfbakelpplpomaaDoor.Disk
