/-
  The walks of the document's Is, Full, Sealed, Put, Bare of the seat.
-/
import Derived.Test.YtfbakelpplpomaaGreatDoorWalkSeatD
namespace Go.Proofs.YtfbakelpplpomaaGreatDoor.WalkSeat
open Go.RowKit Go.Proofs.YtfbakelpplpomaaGreatDoor.WalkVar Go.Proofs.YtfbakelpplpomaaGreatDoor.WalkScan Go.Proofs.YtfbakelpplpomaaGreatDoor.WalkCrc
open Pl.Seat (numV numR txtV txtR numP txtP Head isH putH openS)
set_option linter.unusedVariables false
set_option linter.unusedSimpArgs false
set_option maxRecDepth 100000

theorem full_step (s : List UInt8) (h : s.length < 128) : Pl.Seat.full (s ++ [0]) = Pl.Seat.full s := by
  unfold Pl.Seat.full
  have : 128 - s.length = (128 - (s ++ [0]).length) + 1 := by simp; omega
  rw [this, List.replicate_succ]
  simp
set_option maxHeartbeats 1600000 in
theorem refFull_any (s : List UInt8) (w : World) (hs : s.length ≤ 1048576) :
    Calls Tryz.prog 77 #[.string (bs s)] w fun e w' => e = .returned (.string (bs (Pl.Seat.full s))) ∧ w = w' := by
  obtain ⟨R, hR⟩ : ∃ R, Pl.Seat.full s = R := ⟨_, rfl⟩
  rw [hR]
  have HR := Lib.hid hR
  clear hR
  go_enter Tryz.func77, Tryz.ntmps77
  go_wp2
  go_loop [0] (fun v => ∃ t : List UInt8, v = .string (bs t) ∧ t.length ≤ 1048576 ∧ Hid (Pl.Seat.full t = R)) (fun v => 128 - Lib.strSize v)
  case atStart => exact ⟨s, rfl, hs, HR⟩
  case round =>
    obtain ⟨t, rfl, htl, HT⟩ := hrel
    have hz := bs_size t
    by_cases h : t.length < 128
    · have hi : ((bs t).size : Int) < 128 := by omega
      have hst : Pl.Seat.full (t ++ [0]) = R := by rw [full_step t h]; exact HT.out
      have HST := Lib.hid hst
      have hb : bs t ++ (⟨#[0]⟩ : ByteArray) = bs (t ++ [0]) := by rw [← bs_append]; rfl
      have HBB := Lib.hid hb
      have hzz : ¬ (9223372036854775807 < (bs t).size + 1) := by omega
      clear hst hb
      go_wp2
      go_round
      case rel => exact ⟨t ++ [0], by rw [HBB.out], by simp; omega, HST⟩
      case measure => rw [HBB.out]; simp only [Lib.strSize_string, bs_size]; simp; omega
    · have hi : (128 : Int) ≤ ((bs t).size : Int) := by omega
      have hf : t = R := by
        rw [← HT.out]
        unfold Pl.Seat.full
        rw [show 128 - t.length = 0 by omega]
        simp
      have HF := Lib.hid hf
      clear hf
      go_wp2
      go_ret
      exact ⟨by rw [HF.out]; rfl, rfl⟩

theorem refSealed_any (X : List UInt8) (w : World) (hX : X.length ≤ 50000) :
    Calls Tryz.prog 112 #[.string (bs X)] w fun e w' => e = .returned (.string (bs (Pl.Seat.sealedS tailU X))) ∧ Below w.heap.size w w' := by
  have e1 : Pl.Seat.sealedS tailU X = Pl.Seat.full (Pl.Seat.putT (X ++ tailU X)) := rfl
  rw [e1]
  obtain ⟨v, hv⟩ : ∃ v, Pl.Crc.on 0 X = v := ⟨_, rfl⟩
  have hvl : v < 4294967296 := by rw [← hv]; exact Pl.Crc.on_lt _ _
  have hcat : bs X ++ tailS v = bs (X ++ tailU X) := by rw [← bs_append, bs_tailU, hv]
  have hz : ¬ (9223372036854775807 < (bs X).size + (tailS v).size) := by rw [bs_size, tailS_size]; omega
  have hv2 : Pl.Crc.on 0 (bs X).data.toList = v := by rw [bs_list]; exact hv
  have htu := tailU_len X
  have HV := Lib.hid hv2
  have HCAT := Lib.hid hcat
  have hXs : (bs X).size ≤ 100000 := by rw [bs_size]; omega
  clear hv hv2 hcat
  generalize tailU X = Y at *
  have hfl : (Pl.Seat.putT (X ++ Y)).length ≤ 1048576 := by
    unfold Pl.Seat.putT
    have := Pl.Seat.put_le (X ++ Y).length
    simp at this ⊢
    omega
  go_enter Tryz.func112, Tryz.ntmps112
  go_wp2_with fail
  refine (refOn_zero v (bs X) _ hXs HV.out).mono ?_
  rintro e w1 ⟨rfl, hB1⟩
  go_wp2_with fail
  refine (refTail_any v _ hvl).mono ?_
  rintro e w2 ⟨rfl, hB2⟩
  have q2 := hB1.then' hB2 (Nat.le_refl _)
  go_wp2_with fail
  rw [HCAT.out]
  refine (refPutText_any (bs (X ++ Y)) _ (by rw [bs_size]; simp; omega)).mono ?_
  rintro e w3 ⟨rfl, hB3⟩
  have q3 := q2.then' hB3 (Nat.le_refl _)
  rw [bs_list]
  go_wp2_with fail
  refine (refFull_any (Pl.Seat.putT (X ++ Y)) _ hfl).mono ?_
  rintro e w4 ⟨rfl, rfl⟩
  go_wp2_with fail
  go_ret
  exact ⟨rfl, q3⟩
theorem refPutNum_at (n : Int) (P : List UInt8) (w : World) (hn : n ≤ 9223372036854775807) (hP : Pl.Seat.put n.toNat = P) :
    Calls Tryz.prog 110 #[.int .i64 n] w fun e w' => e = .returned (.string (bs P)) ∧ Below w.heap.size w w' := hP ▸ refPutNum_any n w hn
theorem refSealed_at (X S : List UInt8) (T : ByteArray) (w : World) (hX : X.length ≤ 50000) (hT : T = bs X) (hS : Pl.Seat.sealedS tailU X = S) :
    Calls Tryz.prog 112 #[.string T] w fun e w' => e = .returned (.string (bs S)) ∧ Below w.heap.size w w' := by
  subst hT
  rw [← hS]
  exact refSealed_any X w hX
end Go.Proofs.YtfbakelpplpomaaGreatDoor.WalkSeat
