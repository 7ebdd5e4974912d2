/-
  The walk of the document's Open.
-/
import Derived.Test.YtfbakelpplpomaaGreatDoorWalkCrc
namespace Go.Proofs.YtfbakelpplpomaaGreatDoor.WalkCrc
open Go.RowKit
set_option linter.unusedVariables false
set_option linter.unusedSimpArgs false

set_option maxHeartbeats 4000000 in
theorem refOpen_any (s : ByteArray) (w : World) (hs : s.size ≤ 100000) :
    Calls Tryz.prog 104 #[.string s] w fun e w' => e = .returned (.tuple #[.string (opened s), .bool (opens s)]) ∧ Below w.heap.size w w' := by
  by_cases h4 : s.size < 4
  · have ho : opens s = false := by unfold opens; rw [decide_eq_false (by omega)]; rfl
    have hp : opened s = ByteArray.empty := by unfold opened; rw [ho]; rfl
    rw [ho, hp]
    have h4' : (s.size : Int) - 4 < 0 := by omega
    have h5 : decide ((s.size : Int) - 4 < 0) = true := by simpa using h4'
    go_enter Tryz.func104, Tryz.ntmps104
    go_wp2_with fail
    go_quiet (fail)
    go_wp2
    go_ret2
    exact ⟨rfl, (Below.refl _ _).trans ⟨rfl, rfl, rfl, Nat.le_refl _, fun _ _ => rfl⟩⟩
  · have h4' : ¬ (s.size : Int) - 4 < 0 := by omega
    have h5 : decide ((s.size : Int) - 4 < 0) = false := by simpa using h4'
    have e1 : IntKind.i64.wrap ((s.size : Int) - 4) = (s.size : Int) - 4 := IntWalk.i64_in _ (by omega)
    have e2 : 0 ≤ (s.size : Int) - 4 := by omega
    have e3 : ((s.size : Int) - 4).toNat = s.size - 4 := by omega
    have hr := Pl.Crc.on_lt 0 (s.extract 0 (s.size - 4)).data.toList
    have g1 : (s.extract 0 (s.size - 4)).size ≤ 100000 := by rw [ByteArray.size_extract]; omega
    obtain ⟨v, hv⟩ : ∃ v, Pl.Crc.on 0 (s.extract 0 (s.size - 4)).data.toList = v := ⟨_, rfl⟩
    have ho : opens s = ((tailS v).toList == (s.extract (s.size - 4) s.size).toList) := by unfold opens; rw [hv, decide_eq_true (by omega)]; rfl
    rw [hv] at hr
    have HV := Lib.hid hv
    have HO := Lib.hid ho
    clear hv ho
    go_enter Tryz.func104, Tryz.ntmps104
    go_wp2_with fail
    go_region_with (first | (go_at_call 125; refine (refOn_zero v _ _ g1 HV.out).mono ?_; rintro e w1 ⟨rfl, hB1⟩) | (go_at_call 124; refine (refTail_any v _ hr).mono ?_; rintro e w2 ⟨rfl, hB2⟩))
    all_goals go_wp2
    all_goals go_ret2
    all_goals
      have hb := hB1.trans (hB2.mono hB1.size)
      refine ⟨?_, ⟨hb.os, hb.tape, hb.output, hb.size, hb.block⟩⟩
    all_goals first
      | (have h : (!(tailS v).toList == (s.extract (s.size - 4) s.size).toList) = true := by assumption
         have hf : opens s = false := by rw [HO.out]; simpa using h
         have hp : opened s = ByteArray.empty := by unfold opened; rw [hf]; rfl
         rw [hf, hp]; rfl)
      | (have h : (!(tailS v).toList == (s.extract (s.size - 4) s.size).toList) = false := by assumption
         have hf : opens s = true := by rw [HO.out]; simpa using h
         have hp : opened s = s.extract 0 (s.size - 4) := by unfold opened; rw [if_pos hf]
         rw [hf, hp]; rfl)
end Go.Proofs.YtfbakelpplpomaaGreatDoor.WalkCrc
