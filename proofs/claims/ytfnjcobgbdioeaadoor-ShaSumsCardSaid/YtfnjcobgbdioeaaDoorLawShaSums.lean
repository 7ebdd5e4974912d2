/-
  The walk of the statement ShaSums: any bytes' sum.
-/
import Derived.Test.YtfnjcobgbdioeaaDoorWalkShaRefD
namespace Go.Proofs.YtfnjcobgbdioeaaDoor.WalkSha
open Go.RowKit Go.Proofs.YtfnjcobgbdioeaaDoor.BytesRow Go.Proofs.YtfnjcobgbdioeaaDoor.WalkBytes
set_option linter.unusedVariables false
set_option linter.unusedSimpArgs false
set_option maxRecDepth 100000

theorem refSum_at (s : ByteArray) (S : List UInt8) (w : World) (hs : (s.size : Int) ≤ 1000000) (hS : Pl.Sha.sum s.data.toList = S) :
    Calls Tryd.prog 8 #[.string s] w fun e w' => e = .returned (.string (bs S)) ∧ Below w.heap.size w w' := by
  refine refSum_any s (Pl.Sha.pad s.data.toList s.size) S w hs rfl ?_
  rw [← hS]
  unfold Pl.Sha.sum
  have : s.data.toList.length = s.size := by simp
  rw [this]
theorem shaSums_walk (s : ByteArray) (w : World) (ht : Tab w) :
    Calls Tryd.prog 3 #[.string s] w fun e w' => e = .returned (.bool true) ∧ Below w.heap.size w w' := by
  have HA := Lib.hid (fun W (t : Tab W) => sum_one ⟨#[97, 98, 99]⟩ abcSum W t (by decide) Pl.Sha.sum_abc)
  obtain ⟨T, hT⟩ : ∃ T, bs abcSum = T := ⟨_, rfl⟩
  have h1 : T.size = 32 := by rw [← hT]; rfl
  rw [hT] at HA
  clear hT
  by_cases hs : (1000 : Int) < (s.size : Int)
  · go_enter Tryd.func3, Tryd.ntmps3
    go_wp2_with fail
    refine (HA.out _ ht).mono ?_
    rintro e w1 ⟨rfl, b1⟩
    have b01 := (Joins.below_alloc1 w _).trans (b1.mono (by simp))
    go_wp2_with fail
    refine (awake_any _ (ht.later b01)).mono ?_
    rintro e w2 ⟨rfl, b2⟩
    go_wp2
    go_ret
    exact ⟨by simp, b01.trans (b2.mono b01.size)⟩
  · obtain ⟨S, hS⟩ : ∃ S, Pl.Sha.sum s.data.toList = S := ⟨_, rfl⟩
    have HB := Lib.hid (fun W (t : Tab W) => sum_one s S W t (by omega) hS)
    have HR := Lib.hid (fun W => refSum_at s S W (by omega) hS)
    clear hS
    go_enter Tryd.func3, Tryd.ntmps3
    go_wp2_with fail
    refine (HB.out _ ht).mono ?_
    rintro e w1 ⟨rfl, b1⟩
    have b01 := (Joins.below_alloc1 w _).trans (b1.mono (by simp))
    go_wp2_with fail
    refine (HR.out _).mono ?_
    rintro e w2 ⟨rfl, b2⟩
    have b02 := b01.trans (b2.mono b01.size)
    go_wp2_with fail
    refine (HA.out _ (ht.later b02)).mono ?_
    rintro e w3 ⟨rfl, b3⟩
    have b03 := b02.trans (((Joins.below_alloc1 w2 _).trans (b3.mono (by simp))).mono b02.size)
    go_wp2_with fail
    refine (awake_any _ (ht.later b03)).mono ?_
    rintro e w4 ⟨rfl, b4⟩
    go_wp2
    go_ret
    exact ⟨by simp, b03.trans (b4.mono b03.size)⟩
end Go.Proofs.YtfnjcobgbdioeaaDoor.WalkSha
