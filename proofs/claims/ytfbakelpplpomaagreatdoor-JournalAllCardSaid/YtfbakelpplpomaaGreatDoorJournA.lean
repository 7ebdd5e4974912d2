/-
  The walks of the areas: Check, Half, First, Place.
-/
import Derived.Test.YtfbakelpplpomaaGreatDoorWalkDiskK
import Derived.BigQuiet
namespace Go.Proofs.YtfbakelpplpomaaGreatDoor.Disk
open Go.RowKit Go.Proofs.YtfbakelpplpomaaGreatDoor.DiskRows
set_option linter.unusedVariables false
set_option linter.unusedSimpArgs false
set_option maxRecDepth 100000

/-- how many sectors each half has -/
def halfV (n : Nat) : Nat := (n - 2) / 2
/-- the first sector of a half -/
def firstV (n half : Nat) : Nat := if half = 1 then 2 + halfV n else 2
/-- the sector of a record -/
def placeV (n half seq : Nat) : Nat := firstV n half + halfV n - 1 - seq
theorem areaCheck_ok (n : Nat) (w : World) (h : 16 ≤ n ∧ n ≤ 4096) :
    Calls Tryz.prog 58 #[.int .i64 n] w fun x w' => x = .returned (.int .i64 0) ∧ w = w' := by
  have h1 : (16 : Int) ≤ (n : Int) := by omega
  have h2 : (n : Int) ≤ 4096 := by omega
  clear h
  go_enter Tryz.func58, Tryz.ntmps58
  go_wp2
  go_ret
  exact ⟨rfl, rfl⟩
theorem areaCheck_no (w : World) :
    Calls Tryz.prog 58 #[.int .i64 0] w fun x w' => x = .returned (.int .i64 2) ∧ w = w' := by
  go_enter Tryz.func58, Tryz.ntmps58
  go_wp2
  go_ret
  exact ⟨rfl, rfl⟩
theorem half_ok (n v : Nat) (w : World) (h : 16 ≤ n ∧ n ≤ 4096) (hv : halfV n = v) :
    Calls Tryz.prog 31 #[.int .i64 n] w fun x w' => x = .returned (.int .i64 (v : Nat)) ∧ w = w' := by
  have HC := Lib.hid (areaCheck_ok n w h)
  have h1 : (16 : Int) ≤ (n : Int) := by omega
  have h2 : (n : Int) ≤ 4096 := by omega
  have hw1 : IntKind.i64.wrap ((n : Int) - 2) = (n : Int) - 2 := by rw [IntKind.wrap_i64]; omega
  have hq : Int.tdiv ((n : Int) - 2) 2 = (v : Int) := by
    rw [Int.tdiv_eq_ediv_of_nonneg (by omega)]
    unfold halfV at hv
    omega
  have hvb : (v : Int) ≤ 4096 := by unfold halfV at hv; omega
  clear h hv
  go_enter Tryz.func31, Tryz.ntmps31
  go_wp2_with fail
  refine HC.out.mono ?_
  rintro x w1 ⟨rfl, rfl⟩
  go_wp2
  go_ret
  exact ⟨rfl, rfl⟩
theorem first_ok (n half f : Nat) (w : World) (h : 16 ≤ n ∧ n ≤ 4096) (hh : half ≤ 1) (hf : firstV n half = f) :
    Calls Tryz.prog 59 #[.int .i64 n, .int .i64 half] w fun x w' => x = .returned (.int .i64 (f : Nat)) ∧ w = w' := by
  obtain ⟨v, hv⟩ : ∃ v, halfV n = v := ⟨_, rfl⟩
  have HC := Lib.hid (half_ok n v w h hv)
  have hvb : v ≤ 4096 := by rw [← hv]; unfold halfV; omega
  have hvi : (v : Int) ≤ 4096 := by omega
  unfold firstV at hf
  rw [hv] at hf
  clear h hv hvb
  have hc : half = 0 ∨ half = 1 := by omega
  rcases hc with rfl | rfl
  · rw [if_neg (by decide)] at hf
    subst hf
    go_enter Tryz.func59, Tryz.ntmps59
    go_wp2
    go_ret
    exact ⟨rfl, rfl⟩
  · rw [if_pos rfl] at hf
    have hfi : (2 : Int) + (v : Int) = (f : Int) := by omega
    have hw1 : IntKind.i64.wrap ((2 : Int) + (v : Int)) = (f : Int) := by rw [hfi, IntKind.wrap_i64]; omega
    clear hf
    go_enter Tryz.func59, Tryz.ntmps59
    go_wp2_with fail
    refine HC.out.mono ?_
    rintro x w1 ⟨rfl, rfl⟩
    go_wp2
    go_ret
    exact ⟨rfl, rfl⟩
theorem place_ok (n half seq p : Nat) (w : World) (h : 16 ≤ n ∧ n ≤ 4096) (hh : half ≤ 1) (hs : seq < halfV n) (hp : placeV n half seq = p) :
    Calls Tryz.prog 32 #[.int .i64 n, .int .i64 half, .int .i64 seq] w fun x w' => x = .returned (.tuple #[.int .i64 (p : Nat), .int .i64 0]) ∧ w = w' := by
  obtain ⟨v, hv⟩ : ∃ v, halfV n = v := ⟨_, rfl⟩
  obtain ⟨f, hf⟩ : ∃ f, firstV n half = f := ⟨_, rfl⟩
  have HH := Lib.hid (fun W => half_ok n v W h hv)
  have HF := Lib.hid (fun W => first_ok n half f W h hh hf)
  have hvb : v ≤ 4096 := by rw [← hv]; unfold halfV; omega
  have hfb : f ≤ 4200 ∧ 2 ≤ f := by rw [← hf]; unfold firstV; rw [hv]; split <;> omega
  unfold placeV at hp
  rw [hv] at hs
  rw [hv, hf] at hp
  have e1 : (f : Int) + (v : Int) - 1 - (seq : Int) = (p : Int) := by omega
  have h2 : (seq : Int) < (v : Int) := by omega
  have h3 : (v : Int) ≤ 4096 := by omega
  have h4 : (f : Int) ≤ 4200 := by omega
  have hw1 : IntKind.i64.wrap ((f : Int) + (v : Int)) = (f : Int) + (v : Int) := by rw [IntKind.wrap_i64]; omega
  have hw2 : IntKind.i64.wrap ((f : Int) + (v : Int) - 1) = (f : Int) + (v : Int) - 1 := by rw [IntKind.wrap_i64]; omega
  have hw3 : IntKind.i64.wrap ((f : Int) + (v : Int) - 1 - (seq : Int)) = (p : Int) := by rw [e1, IntKind.wrap_i64]; omega
  have HE := Lib.hid e1
  clear h hh hs hp hv hf hvb hfb e1
  go_enter Tryz.func32, Tryz.ntmps32
  go_wp2_with fail
  refine (HH.out _).mono ?_
  rintro x w1 ⟨rfl, rfl⟩
  go_wp2_with fail
  refine (HF.out _).mono ?_
  rintro x w1 ⟨rfl, rfl⟩
  go_wp2_with fail
  refine (HH.out _).mono ?_
  rintro x w1 ⟨rfl, rfl⟩
  go_wp2
  go_ret2
  exact ⟨rfl, rfl⟩
theorem place_no (n half seq : Nat) (w : World) (h : 16 ≤ n ∧ n ≤ 4096) (hs : halfV n ≤ seq) (hb : seq ≤ 1000000) :
    Calls Tryz.prog 32 #[.int .i64 n, .int .i64 half, .int .i64 seq] w fun x w' => x = .returned (.tuple #[.int .i64 0, .int .i64 8]) ∧ w = w' := by
  obtain ⟨v, hv⟩ : ∃ v, halfV n = v := ⟨_, rfl⟩
  have HH := Lib.hid (fun W => half_ok n v W h hv)
  rw [hv] at hs
  have h2 : (v : Int) ≤ (seq : Int) := by omega
  clear h hs hv hb
  go_enter Tryz.func32, Tryz.ntmps32
  go_wp2_with fail
  refine (HH.out _).mono ?_
  rintro x w1 ⟨rfl, rfl⟩
  go_wp2
  go_ret2
  exact ⟨rfl, rfl⟩
end Go.Proofs.YtfbakelpplpomaaGreatDoor.Disk
