/-
  The walks of the document's turn and padded.
-/
import Derived.Test.YtfnjcobgbdioeaaDoorWalkShaG
namespace Go.Proofs.YtfnjcobgbdioeaaDoor.WalkSha
open Go.RowKit Go.Proofs.YtfnjcobgbdioeaaDoor.BytesRow Go.Proofs.YtfnjcobgbdioeaaDoor.WalkBytes
set_option linter.unusedVariables false
set_option linter.unusedSimpArgs false
set_option maxRecDepth 100000

theorem turn_or (x p q : Nat) (hx : x < 4294967296) (hq : 1 ≤ q) : bits .or .u32 ((x : Int) / (q : Int)) ((x : Int) * (p : Int) % 4294967296) = (((x / q) ||| (x * p % 4294967296) : Nat) : Int) := by
  have e1 : (x : Int) * (p : Int) % 4294967296 = ((x * p % 4294967296 : Nat) : Int) := by simp only [Int.natCast_emod, Int.natCast_mul, Int.natCast_ediv]; rfl
  have e2 : (x : Int) / (q : Int) = ((x / q : Nat) : Int) := by simp only [Int.natCast_ediv]
  have e3 : x / q ≤ x := Nat.div_le_self _ _
  rw [e1, e2, u32_or_nat _ _ (by omega) (by omega)]
theorem turn7 (x : Nat) (w : World) (hx : x < 4294967296) :
    Calls Tryd.prog 22 #[.int .u32 x, .int .u64 7] w fun e w' => e = .returned (.int .u32 (Pl.Sha.rotr x 7 : Nat)) ∧ w = w' := by
  have hq : bits .or .u32 ((x : Int) / 128) ((x : Int) * 33554432 % 4294967296) = (Pl.Sha.rotr x 7 : Nat) := turn_or x 33554432 128 hx (by omega)
  generalize Pl.Sha.rotr x 7 = y at hq
  go_enter Tryd.func22, Tryd.ntmps22
  go_wp2
  go_ret
  exact ⟨rfl, rfl⟩
theorem turn18 (x : Nat) (w : World) (hx : x < 4294967296) :
    Calls Tryd.prog 22 #[.int .u32 x, .int .u64 18] w fun e w' => e = .returned (.int .u32 (Pl.Sha.rotr x 18 : Nat)) ∧ w = w' := by
  have hq : bits .or .u32 ((x : Int) / 262144) ((x : Int) * 16384 % 4294967296) = (Pl.Sha.rotr x 18 : Nat) := turn_or x 16384 262144 hx (by omega)
  generalize Pl.Sha.rotr x 18 = y at hq
  go_enter Tryd.func22, Tryd.ntmps22
  go_wp2
  go_ret
  exact ⟨rfl, rfl⟩
theorem turn17 (x : Nat) (w : World) (hx : x < 4294967296) :
    Calls Tryd.prog 22 #[.int .u32 x, .int .u64 17] w fun e w' => e = .returned (.int .u32 (Pl.Sha.rotr x 17 : Nat)) ∧ w = w' := by
  have hq : bits .or .u32 ((x : Int) / 131072) ((x : Int) * 32768 % 4294967296) = (Pl.Sha.rotr x 17 : Nat) := turn_or x 32768 131072 hx (by omega)
  generalize Pl.Sha.rotr x 17 = y at hq
  go_enter Tryd.func22, Tryd.ntmps22
  go_wp2
  go_ret
  exact ⟨rfl, rfl⟩
theorem turn19 (x : Nat) (w : World) (hx : x < 4294967296) :
    Calls Tryd.prog 22 #[.int .u32 x, .int .u64 19] w fun e w' => e = .returned (.int .u32 (Pl.Sha.rotr x 19 : Nat)) ∧ w = w' := by
  have hq : bits .or .u32 ((x : Int) / 524288) ((x : Int) * 8192 % 4294967296) = (Pl.Sha.rotr x 19 : Nat) := turn_or x 8192 524288 hx (by omega)
  generalize Pl.Sha.rotr x 19 = y at hq
  go_enter Tryd.func22, Tryd.ntmps22
  go_wp2
  go_ret
  exact ⟨rfl, rfl⟩
theorem turn6 (x : Nat) (w : World) (hx : x < 4294967296) :
    Calls Tryd.prog 22 #[.int .u32 x, .int .u64 6] w fun e w' => e = .returned (.int .u32 (Pl.Sha.rotr x 6 : Nat)) ∧ w = w' := by
  have hq : bits .or .u32 ((x : Int) / 64) ((x : Int) * 67108864 % 4294967296) = (Pl.Sha.rotr x 6 : Nat) := turn_or x 67108864 64 hx (by omega)
  generalize Pl.Sha.rotr x 6 = y at hq
  go_enter Tryd.func22, Tryd.ntmps22
  go_wp2
  go_ret
  exact ⟨rfl, rfl⟩
theorem turn11 (x : Nat) (w : World) (hx : x < 4294967296) :
    Calls Tryd.prog 22 #[.int .u32 x, .int .u64 11] w fun e w' => e = .returned (.int .u32 (Pl.Sha.rotr x 11 : Nat)) ∧ w = w' := by
  have hq : bits .or .u32 ((x : Int) / 2048) ((x : Int) * 2097152 % 4294967296) = (Pl.Sha.rotr x 11 : Nat) := turn_or x 2097152 2048 hx (by omega)
  generalize Pl.Sha.rotr x 11 = y at hq
  go_enter Tryd.func22, Tryd.ntmps22
  go_wp2
  go_ret
  exact ⟨rfl, rfl⟩
theorem turn25 (x : Nat) (w : World) (hx : x < 4294967296) :
    Calls Tryd.prog 22 #[.int .u32 x, .int .u64 25] w fun e w' => e = .returned (.int .u32 (Pl.Sha.rotr x 25 : Nat)) ∧ w = w' := by
  have hq : bits .or .u32 ((x : Int) / 33554432) ((x : Int) * 128 % 4294967296) = (Pl.Sha.rotr x 25 : Nat) := turn_or x 128 33554432 hx (by omega)
  generalize Pl.Sha.rotr x 25 = y at hq
  go_enter Tryd.func22, Tryd.ntmps22
  go_wp2
  go_ret
  exact ⟨rfl, rfl⟩
theorem turn2 (x : Nat) (w : World) (hx : x < 4294967296) :
    Calls Tryd.prog 22 #[.int .u32 x, .int .u64 2] w fun e w' => e = .returned (.int .u32 (Pl.Sha.rotr x 2 : Nat)) ∧ w = w' := by
  have hq : bits .or .u32 ((x : Int) / 4) ((x : Int) * 1073741824 % 4294967296) = (Pl.Sha.rotr x 2 : Nat) := turn_or x 1073741824 4 hx (by omega)
  generalize Pl.Sha.rotr x 2 = y at hq
  go_enter Tryd.func22, Tryd.ntmps22
  go_wp2
  go_ret
  exact ⟨rfl, rfl⟩
theorem turn13 (x : Nat) (w : World) (hx : x < 4294967296) :
    Calls Tryd.prog 22 #[.int .u32 x, .int .u64 13] w fun e w' => e = .returned (.int .u32 (Pl.Sha.rotr x 13 : Nat)) ∧ w = w' := by
  have hq : bits .or .u32 ((x : Int) / 8192) ((x : Int) * 524288 % 4294967296) = (Pl.Sha.rotr x 13 : Nat) := turn_or x 524288 8192 hx (by omega)
  generalize Pl.Sha.rotr x 13 = y at hq
  go_enter Tryd.func22, Tryd.ntmps22
  go_wp2
  go_ret
  exact ⟨rfl, rfl⟩
theorem turn22 (x : Nat) (w : World) (hx : x < 4294967296) :
    Calls Tryd.prog 22 #[.int .u32 x, .int .u64 22] w fun e w' => e = .returned (.int .u32 (Pl.Sha.rotr x 22 : Nat)) ∧ w = w' := by
  have hq : bits .or .u32 ((x : Int) / 4194304) ((x : Int) * 1024 % 4294967296) = (Pl.Sha.rotr x 22 : Nat) := turn_or x 1024 4194304 hx (by omega)
  generalize Pl.Sha.rotr x 22 = y at hq
  go_enter Tryd.func22, Tryd.ntmps22
  go_wp2
  go_ret
  exact ⟨rfl, rfl⟩
end Go.Proofs.YtfnjcobgbdioeaaDoor.WalkSha
