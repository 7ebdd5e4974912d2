/-
  The walks of bits.RotateLeft32, sha.spread, sha.turned.
-/
import Derived.Test.YtfnjcobgbdioeaaDoorProg
import Derived.Test.YtfnjcobgbdioeaaDoorShaPure
import Derived.WalkKit
import Derived.KernelRfl
import Derived.Lib.Hide
import Derived.Deep.QuietTactic
import Derived.BigQuiet
import Derived.BigRegion
import Derived.IntWalk
import Derived.Deep.RegionWith
import Derived.Deep.DeepMust
import Derived.Deep.CutRange
import Derived.Laws.Rows
import Derived.Laws.Tables
import Derived.Lib.SmallJoins
namespace Go.Proofs.YtfnjcobgbdioeaaDoor.WalkSha
open Go.RowKit
set_option linter.unusedVariables false
set_option linter.unusedSimpArgs false
set_option maxRecDepth 100000

theorem rot_or (x p q : Nat) (hx : x < 4294967296) (hq : 1 ≤ q) : bits .or .u32 ((x : Int) * (p : Int) % 4294967296) ((x : Int) / (q : Int)) = (((x / q) ||| (x * p % 4294967296) : Nat) : Int) := by
  have e1 : (x : Int) * (p : Int) % 4294967296 = ((x * p % 4294967296 : Nat) : Int) := by simp only [Int.natCast_emod, Int.natCast_mul, Int.natCast_ediv]; rfl
  have e2 : (x : Int) / (q : Int) = ((x / q : Nat) : Int) := by simp only [Int.natCast_ediv]
  have e3 : x / q ≤ x := Nat.div_le_self _ _
  rw [e1, e2, u32_or_nat _ _ (by omega) (by omega), Nat.or_comm]
theorem rot7 (x : Nat) (w : World) (hx : x < 4294967296) :
    Calls Tryd.prog 29 #[.int .u32 x, .int .i64 (-7)] w fun e w' => e = .returned (.int .u32 (Pl.Sha.rotr x 7 : Nat)) ∧ w = w' := by
  have h1 : IntKind.u64.wrap (-7) = 18446744073709551609 := by decide
  have h2 : bits .and .u64 18446744073709551609 31 = 25 := by decide
  have hq : bits .or .u32 ((x : Int) * 33554432 % 4294967296) ((x : Int) / 128) = (Pl.Sha.rotr x 7 : Nat) := rot_or x 33554432 128 hx (by omega)
  generalize Pl.Sha.rotr x 7 = y at hq
  go_enter Tryd.func29, Tryd.ntmps29
  go_wp2
  go_ret
  exact ⟨rfl, rfl⟩
theorem rot18 (x : Nat) (w : World) (hx : x < 4294967296) :
    Calls Tryd.prog 29 #[.int .u32 x, .int .i64 (-18)] w fun e w' => e = .returned (.int .u32 (Pl.Sha.rotr x 18 : Nat)) ∧ w = w' := by
  have h1 : IntKind.u64.wrap (-18) = 18446744073709551598 := by decide
  have h2 : bits .and .u64 18446744073709551598 31 = 14 := by decide
  have hq : bits .or .u32 ((x : Int) * 16384 % 4294967296) ((x : Int) / 262144) = (Pl.Sha.rotr x 18 : Nat) := rot_or x 16384 262144 hx (by omega)
  generalize Pl.Sha.rotr x 18 = y at hq
  go_enter Tryd.func29, Tryd.ntmps29
  go_wp2
  go_ret
  exact ⟨rfl, rfl⟩
theorem rot17 (x : Nat) (w : World) (hx : x < 4294967296) :
    Calls Tryd.prog 29 #[.int .u32 x, .int .i64 (-17)] w fun e w' => e = .returned (.int .u32 (Pl.Sha.rotr x 17 : Nat)) ∧ w = w' := by
  have h1 : IntKind.u64.wrap (-17) = 18446744073709551599 := by decide
  have h2 : bits .and .u64 18446744073709551599 31 = 15 := by decide
  have hq : bits .or .u32 ((x : Int) * 32768 % 4294967296) ((x : Int) / 131072) = (Pl.Sha.rotr x 17 : Nat) := rot_or x 32768 131072 hx (by omega)
  generalize Pl.Sha.rotr x 17 = y at hq
  go_enter Tryd.func29, Tryd.ntmps29
  go_wp2
  go_ret
  exact ⟨rfl, rfl⟩
theorem rot19 (x : Nat) (w : World) (hx : x < 4294967296) :
    Calls Tryd.prog 29 #[.int .u32 x, .int .i64 (-19)] w fun e w' => e = .returned (.int .u32 (Pl.Sha.rotr x 19 : Nat)) ∧ w = w' := by
  have h1 : IntKind.u64.wrap (-19) = 18446744073709551597 := by decide
  have h2 : bits .and .u64 18446744073709551597 31 = 13 := by decide
  have hq : bits .or .u32 ((x : Int) * 8192 % 4294967296) ((x : Int) / 524288) = (Pl.Sha.rotr x 19 : Nat) := rot_or x 8192 524288 hx (by omega)
  generalize Pl.Sha.rotr x 19 = y at hq
  go_enter Tryd.func29, Tryd.ntmps29
  go_wp2
  go_ret
  exact ⟨rfl, rfl⟩
theorem rot6 (x : Nat) (w : World) (hx : x < 4294967296) :
    Calls Tryd.prog 29 #[.int .u32 x, .int .i64 (-6)] w fun e w' => e = .returned (.int .u32 (Pl.Sha.rotr x 6 : Nat)) ∧ w = w' := by
  have h1 : IntKind.u64.wrap (-6) = 18446744073709551610 := by decide
  have h2 : bits .and .u64 18446744073709551610 31 = 26 := by decide
  have hq : bits .or .u32 ((x : Int) * 67108864 % 4294967296) ((x : Int) / 64) = (Pl.Sha.rotr x 6 : Nat) := rot_or x 67108864 64 hx (by omega)
  generalize Pl.Sha.rotr x 6 = y at hq
  go_enter Tryd.func29, Tryd.ntmps29
  go_wp2
  go_ret
  exact ⟨rfl, rfl⟩
theorem rot11 (x : Nat) (w : World) (hx : x < 4294967296) :
    Calls Tryd.prog 29 #[.int .u32 x, .int .i64 (-11)] w fun e w' => e = .returned (.int .u32 (Pl.Sha.rotr x 11 : Nat)) ∧ w = w' := by
  have h1 : IntKind.u64.wrap (-11) = 18446744073709551605 := by decide
  have h2 : bits .and .u64 18446744073709551605 31 = 21 := by decide
  have hq : bits .or .u32 ((x : Int) * 2097152 % 4294967296) ((x : Int) / 2048) = (Pl.Sha.rotr x 11 : Nat) := rot_or x 2097152 2048 hx (by omega)
  generalize Pl.Sha.rotr x 11 = y at hq
  go_enter Tryd.func29, Tryd.ntmps29
  go_wp2
  go_ret
  exact ⟨rfl, rfl⟩
theorem rot25 (x : Nat) (w : World) (hx : x < 4294967296) :
    Calls Tryd.prog 29 #[.int .u32 x, .int .i64 (-25)] w fun e w' => e = .returned (.int .u32 (Pl.Sha.rotr x 25 : Nat)) ∧ w = w' := by
  have h1 : IntKind.u64.wrap (-25) = 18446744073709551591 := by decide
  have h2 : bits .and .u64 18446744073709551591 31 = 7 := by decide
  have hq : bits .or .u32 ((x : Int) * 128 % 4294967296) ((x : Int) / 33554432) = (Pl.Sha.rotr x 25 : Nat) := rot_or x 128 33554432 hx (by omega)
  generalize Pl.Sha.rotr x 25 = y at hq
  go_enter Tryd.func29, Tryd.ntmps29
  go_wp2
  go_ret
  exact ⟨rfl, rfl⟩
theorem rot2 (x : Nat) (w : World) (hx : x < 4294967296) :
    Calls Tryd.prog 29 #[.int .u32 x, .int .i64 (-2)] w fun e w' => e = .returned (.int .u32 (Pl.Sha.rotr x 2 : Nat)) ∧ w = w' := by
  have h1 : IntKind.u64.wrap (-2) = 18446744073709551614 := by decide
  have h2 : bits .and .u64 18446744073709551614 31 = 30 := by decide
  have hq : bits .or .u32 ((x : Int) * 1073741824 % 4294967296) ((x : Int) / 4) = (Pl.Sha.rotr x 2 : Nat) := rot_or x 1073741824 4 hx (by omega)
  generalize Pl.Sha.rotr x 2 = y at hq
  go_enter Tryd.func29, Tryd.ntmps29
  go_wp2
  go_ret
  exact ⟨rfl, rfl⟩
theorem rot13 (x : Nat) (w : World) (hx : x < 4294967296) :
    Calls Tryd.prog 29 #[.int .u32 x, .int .i64 (-13)] w fun e w' => e = .returned (.int .u32 (Pl.Sha.rotr x 13 : Nat)) ∧ w = w' := by
  have h1 : IntKind.u64.wrap (-13) = 18446744073709551603 := by decide
  have h2 : bits .and .u64 18446744073709551603 31 = 19 := by decide
  have hq : bits .or .u32 ((x : Int) * 524288 % 4294967296) ((x : Int) / 8192) = (Pl.Sha.rotr x 13 : Nat) := rot_or x 524288 8192 hx (by omega)
  generalize Pl.Sha.rotr x 13 = y at hq
  go_enter Tryd.func29, Tryd.ntmps29
  go_wp2
  go_ret
  exact ⟨rfl, rfl⟩
theorem rot22 (x : Nat) (w : World) (hx : x < 4294967296) :
    Calls Tryd.prog 29 #[.int .u32 x, .int .i64 (-22)] w fun e w' => e = .returned (.int .u32 (Pl.Sha.rotr x 22 : Nat)) ∧ w = w' := by
  have h1 : IntKind.u64.wrap (-22) = 18446744073709551594 := by decide
  have h2 : bits .and .u64 18446744073709551594 31 = 10 := by decide
  have hq : bits .or .u32 ((x : Int) * 1024 % 4294967296) ((x : Int) / 4194304) = (Pl.Sha.rotr x 22 : Nat) := rot_or x 1024 4194304 hx (by omega)
  generalize Pl.Sha.rotr x 22 = y at hq
  go_enter Tryd.func29, Tryd.ntmps29
  go_wp2
  go_ret
  exact ⟨rfl, rfl⟩
end Go.Proofs.YtfnjcobgbdioeaaDoor.WalkSha
