/-
  dag's queue: Len, Push, Pop over an own row.
-/
import Derived.Test.YtpaegpbabfohcaaHeapC
namespace Go.Proofs.Ytpaegpbabfohcaa.HeapA
open Go.RowKit
set_option linter.unusedVariables false
set_option linter.unusedSimpArgs false

theorem len_any (A : Option Addr) (n c : Nat) (w : World) :
    Calls Try.prog 54 #[.slice A n c] w fun e w' => e = .returned (.int .i64 n) ∧ w = w' := by
  go_enter Try.func54, Try.ntmps54
  go_wp2
  go_ret
  exact ⟨rfl, rfl⟩
theorem pop_any (b g n c : Nat) (x : Int) (w : World) (hn : n < 2 ^ 40) (hc : n + 1 ≤ c) (hq : w.cell? ⟨b, 2, none⟩ = some (.slice (some ⟨g, 0, none⟩) (n + 1) c)) (fq : w.frozen? ⟨b, 2, none⟩ = false) (hx : w.cell? ⟨g, n, none⟩ = some (.int .i64 x)) :
    Calls Try.prog 128 #[.pointer (some ⟨b, 2, none⟩)] w fun e w' => e = .returned (.iface 3 (.int .i64 x)) ∧ w' = w.setCell ⟨b, 2, none⟩ (.slice (some ⟨g, 0, none⟩) n c) := by
  go_enter Try.func128, Try.ntmps128
  go_wp2_with fail
  go_ret
  exact ⟨rfl, rfl⟩
end Go.Proofs.Ytpaegpbabfohcaa.HeapA
