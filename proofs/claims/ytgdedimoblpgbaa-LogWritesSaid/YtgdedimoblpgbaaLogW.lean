/-
  The walk of LogWrites.
-/
import Derived.Test.YtgdedimoblpgbaaLogF
namespace Go.Proofs.Ytgdedimoblpgbaa.Disk
open Go.RowKit Go.Proofs.Ytgdedimoblpgbaa.DiskRows
set_option linter.unusedVariables false
set_option linter.unusedSimpArgs false
set_option maxRecDepth 100000

set_option maxHeartbeats 6400000 in
theorem logWrites_out (a b : ByteArray) (most : Int) (w : World) (ha : (a.size : Int) ≤ 9223372036854775807) (hb : (b.size : Int) ≤ 9223372036854775807) (hn : ¬ ((a.size : Int) ≤ 1000 ∧ (b.size : Int) ≤ 1000 ∧ 0 ≤ most ∧ most ≤ 14)) :
    Calls Try.prog 3 #[.string a, .string b, .int .i64 most] w fun x w' => x = .returned (.bool true) ∧ Below w.heap.size w w' := by
  obtain ⟨na, hna⟩ : ∃ n : Int, (a.size : Int) = n := ⟨_, rfl⟩
  obtain ⟨nb, hnb⟩ : ∃ n : Int, (b.size : Int) = n := ⟨_, rfl⟩
  rw [hna] at ha hn
  rw [hnb] at hb hn
  have h0 : 0 ≤ na := by omega
  have h1 : 0 ≤ nb := by omega
  by_cases qa : 1000 < na
  · clear hn
    go_enter Try.func3, Try.ntmps3
    go_wp2_with fail
    refine (awake15_any _).mono ?_
    rintro x w2 ⟨rfl, b2⟩
    go_wp2
    go_ret
    exact ⟨rfl, b2⟩
  · by_cases qb : 1000 < nb
    · clear hn
      go_enter Try.func3, Try.ntmps3
      go_wp2_with fail
      refine (awake15_any _).mono ?_
      rintro x w2 ⟨rfl, b2⟩
      go_wp2
      go_ret
      exact ⟨rfl, b2⟩
    · by_cases qm : most < 0
      · clear hn
        go_enter Try.func3, Try.ntmps3
        go_wp2_with fail
        refine (awake15_any _).mono ?_
        rintro x w2 ⟨rfl, b2⟩
        go_wp2
        go_ret
        exact ⟨rfl, b2⟩
      · have qn : 14 < most := by omega
        clear hn
        go_enter Try.func3, Try.ntmps3
        go_wp2_with fail
        refine (awake15_any _).mono ?_
        rintro x w2 ⟨rfl, b2⟩
        go_wp2
        go_ret
        exact ⟨rfl, b2⟩
end Go.Proofs.Ytgdedimoblpgbaa.Disk
