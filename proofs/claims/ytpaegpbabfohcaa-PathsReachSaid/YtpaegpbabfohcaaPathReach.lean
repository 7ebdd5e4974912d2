/-
  paths.Reach.
-/
import Derived.Test.YtpaegpbabfohcaaPathBegin
namespace Go.Proofs.Ytpaegpbabfohcaa.Paths
open Go.RowKit Go.Proofs.Ytpaegpbabfohcaa.WalkBytes Go.Proofs.Ytpaegpbabfohcaa.PathPure Go.Proofs.Ytpaegpbabfohcaa.MapAt
set_option linter.unusedVariables false
set_option linter.unusedSimpArgs false
set_option maxRecDepth 100000

/-- what Reach tells -/
def ReachR (g : Gr) (s : ByteArray) (e : Ending) (w' : World) : Prop :=
  (graphWhy g ≠ 0 → e = .returned (.tuple #[.slice none 0 0, .int .i64 (graphWhy g)])) ∧ (graphWhy g = 0 → ¬ HasN g.N s → e = .returned (.tuple #[.slice none 0 0, .int .i64 9])) ∧
  (graphWhy g = 0 → HasN g.N s → ∃ T A c, e = .returned (.tuple #[.slice A (steps (egs g.E) s T).length c, .int .i64 0]) ∧ Ends (egs g.E) s T ∧ w'.ownsRow 0 113 3 (.slice A (steps (egs g.E) s T).length c) (steps (egs g.E) s T).length (hrow (steps (egs g.E) s T)))
set_option maxHeartbeats 3200000 in
theorem reach_any (g : Gr) (gn ge : Value) (hgn : gn = g.n) (hge : ge = g.e) (s : ByteArray) (w : World) (h : GrAt w.heap.size w g) (hcap : g.N.length ≤ g.a) :
    Calls Try.prog 37 #[.agg #[gn, ge], .string s] w fun e w' => ReachR g s e w' ∧ Below w.heap.size w w' := by
  have hgn' : ∃ A n a, gn = .slice A n a := ⟨_, _, _, hgn⟩
  have hge' : ∃ A n a, ge = .slice A n a := ⟨_, _, _, hge⟩
  obtain ⟨A, n, a, rfl⟩ := hgn'
  obtain ⟨B, m, b2, rfl⟩ := hge'
  obtain ⟨W, hW⟩ : ∃ W, W = w.alloc (.cells #[.slice A n a, .slice B m b2] 45) := ⟨_, rfl⟩
  obtain ⟨bx, hbx⟩ : ∃ bx, bx = w.heap.size := ⟨_, rfl⟩
  have hB : Below w.heap.size w W := by rw [hW]; exact Joins.below_alloc1 w _
  have z0 : W.cell? ⟨bx, 0, none⟩ = some (.slice A n a) := by rw [hW, hbx, cell_of_row _ _ 0 _ _ _ (heap_new w _)]; rfl
  have z1 : W.cell? ⟨bx, 1, none⟩ = some (.slice B m b2) := by rw [hW, hbx, cell_of_row _ _ 1 _ _ _ (heap_new w _)]; rfl
  have HB := Lib.hid hB
  have HC := Lib.hid (begin_any g _ _ hgn hge s W ((h.below hB).mono hB.size) hcap)
  obtain ⟨R, hR⟩ : ∃ R, R = graphWhy g := ⟨_, rfl⟩
  have HR := Lib.hid hR
  clear h hB hR hcap hgn hge
  go_enter Try.func37, Try.ntmps37
  go_upto_region 1 with (fail)
  rw [← hW, ← hbx]
  clear hW hbx
  go_wp2_with fail
  refine HC.out.mono ?_
  rintro e w5 ⟨hr, hB5⟩
  have HB5 : Hid (Below w.heap.size w w5) := HB.out.trans (hB5.mono HB.out.size)
  clear HC hB5 z0 z1
  obtain ⟨k1, k2, k3⟩ := hr
  rw [← HR.out] at k1 k2 k3
  by_cases r0 : R = 0
  · by_cases hh : HasN g.N s
    · obtain ⟨b, bm, T, rfl, hE, hw⟩ := k3 r0 hh
      obtain ⟨V, r1, r2, r3, r4, r5⟩ := hw.row
      obtain ⟨av, cv, rfl⟩ := slice_of_own r2
      have hpost : Hid (ReachR g s (.returned (.tuple #[.slice av (steps (egs g.E) s T).length cv, .int .i64 0])) w5) := ⟨fun q => absurd (HR.out.symm.trans r0) q, fun _ q => absurd hh q, fun _ _ => ⟨T, av, cv, rfl, hE, r2⟩⟩
      clear k1 k2 k3 hE hw r2 r3 r4 r5 r0 hh
      generalize (steps (egs g.E) s T).length = len at r1 hpost
      go_wp2_with fail
      go_ret2
      exact ⟨hpost.out, HB5.out⟩
    · obtain rfl := k2 r0 hh
      have hpost : Hid (ReachR g s (.returned (.tuple #[.slice none 0 0, .int .i64 9])) w5) := ⟨fun q => absurd (HR.out.symm.trans r0) q, fun _ _ => rfl, fun _ q => absurd q hh⟩
      clear k1 k2 k3 r0 hh
      go_wp2_with fail
      go_ret2
      exact ⟨hpost.out, HB5.out⟩
  · obtain rfl := k1 r0
    have e0 : (R != 0) = true := by simpa using r0
    have hpost : Hid (ReachR g s (.returned (.tuple #[.slice none 0 0, .int .i64 R])) w5) := ⟨fun _ => by rw [HR.out], fun q => absurd (HR.out.trans q) r0, fun q => absurd (HR.out.trans q) r0⟩
    clear k1 k2 k3 r0
    go_wp2_with fail
    go_ret2
    exact ⟨hpost.out, HB5.out⟩
end Go.Proofs.Ytpaegpbabfohcaa.Paths
