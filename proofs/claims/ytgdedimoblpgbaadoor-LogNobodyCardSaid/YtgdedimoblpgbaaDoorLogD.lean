/-
  The walk of the log's Writes.
-/
import Derived.Test.YtgdedimoblpgbaaDoorLogC
namespace Go.Proofs.YtgdedimoblpgbaaDoor.Disk
open Go.RowKit Go.Proofs.YtgdedimoblpgbaaDoor.DiskRows
set_option linter.unusedVariables false
set_option linter.unusedSimpArgs false
set_option maxRecDepth 100000

/-- how many sectors are written -/
def wrV (most : Nat) (t : ByteArray) (n : Nat) : Nat := if n = 0 ∨ (n : Int) > (most : Int) * 128 - (t.size : Int) then 0 else secs (t.size + n) - t.size / 128
theorem writes_any (bl b first most : Nat) (t : ByteArray) (n : Nat) (w : World) (h : LogAt bl b first most t w) (hm : most ≤ 4096) (ht : t.size ≤ 1000000) (hn : n ≤ 100000000) (v : Nat) (hv : wrV most t n = v) :
    Calls Tryd.prog 11 #[.pointer (some ⟨bl, 0, none⟩), .int .i64 n] w fun x w' => x = .returned (.int .i64 (v : Nat)) ∧ Below w.heap.size w w' := by
  obtain ⟨⟨x0, x1, x2, x3⟩, f⟩ := h.cells
  have hm1 : (most : Int) ≤ 4096 := by omega
  have ht1 : (t.size : Int) ≤ 1000000 := by omega
  have hn1 : (n : Int) ≤ 100000000 := by omega
  have hw1 : IntKind.i64.wrap ((most : Int) * 128) = (most : Int) * 128 := by rw [IntKind.wrap_i64]; omega
  have hw2 : IntKind.i64.wrap ((most : Int) * 128 - (t.size : Int)) = (most : Int) * 128 - (t.size : Int) := by rw [IntKind.wrap_i64]; omega
  unfold wrV at hv
  by_cases h0 : n = 0
  · rw [if_pos (.inl h0)] at hv
    subst hv h0
    clear h f hw1 hw2
    go_enter Tryd.func11, Tryd.ntmps11
    go_upto_region 1 with fail
    go_region
    go_wp2
    go_ret
    exact ⟨rfl, (Below.refl _ w).drew⟩
  · by_cases hf : (n : Int) > (most : Int) * 128 - (t.size : Int)
    · rw [if_pos (.inr hf)] at hv
      subst hv
      have d1 : decide ((most : Int) * 128 - (t.size : Int) < (n : Int)) = true := decide_eq_true hf
      have d0 : decide (n = 0) = false := decide_eq_false h0
      clear h f hf
      go_enter Tryd.func11, Tryd.ntmps11
      go_upto_region 1 with fail
      go_region
      go_wp2
      go_ret
      exact ⟨rfl, (Below.refl _ w).drew⟩
    · rw [if_neg (by rintro (q | q); exact h0 q; exact hf q)] at hv
      have d1 : decide ((most : Int) * 128 - (t.size : Int) < (n : Int)) = false := decide_eq_false hf
      have d0 : decide (n = 0) = false := decide_eq_false h0
      obtain ⟨k, hk⟩ : ∃ k, secs (t.size + n) = k := ⟨_, rfl⟩
      obtain ⟨fr, hfr⟩ : ∃ fr, t.size / 128 = fr := ⟨_, rfl⟩
      rw [hk, hfr] at hv
      have hkb : fr ≤ k ∧ (k : Int) ≤ 1000000 := by
        rw [← hk, ← hfr]
        unfold secs
        omega
      have hv1 : (k : Int) - (fr : Int) = (v : Int) := by omega
      have hfr1 : Int.tdiv (t.size : Int) 128 = (fr : Int) := by rw [Int.tdiv_eq_ediv_of_nonneg (by omega)]; omega
      have hw3 : IntKind.i64.wrap ((t.size : Int) + (n : Int)) = ((t.size + n : Nat) : Int) := by rw [IntKind.wrap_i64]; omega
      have hw4 : IntKind.i64.wrap ((k : Int) - (fr : Int)) = (v : Int) := by rw [hv1, IntKind.wrap_i64]; omega
      have hfb : (fr : Int) ≤ 1000000 := by omega
      have hwf : IntKind.i64.wrap (fr : Int) = (fr : Int) := by rw [IntKind.wrap_i64]; omega
      have hS := fun W => sectors_any (t.size + n) W (by omega) k hk
      have HS := Lib.hid hS
      have hkb2 := hkb.2
      clear h f hf hk hfr hv hv1 hkb hS
      go_enter Tryd.func11, Tryd.ntmps11
      go_upto_region 1 with fail
      go_region
      go_upto_region 3 with fail
      have hx : w.drew.drew.cell? ⟨bl, 3, none⟩ = some (.string t) := x3
      go_region_held3 (fun W' => W'.cell? ⟨bl, 3, none⟩ = some (.string t)) (first | with_reducible exact hx) (first | (go_at_call 19; refine (HS.out _).mono ?_; rintro x w2 ⟨rfl, rfl⟩))
      go_wp2
      go_ret
      exact ⟨rfl, ((Below.refl _ w).drew).drew⟩
end Go.Proofs.YtgdedimoblpgbaaDoor.Disk
