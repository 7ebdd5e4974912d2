/-
  A row of numbers, opened from a reading.
-/
import Derived.Test.YtgdedimoblpgbaaWalkDiskC
import Derived.Lib.SmallJoins
import Derived.SliceStrings
import Derived.ChangeSlices
import Derived.Deep.Slices
import Derived.SizedLaws
import Derived.DataReads
namespace Go.Proofs.Ytgdedimoblpgbaa.Disk
open Go.RowKit Go.Proofs.Ytgdedimoblpgbaa.DiskRows Go.ChangeShapes Go.WideShapes Go.Deep
set_option linter.unusedVariables false
set_option linter.unusedSimpArgs false
set_option maxRecDepth 100000
variable {H : Type} {enc : TypeId × Value → H} {W : World} {base : Nat} {spare : Nat → Bool} {held : Bool}

/-- what a reading weighs is within reach -/
def Reach (t : TypeId) (d : DataW H) : Prop := ∀ n ∈ d.weights Try.prog t, n ≤ reachBytes
theorem addr_of {a : Addr} {v : Value} (h : W.cell? (a.add 0) = some v) : ∃ g off, a = ⟨g, off, none⟩ ∧ g < W.heap.size := by
  obtain ⟨g, off, spot⟩ := a
  have hs : spot = none := by simpa [Addr.add] using World.cell?_spot h
  subst hs
  refine ⟨g, off, rfl, ?_⟩
  unfold World.cell? at h
  rcases Nat.lt_or_ge g W.heap.size with q | q
  · exact q
  · simp [Addr.add, Array.getElem?_eq_none q] at h
theorem nums_open {fuel : Nat} {cs : List Value} {x : DataW H × List MemPlace} (h : DataW.trod enc Try.prog W base spare held fuel 34 cs = some x) :
    ∃ A n c K, cs = [.slice A n c] ∧ K.length = n ∧ Nums W A K ∧ (∀ z ∈ K, (Lit.int .i64 z).wf = true) ∧ n ≤ maxLen := by
  rcases open_ints Try.underlying34 Try.underlying3 (by kernel_rfl) h with ⟨rfl, _⟩ | ⟨a, len, cap, zs, rfl, _, hl, hm, hz, _, hc, hw⟩
  · exact ⟨none, 0, 0, [], rfl, rfl, .inl rfl, by simp, by simp⟩
  · have hle : len ≤ zs.length := by rw [hz]; split <;> omega
    have hlen : (zs.take len).length = len := by simp; omega
    refine ⟨some a, len, cap, zs.take len, rfl, hlen, ?_, fun z hz => hw z (List.mem_of_mem_take hz), by omega⟩
    rcases Nat.eq_zero_or_pos len with rfl | hp
    · left; simp
    · obtain ⟨g, off, rfl, hg⟩ := addr_of (hc 0 (by omega))
      refine .inr ⟨g, off, rfl, hg, fun i hi => ?_⟩
      rw [hlen] at hi
      have := hc i (by omega)
      rw [Addr.add_lit] at this
      rw [this]
      simp [List.getD_eq_getElem?_getD, hi]
theorem wf_le {n : Int} (h : (Lit.int .i64 n).wf = true) : n ≤ 9223372036854775807 := by
  simp [Lit.wf, IntKind.wrap_i64] at h
  omega
end Go.Proofs.Ytgdedimoblpgbaa.Disk
