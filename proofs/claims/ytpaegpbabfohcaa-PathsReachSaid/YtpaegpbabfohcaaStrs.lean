/-
  Slices of texts that came in.
-/
import Derived.Test.YtpaegpbabfohcaaProg
import Derived.WalkKit
import Derived.KernelRfl
import Derived.Lib.Hide
import Derived.IntWalk
import Derived.DataReads
namespace Go.Proofs.Ytpaegpbabfohcaa.WalkBytes
open Go.RowKit
set_option linter.unusedVariables false
set_option linter.unusedSimpArgs false

/-- a slice of texts that reads as ss -/
def Strs (w : World) (A : Option Addr) (ss : List ByteArray) : Prop :=
  ss = [] ∨ ∃ b off, A = some ⟨b, off, none⟩ ∧ ∀ i, i < ss.length → w.cell? ⟨b, off + i, none⟩ = some (.string (ss.getD i ByteArray.empty))
/-- what the opening of an argument tells -/
def StrsArg (w : World) (A : Option Addr) (len : Nat) (zs : List ByteArray) : Prop :=
  (A = none ∧ len = 0 ∧ zs = []) ∨
  ∃ (x : Addr) (ss : List ByteArray), A = some x ∧ len ≤ ss.length ∧ (∀ i, i < ss.length → w.cell? (x.add i) = some (.string (ss.getD i ByteArray.empty))) ∧ (∀ s ∈ ss, s.size ≤ maxLen) ∧ zs = ss.take len
theorem StrsArg.out {w : World} {A : Option Addr} {len : Nat} {zs : List ByteArray} (h : StrsArg w A len zs) :
    Strs w A zs ∧ zs.length = len ∧ (∀ s ∈ zs, s.size ≤ 9223372036854775807) ∧ (∀ b off, A = some ⟨b, off, none⟩ → zs ≠ [] → b < w.heap.size) := by
  rcases h with ⟨rfl, rfl, rfl⟩ | ⟨x, ss, rfl, hl, hc, hs, rfl⟩
  · exact ⟨.inl rfl, rfl, by simp, by simp⟩
  · have hlen : (ss.take len).length = len := by simp; omega
    refine ⟨?_, hlen, fun s h => by have := hs s (List.mem_of_mem_take h); unfold maxLen at this; omega, ?_⟩
    · rcases Nat.eq_zero_or_pos len with rfl | hp
      · left; simp
      · right
        obtain ⟨b, off, spot⟩ := x
        have h0 := hc 0 (by omega)
        have hspot : spot = none := by simpa [Addr.add] using World.cell?_spot h0
        subst hspot
        refine ⟨b, off, rfl, fun i hi => ?_⟩
        rw [hlen] at hi
        have hi2 := hc i (by omega)
        have hadd : (⟨b, off, none⟩ : Addr).add i = ⟨b, off + i, none⟩ := by unfold Addr.add; split <;> simp_all
        rw [hadd] at hi2
        rw [hi2]
        simp [List.getD_eq_getElem?_getD, hi]
    · intro b off hx hne
      obtain rfl := Option.some.inj hx
      have hp : 0 < len := by
        rcases Nat.eq_zero_or_pos len with rfl | hp
        · simp at hne
        · exact hp
      have h0 := hc 0 (by omega)
      unfold World.cell? at h0
      rcases Nat.lt_or_ge b w.heap.size with g | g
      · exact g
      · simp [Addr.add, Array.getElem?_eq_none g] at h0
theorem Strs.below {w w' : World} {A : Option Addr} {ss : List ByteArray} (h : Strs w A ss) {B : Nat} (b : Below B w w') (hB : ∀ g off, A = some ⟨g, off, none⟩ → ss ≠ [] → g < B) : Strs w' A ss := by
  rcases h with rfl | ⟨g, off, rfl, hc⟩
  · exact .inl rfl
  · rcases List.eq_nil_or_concat ss with rfl | ⟨l, a, rfl⟩
    · exact .inl rfl
    · exact .inr ⟨g, off, rfl, fun i hi => by rw [b.cell (p := ⟨g, off + i, none⟩) (hB g off rfl (by simp))]; exact hc i hi⟩

theorem Strs.cell {w : World} {g off : Nat} {ss : List ByteArray} (h : Strs w (some ⟨g, off, none⟩) ss) {k : Nat} (hk : k < ss.length) : w.cell? ⟨g, off + k, none⟩ = some (.string (ss.getD k ByteArray.empty)) := by
  rcases h with rfl | ⟨b, o, e, hc⟩
  · simp at hk
  · simp at e
    obtain ⟨rfl, rfl⟩ := e
    exact hc k hk
theorem Strs.addr {w : World} {A : Option Addr} {ss : List ByteArray} (h : Strs w A ss) (hk : ss ≠ []) : ∃ g off, A = some ⟨g, off, none⟩ := by
  rcases h with rfl | ⟨b, o, e, hc⟩
  · exact absurd rfl hk
  · exact ⟨b, o, e⟩
theorem Strs.drop {w : World} {g off : Nat} {ss : List ByteArray} (h : Strs w (some ⟨g, off, none⟩) ss) (k : Nat) : Strs w (some ⟨g, off + k, none⟩) (ss.drop k) := by
  by_cases hk : k < ss.length
  · refine .inr ⟨_, _, rfl, fun i hi => ?_⟩
    rw [List.length_drop] at hi
    rw [Nat.add_assoc, h.cell (by omega)]
    simp [List.getD_eq_getElem?_getD]
  · left; simp; omega
end Go.Proofs.Ytpaegpbabfohcaa.WalkBytes
