/-
  dag: a row of knots, opened from a reading.
-/
import Derived.Test.YtpaegpbabfohcaaWalkDagC
import Derived.Lib.SmallJoins
import Derived.ChangeSlices
import Derived.Deep.Slices
import Derived.SizedLaws
import Derived.DataReads
namespace Go.Proofs.Ytpaegpbabfohcaa.WalkDag
open Go.RowKit Go.ChangeShapes Go.WideShapes Go.Deep Go.Proofs.Ytpaegpbabfohcaa.DagPure Go.Proofs.Ytpaegpbabfohcaa.WalkInts
set_option linter.unusedVariables false
set_option linter.unusedSimpArgs false
set_option maxRecDepth 100000
variable {H : Type} {enc : TypeId × Value → H} {W : World} {base : Nat} {spare : Nat → Bool} {held : Bool}

theorem addr_of {a : Addr} {v : Value} (h : W.cell? (a.add 0) = some v) : ∃ g off, a = ⟨g, off, none⟩ ∧ g < W.heap.size := by
  obtain ⟨g, off, spot⟩ := a
  have hs : spot = none := by simpa [Addr.add] using World.cell?_spot h
  subst hs
  refine ⟨g, off, rfl, ?_⟩
  unfold World.cell? at h
  rcases Nat.lt_or_ge g W.heap.size with q | q
  · exact q
  · simp [Addr.add, Array.getElem?_eq_none q] at h
theorem ints_open {fuel : Nat} {cs : List Value} {x : DataW H × List MemPlace} (h : DataW.trod enc Try.prog W base spare held fuel 25 cs = some x) :
    ∃ A c K, cs = [.slice A K.length c] ∧ Ints W A K ∧ Bd W.heap.size A K := by
  rcases open_ints Try.underlying25 Try.underlying3 (by kernel_rfl) h with ⟨rfl, _⟩ | ⟨a, len, cap, zs, rfl, _, hl, hm, hz, _, hc, hw⟩
  · exact ⟨none, 0, [], rfl, .inl rfl, by simp [Bd]⟩
  · have hle : len ≤ zs.length := by rw [hz]; split <;> omega
    have hlen : (zs.take len).length = len := by simp; omega
    refine ⟨some a, cap, zs.take len, by rw [hlen], ?_, ?_⟩
    · rcases Nat.eq_zero_or_pos len with rfl | hp
      · left; simp
      · obtain ⟨g, off, rfl, hg⟩ := addr_of (hc 0 (by omega))
        refine .inr ⟨g, off, rfl, fun i hi => ?_⟩
        rw [hlen] at hi
        have := hc i (by omega)
        rw [Addr.add_lit] at this
        rw [this]
        simp [List.getD_eq_getElem?_getD, hi]
    · intro hne g off e
      rcases Nat.eq_zero_or_pos len with rfl | hp
      · simp at hne
      · obtain ⟨g', off', rfl, hg⟩ := addr_of (hc 0 (by omega))
        injection e with e
        injection e with e1 e2 _
        omega
/-- an empty row has no cells: any address serves -/
theorem choose_below {α : Type} [Inhabited α] {n : Nat} {P : Nat → α → Prop} (h : ∀ i, i < n → ∃ a, P i a) : ∃ f : Nat → α, ∀ i, i < n → P i (f i) := by
  have : ∀ i, ∃ a, i < n → P i a := fun i => by
    by_cases hi : i < n
    · obtain ⟨a, ha⟩ := h i hi
      exact ⟨a, fun _ => ha⟩
    · exact ⟨default, fun k => absurd k hi⟩
  exact Classical.skolem.1 this
theorem knot_open {fuel : Nat} {cs : List Value} {x : DataW H × List MemPlace} (h : DataW.trod enc Try.prog W base spare held fuel 77 cs = some x) :
    ∃ a : Kn, cs = [.int .i64 a.k.n, .slice a.A a.k.ps.length a.c] ∧ Ints W a.A a.k.ps ∧ Bd W.heap.size a.A a.k.ps := by
  obtain ⟨xs, n, _, rfl, hl, hlen, hf⟩ := DataW.trod_struct Try.underlying77 h
  have hC : Try.prog.cellsOf 77 = 2 := by kernel_rfl
  have k1 : Try.prog.cellsOf 3 = 1 := by kernel_rfl
  have k4 : Try.prog.cellsOf 25 = 1 := by kernel_rfl
  rw [hC] at hl
  match cs, hl, xs, hlen with
  | [c0, c1], _, [y0, y1], _ =>
    have g0 := hf 0 _ rfl
    have g1 := hf 1 _ rfl
    simp [k1, k4] at g0 g1
    obtain ⟨z0, e0, -, w0⟩ := DataW.trod_int Try.underlying3 g0
    obtain ⟨A, c, K, e1, hN, hb⟩ := ints_open g1
    simp at e0 e1
    subst e0 e1
    exact ⟨⟨⟨z0, K⟩, A, c⟩, rfl, hN, hb⟩
theorem knots_open {fuel : Nat} {cs : List Value} {x : DataW H × List MemPlace} (h : DataW.trod enc Try.prog W base spare held fuel 22 cs = some x) :
    ∃ A l c, cs = [.slice A l.length c] ∧ Knots W.heap.size W A l ∧ l.length ≤ c ∧ c ≤ maxLen := by
  rcases open_slice Try.underlying22 h with ⟨rfl, _⟩ | ⟨a, len, cap, m, n, D, Pl, rfl, _, hl, hm, hmm, rfl, hx⟩
  · exact ⟨none, [], 0, rfl, .inl rfl, by simp, by simp⟩
  · have hlm : len ≤ m := by rw [hmm]; split <;> omega
    have hC : Try.prog.cellsOf 77 = 2 := by kernel_rfl
    have each : ∀ i, i < len → ∃ q : Kn, (W.cell? ((a.add (i * 2)).add 0) = some (.int .i64 q.k.n) ∧ W.cell? ((a.add (i * 2)).add 1) = some (.slice q.A q.k.ps.length q.c)) ∧ Ints W q.A q.k.ps ∧ Bd W.heap.size q.A q.k.ps := fun i hi => by
      obtain ⟨cs', h1, h2⟩ := hx i (by omega)
      rw [hC] at h1
      obtain ⟨_, hlen, hcell⟩ := World.cells?_some h1
      obtain ⟨q, rfl, hq, hb⟩ := knot_open h2
      exact ⟨q, ⟨hcell 0 (by omega), hcell 1 (by omega)⟩, hq, hb⟩
    obtain ⟨f, hf⟩ := choose_below each
    have hlen : ((List.range len).map f).length = len := by simp
    refine ⟨some a, (List.range len).map f, cap, by rw [hlen], ?_, by rw [hlen]; omega, hm⟩
    rcases Nat.eq_zero_or_pos len with rfl | hp
    · left; rfl
    · have h0 := (hf 0 hp).1.1
      rw [Nat.zero_mul] at h0
      have ha : (a.add 0).add 0 = a.add 0 := by simp [Addr.add]
      rw [ha] at h0
      obtain ⟨g, off, rfl, hg⟩ := addr_of h0
      refine .inr ⟨g, off, rfl, hg, fun k hk => ?_⟩
      rw [hlen] at hk
      have e : kn ((List.range len).map f) k = f k := by unfold kn; simp [List.getD_eq_getElem?_getD, hk]
      obtain ⟨⟨c1, c2⟩, c3, c4⟩ := hf k hk
      rw [e]
      rw [Addr.add_lit, Addr.add_lit] at c1 c2
      exact ⟨c1, c2, c3, c4⟩
end Go.Proofs.Ytpaegpbabfohcaa.WalkDag
