/-
  dag: the laws' example.
-/
import Derived.Test.YtpaegpbabfohcaaRefDagG
namespace Go.Proofs.Ytpaegpbabfohcaa.WalkDag
open Go.RowKit Go.Proofs.Ytpaegpbabfohcaa.HeapPure Go.Proofs.Ytpaegpbabfohcaa.HeapA Go.Proofs.Ytpaegpbabfohcaa.MapAt Go.Proofs.Ytpaegpbabfohcaa.DagPure Go.Proofs.Ytpaegpbabfohcaa.WalkInts
set_option linter.unusedVariables false
set_option linter.unusedSimpArgs false
set_option maxRecDepth 100000

def exL (H : Nat) : List Kn := [⟨⟨1, []⟩, none, 0⟩, ⟨⟨2, [1]⟩, some ⟨H, 0, none⟩, 1⟩, ⟨⟨3, [1]⟩, some ⟨H + 1, 0, none⟩, 1⟩, ⟨⟨4, [2, 3]⟩, some ⟨H + 1 + 1, 0, none⟩, 2⟩]
theorem exL_ok (H : Nat) : Ok (exL H) := by
  intro i hi
  have : i = 0 ∨ i = 1 ∨ i = 2 ∨ i = 3 := by simp [exL] at hi; omega
  rcases this with rfl | rfl | rfl | rfl <;> simp [exL, kn, OkAt, Seen]
theorem exL_has (H : Nat) : Has (exL H) 2 ∧ Has (exL H) 3 ∧ Has (exL H) 4 := ⟨⟨1, by simp [exL], rfl⟩, ⟨2, by simp [exL], rfl⟩, ⟨3, by simp [exL], rfl⟩⟩
theorem exL_best (H : Nat) : best (rev (exL H)) 2 3 = [1] ∧ best (rev (exL H)) 4 3 = [3] := ⟨rfl, rfl⟩
theorem exL_why {H : Nat} {a b r : Int} (h : Why (exL H) [a, b] r) (ha : Has (exL H) a) (hb : Has (exL H) b) : r = 0 := by
  rcases h with ⟨h, _⟩ | ⟨_, ⟨f, hf, hn⟩, _⟩ | ⟨_, _, h⟩
  · exact absurd (exL_ok H) h
  · simp at hf
    rcases hf with rfl | rfl
    · exact absurd ha hn
    · exact absurd hb hn
  · exact h
theorem exL_knots (w : World) (W : World) (hW : W = (((w.alloc (.cells #[.int .i64 1] 3)).alloc (.cells #[.int .i64 1] 3)).alloc (.cells #[.int .i64 2, .int .i64 3] 3)).alloc
      (.cells #[.int .i64 1, .slice none 0 0, .int .i64 2, .slice (some ⟨w.heap.size, 0, none⟩) 1 1, .int .i64 3, .slice (some ⟨w.heap.size + 1, 0, none⟩) 1 1, .int .i64 4, .slice (some ⟨w.heap.size + 1 + 1, 0, none⟩) 2 2] 77)) :
    Knots W.heap.size W (some ⟨w.heap.size + 1 + 1 + 1, 0, none⟩) (exL w.heap.size) ∧ Below w.heap.size w W := by
  have s1 : (w.alloc (.cells #[.int .i64 1] 3)).heap.size = w.heap.size + 1 := by simp
  have s2 : ((w.alloc (.cells #[.int .i64 1] 3)).alloc (.cells #[.int .i64 1] 3)).heap.size = w.heap.size + 1 + 1 := by simp
  have s3 : (((w.alloc (.cells #[.int .i64 1] 3)).alloc (.cells #[.int .i64 1] 3)).alloc (.cells #[.int .i64 2, .int .i64 3] 3)).heap.size = w.heap.size + 1 + 1 + 1 := by simp
  have b0 : W.heap[w.heap.size]? = some (.cells #[.int .i64 1] 3 (0, 0)) := by
    rw [hW, Below.heap_alloc _ _ _ (by omega), Below.heap_alloc _ _ _ (by omega), Below.heap_alloc _ _ _ (by omega)]
    exact heap_alloc_last _ _
  have b1 : W.heap[w.heap.size + 1]? = some (.cells #[.int .i64 1] 3 (0, 0)) := by
    rw [hW, Below.heap_alloc _ _ _ (by omega), Below.heap_alloc _ _ _ (by omega), ← s1]
    exact heap_alloc_last _ _
  have b2 : W.heap[w.heap.size + 1 + 1]? = some (.cells #[.int .i64 2, .int .i64 3] 3 (0, 0)) := by
    rw [hW, Below.heap_alloc _ _ _ (by omega), ← s2]
    exact heap_alloc_last _ _
  have b3 : W.heap[w.heap.size + 1 + 1 + 1]? = some (.cells #[.int .i64 1, .slice none 0 0, .int .i64 2, .slice (some ⟨w.heap.size, 0, none⟩) 1 1, .int .i64 3, .slice (some ⟨w.heap.size + 1, 0, none⟩) 1 1, .int .i64 4, .slice (some ⟨w.heap.size + 1 + 1, 0, none⟩) 2 2] 77 (0, 0)) := by
    rw [hW, ← s3]
    exact heap_alloc_last _ _
  have hlt := (Array.getElem?_eq_some_iff.1 b3).1
  refine ⟨.inr ⟨_, 0, rfl, hlt, fun i hi => ?_⟩, ?_⟩
  · have : i = 0 ∨ i = 1 ∨ i = 2 ∨ i = 3 := by simp [exL] at hi; omega
    rcases this with rfl | rfl | rfl | rfl
    · refine ⟨by rw [cell_of_row _ _ _ _ _ _ b3]; rfl, by rw [cell_of_row _ _ _ _ _ _ b3]; rfl, .inl rfl, fun ne => absurd rfl ne⟩
    · refine ⟨by rw [cell_of_row _ _ _ _ _ _ b3]; rfl, by rw [cell_of_row _ _ _ _ _ _ b3]; rfl, .inr ⟨_, 0, rfl, fun j hj => ?_⟩, fun ne g off e => ?_⟩
      · have : j = 0 := by simp [exL, kn] at hj; omega
        subst this
        rw [cell_of_row _ _ _ _ _ _ b0]; rfl
      · have e : some (⟨w.heap.size, 0, none⟩ : Addr) = some ⟨g, off, none⟩ := e
        injection e with e
        injection e with e _ _
        omega
    · refine ⟨by rw [cell_of_row _ _ _ _ _ _ b3]; rfl, by rw [cell_of_row _ _ _ _ _ _ b3]; rfl, .inr ⟨_, 0, rfl, fun j hj => ?_⟩, fun ne g off e => ?_⟩
      · have : j = 0 := by simp [exL, kn] at hj; omega
        subst this
        rw [cell_of_row _ _ _ _ _ _ b1]; rfl
      · have e : some (⟨w.heap.size + 1, 0, none⟩ : Addr) = some ⟨g, off, none⟩ := e
        injection e with e
        injection e with e _ _
        omega
    · refine ⟨by rw [cell_of_row _ _ _ _ _ _ b3]; rfl, by rw [cell_of_row _ _ _ _ _ _ b3]; rfl, .inr ⟨_, 0, rfl, fun j hj => ?_⟩, fun ne g off e => ?_⟩
      · have : j = 0 ∨ j = 1 := by simp [exL, kn] at hj; omega
        rcases this with rfl | rfl
        · rw [cell_of_row _ _ _ _ _ _ b2]; rfl
        · rw [cell_of_row _ _ _ _ _ _ b2]; rfl
      · have e : some (⟨w.heap.size + 1 + 1, 0, none⟩ : Addr) = some ⟨g, off, none⟩ := e
        injection e with e
        injection e with e _ _
        omega
  · rw [hW]
    exact (((Joins.below_alloc1 w _).trans ((Joins.below_alloc1 _ _).mono (by simp))).trans ((Joins.below_alloc1 _ _).mono (by simp; omega))).trans ((Joins.below_alloc1 _ _).mono (by simp; omega))
set_option maxHeartbeats 3200000 in
theorem awake_any (w : World) : Calls Try.prog 10 #[] w fun e w' => e = .returned (.bool true) ∧ Below w.heap.size w w' := by
  obtain ⟨W, hW⟩ : ∃ W, W = (((w.alloc (.cells #[.int .i64 1] 3)).alloc (.cells #[.int .i64 1] 3)).alloc (.cells #[.int .i64 2, .int .i64 3] 3)).alloc
      (.cells #[.int .i64 1, .slice none 0 0, .int .i64 2, .slice (some ⟨w.heap.size, 0, none⟩) 1 1, .int .i64 3, .slice (some ⟨w.heap.size + 1, 0, none⟩) 1 1, .int .i64 4, .slice (some ⟨w.heap.size + 1 + 1, 0, none⟩) 2 2] 77) := ⟨_, rfl⟩
  obtain ⟨hK, hB⟩ := exL_knots w W hW
  have HK := Lib.hid hK
  have HB := Lib.hid hB
  have HL : Hid ((exL w.heap.size).length ≤ 100) := by show _ ≤ _; simp [exL]
  clear hK hB
  go_enter Try.func10, Try.ntmps10
  go_wp2_with fail
  rw [← hW]
  clear hW
  refine (base_any (some ⟨w.heap.size + 1 + 1 + 1, 0, none⟩) 4 (exL w.heap.size) 2 3 W HK.out HL.out).mono ?_
  rintro e w1 ⟨⟨r, x, s, rfl, h1, -, h3⟩, hB1⟩
  obtain rfl := exL_why h1 (exL_has _).1 (exL_has _).2.1
  obtain ⟨rfl, rfl⟩ := (h3 rfl).2 (by rw [(exL_best _).1]; simp)
  rw [(exL_best _).1]
  have HK1 : Hid (Knots w1.heap.size w1 (some ⟨w.heap.size + 1 + 1 + 1, 0, none⟩) (exL w.heap.size)) := (HK.out.below hB1).mono hB1.size
  have HB1 : Hid (Below w.heap.size w w1) := HB.out.trans (hB1.mono HB.out.size)
  clear h1 h3 hB1
  go_wp2_with fail
  refine (base_any (some ⟨w.heap.size + 1 + 1 + 1, 0, none⟩) 4 (exL w.heap.size) 4 3 w1 HK1.out HL.out).mono ?_
  rintro e w2 ⟨⟨r, x, s, rfl, h1, -, h3⟩, hB2⟩
  obtain rfl := exL_why h1 (exL_has _).2.2 (exL_has _).2.1
  obtain ⟨rfl, rfl⟩ := (h3 rfl).2 (by rw [(exL_best _).2]; simp)
  rw [(exL_best _).2]
  have HB2 : Hid (Below w.heap.size w w2) := HB1.out.trans (hB2.mono HB1.out.size)
  clear h1 h3 hB2
  go_wp2_with fail
  go_ret
  exact ⟨rfl, HB2.out⟩
end Go.Proofs.Ytpaegpbabfohcaa.WalkDag
