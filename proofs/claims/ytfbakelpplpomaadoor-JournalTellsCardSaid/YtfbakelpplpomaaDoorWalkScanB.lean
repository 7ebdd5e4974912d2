/-
  The walks of the scan's Byte, of PutNum, PutText, and of the document's fix, Num, Text, PutNum, PutText.
-/
import Derived.Test.YtfbakelpplpomaaDoorWalkScan
import Derived.Handy
namespace Go.Proofs.YtfbakelpplpomaaDoor.WalkScan
open Go.RowKit Go.Proofs.YtfbakelpplpomaaDoor.WalkVar
open Pl.Seat (numV numR txtV txtR numP txtP)
set_option linter.unusedVariables false
set_option linter.unusedSimpArgs false
set_option maxRecDepth 100000

theorem maxTwo (ats : Array TypeId) (ty : TypeId) (a b : Value) : Builtin.max_ ats ty #[a, b] = (Builtin.max2 a b >>= fun s => pure s) := by simp only [Builtin.max_, List.foldlM_cons, List.foldlM_nil]
theorem maxInt2 (k k' : IntKind) (x y : Int) : Builtin.max2 (.int k x) (.int k' y) = pure (.int k (if x < y then y else x)) := by simp only [Builtin.max2]
attribute [local go_sem] maxTwo

theorem putNum_any (n : Int) (w : World) (hn : n ≤ 9223372036854775807) :
    Calls Tryd.prog 33 #[.int .i64 n] w fun e w' => e = .returned (.string (bs (Pl.Seat.put n.toNat))) ∧ Below w.heap.size w w' := by
  have hmx : Builtin.max2 (.int .i64 n) (.int .i64 0) = pure (.int .i64 ((n.toNat : Nat) : Int)) := by
    rw [maxInt2]
    congr 2
    split <;> omega
  obtain ⟨m, hm⟩ : ∃ m, n.toNat = m := ⟨_, rfl⟩
  rw [hm] at hmx ⊢
  have hmi : (m : Int) ≤ 9223372036854775807 := by omega
  have hmn : m < 18446744073709551616 := by omega
  have HM := Lib.hid hmn
  clear hmn hm
  obtain ⟨P, hP⟩ : ∃ P, Pl.Seat.put m = P := ⟨_, rfl⟩
  rw [hP]
  have HP := Lib.hid hP
  clear hP
  go_enter Tryd.func33, Tryd.ntmps33
  go_wp2_with (go_at_call 57; refine (put_at m P _ HM.out HP.out).mono ?_; rintro e w1 ⟨rfl, hB⟩)
  go_ret
  exact ⟨rfl, hB⟩
theorem putText_any (s : ByteArray) (w : World) (hs : s.size ≤ 1048576) :
    Calls Tryd.prog 34 #[.string s] w fun e w' => e = .returned (.string (bs (Pl.Seat.putT s.data.toList))) ∧ Below w.heap.size w w' := by
  obtain ⟨P, hP⟩ : ∃ P, Pl.Seat.put s.size = P := ⟨_, rfl⟩
  have hl : s.data.toList.length = s.size := by simp
  have e : bs (Pl.Seat.putT s.data.toList) = bs P ++ s := by
    unfold Pl.Seat.putT
    rw [hl, hP, ← bs_append, bs_of]
  rw [e]
  have hpl := Pl.Seat.put_le s.size
  rw [hP] at hpl
  have hz : ¬ (9223372036854775807 < (bs P).size + s.size) := by rw [bs_size]; omega
  have hsn : s.size < 18446744073709551616 := by omega
  have HS := Lib.hid hsn
  have HP := Lib.hid hP
  clear hP hl e hpl hsn
  go_enter Tryd.func34, Tryd.ntmps34
  go_wp2_with (go_at_call 57; refine (put_at s.size P _ HS.out HP.out).mono ?_; rintro e w1 ⟨rfl, hB⟩)
  go_ret
  exact ⟨rfl, hB⟩
/-- the byte that a scan gives -/
def byteV : Option (List UInt8) → Nat
  | some (c :: _) => c.toNat
  | _ => 0
theorem byte_any (b : Nat) (st : Option (List UInt8)) (w : World) (h : Sc b st w) :
    Calls Tryd.prog 50 #[.pointer (some ⟨b, 0, none⟩)] w fun x w' => x = .returned (.int .i64 (byteV st : Nat)) ∧ Sc b (fixR 1 st) w' ∧ w.grownBy w' (some b) := by
  have HT := Lib.hid (take_any b st 1 w h)
  generalize hst : fixR 1 st = st1 at *
  cases st with
  | none =>
    have e : bs (fixV 1 none) = ⟨#[]⟩ := rfl
    rw [e] at HT
    go_enter Tryd.func50, Tryd.ntmps50
    go_wp2_with (go_at_call 72; refine HT.out.mono ?_; rintro e w1 ⟨rfl, hS, hG⟩)
    go_ret
    exact ⟨rfl, hS, hG⟩
  | some l =>
    cases l with
    | nil =>
      have e : bs (fixV 1 (some [])) = ⟨#[]⟩ := rfl
      rw [e] at HT
      go_enter Tryd.func50, Tryd.ntmps50
      go_wp2_with (go_at_call 72; refine HT.out.mono ?_; rintro e w1 ⟨rfl, hS, hG⟩)
      go_ret
      exact ⟨rfl, hS, hG⟩
    | cons c l =>
      have e : bs (fixV 1 (some (c :: l))) = ⟨#[c]⟩ := by simp [fixV, bs]
      rw [e] at HT
      go_enter Tryd.func50, Tryd.ntmps50
      go_wp2_with (go_at_call 72; refine HT.out.mono ?_; rintro e w1 ⟨rfl, hS, hG⟩)
      go_ret
      refine ⟨?_, hS, hG⟩
      show Ending.returned (Value.int .i64 (wrap64 (c.toNat : Int))) = Ending.returned (Value.int .i64 (c.toNat : Int))
      have hc := UInt8.toNat_lt c
      have : wrap64 (c.toNat : Int) = (c.toNat : Int) := by unfold wrap64; omega
      rw [this]

/-- the document's scan as a value, that has st left -/
def RSc (s : ByteArray) (v : Value) (st : Option (List UInt8)) : Prop :=
  ∃ (a e : Nat), v = .agg #[.string s, .int .i64 a, .int .i64 e] ∧ s.size ≤ 1048576 ∧ a ≤ s.size ∧ e ≤ 5 ∧ st = if e = 0 then some (s.data.toList.drop a) else none
/-- behind a call: the two blocks that were made ahead of it -/
theorem two_blocks {w w1 : World} {s : ByteArray} {a e : Int} {T : TypeId}
    (hB : Below ((w.alloc (.cells #[.string s, .int .i64 a, .int .i64 e] T)).alloc (.cells #[.string ⟨#[]⟩, .int .i64 0, .int .i64 0] T)).heap.size ((w.alloc (.cells #[.string s, .int .i64 a, .int .i64 e] T)).alloc (.cells #[.string ⟨#[]⟩, .int .i64 0, .int .i64 0] T)) w1) :
    (w1.cell? ⟨w.heap.size, 0, none⟩ = some (.string s) ∧ w1.cell? ⟨w.heap.size, 1, none⟩ = some (.int .i64 a) ∧ w1.cell? ⟨w.heap.size, 2, none⟩ = some (.int .i64 e) ∧ ∀ o, w1.frozen? ⟨w.heap.size, o, none⟩ = false) ∧
    (w1.cell? ⟨w.heap.size + 1, 0, none⟩ = some (.string ⟨#[]⟩) ∧ w1.cell? ⟨w.heap.size + 1, 1, none⟩ = some (.int .i64 0) ∧ w1.cell? ⟨w.heap.size + 1, 2, none⟩ = some (.int .i64 0) ∧ ∀ o, w1.frozen? ⟨w.heap.size + 1, o, none⟩ = false) ∧ Below w.heap.size w w1 ∧
    ((∀ o u v, ((w1.setCell ⟨w.heap.size, o, none⟩ u).setCell ⟨w.heap.size + 1, 0, none⟩ v).cell? ⟨w.heap.size + 1, 0, none⟩ = some v) ∧
     (∀ o u v x, (((w1.setCell ⟨w.heap.size, o, none⟩ u).setCell ⟨w.heap.size + 1, 0, none⟩ v).setCell ⟨w.heap.size + 1, 1, none⟩ x).cell? ⟨w.heap.size + 1, 1, none⟩ = some x) ∧
     (∀ o u v x y, ((((w1.setCell ⟨w.heap.size, o, none⟩ u).setCell ⟨w.heap.size + 1, 0, none⟩ v).setCell ⟨w.heap.size + 1, 1, none⟩ x).setCell ⟨w.heap.size + 1, 2, none⟩ y).cell? ⟨w.heap.size + 1, 2, none⟩ = some y)) := by
  have h0 : ∀ o, w1.cell? ⟨w.heap.size, o, none⟩ = _ := fun o => World.cell?_of_block (hB.block w.heap.size (by simp; omega))
  have h1 : ∀ o, w1.cell? ⟨w.heap.size + 1, o, none⟩ = _ := fun o => World.cell?_of_block (hB.block (w.heap.size + 1) (by simp))
  have f0 : ∀ o, w1.frozen? ⟨w.heap.size, o, none⟩ = _ := fun o => World.frozen?_of_block (hB.block w.heap.size (by simp; omega))
  have f1 : ∀ o, w1.frozen? ⟨w.heap.size + 1, o, none⟩ = _ := fun o => World.frozen?_of_block (hB.block (w.heap.size + 1) (by simp))
  have d0 : w1.cell? ⟨w.heap.size + 1, 0, none⟩ = some (.string ⟨#[]⟩) := by rw [h1]; go_simp
  have d1 : w1.cell? ⟨w.heap.size + 1, 1, none⟩ = some (.int .i64 0) := by rw [h1]; go_simp
  have d2 : w1.cell? ⟨w.heap.size + 1, 2, none⟩ = some (.int .i64 0) := by rw [h1]; go_simp
  refine ⟨⟨by rw [h0]; go_simp, by rw [h0]; go_simp, by rw [h0]; go_simp, fun o => by rw [f0]; go_simp⟩, ⟨d0, d1, d2, fun o => by rw [f1]; go_simp⟩, ?_, ?_, ?_, ?_⟩
  · exact (((Below.refl _ _).alloc (Nat.le_refl _) _).alloc (by simp) _).trans (hB.mono (by simp; omega))
  · intro o u v
    exact World.cell?_setCell_same _ _ _ (by rw [World.cell?_setCell_other _ _ _ _ (by simp)]; exact d0)
  · intro o u v x
    exact World.cell?_setCell_same _ _ _ (by rw [World.cell?_setCell_other _ _ _ _ (by simp), World.cell?_setCell_other _ _ _ _ (by simp)]; exact d1)
  · intro o u v x y
    exact World.cell?_setCell_same _ _ _ (by rw [World.cell?_setCell_other _ _ _ _ (by simp), World.cell?_setCell_other _ _ _ _ (by simp), World.cell?_setCell_other _ _ _ _ (by simp)]; exact d2)
theorem stored3 {W : World} {b : Nat} (h : ∀ i, i < 3 → ∃ x, W.cell? ⟨b, i, none⟩ = some x) :
    (∀ v, (W.setCell ⟨b, 0, none⟩ v).cell? ⟨b, 0, none⟩ = some v) ∧ (∀ v x, ((W.setCell ⟨b, 0, none⟩ v).setCell ⟨b, 1, none⟩ x).cell? ⟨b, 1, none⟩ = some x) ∧
    (∀ v x y, (((W.setCell ⟨b, 0, none⟩ v).setCell ⟨b, 1, none⟩ x).setCell ⟨b, 2, none⟩ y).cell? ⟨b, 2, none⟩ = some y) := by
  obtain ⟨x0, h0⟩ := h 0 (by omega)
  obtain ⟨x1, h1⟩ := h 1 (by omega)
  obtain ⟨x2, h2⟩ := h 2 (by omega)
  refine ⟨fun v => World.cell?_setCell_same _ _ _ h0, fun v x => World.cell?_setCell_same _ _ _ (by rw [World.cell?_setCell_other _ _ _ _ (by simp)]; exact h1), fun v x y => World.cell?_setCell_same _ _ _ (by rw [World.cell?_setCell_other _ _ _ _ (by simp), World.cell?_setCell_other _ _ _ _ (by simp)]; exact h2)⟩
theorem three {W : World} {b : Nat} {x y z : Value} (h0 : W.cell? ⟨b, 0, none⟩ = some x) (h1 : W.cell? ⟨b, 1, none⟩ = some y) (h2 : W.cell? ⟨b, 2, none⟩ = some z) : ∀ i, i < 3 → ∃ x, W.cell? ⟨b, i, none⟩ = some x := fun i hi => by
  have : i = 0 ∨ i = 1 ∨ i = 2 := by omega
  rcases this with rfl | rfl | rfl
  · exact ⟨_, h0⟩
  · exact ⟨_, h1⟩
  · exact ⟨_, h2⟩
theorem three_other {W : World} {b c : Nat} (hne : c ≠ b) (h : ∀ i, i < 3 → ∃ x, W.cell? ⟨b, i, none⟩ = some x) (o : Nat) (v : Value) : ∀ i, i < 3 → ∃ x, (W.setCell ⟨c, o, none⟩ v).cell? ⟨b, i, none⟩ = some x := fun i hi => by
  rw [World.cell?_setCell_other _ _ _ _ (by simp only [ne_eq, Addr.mk.injEq, not_and]; intro e; omega)]
  exact h i hi
theorem carry {W w2 : World} {b : Nat} (hB : Below W.heap.size W w2) (hD : ∀ i, i < 3 → ∃ x, W.cell? ⟨b, i, none⟩ = some x) (hf : ∀ o, W.frozen? ⟨b, o, none⟩ = false) :
    (∀ i, i < 3 → ∃ x, w2.cell? ⟨b, i, none⟩ = some x) ∧ (∀ o, w2.frozen? ⟨b, o, none⟩ = false) := by
  obtain ⟨x, hx⟩ := hD 0 (by omega)
  have hb := hB.block b (World.block_lt_of_cell? W _ hx)
  exact ⟨fun i hi => by rw [World.cell?_of_block (w := W) (a := ⟨b, i, none⟩) hb]; exact hD i hi, fun o => by rw [World.frozen?_of_block (w := W) (a := ⟨b, o, none⟩) hb]; exact hf o⟩
theorem each {W : World} {b : Nat} (h : ∀ i, i < 3 → ∃ x, W.cell? ⟨b, i, none⟩ = some x) : ∃ x y z, W.cell? ⟨b, 0, none⟩ = some x ∧ W.cell? ⟨b, 1, none⟩ = some y ∧ W.cell? ⟨b, 2, none⟩ = some z := by
  obtain ⟨x, hx⟩ := h 0 (by omega)
  obtain ⟨y, hy⟩ := h 1 (by omega)
  obtain ⟨z, hz⟩ := h 2 (by omega)
  exact ⟨x, y, z, hx, hy, hz⟩
end Go.Proofs.YtfbakelpplpomaaDoor.WalkScan
