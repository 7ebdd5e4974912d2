/-
  The walks of the seat's Put, Take, Slot, Choose, Next.
-/
import Derived.Test.YtfbakelpplpomaaGreatDoorWalkSeatB
namespace Go.Proofs.YtfbakelpplpomaaGreatDoor.WalkSeat
open Go.RowKit Go.Proofs.YtfbakelpplpomaaGreatDoor.WalkVar Go.Proofs.YtfbakelpplpomaaGreatDoor.WalkScan Go.Proofs.YtfbakelpplpomaaGreatDoor.WalkCrc
open Pl.Seat (numV numR txtV txtR numP txtP Head isH putH openS)
set_option linter.unusedVariables false
set_option linter.unusedSimpArgs false
set_option maxRecDepth 100000

theorem _root_.Go.RowKit.Below.then' {w w1 w2 : World} {B : Nat} (h1 : Below B w w1) (h2 : Below w1.heap.size w1 w2) (hB : B ≤ w.heap.size) : Below B w w2 := h1.trans (h2.mono (Nat.le_trans hB h1.size))
theorem _root_.Go.Proofs.YtfbakelpplpomaaGreatDoor.WalkCrc.Tab.after {w w' : World} (h : Tab w) (b : Below w.heap.size w w') : Tab w' := h.below b h.lt
/-- the four bytes of a text's sum -/
def tailU (l : List UInt8) : List UInt8 := (tailS (Pl.Crc.on 0 l)).data.toList
theorem tailU_len (l : List UInt8) : (tailU l).length = 4 := by
  unfold tailU
  have := tailS_size (Pl.Crc.on 0 l)
  simpa using this
theorem bs_tailU (l : List UInt8) : bs (tailU l) = tailS (Pl.Crc.on 0 l) := bs_of _
theorem seal_bs (l : List UInt8) (w : World) (ht : Tab w) (hl : l.length ≤ 1048576) :
    Calls Tryz.prog 65 #[.string (bs l)] w fun e w' => e = .returned (.string (bs (l ++ tailU l))) ∧ Below w.heap.size w w' := by
  have := seal_any (bs l) w ht (by rw [bs_size]; omega)
  rw [bs_list, ← bs_tailU, bs_append] at this
  exact this
theorem opens_bs (l : List UInt8) : opens (bs l) = (openS tailU l).isSome := by
  unfold opens openS
  have e1 : (bs l).extract 0 ((bs l).size - 4) = bs (l.take (l.length - 4)) := by
    rw [← bs_of ((bs l).extract 0 ((bs l).size - 4)), extract_list, bs_list, bs_size]; simp
  have e2 : (bs l).extract ((bs l).size - 4) (bs l).size = bs (l.drop (l.length - 4)) := by
    rw [← bs_of ((bs l).extract ((bs l).size - 4) (bs l).size), extract_list, bs_list, bs_size, List.take_of_length_le (by simp)]
  rw [e1, e2, bs_list, ← bs_tailU, bs_toList, bs_toList, bs_size]
  by_cases h : 4 ≤ l.length ∧ tailU (l.take (l.length - 4)) = l.drop (l.length - 4)
  · rw [if_pos h, h.2]; simp [h.1]
  · rw [if_neg h]
    by_cases h4 : 4 ≤ l.length
    · have : ¬ tailU (l.take (l.length - 4)) = l.drop (l.length - 4) := fun e => h ⟨h4, e⟩
      simp [h4, this]
    · simp [h4]
theorem opened_bs (l : List UInt8) : opened (bs l) = bs ((openS tailU l).getD []) := by
  unfold opened
  rw [opens_bs]
  unfold openS
  by_cases h : 4 ≤ l.length ∧ tailU (l.take (l.length - 4)) = l.drop (l.length - 4)
  · rw [if_pos h, ← bs_of ((bs l).extract 0 ((bs l).size - 4)), extract_list, bs_list, bs_size]; simp
  · rw [if_neg h]; rfl
theorem open_bs (l : List UInt8) (o : Option (List UInt8)) (w : World) (ht : Tab w) (hl : l.length ≤ 1048576) (ho : openS tailU l = o) :
    Calls Tryz.prog 87 #[.string (bs l)] w fun e w' => e = .returned (.tuple #[.string (bs (o.getD [])), .bool o.isSome]) ∧ Below w.heap.size w w' := by
  have := open_any (bs l) w ht (by rw [bs_size]; omega)
  rw [opened_bs, opens_bs, ho] at this
  exact this

/-- a block of four numbers, and all that was below it -/
def Four (w0 : World) (b : Nat) (a1 a2 a3 a4 : Int) (w : World) : Prop :=
  w.cell? ⟨b, 0, none⟩ = some (.int .i64 a1) ∧ w.cell? ⟨b, 1, none⟩ = some (.int .i64 a2) ∧ w.cell? ⟨b, 2, none⟩ = some (.int .i64 a3) ∧ w.cell? ⟨b, 3, none⟩ = some (.int .i64 a4) ∧ Below w0.heap.size w0 w
theorem Four.keep {w0 : World} {b : Nat} {a1 a2 a3 a4 : Int} {w w' : World} (h : w.cell? ⟨b, 0, none⟩ = some (.int .i64 a1) ∧ w.cell? ⟨b, 1, none⟩ = some (.int .i64 a2) ∧ w.cell? ⟨b, 2, none⟩ = some (.int .i64 a3) ∧ w.cell? ⟨b, 3, none⟩ = some (.int .i64 a4) ∧ Below w0.heap.size w0 w) (hB : Below w.heap.size w w') :
    w'.cell? ⟨b, 0, none⟩ = some (.int .i64 a1) ∧ w'.cell? ⟨b, 1, none⟩ = some (.int .i64 a2) ∧ w'.cell? ⟨b, 2, none⟩ = some (.int .i64 a3) ∧ w'.cell? ⟨b, 3, none⟩ = some (.int .i64 a4) ∧ Below w0.heap.size w0 w' := by
  obtain ⟨h1, h2, h3, h4, h5⟩ := h
  have hb := World.block_lt_of_cell? w _ h1
  exact ⟨by rw [hB.cell (p := ⟨b, 0, none⟩) hb]; exact h1, by rw [hB.cell (p := ⟨b, 1, none⟩) hb]; exact h2, by rw [hB.cell (p := ⟨b, 2, none⟩) hb]; exact h3, by rw [hB.cell (p := ⟨b, 3, none⟩) hb]; exact h4, h5.trans (hB.mono h5.size)⟩
theorem Four.new (w : World) (a1 a2 a3 a4 : Int) (T : TypeId) :
    (w.alloc (.cells #[.int .i64 a1, .int .i64 a2, .int .i64 a3, .int .i64 a4] T)).cell? ⟨w.heap.size, 0, none⟩ = some (.int .i64 a1) ∧ (w.alloc (.cells #[.int .i64 a1, .int .i64 a2, .int .i64 a3, .int .i64 a4] T)).cell? ⟨w.heap.size, 1, none⟩ = some (.int .i64 a2) ∧ (w.alloc (.cells #[.int .i64 a1, .int .i64 a2, .int .i64 a3, .int .i64 a4] T)).cell? ⟨w.heap.size, 2, none⟩ = some (.int .i64 a3) ∧ (w.alloc (.cells #[.int .i64 a1, .int .i64 a2, .int .i64 a3, .int .i64 a4] T)).cell? ⟨w.heap.size, 3, none⟩ = some (.int .i64 a4) ∧ Below w.heap.size w (w.alloc (.cells #[.int .i64 a1, .int .i64 a2, .int .i64 a3, .int .i64 a4] T)) :=
  ⟨by go_simp, by go_simp, by go_simp, by go_simp, (Below.refl _ _).alloc (Nat.le_refl _) _⟩
theorem putNum_at (n : Int) (P : List UInt8) (w : World) (hn : n ≤ 9223372036854775807) (hP : Pl.Seat.put n.toNat = P) :
    Calls Tryz.prog 62 #[.int .i64 n] w fun e w' => e = .returned (.string (bs P)) ∧ Below w.heap.size w w' := hP ▸ putNum_any n w hn

/-- a head's sector, or nothing -/
def putV (h : Head) : List UInt8 := if isH h then putH tailU h else []
/-- a block of four cells that can be written -/
def Cell4 (b : Nat) (w : World) : Prop := (∀ i, i < 4 → ∃ x, w.cell? ⟨b, i, none⟩ = some x) ∧ ∀ o, w.frozen? ⟨b, o, none⟩ = false
theorem Cell4.lt {b : Nat} {w : World} (h : Cell4 b w) : b < w.heap.size := by
  obtain ⟨x, hx⟩ := h.1 0 (by omega)
  exact World.block_lt_of_cell? w _ hx
theorem Cell4.kept {b : Nat} {w w' : World} (h : Cell4 b w) (hb : w'.heap[b]? = w.heap[b]?) : Cell4 b w' :=
  ⟨fun i hi => by rw [World.cell?_of_block (w := w) (a := ⟨b, i, none⟩) hb]; exact h.1 i hi, fun o => by rw [World.frozen?_of_block (w := w) (a := ⟨b, o, none⟩) hb]; exact h.2 o⟩
theorem Cell4.after {b : Nat} {w w' : World} (h : Cell4 b w) (hB : Below w.heap.size w w') : Cell4 b w' := h.kept (hB.block b h.lt)
theorem Cell4.grown {b c : Nat} {w w' : World} (h : Cell4 b w) (hG : w.grownBy w' (some c)) (hne : b ≠ c) : Cell4 b w' := h.kept (hG.block b h.lt (by simpa using hne))
theorem Cell4.alloc {b : Nat} {w : World} (h : Cell4 b w) (o : Obj) : Cell4 b (w.alloc o) := h.kept (Below.heap_alloc w o b h.lt)
theorem Cell4.new (w : World) (x0 x1 x2 x3 : Value) (T : TypeId) : Cell4 w.heap.size (w.alloc (.cells #[x0, x1, x2, x3] T)) := by
  refine ⟨fun i hi => ?_, fun o => by go_simp⟩
  have : i = 0 ∨ i = 1 ∨ i = 2 ∨ i = 3 := by omega
  rcases this with rfl | rfl | rfl | rfl
  · exact ⟨x0, by go_simp⟩
  · exact ⟨x1, by go_simp⟩
  · exact ⟨x2, by go_simp⟩
  · exact ⟨x3, by go_simp⟩
theorem Cell4.stored {b : Nat} {W : World} (h : Cell4 b W) :
    (∀ v, (W.setCell ⟨b, 0, none⟩ v).cell? ⟨b, 0, none⟩ = some v) ∧ (∀ v x, ((W.setCell ⟨b, 0, none⟩ v).setCell ⟨b, 1, none⟩ x).cell? ⟨b, 1, none⟩ = some x) ∧
    (∀ v x y, (((W.setCell ⟨b, 0, none⟩ v).setCell ⟨b, 1, none⟩ x).setCell ⟨b, 2, none⟩ y).cell? ⟨b, 2, none⟩ = some y) ∧
    (∀ v x y z, ((((W.setCell ⟨b, 0, none⟩ v).setCell ⟨b, 1, none⟩ x).setCell ⟨b, 2, none⟩ y).setCell ⟨b, 3, none⟩ z).cell? ⟨b, 3, none⟩ = some z) ∧
    (∃ x0 x1 x2 x3, W.cell? ⟨b, 0, none⟩ = some x0 ∧ W.cell? ⟨b, 1, none⟩ = some x1 ∧ W.cell? ⟨b, 2, none⟩ = some x2 ∧ W.cell? ⟨b, 3, none⟩ = some x3) := by
  obtain ⟨x0, h0⟩ := h.1 0 (by omega)
  obtain ⟨x1, h1⟩ := h.1 1 (by omega)
  obtain ⟨x2, h2⟩ := h.1 2 (by omega)
  obtain ⟨x3, h3⟩ := h.1 3 (by omega)
  refine ⟨fun v => World.cell?_setCell_same _ _ _ h0, fun v x => World.cell?_setCell_same _ _ _ (by rw [World.cell?_setCell_other _ _ _ _ (by simp)]; exact h1), fun v x y => World.cell?_setCell_same _ _ _ (by rw [World.cell?_setCell_other _ _ _ _ (by simp), World.cell?_setCell_other _ _ _ _ (by simp)]; exact h2), fun v x y z => World.cell?_setCell_same _ _ _ (by rw [World.cell?_setCell_other _ _ _ _ (by simp), World.cell?_setCell_other _ _ _ _ (by simp), World.cell?_setCell_other _ _ _ _ (by simp)]; exact h3), x0, x1, x2, x3, h0, h1, h2, h3⟩
/-- a store into such a block -/
theorem below_four {w W : World} {B b : Nat} (h : Below B w W) (hb : B ≤ b) (v x y z : Value) : Below B w ((((W.setCell ⟨b, 0, none⟩ v).setCell ⟨b, 1, none⟩ x).setCell ⟨b, 2, none⟩ y).setCell ⟨b, 3, none⟩ z) :=
  (((h.setCell (p := ⟨b, 0, none⟩) hb v).setCell (p := ⟨b, 1, none⟩) hb x).setCell (p := ⟨b, 2, none⟩) hb y).setCell (p := ⟨b, 3, none⟩) hb z
theorem bare_at (s : ByteArray) (o : Option (List UInt8)) (w : World) (hs : s.size ≤ 1048576) (ho : Pl.Seat.bare s.data.toList = o) :
    Calls Tryz.prog 86 #[.string s] w fun e w' => e = .returned (.tuple #[.string (bs (o.getD [])), .int .i64 (err o.isSome 3)]) ∧ Below w.heap.size w w' := by
  have := bare_any s w hs
  unfold bareV bareB at this
  rwa [ho] at this
/-- the head of a sector, or none -/
def takeV (l : List UInt8) : Head := (Pl.Seat.takeH tailU l).getD Pl.Seat.Head.zero
def takeB (l : List UInt8) : Bool := (Pl.Seat.takeH tailU l).isSome

theorem prefix_at (t : List UInt8) (b : Bool) (w : World) (h : (t.take 6 == Pl.Seat.mark) = b) :
    Calls Tryz.prog 67 #[.string (bs t), .string ⟨#[112, 108, 101, 97, 99, 104]⟩] w fun e w' => e = .returned (.bool b) ∧ w = w' := by
  have := Tryz.strings_HasPrefix (bs t) ⟨#[112, 108, 101, 97, 99, 104]⟩ w
  have e : Lib.hasPrefix (bs t).data.toList (⟨#[112, 108, 101, 97, 99, 104]⟩ : ByteArray).data.toList = b := by
    rw [← h, bs_list, ← Lib.hasPrefix_of_take]
    show (decide (6 ≤ t.length) && (t.take 6 == Pl.Seat.mark)) = (t.take 6 == Pl.Seat.mark)
    by_cases h6 : 6 ≤ t.length
    · simp [h6]
    · have : (t.take 6 == Pl.Seat.mark) = false := by
        rw [beq_eq_false_iff_ne]
        intro e
        have := congrArg List.length e
        simp [Pl.Seat.mark] at this
        omega
      rw [this]; simp
  rw [e] at this
  exact this.mono fun e w' ⟨h1, h2⟩ => ⟨h1, h2.symm⟩
theorem bare_short {l t : List UInt8} (h : Pl.Seat.bare l = some t) : t.length ≤ 128 := by
  obtain ⟨h1, _⟩ := (Pl.Seat.bare_iff l t).1 h
  unfold Pl.Seat.putT at h1
  simp at h1
  omega
theorem openS_short {t x : List UInt8} (h : openS tailU t = some x) : x.length ≤ t.length := by
  have := (Pl.Seat.openS_iff tailU tailU_len t x).1 h
  rw [this]; simp
end Go.Proofs.YtfbakelpplpomaaGreatDoor.WalkSeat
