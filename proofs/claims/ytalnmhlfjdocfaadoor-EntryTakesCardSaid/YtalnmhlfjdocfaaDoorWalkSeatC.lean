/-
  The walks of the seat's Put, Take, Slot, Choose, Next.
-/
import Derived.Test.YtalnmhlfjdocfaaDoorWalkSeatB
namespace Go.Proofs.YtalnmhlfjdocfaaDoor.WalkSeat
open Go.RowKit Go.Proofs.YtalnmhlfjdocfaaDoor.WalkVar Go.Proofs.YtalnmhlfjdocfaaDoor.WalkScan Go.Proofs.YtalnmhlfjdocfaaDoor.WalkCrc
open Pl.Seat (numV numR txtV txtR numP txtP Head isH putH openS)
set_option linter.unusedVariables false
set_option linter.unusedSimpArgs false
set_option maxRecDepth 100000

theorem _root_.Go.RowKit.Below.then' {w w1 w2 : World} {B : Nat} (h1 : Below B w w1) (h2 : Below w1.heap.size w1 w2) (hB : B ≤ w.heap.size) : Below B w w2 := h1.trans (h2.mono (Nat.le_trans hB h1.size))
theorem _root_.Go.Proofs.YtalnmhlfjdocfaaDoor.WalkCrc.Tab.after {w w' : World} (h : Tab w) (b : Below w.heap.size w w') : Tab w' := h.below b h.lt
/-- the four bytes of a text's sum -/
def tailU (l : List UInt8) : List UInt8 := (tailS (Pl.Crc.on 0 l)).data.toList
theorem tailU_len (l : List UInt8) : (tailU l).length = 4 := by
  unfold tailU
  have := tailS_size (Pl.Crc.on 0 l)
  simpa using this
theorem bs_tailU (l : List UInt8) : bs (tailU l) = tailS (Pl.Crc.on 0 l) := bs_of _
theorem seal_bs (l : List UInt8) (w : World) (ht : Tab w) (hl : l.length ≤ 1048576) :
    Calls Tryd.prog 82 #[.string (bs l)] w fun e w' => e = .returned (.string (bs (l ++ tailU l))) ∧ Below w.heap.size w w' := by
  have := seal_any (bs l) w ht (by rw [bs_size]; omega)
  rw [bs_list, ← bs_tailU, bs_append] at this
  exact this
theorem opens_bs (l : List UInt8) : opens (bs l) = (openS tailU l).isSome := by
  unfold opens openS
  have e1 : (bs l).extract 0 ((bs l).size - 4) = bs (l.take (l.length - 4)) := by
    rw [← bs_of ((bs l).extract 0 ((bs l).size - 4)), extract_list, bs_list, bs_size]; simp
  have e2 : (bs l).extract ((bs l).size - 4) (bs l).size = bs (l.drop (l.length - 4)) := by
    rw [← bs_of ((bs l).extract ((bs l).size - 4) (bs l).size), extract_list, bs_list, bs_size, List.take_of_length_le (by simp)]
  rw [e1, e2, bs_list, ← bs_tailU, bs_toList, bs_toList, bs_size]
  by_cases h : 4 ≤ l.length ∧ tailU (l.take (l.length - 4)) = l.drop (l.length - 4)
  · rw [if_pos h, h.2]; simp [h.1]
  · rw [if_neg h]
    by_cases h4 : 4 ≤ l.length
    · have : ¬ tailU (l.take (l.length - 4)) = l.drop (l.length - 4) := fun e => h ⟨h4, e⟩
      simp [h4, this]
    · simp [h4]
theorem opened_bs (l : List UInt8) : opened (bs l) = bs ((openS tailU l).getD []) := by
  unfold opened
  rw [opens_bs]
  unfold openS
  by_cases h : 4 ≤ l.length ∧ tailU (l.take (l.length - 4)) = l.drop (l.length - 4)
  · rw [if_pos h, ← bs_of ((bs l).extract 0 ((bs l).size - 4)), extract_list, bs_list, bs_size]; simp
  · rw [if_neg h]; rfl
theorem open_bs (l : List UInt8) (o : Option (List UInt8)) (w : World) (ht : Tab w) (hl : l.length ≤ 1048576) (ho : openS tailU l = o) :
    Calls Tryd.prog 68 #[.string (bs l)] w fun e w' => e = .returned (.tuple #[.string (bs (o.getD [])), .bool o.isSome]) ∧ Below w.heap.size w w' := by
  have := open_any (bs l) w ht (by rw [bs_size]; omega)
  rw [opened_bs, opens_bs, ho] at this
  exact this

/-- a block of four numbers, and all that was below it -/
def Four (w0 : World) (b : Nat) (a1 a2 a3 a4 : Int) (w : World) : Prop :=
  w.cell? ⟨b, 0, none⟩ = some (.int .i64 a1) ∧ w.cell? ⟨b, 1, none⟩ = some (.int .i64 a2) ∧ w.cell? ⟨b, 2, none⟩ = some (.int .i64 a3) ∧ w.cell? ⟨b, 3, none⟩ = some (.int .i64 a4) ∧ Below w0.heap.size w0 w
theorem Four.keep {w0 : World} {b : Nat} {a1 a2 a3 a4 : Int} {w w' : World} (h : w.cell? ⟨b, 0, none⟩ = some (.int .i64 a1) ∧ w.cell? ⟨b, 1, none⟩ = some (.int .i64 a2) ∧ w.cell? ⟨b, 2, none⟩ = some (.int .i64 a3) ∧ w.cell? ⟨b, 3, none⟩ = some (.int .i64 a4) ∧ Below w0.heap.size w0 w) (hB : Below w.heap.size w w') :
    w'.cell? ⟨b, 0, none⟩ = some (.int .i64 a1) ∧ w'.cell? ⟨b, 1, none⟩ = some (.int .i64 a2) ∧ w'.cell? ⟨b, 2, none⟩ = some (.int .i64 a3) ∧ w'.cell? ⟨b, 3, none⟩ = some (.int .i64 a4) ∧ Below w0.heap.size w0 w' := by
  obtain ⟨h1, h2, h3, h4, h5⟩ := h
  have hb := World.block_lt_of_cell? w _ h1
  exact ⟨by rw [hB.cell (p := ⟨b, 0, none⟩) hb]; exact h1, by rw [hB.cell (p := ⟨b, 1, none⟩) hb]; exact h2, by rw [hB.cell (p := ⟨b, 2, none⟩) hb]; exact h3, by rw [hB.cell (p := ⟨b, 3, none⟩) hb]; exact h4, h5.trans (hB.mono h5.size)⟩
theorem Four.new (w : World) (a1 a2 a3 a4 : Int) (T : TypeId) :
    (w.alloc (.cells #[.int .i64 a1, .int .i64 a2, .int .i64 a3, .int .i64 a4] T)).cell? ⟨w.heap.size, 0, none⟩ = some (.int .i64 a1) ∧ (w.alloc (.cells #[.int .i64 a1, .int .i64 a2, .int .i64 a3, .int .i64 a4] T)).cell? ⟨w.heap.size, 1, none⟩ = some (.int .i64 a2) ∧ (w.alloc (.cells #[.int .i64 a1, .int .i64 a2, .int .i64 a3, .int .i64 a4] T)).cell? ⟨w.heap.size, 2, none⟩ = some (.int .i64 a3) ∧ (w.alloc (.cells #[.int .i64 a1, .int .i64 a2, .int .i64 a3, .int .i64 a4] T)).cell? ⟨w.heap.size, 3, none⟩ = some (.int .i64 a4) ∧ Below w.heap.size w (w.alloc (.cells #[.int .i64 a1, .int .i64 a2, .int .i64 a3, .int .i64 a4] T)) :=
  ⟨by go_simp, by go_simp, by go_simp, by go_simp, (Below.refl _ _).alloc (Nat.le_refl _) _⟩
theorem check_at (a b c d r : Int) (w : World) (hr : arg (isH ⟨a, b, c, d⟩) = r) :
    Calls Tryd.prog 38 #[.agg #[.int .i64 a, .int .i64 b, .int .i64 c, .int .i64 d]] w fun e w' => e = .returned (.int .i64 r) ∧ Below w.heap.size w w' := hr ▸ check_any a b c d w
theorem putNum_at (n : Int) (P : List UInt8) (w : World) (hn : n ≤ 9223372036854775807) (hP : Pl.Seat.put n.toNat = P) :
    Calls Tryd.prog 80 #[.int .i64 n] w fun e w' => e = .returned (.string (bs P)) ∧ Below w.heap.size w w' := hP ▸ putNum_any n w hn

set_option maxHeartbeats 3200000 in
theorem put_ok (a b c d : Int) (w : World) (ht : Tab w) (h : isH ⟨a, b, c, d⟩ = true) :
    Calls Tryd.prog 33 #[.agg #[.int .i64 a, .int .i64 b, .int .i64 c, .int .i64 d]] w fun e w' => e = .returned (.tuple #[.string (bs (putH tailU ⟨a, b, c, d⟩)), .int .i64 0]) ∧ Below w.heap.size w w' := by
  have hck : arg (isH ⟨a, b, c, d⟩) = 0 := by rw [h]; rfl
  obtain ⟨g1, g2, g3, g4, g5, g6, g7, g8⟩ := (Pl.Seat.isH_iff _).1 h
  simp only at g1 g2 g3 g4 g5 g6 g7 g8
  obtain ⟨P1, hP1⟩ : ∃ P, Pl.Seat.put a.toNat = P := ⟨_, rfl⟩
  obtain ⟨P2, hP2⟩ : ∃ P, Pl.Seat.put b.toNat = P := ⟨_, rfl⟩
  obtain ⟨P3, hP3⟩ : ∃ P, Pl.Seat.put c.toNat = P := ⟨_, rfl⟩
  obtain ⟨P4, hP4⟩ : ∃ P, Pl.Seat.put d.toNat = P := ⟨_, rfl⟩
  have l1 := Pl.Seat.put_le a.toNat
  have l2 := Pl.Seat.put_le b.toNat
  have l3 := Pl.Seat.put_le c.toNat
  have l4 := Pl.Seat.put_le d.toNat
  rw [hP1] at l1
  rw [hP2] at l2
  rw [hP3] at l3
  rw [hP4] at l4
  have htx : Pl.Seat.textH ⟨a, b, c, d⟩ = [112, 108, 101, 97, 99, 104] ++ (P1 ++ (P2 ++ (P3 ++ P4))) := by
    unfold Pl.Seat.textH Pl.Seat.nums4 Pl.Seat.mark
    simp only [hP1, hP2, hP3, hP4]
  have Q1 := Lib.hid (fun w => putNum_at a P1 w (by omega) hP1)
  have Q2 := Lib.hid (fun w => putNum_at b P2 w (by omega) hP2)
  have Q3 := Lib.hid (fun w => putNum_at c P3 w (by omega) hP3)
  have Q4 := Lib.hid (fun w => putNum_at d P4 w (by omega) hP4)
  have hcat : (((⟨#[112, 108, 101, 97, 99, 104]⟩ : ByteArray) ++ bs P1) ++ bs P2) ++ bs P3 ++ bs P4 = bs (Pl.Seat.textH ⟨a, b, c, d⟩) := by
    rw [htx]
    have : (⟨#[112, 108, 101, 97, 99, 104]⟩ : ByteArray) = bs [112, 108, 101, 97, 99, 104] := rfl
    rw [this, bs_append, bs_append, bs_append, bs_append]
    simp
  rw [show putH tailU ⟨a, b, c, d⟩ = Pl.Seat.full (Pl.Seat.putT (Pl.Seat.textH ⟨a, b, c, d⟩ ++ tailU (Pl.Seat.textH ⟨a, b, c, d⟩))) from rfl]
  have htl := Pl.Seat.textH_len ⟨a, b, c, d⟩
  have htu := tailU_len (Pl.Seat.textH ⟨a, b, c, d⟩)
  clear htx
  have HSL := Lib.hid (fun w t => seal_bs (Pl.Seat.textH ⟨a, b, c, d⟩) w t (by omega))
  generalize Pl.Seat.textH ⟨a, b, c, d⟩ = X at *
  generalize tailU X = Y at *
  have HCAT := Lib.hid hcat
  have HCK := Lib.hid (fun w => check_at a b c d 0 w hck)
  have z0 : (⟨#[112, 108, 101, 97, 99, 104]⟩ : ByteArray).size = 6 := rfl
  have z1 : ¬ (9223372036854775807 < (⟨#[112, 108, 101, 97, 99, 104]⟩ : ByteArray).size + (bs P1).size) := by rw [bs_size, z0]; omega
  have z2 : ¬ (9223372036854775807 < ((⟨#[112, 108, 101, 97, 99, 104]⟩ : ByteArray) ++ bs P1).size + (bs P2).size) := by rw [ByteArray.size_append, bs_size, bs_size, z0]; omega
  have z3 : ¬ (9223372036854775807 < ((⟨#[112, 108, 101, 97, 99, 104]⟩ : ByteArray) ++ bs P1 ++ bs P2).size + (bs P3).size) := by rw [ByteArray.size_append, ByteArray.size_append, bs_size, bs_size, bs_size, z0]; omega
  have z4 : ¬ (9223372036854775807 < ((⟨#[112, 108, 101, 97, 99, 104]⟩ : ByteArray) ++ bs P1 ++ bs P2 ++ bs P3).size + (bs P4).size) := by rw [ByteArray.size_append, ByteArray.size_append, ByteArray.size_append, bs_size, bs_size, bs_size, bs_size, z0]; omega
  have y1 : ¬ (9223372036854775807 < 6 + (bs P1).size) := by rw [bs_size]; omega
  have y2 : ¬ (9223372036854775807 < 6 + (bs P1).size + (bs P2).size) := by rw [bs_size, bs_size]; omega
  have y3 : ¬ (9223372036854775807 < 6 + (bs P1).size + (bs P2).size + (bs P3).size) := by rw [bs_size, bs_size, bs_size]; omega
  have y4 : ¬ (9223372036854775807 < 6 + (bs P1).size + (bs P2).size + (bs P3).size + (bs P4).size) := by rw [bs_size, bs_size, bs_size, bs_size]; omega
  clear hP1 hP2 hP3 hP4 hcat h hck
  go_enter Tryd.func33, Tryd.ntmps33
  go_wp2_with fail
  refine (HCK.out _).mono ?_
  rintro e w1 ⟨rfl, hB1⟩
  have S1 := Four.keep (Four.new w a b c d _) hB1
  obtain ⟨c1, c2, c3, c4, hBw⟩ := id S1
  go_wp2_with fail
  go_region_held3 (fun w' => w'.cell? ⟨w.heap.size, 0, none⟩ = some (.int .i64 a) ∧ w'.cell? ⟨w.heap.size, 1, none⟩ = some (.int .i64 b) ∧ w'.cell? ⟨w.heap.size, 2, none⟩ = some (.int .i64 c) ∧ w'.cell? ⟨w.heap.size, 3, none⟩ = some (.int .i64 d) ∧ Below w.heap.size w w') (first | exact ⟨c1, c2, c3, c4, hBw.drew⟩ | assumption | exact Four.keep (by assumption) (by assumption)) (first | (go_at_call_of 80 a; refine (Q1.out _).mono ?_; rintro e w2 ⟨rfl, hB2⟩) | (go_at_call_of 80 b; refine (Q2.out _).mono ?_; rintro e w3 ⟨rfl, hB3⟩) | (go_at_call_of 80 c; refine (Q3.out _).mono ?_; rintro e w4 ⟨rfl, hB4⟩) | (go_at_call_of 80 d; refine (Q4.out _).mono ?_; rintro e w5 ⟨rfl, hB5⟩))
  rw [HCAT.out]
  have q2 := hBw.drew.then' hB2 (Nat.le_refl _)
  have q3 := q2.then' hB3 (Nat.le_refl _)
  have q4 := q3.then' hB4 (Nat.le_refl _)
  have q5 := q4.then' hB5 (Nat.le_refl _)
  clear q2 q3 q4 hB2 hB3 hB4 hB5
  have t5 := ht.after q5
  have hpl : (Pl.Seat.putT (X ++ Y)).length ≤ 128 := by
    unfold Pl.Seat.putT
    have := Pl.Seat.put_le (X ++ Y).length
    simp at this ⊢
    omega
  go_wp2_with fail
  refine (HSL.out _ t5).mono ?_
  rintro e w6 ⟨rfl, hB6⟩
  have q6 := q5.then' hB6 (Nat.le_refl _)
  go_wp2_with fail
  refine (putText_any (bs (X ++ Y)) _ (by rw [bs_size]; simp; omega)).mono ?_
  rintro e w7 ⟨rfl, hB7⟩
  have q7 := q6.then' hB7 (Nat.le_refl _)
  rw [bs_list]
  go_wp2_with fail
  refine (full_ok (Pl.Seat.putT (X ++ Y)) _ hpl).mono ?_
  rintro e w8 ⟨rfl, hB8⟩
  have q8 := q7.then' hB8 (Nat.le_refl _)
  go_wp2_with fail
  go_ret2
  exact ⟨rfl, q8⟩
theorem put_bad (a b c d : Int) (w : World) (h : isH ⟨a, b, c, d⟩ = false) :
    Calls Tryd.prog 33 #[.agg #[.int .i64 a, .int .i64 b, .int .i64 c, .int .i64 d]] w fun e w' => e = .returned (.tuple #[.string (bs []), .int .i64 2]) ∧ Below w.heap.size w w' := by
  have hck : arg (isH ⟨a, b, c, d⟩) = 2 := by rw [h]; rfl
  have HCK := Lib.hid (fun w => check_at a b c d 2 w hck)
  clear h hck
  go_enter Tryd.func33, Tryd.ntmps33
  go_wp2_with fail
  refine (HCK.out _).mono ?_
  rintro e w1 ⟨rfl, hB1⟩
  have q1 := ((Below.refl w.heap.size w).alloc (Nat.le_refl _) _).then' hB1 (by simp)
  go_wp2_with fail
  go_ret2
  exact ⟨rfl, q1⟩
/-- a head's sector, or nothing -/
def putV (h : Head) : List UInt8 := if isH h then putH tailU h else []
theorem seatPut_any (a b c d : Int) (w : World) (ht : Tab w) :
    Calls Tryd.prog 33 #[.agg #[.int .i64 a, .int .i64 b, .int .i64 c, .int .i64 d]] w fun e w' => e = .returned (.tuple #[.string (bs (putV ⟨a, b, c, d⟩)), .int .i64 (arg (isH ⟨a, b, c, d⟩))]) ∧ Below w.heap.size w w' := by
  unfold putV
  by_cases h : isH ⟨a, b, c, d⟩ = true
  · rw [if_pos h, h]
    exact put_ok a b c d w ht h
  · have h' : isH ⟨a, b, c, d⟩ = false := by simpa using h
    rw [h']
    exact put_bad a b c d w h'

/-- a block of four cells that can be written -/
def Cell4 (b : Nat) (w : World) : Prop := (∀ i, i < 4 → ∃ x, w.cell? ⟨b, i, none⟩ = some x) ∧ ∀ o, w.frozen? ⟨b, o, none⟩ = false
theorem Cell4.lt {b : Nat} {w : World} (h : Cell4 b w) : b < w.heap.size := by
  obtain ⟨x, hx⟩ := h.1 0 (by omega)
  exact World.block_lt_of_cell? w _ hx
theorem Cell4.kept {b : Nat} {w w' : World} (h : Cell4 b w) (hb : w'.heap[b]? = w.heap[b]?) : Cell4 b w' :=
  ⟨fun i hi => by rw [World.cell?_of_block (w := w) (a := ⟨b, i, none⟩) hb]; exact h.1 i hi, fun o => by rw [World.frozen?_of_block (w := w) (a := ⟨b, o, none⟩) hb]; exact h.2 o⟩
theorem Cell4.after {b : Nat} {w w' : World} (h : Cell4 b w) (hB : Below w.heap.size w w') : Cell4 b w' := h.kept (hB.block b h.lt)
theorem Cell4.grown {b c : Nat} {w w' : World} (h : Cell4 b w) (hG : w.grownBy w' (some c)) (hne : b ≠ c) : Cell4 b w' := h.kept (hG.block b h.lt (by simpa using hne))
theorem Cell4.alloc {b : Nat} {w : World} (h : Cell4 b w) (o : Obj) : Cell4 b (w.alloc o) := h.kept (Below.heap_alloc w o b h.lt)
theorem Cell4.new (w : World) (x0 x1 x2 x3 : Value) (T : TypeId) : Cell4 w.heap.size (w.alloc (.cells #[x0, x1, x2, x3] T)) := by
  refine ⟨fun i hi => ?_, fun o => by go_simp⟩
  have : i = 0 ∨ i = 1 ∨ i = 2 ∨ i = 3 := by omega
  rcases this with rfl | rfl | rfl | rfl
  · exact ⟨x0, by go_simp⟩
  · exact ⟨x1, by go_simp⟩
  · exact ⟨x2, by go_simp⟩
  · exact ⟨x3, by go_simp⟩
theorem Cell4.stored {b : Nat} {W : World} (h : Cell4 b W) :
    (∀ v, (W.setCell ⟨b, 0, none⟩ v).cell? ⟨b, 0, none⟩ = some v) ∧ (∀ v x, ((W.setCell ⟨b, 0, none⟩ v).setCell ⟨b, 1, none⟩ x).cell? ⟨b, 1, none⟩ = some x) ∧
    (∀ v x y, (((W.setCell ⟨b, 0, none⟩ v).setCell ⟨b, 1, none⟩ x).setCell ⟨b, 2, none⟩ y).cell? ⟨b, 2, none⟩ = some y) ∧
    (∀ v x y z, ((((W.setCell ⟨b, 0, none⟩ v).setCell ⟨b, 1, none⟩ x).setCell ⟨b, 2, none⟩ y).setCell ⟨b, 3, none⟩ z).cell? ⟨b, 3, none⟩ = some z) ∧
    (∃ x0 x1 x2 x3, W.cell? ⟨b, 0, none⟩ = some x0 ∧ W.cell? ⟨b, 1, none⟩ = some x1 ∧ W.cell? ⟨b, 2, none⟩ = some x2 ∧ W.cell? ⟨b, 3, none⟩ = some x3) := by
  obtain ⟨x0, h0⟩ := h.1 0 (by omega)
  obtain ⟨x1, h1⟩ := h.1 1 (by omega)
  obtain ⟨x2, h2⟩ := h.1 2 (by omega)
  obtain ⟨x3, h3⟩ := h.1 3 (by omega)
  refine ⟨fun v => World.cell?_setCell_same _ _ _ h0, fun v x => World.cell?_setCell_same _ _ _ (by rw [World.cell?_setCell_other _ _ _ _ (by simp)]; exact h1), fun v x y => World.cell?_setCell_same _ _ _ (by rw [World.cell?_setCell_other _ _ _ _ (by simp), World.cell?_setCell_other _ _ _ _ (by simp)]; exact h2), fun v x y z => World.cell?_setCell_same _ _ _ (by rw [World.cell?_setCell_other _ _ _ _ (by simp), World.cell?_setCell_other _ _ _ _ (by simp), World.cell?_setCell_other _ _ _ _ (by simp)]; exact h3), x0, x1, x2, x3, h0, h1, h2, h3⟩
/-- a store into such a block -/
theorem below_four {w W : World} {B b : Nat} (h : Below B w W) (hb : B ≤ b) (v x y z : Value) : Below B w ((((W.setCell ⟨b, 0, none⟩ v).setCell ⟨b, 1, none⟩ x).setCell ⟨b, 2, none⟩ y).setCell ⟨b, 3, none⟩ z) :=
  (((h.setCell (p := ⟨b, 0, none⟩) hb v).setCell (p := ⟨b, 1, none⟩) hb x).setCell (p := ⟨b, 2, none⟩) hb y).setCell (p := ⟨b, 3, none⟩) hb z
theorem bare_at (s : ByteArray) (o : Option (List UInt8)) (w : World) (hs : s.size ≤ 1048576) (ho : Pl.Seat.bare s.data.toList = o) :
    Calls Tryd.prog 27 #[.string s] w fun e w' => e = .returned (.tuple #[.string (bs (o.getD [])), .int .i64 (err o.isSome 3)]) ∧ Below w.heap.size w w' := by
  have := bare_any s w hs
  unfold bareV bareB at this
  rwa [ho] at this
/-- the head of a sector, or none -/
def takeV (l : List UInt8) : Head := (Pl.Seat.takeH tailU l).getD Pl.Seat.Head.zero
def takeB (l : List UInt8) : Bool := (Pl.Seat.takeH tailU l).isSome

set_option maxHeartbeats 3200000 in
theorem take_none (s : ByteArray) (w : World) (hs : s.size ≤ 1048576) (h : Pl.Seat.bare s.data.toList = none) :
    Calls Tryd.prog 25 #[.string s] w fun e w' => e = .returned (.tuple #[.agg #[.int .i64 0, .int .i64 0, .int .i64 0, .int .i64 0], .int .i64 3]) ∧ Below w.heap.size w w' := by
  have HB := Lib.hid (fun w => bare_at s none w hs h)
  simp only [Option.getD, Option.isSome, err] at HB
  clear h
  go_enter Tryd.func25, Tryd.ntmps25
  go_wp2_with fail
  refine (HB.out _).mono ?_
  rintro e w1 ⟨rfl, hB1⟩
  have q0 := (Below.refl w.heap.size w).alloc (Nat.le_refl _) (.cells #[.int .i64 0, .int .i64 0, .int .i64 0, .int .i64 0] 41)
  have q1 := q0.then' hB1 (by simp)
  have C1 := (Cell4.new w (.int .i64 0) (.int .i64 0) (.int .i64 0) (.int .i64 0) 41).after hB1
  obtain ⟨k0, k1, k2, k3, x0, x1, x2, x3, y0, y1, y2, y3⟩ := C1.stored
  have y4 := C1.2
  go_wp2_with fail
  refine bodyPost_ret (by simp [results, Tryd.results25, k0, k1, k2, k3, go_sem]; try rfl) rfl ?_
  exact ⟨rfl, below_four q1 (Nat.le_refl _) _ _ _ _⟩
theorem prefix_at (t : List UInt8) (b : Bool) (w : World) (h : (t.take 6 == Pl.Seat.mark) = b) :
    Calls Tryd.prog 69 #[.string (bs t), .string ⟨#[112, 108, 101, 97, 99, 104]⟩] w fun e w' => e = .returned (.bool b) ∧ w = w' := by
  have := Tryd.strings_HasPrefix (bs t) ⟨#[112, 108, 101, 97, 99, 104]⟩ w
  have e : Lib.hasPrefix (bs t).data.toList (⟨#[112, 108, 101, 97, 99, 104]⟩ : ByteArray).data.toList = b := by
    rw [← h, bs_list, ← Lib.hasPrefix_of_take]
    show (decide (6 ≤ t.length) && (t.take 6 == Pl.Seat.mark)) = (t.take 6 == Pl.Seat.mark)
    by_cases h6 : 6 ≤ t.length
    · simp [h6]
    · have : (t.take 6 == Pl.Seat.mark) = false := by
        rw [beq_eq_false_iff_ne]
        intro e
        have := congrArg List.length e
        simp [Pl.Seat.mark] at this
        omega
      rw [this]; simp
  rw [e] at this
  exact this.mono fun e w' ⟨h1, h2⟩ => ⟨h1, h2.symm⟩
set_option maxHeartbeats 3200000 in
theorem take_shut (s : ByteArray) (t : List UInt8) (w : World) (ht : Tab w) (hs : s.size ≤ 1048576) (h : Pl.Seat.bare s.data.toList = some t) (ho : openS tailU t = none) (htl : t.length ≤ 1048576) :
    Calls Tryd.prog 25 #[.string s] w fun e w' => e = .returned (.tuple #[.agg #[.int .i64 0, .int .i64 0, .int .i64 0, .int .i64 0], .int .i64 3]) ∧ Below w.heap.size w w' := by
  have HB := Lib.hid (fun w => bare_at s (some t) w hs h)
  have HO := Lib.hid (fun w ht => open_bs t none w ht htl ho)
  simp only [Option.getD, Option.isSome, err, if_true] at HB HO
  clear h ho
  go_enter Tryd.func25, Tryd.ntmps25
  go_wp2_with fail
  refine (HB.out _).mono ?_
  rintro e w1 ⟨rfl, hB1⟩
  have q0 := (Below.refl w.heap.size w).alloc (Nat.le_refl _) (.cells #[.int .i64 0, .int .i64 0, .int .i64 0, .int .i64 0] 41)
  have q1 := q0.then' hB1 (by simp)
  have C1 := (Cell4.new w (.int .i64 0) (.int .i64 0) (.int .i64 0) (.int .i64 0) 41).after hB1
  have t1 := ht.after q1
  clear q0 hB1
  go_wp2_with fail
  refine (HO.out _ t1).mono ?_
  rintro e w2 ⟨rfl, hB2⟩
  have q2 := q1.then' hB2 (Nat.le_refl _)
  have C2 := C1.after hB2
  obtain ⟨k0, k1, k2, k3, x0, x1, x2, x3, y0, y1, y2, y3⟩ := C2.stored
  have y4 := C2.2
  go_wp2_with fail
  refine bodyPost_ret (by simp [results, Tryd.results25, k0, k1, k2, k3, go_sem]; try rfl) rfl ?_
  exact ⟨rfl, below_four q2 (Nat.le_refl _) _ _ _ _⟩
set_option maxHeartbeats 3200000 in
theorem take_other (s : ByteArray) (t x : List UInt8) (w : World) (ht : Tab w) (hs : s.size ≤ 1048576) (h : Pl.Seat.bare s.data.toList = some t) (ho : openS tailU t = some x) (htl : t.length ≤ 1048576) (hp : ¬ x.take 6 = Pl.Seat.mark) :
    Calls Tryd.prog 25 #[.string s] w fun e w' => e = .returned (.tuple #[.agg #[.int .i64 0, .int .i64 0, .int .i64 0, .int .i64 0], .int .i64 3]) ∧ Below w.heap.size w w' := by
  have HB := Lib.hid (fun w => bare_at s (some t) w hs h)
  have HO := Lib.hid (fun w ht => open_bs t (some x) w ht htl ho)
  have HP := Lib.hid (fun w => prefix_at x false w (by simpa using hp))
  simp only [Option.getD, Option.isSome, err, if_true] at HB HO
  clear h ho hp
  go_enter Tryd.func25, Tryd.ntmps25
  go_wp2_with fail
  refine (HB.out _).mono ?_
  rintro e w1 ⟨rfl, hB1⟩
  have q0 := (Below.refl w.heap.size w).alloc (Nat.le_refl _) (.cells #[.int .i64 0, .int .i64 0, .int .i64 0, .int .i64 0] 41)
  have q1 := q0.then' hB1 (by simp)
  have C1 := (Cell4.new w (.int .i64 0) (.int .i64 0) (.int .i64 0) (.int .i64 0) 41).after hB1
  have t1 := ht.after q1
  clear q0 hB1
  go_wp2_with fail
  refine (HO.out _ t1).mono ?_
  rintro e w2 ⟨rfl, hB2⟩
  have q2 := q1.then' hB2 (Nat.le_refl _)
  have C2 := C1.after hB2
  obtain ⟨k0, k1, k2, k3, x0, x1, x2, x3, y0, y1, y2, y3⟩ := C2.stored
  have y4 := C2.2
  go_wp2_with fail
  refine (HP.out _).mono ?_
  rintro e w3 ⟨rfl, rfl⟩
  go_wp2_with fail
  refine bodyPost_ret (by simp [results, Tryd.results25, k0, k1, k2, k3, go_sem]; try rfl) rfl ?_
  exact ⟨rfl, below_four q2 (Nat.le_refl _) _ _ _ _⟩
set_option maxHeartbeats 6400000 in
theorem take_read (s : ByteArray) (t x : List UInt8) (w : World) (ht : Tab w) (hs : s.size ≤ 1048576) (h : Pl.Seat.bare s.data.toList = some t) (ho : openS tailU t = some x) (htl : t.length ≤ 1048576) (hxl : x.length ≤ 1048576) (hp : x.take 6 = Pl.Seat.mark)
    (H : Head) (st : Option (List UInt8)) (hH : Pl.Seat.h4 4294967295 1 524288 4294967296 (some (x.drop 6)) = (H, st)) :
    Calls Tryd.prog 25 #[.string s] w fun e w' => e = .returned (if st = some [] ∧ isH H = true then .tuple #[.agg #[.int .i64 H.epoch, .int .i64 H.half, .int .i64 H.pack, .int .i64 H.num], .int .i64 0] else .tuple #[.agg #[.int .i64 0, .int .i64 0, .int .i64 0, .int .i64 0], .int .i64 3]) ∧ Below w.heap.size w w' := by
  have HB := Lib.hid (fun w => bare_at s (some t) w hs h)
  have HO := Lib.hid (fun w ht => open_bs t (some x) w ht htl ho)
  have HP := Lib.hid (fun w => prefix_at x true w (by simpa using hp))
  simp only [Option.getD, Option.isSome, err, if_true] at HB HO
  have hx6 : 6 ≤ x.length := by
    have := congrArg List.length hp
    simp [Pl.Seat.mark] at this
    omega
  have hxe : (bs x).extract 6 (bs x).size = bs (x.drop 6) := by
    rw [← bs_of ((bs x).extract 6 (bs x).size), extract_list, bs_list, List.take_of_length_le (by simp [bs_size])]
  have hxs : (6 : Int) ≤ ((bs x).size : Int) := by rw [bs_size]; omega
  have HNW := Lib.hid (fun w => new_any (bs (x.drop 6)) w (by rw [bs_size]; simp; omega))
  rw [bs_list] at HNW
  unfold Pl.Seat.h4 at hH
  obtain ⟨s0, hs0⟩ : ∃ s0, some (x.drop 6) = s0 := ⟨_, rfl⟩
  rw [hs0] at hH HNW
  obtain ⟨n1, hn1⟩ : ∃ n, numV 4294967295 s0 = n := ⟨_, rfl⟩
  obtain ⟨s1, hs1⟩ : ∃ n, numR 4294967295 s0 = n := ⟨_, rfl⟩
  have HN1 := Lib.hid (fun b w h => num_any b s0 4294967295 w h (by omega))
  rw [hn1, hs1] at hH HN1
  obtain ⟨n2, hn2⟩ : ∃ n, numV 1 s1 = n := ⟨_, rfl⟩
  obtain ⟨s2, hs2⟩ : ∃ n, numR 1 s1 = n := ⟨_, rfl⟩
  have HN2 := Lib.hid (fun b w h => num_any b s1 1 w h (by omega))
  rw [hn2, hs2] at hH HN2
  obtain ⟨n3, hn3⟩ : ∃ n, numV 524288 s2 = n := ⟨_, rfl⟩
  obtain ⟨s3, hs3⟩ : ∃ n, numR 524288 s2 = n := ⟨_, rfl⟩
  have HN3 := Lib.hid (fun b w h => num_any b s2 524288 w h (by omega))
  rw [hn3, hs3] at hH HN3
  obtain ⟨n4, hn4⟩ : ∃ n, numV 4294967296 s3 = n := ⟨_, rfl⟩
  have HN4 := Lib.hid (fun b w h => num_any b s3 4294967296 w h (by omega))
  rw [hn4] at hH HN4
  obtain ⟨s4, hs4⟩ : ∃ n, numR 4294967296 s3 = n := ⟨_, rfl⟩
  rw [hs4] at hH HN4
  simp only [Prod.mk.injEq] at hH
  obtain ⟨rfl, rfl⟩ := hH
  simp only
  clear h ho hp hn1 hn2 hn3 hn4 hs0 hs1 hs2 hs3 hs4 hx6
  have hck : ∀ r, isH ⟨n1, n2, n3, n4⟩ = r → ∀ w, Calls Tryd.prog 38 #[.agg #[.int .i64 n1, .int .i64 n2, .int .i64 n3, .int .i64 n4]] w fun e w' => e = .returned (.int .i64 (arg r)) ∧ Below w.heap.size w w' := fun r hr w => check_at n1 n2 n3 n4 (arg r) w (by rw [hr])
  obtain ⟨r, hr⟩ : ∃ r, isH ⟨n1, n2, n3, n4⟩ = r := ⟨_, rfl⟩
  have HCK := Lib.hid (hck r hr)
  rw [hr]
  clear hck hr
  go_enter Tryd.func25, Tryd.ntmps25
  go_wp2_with fail
  refine (HB.out _).mono ?_
  rintro e w1 ⟨rfl, hB1⟩
  have q0 := (Below.refl w.heap.size w).alloc (Nat.le_refl _) (.cells #[.int .i64 0, .int .i64 0, .int .i64 0, .int .i64 0] 41)
  have q1 := q0.then' hB1 (by simp)
  have C1 := (Cell4.new w (.int .i64 0) (.int .i64 0) (.int .i64 0) (.int .i64 0) 41).after hB1
  have t1 := ht.after q1
  clear q0 hB1
  go_wp2_with fail
  refine (HO.out _ t1).mono ?_
  rintro e w2 ⟨rfl, hB2⟩
  have q2 := q1.then' hB2 (Nat.le_refl _)
  have C2 := C1.after hB2
  clear q1 hB2
  go_wp2_with fail
  refine (HP.out _).mono ?_
  rintro e w3 ⟨rfl, rfl⟩
  go_wp2_with fail
  refine (HNW.out _).mono ?_
  rintro e w3 ⟨rfl, hS3, hB3⟩
  have q3 := q2.then' hB3 (Nat.le_refl _)
  have C3 := C2.after hB3
  have hne : w.heap.size ≠ w2.heap.size := Nat.ne_of_lt C2.lt
  have hle : w.heap.size ≤ w2.heap.size := Nat.le_of_lt C2.lt
  generalize w2.heap.size = b at hS3 hne hle ⊢
  clear q2 hB3 C1 C2
  go_wp2_with fail
  refine (HN1.out _ _ hS3).mono ?_
  rintro e w4 ⟨rfl, hS4, hG4⟩
  have q4 := grown_below hG4 hle q3 hS3.lt
  have C4 := C3.grown hG4 hne
  clear q3 C3 hG4 hS3
  go_wp2_with fail
  refine (HN2.out _ _ hS4).mono ?_
  rintro e w5 ⟨rfl, hS5, hG5⟩
  have q5 := grown_below hG5 hle q4 hS4.lt
  have C5 := C4.grown hG5 hne
  clear q4 C4 hG5 hS4
  go_wp2_with fail
  refine (HN3.out _ _ hS5).mono ?_
  rintro e w6 ⟨rfl, hS6, hG6⟩
  have q6 := grown_below hG6 hle q5 hS5.lt
  have C6 := C5.grown hG6 hne
  clear q5 C5 hG6 hS5
  go_wp2_with fail
  refine (HN4.out _ _ hS6).mono ?_
  rintro e w7 ⟨rfl, hS7, hG7⟩
  have q7 := grown_below hG7 hle q6 hS6.lt
  have C7 := C6.grown hG7 hne
  clear q6 C6 hG7 hS6
  have hbl := hS7.lt
  go_wp2_with fail
  refine (end_any b s4 _ (hS7.kept (Below.heap_alloc w7 _ b hbl))).mono ?_
  rintro e w8 ⟨k, rfl, hk, hG8⟩
  have q8 := grown_below hG8 hle (q7.alloc q7.size (.cells #[.int .i64 n1, .int .i64 n2, .int .i64 n3, .int .i64 n4] 41)) (by simp; omega)
  have C8 := (C7.alloc (.cells #[.int .i64 n1, .int .i64 n2, .int .i64 n3, .int .i64 n4] 41)).grown hG8 hne
  have hE : ∀ o, w8.cell? ⟨w7.heap.size, o, none⟩ = (w7.alloc (.cells #[.int .i64 n1, .int .i64 n2, .int .i64 n3, .int .i64 n4] 41)).cell? ⟨w7.heap.size, o, none⟩ := fun o => World.cell?_of_block (hG8.block w7.heap.size (by simp) (by simp; omega))
  have d0 : w8.cell? ⟨w7.heap.size, 0, none⟩ = some (.int .i64 n1) := by rw [hE]; go_simp
  have d1 : w8.cell? ⟨w7.heap.size, 1, none⟩ = some (.int .i64 n2) := by rw [hE]; go_simp
  have d2 : w8.cell? ⟨w7.heap.size, 2, none⟩ = some (.int .i64 n3) := by rw [hE]; go_simp
  have d3 : w8.cell? ⟨w7.heap.size, 3, none⟩ = some (.int .i64 n4) := by rw [hE]; go_simp
  have hd : w7.heap.size ≠ w.heap.size := by have := C7.lt; omega
  have hdl := World.block_lt_of_cell? w8 _ d0
  generalize w7.heap.size = hb at d0 d1 d2 d3 hd hdl ⊢
  clear hE hG8 q7 C7 hS7 hbl
  by_cases h0 : k = 0
  · subst h0
    have hst := hk.1 rfl
    subst hst
    clear hk
    go_wp2_with fail
    refine (HCK.out _).mono ?_
    rintro e w9 ⟨rfl, hB9⟩
    have q9 := q8.then' hB9 (Nat.le_refl _)
    have C9 := C8.after hB9
    have f0 : w9.cell? ⟨hb, 0, none⟩ = some (.int .i64 n1) := by rw [hB9.cell (p := ⟨hb, 0, none⟩) hdl]; exact d0
    have f1 : w9.cell? ⟨hb, 1, none⟩ = some (.int .i64 n2) := by rw [hB9.cell (p := ⟨hb, 1, none⟩) hdl]; exact d1
    have f2 : w9.cell? ⟨hb, 2, none⟩ = some (.int .i64 n3) := by rw [hB9.cell (p := ⟨hb, 2, none⟩) hdl]; exact d2
    have f3 : w9.cell? ⟨hb, 3, none⟩ = some (.int .i64 n4) := by rw [hB9.cell (p := ⟨hb, 3, none⟩) hdl]; exact d3
    obtain ⟨k0, k1, k2, k3, x0, x1, x2, x3, y0, y1, y2, y3⟩ := C9.stored
    have y4 := C9.2
    cases r
    · simp only [arg]
      go_wp2_with fail
      refine bodyPost_ret (by simp [results, Tryd.results25, k0, k1, k2, k3, go_sem]; try rfl) rfl ?_
      exact ⟨by simp, below_four q9 (Nat.le_refl _) _ _ _ _⟩
    · simp only [arg]
      go_wp2_with fail
      refine bodyPost_ret (by simp [results, Tryd.results25, k0, k1, k2, k3, go_sem]; try rfl) rfl ?_
      exact ⟨by simp, below_four q9 (Nat.le_refl _) _ _ _ _⟩
  · have hst : ¬ (s4 = some [] ∧ r = true) := fun h => h0 (hk.2 h.1)
    have hkn : ((k : Int) == 0) = false := by simp; omega
    have hkn2 : ((k : Int) != 0) = true := by simpa using hkn
    obtain ⟨k0, k1, k2, k3, x0, x1, x2, x3, y0, y1, y2, y3⟩ := C8.stored
    have y4 := C8.2
    go_wp2_with fail
    refine bodyPost_ret (by simp [results, Tryd.results25, k0, k1, k2, k3, go_sem]; try rfl) rfl ?_
    exact ⟨rfl, below_four q8 (Nat.le_refl _) _ _ _ _⟩

theorem bare_short {l t : List UInt8} (h : Pl.Seat.bare l = some t) : t.length ≤ 128 := by
  obtain ⟨h1, _⟩ := (Pl.Seat.bare_iff l t).1 h
  unfold Pl.Seat.putT at h1
  simp at h1
  omega
theorem openS_short {t x : List UInt8} (h : openS tailU t = some x) : x.length ≤ t.length := by
  have := (Pl.Seat.openS_iff tailU tailU_len t x).1 h
  rw [this]; simp
theorem seatTake_any (s : ByteArray) (w : World) (ht : Tab w) (hs : s.size ≤ 1048576) :
    Calls Tryd.prog 25 #[.string s] w fun e w' => e = .returned (.tuple #[.agg #[.int .i64 (takeV s.data.toList).epoch, .int .i64 (takeV s.data.toList).half, .int .i64 (takeV s.data.toList).pack, .int .i64 (takeV s.data.toList).num], .int .i64 (err (takeB s.data.toList) 3)]) ∧ Below w.heap.size w w' := by
  unfold takeV takeB Pl.Seat.takeH Pl.Seat.textOf
  cases hb : Pl.Seat.bare s.data.toList with
  | none => exact take_none s w hs hb
  | some t =>
    have htl := bare_short hb
    simp only [Option.bind_some]
    cases ho : openS tailU t with
    | none => exact take_shut s t w ht hs hb ho (by omega)
    | some x =>
      have hxl := openS_short ho
      simp only
      by_cases hp : x.take 6 = Pl.Seat.mark
      · obtain ⟨p, hP⟩ : ∃ p, Pl.Seat.h4 4294967295 1 524288 4294967296 (some (x.drop 6)) = p := ⟨_, rfl⟩
        obtain ⟨H, st⟩ := p
        have := take_read s t x w ht hs hb ho (by omega) (by omega) hp H st hP
        rw [hP]
        by_cases hc : st = some [] ∧ isH H = true
        · rw [if_pos hc] at this
          rw [if_pos ⟨hp, hc⟩]
          exact this
        · rw [if_neg hc] at this
          rw [if_neg (fun h => hc h.2)]
          exact this
      · rw [if_neg (fun h => hp h.1)]
        exact take_other s t x w ht hs hb ho (by omega) hp
end Go.Proofs.YtalnmhlfjdocfaaDoor.WalkSeat
