/-
  The walk of entry.Take.
-/
import Derived.Test.YtfbakelpplpomaaGreatDoorWalkEntryPut
import Derived.Deep.CutRange
namespace Go.Proofs.YtfbakelpplpomaaGreatDoor.WalkSeat
open Go.RowKit Go.Proofs.YtfbakelpplpomaaGreatDoor.WalkVar Go.Proofs.YtfbakelpplpomaaGreatDoor.WalkScan Go.Proofs.YtfbakelpplpomaaGreatDoor.WalkCrc
open Pl.Seat (numV numR txtV txtR numP txtP Head isH putH openS isName nameByte isHash Rec isR putR)
set_option linter.unusedVariables false
set_option linter.unusedSimpArgs false
set_option maxRecDepth 100000

/-- a block of eight cells that can be written -/
def Cell8 (b : Nat) (w : World) : Prop := (∀ i, i < 8 → ∃ x, w.cell? ⟨b, i, none⟩ = some x) ∧ ∀ o, w.frozen? ⟨b, o, none⟩ = false
theorem Cell8.lt {b : Nat} {w : World} (h : Cell8 b w) : b < w.heap.size := by
  obtain ⟨x, hx⟩ := h.1 0 (by omega)
  exact World.block_lt_of_cell? w _ hx
theorem Cell8.kept {b : Nat} {w w' : World} (h : Cell8 b w) (hb : w'.heap[b]? = w.heap[b]?) : Cell8 b w' :=
  ⟨fun i hi => by rw [World.cell?_of_block (w := w) (a := ⟨b, i, none⟩) hb]; exact h.1 i hi, fun o => by rw [World.frozen?_of_block (w := w) (a := ⟨b, o, none⟩) hb]; exact h.2 o⟩
theorem Cell8.after {b : Nat} {w w' : World} (h : Cell8 b w) (hB : Below w.heap.size w w') : Cell8 b w' := h.kept (hB.block b h.lt)
theorem Cell8.grown {b c : Nat} {w w' : World} (h : Cell8 b w) (hG : w.grownBy w' (some c)) (hne : b ≠ c) : Cell8 b w' := h.kept (hG.block b h.lt (by simpa using hne))
theorem Cell8.alloc {b : Nat} {w : World} (h : Cell8 b w) (o : Obj) : Cell8 b (w.alloc o) := h.kept (Below.heap_alloc w o b h.lt)
theorem Cell8.new (w : World) (x0 x1 x2 x3 x4 x5 x6 x7 : Value) (T : TypeId) : Cell8 w.heap.size (w.alloc (.cells #[x0, x1, x2, x3, x4, x5, x6, x7] T)) := by
  refine ⟨fun i hi => ?_, fun o => by go_simp⟩
  have : i = 0 ∨ i = 1 ∨ i = 2 ∨ i = 3 ∨ i = 4 ∨ i = 5 ∨ i = 6 ∨ i = 7 := by omega
  rcases this with rfl | rfl | rfl | rfl | rfl | rfl | rfl | rfl
  · exact ⟨x0, by go_simp⟩
  · exact ⟨x1, by go_simp⟩
  · exact ⟨x2, by go_simp⟩
  · exact ⟨x3, by go_simp⟩
  · exact ⟨x4, by go_simp⟩
  · exact ⟨x5, by go_simp⟩
  · exact ⟨x6, by go_simp⟩
  · exact ⟨x7, by go_simp⟩
theorem Cell8.stored {b : Nat} {W : World} (h : Cell8 b W) :
    (∀ v0, (W.setCell ⟨b, 0, none⟩ v0).cell? ⟨b, 0, none⟩ = some v0) ∧
    (∀ v0 v1, ((W.setCell ⟨b, 0, none⟩ v0).setCell ⟨b, 1, none⟩ v1).cell? ⟨b, 1, none⟩ = some v1) ∧
    (∀ v0 v1 v2, (((W.setCell ⟨b, 0, none⟩ v0).setCell ⟨b, 1, none⟩ v1).setCell ⟨b, 2, none⟩ v2).cell? ⟨b, 2, none⟩ = some v2) ∧
    (∀ v0 v1 v2 v3, ((((W.setCell ⟨b, 0, none⟩ v0).setCell ⟨b, 1, none⟩ v1).setCell ⟨b, 2, none⟩ v2).setCell ⟨b, 3, none⟩ v3).cell? ⟨b, 3, none⟩ = some v3) ∧
    (∀ v0 v1 v2 v3 v4, (((((W.setCell ⟨b, 0, none⟩ v0).setCell ⟨b, 1, none⟩ v1).setCell ⟨b, 2, none⟩ v2).setCell ⟨b, 3, none⟩ v3).setCell ⟨b, 4, none⟩ v4).cell? ⟨b, 4, none⟩ = some v4) ∧
    (∀ v0 v1 v2 v3 v4 v5, ((((((W.setCell ⟨b, 0, none⟩ v0).setCell ⟨b, 1, none⟩ v1).setCell ⟨b, 2, none⟩ v2).setCell ⟨b, 3, none⟩ v3).setCell ⟨b, 4, none⟩ v4).setCell ⟨b, 5, none⟩ v5).cell? ⟨b, 5, none⟩ = some v5) ∧
    (∀ v0 v1 v2 v3 v4 v5 v6, (((((((W.setCell ⟨b, 0, none⟩ v0).setCell ⟨b, 1, none⟩ v1).setCell ⟨b, 2, none⟩ v2).setCell ⟨b, 3, none⟩ v3).setCell ⟨b, 4, none⟩ v4).setCell ⟨b, 5, none⟩ v5).setCell ⟨b, 6, none⟩ v6).cell? ⟨b, 6, none⟩ = some v6) ∧
    (∀ v0 v1 v2 v3 v4 v5 v6 v7, ((((((((W.setCell ⟨b, 0, none⟩ v0).setCell ⟨b, 1, none⟩ v1).setCell ⟨b, 2, none⟩ v2).setCell ⟨b, 3, none⟩ v3).setCell ⟨b, 4, none⟩ v4).setCell ⟨b, 5, none⟩ v5).setCell ⟨b, 6, none⟩ v6).setCell ⟨b, 7, none⟩ v7).cell? ⟨b, 7, none⟩ = some v7) ∧
    (∃ x0 x1 x2 x3 x4 x5 x6 x7, W.cell? ⟨b, 0, none⟩ = some x0 ∧ W.cell? ⟨b, 1, none⟩ = some x1 ∧ W.cell? ⟨b, 2, none⟩ = some x2 ∧ W.cell? ⟨b, 3, none⟩ = some x3 ∧ W.cell? ⟨b, 4, none⟩ = some x4 ∧ W.cell? ⟨b, 5, none⟩ = some x5 ∧ W.cell? ⟨b, 6, none⟩ = some x6 ∧ W.cell? ⟨b, 7, none⟩ = some x7) := by
  obtain ⟨x0, h0⟩ := h.1 0 (by omega)
  obtain ⟨x1, h1⟩ := h.1 1 (by omega)
  obtain ⟨x2, h2⟩ := h.1 2 (by omega)
  obtain ⟨x3, h3⟩ := h.1 3 (by omega)
  obtain ⟨x4, h4⟩ := h.1 4 (by omega)
  obtain ⟨x5, h5⟩ := h.1 5 (by omega)
  obtain ⟨x6, h6⟩ := h.1 6 (by omega)
  obtain ⟨x7, h7⟩ := h.1 7 (by omega)
  exact ⟨fun v0 => World.cell?_setCell_same _ _ _ h0, fun v0 v1 => World.cell?_setCell_same _ _ _ (by rw [World.cell?_setCell_other _ _ _ _ (by simp)]; exact h1), fun v0 v1 v2 => World.cell?_setCell_same _ _ _ (by rw [World.cell?_setCell_other _ _ _ _ (by simp), World.cell?_setCell_other _ _ _ _ (by simp)]; exact h2), fun v0 v1 v2 v3 => World.cell?_setCell_same _ _ _ (by rw [World.cell?_setCell_other _ _ _ _ (by simp), World.cell?_setCell_other _ _ _ _ (by simp), World.cell?_setCell_other _ _ _ _ (by simp)]; exact h3), fun v0 v1 v2 v3 v4 => World.cell?_setCell_same _ _ _ (by rw [World.cell?_setCell_other _ _ _ _ (by simp), World.cell?_setCell_other _ _ _ _ (by simp), World.cell?_setCell_other _ _ _ _ (by simp), World.cell?_setCell_other _ _ _ _ (by simp)]; exact h4), fun v0 v1 v2 v3 v4 v5 => World.cell?_setCell_same _ _ _ (by rw [World.cell?_setCell_other _ _ _ _ (by simp), World.cell?_setCell_other _ _ _ _ (by simp), World.cell?_setCell_other _ _ _ _ (by simp), World.cell?_setCell_other _ _ _ _ (by simp), World.cell?_setCell_other _ _ _ _ (by simp)]; exact h5), fun v0 v1 v2 v3 v4 v5 v6 => World.cell?_setCell_same _ _ _ (by rw [World.cell?_setCell_other _ _ _ _ (by simp), World.cell?_setCell_other _ _ _ _ (by simp), World.cell?_setCell_other _ _ _ _ (by simp), World.cell?_setCell_other _ _ _ _ (by simp), World.cell?_setCell_other _ _ _ _ (by simp), World.cell?_setCell_other _ _ _ _ (by simp)]; exact h6), fun v0 v1 v2 v3 v4 v5 v6 v7 => World.cell?_setCell_same _ _ _ (by rw [World.cell?_setCell_other _ _ _ _ (by simp), World.cell?_setCell_other _ _ _ _ (by simp), World.cell?_setCell_other _ _ _ _ (by simp), World.cell?_setCell_other _ _ _ _ (by simp), World.cell?_setCell_other _ _ _ _ (by simp), World.cell?_setCell_other _ _ _ _ (by simp), World.cell?_setCell_other _ _ _ _ (by simp)]; exact h7), x0, x1, x2, x3, x4, x5, x6, x7, h0, h1, h2, h3, h4, h5, h6, h7⟩
theorem below_eight {w W : World} {B b : Nat} (h : Below B w W) (hb : B ≤ b) (v0 v1 v2 v3 v4 v5 v6 v7 : Value) : Below B w ((((((((W.setCell ⟨b, 0, none⟩ v0).setCell ⟨b, 1, none⟩ v1).setCell ⟨b, 2, none⟩ v2).setCell ⟨b, 3, none⟩ v3).setCell ⟨b, 4, none⟩ v4).setCell ⟨b, 5, none⟩ v5).setCell ⟨b, 6, none⟩ v6).setCell ⟨b, 7, none⟩ v7) :=
  ((((((((h.setCell (p := ⟨b, 0, none⟩) hb v0).setCell (p := ⟨b, 1, none⟩) hb v1).setCell (p := ⟨b, 2, none⟩) hb v2).setCell (p := ⟨b, 3, none⟩) hb v3).setCell (p := ⟨b, 4, none⟩) hb v4).setCell (p := ⟨b, 5, none⟩) hb v5).setCell (p := ⟨b, 6, none⟩) hb v6).setCell (p := ⟨b, 7, none⟩) hb v7)
theorem byte_not {x : List UInt8} (hp : ¬ x.head? = some 82) : (((byteV (some x) : Nat) : Int) == 82) = false := by
  cases x with
  | nil => rfl
  | cons c l =>
    simp only [List.head?_cons, Option.some.injEq] at hp
    have : c.toNat ≠ 82 := fun e => hp (UInt8.toNat_inj.1 e)
    simp [byteV]
    omega
set_option maxHeartbeats 3200000 in
theorem entryTake_none (s : ByteArray) (w : World) (hs : s.size ≤ 1048576) (h : Pl.Seat.bare s.data.toList = none) :
    Calls Tryz.prog 60 #[.string s] w fun x w' => x = .returned (.tuple #[.agg #[.int .i64 0, .int .i64 0, .int .i64 0, .string ⟨#[]⟩, .string ⟨#[]⟩, .string ⟨#[]⟩, .int .i64 0, .int .i64 0], .int .i64 3]) ∧ Below w.heap.size w w' := by
  have HB := Lib.hid (fun w => bare_at s none w hs h)
  simp only [Option.getD, Option.isSome, err] at HB
  clear h
  go_enter Tryz.func60, Tryz.ntmps60
  go_wp2_with fail
  refine (HB.out _).mono ?_
  rintro x w1 ⟨rfl, hB1⟩
  have q0 := (Below.refl w.heap.size w).alloc (Nat.le_refl _) (.cells #[.int .i64 0, .int .i64 0, .int .i64 0, .string ⟨#[]⟩, .string ⟨#[]⟩, .string ⟨#[]⟩, .int .i64 0, .int .i64 0] 24)
  have q1 := q0.then' hB1 (by simp)
  have C1 := (Cell8.new w (.int .i64 0) (.int .i64 0) (.int .i64 0) (.string ⟨#[]⟩) (.string ⟨#[]⟩) (.string ⟨#[]⟩) (.int .i64 0) (.int .i64 0) 24).after hB1
  obtain ⟨k0, k1, k2, k3, k4, k5, k6, k7, x0, x1, x2, x3, x4, x5, x6, x7, y0, y1, y2, y3, y4, y5, y6, y7⟩ := C1.stored
  have y8 := C1.2
  go_wp2_with fail
  refine bodyPost_ret (by simp [results, Tryz.results60, k0, k1, k2, k3, k4, k5, k6, k7, go_sem]; try rfl) rfl ?_
  exact ⟨rfl, below_eight q1 (Nat.le_refl _) _ _ _ _ _ _ _ _⟩
set_option maxHeartbeats 3200000 in
theorem entryTake_shut (s : ByteArray) (t : List UInt8) (w : World) (ht : Tab w) (hs : s.size ≤ 1048576) (h : Pl.Seat.bare s.data.toList = some t) (ho : openS tailU t = none) (htl : t.length ≤ 1048576) :
    Calls Tryz.prog 60 #[.string s] w fun x w' => x = .returned (.tuple #[.agg #[.int .i64 0, .int .i64 0, .int .i64 0, .string ⟨#[]⟩, .string ⟨#[]⟩, .string ⟨#[]⟩, .int .i64 0, .int .i64 0], .int .i64 3]) ∧ Below w.heap.size w w' := by
  have HB := Lib.hid (fun w => bare_at s (some t) w hs h)
  have HO := Lib.hid (fun w ht => open_bs t none w ht htl ho)
  simp only [Option.getD, Option.isSome, err, if_true] at HB HO
  have HNW := Lib.hid (fun w => new_any (bs []) w (by rw [bs_size]; simp))
  clear h ho
  go_enter Tryz.func60, Tryz.ntmps60
  go_wp2_with fail
  refine (HB.out _).mono ?_
  rintro z w1 ⟨rfl, hB1⟩
  have q0 := (Below.refl w.heap.size w).alloc (Nat.le_refl _) (.cells #[.int .i64 0, .int .i64 0, .int .i64 0, .string ⟨#[]⟩, .string ⟨#[]⟩, .string ⟨#[]⟩, .int .i64 0, .int .i64 0] 24)
  have q1 := q0.then' hB1 (by simp)
  have C1 := (Cell8.new w (.int .i64 0) (.int .i64 0) (.int .i64 0) (.string ⟨#[]⟩) (.string ⟨#[]⟩) (.string ⟨#[]⟩) (.int .i64 0) (.int .i64 0) 24).after hB1
  have t1 := ht.after q1
  clear q0 hB1
  go_wp2_with fail
  refine (HO.out _ t1).mono ?_
  rintro z w2 ⟨rfl, hB2⟩
  have q2 := q1.then' hB2 (Nat.le_refl _)
  have C2 := C1.after hB2
  clear q1 hB2
  go_wp2_with fail
  refine (HNW.out _).mono ?_
  rintro z w3 ⟨rfl, hS3, hB3⟩
  have q3 := q2.then' hB3 (Nat.le_refl _)
  have C3 := C2.after hB3
  have hne : w.heap.size ≠ w2.heap.size := Nat.ne_of_lt C2.lt
  have hle : w.heap.size ≤ w2.heap.size := Nat.le_of_lt C2.lt
  generalize w2.heap.size = b at hS3 hne hle ⊢
  clear q2 hB3 C1 C2
  clear hS3
  obtain ⟨k0, k1, k2, k3, k4, k5, k6, k7, x0, x1, x2, x3, x4, x5, x6, x7, y0, y1, y2, y3, y4, y5, y6, y7⟩ := C3.stored
  have y8 := C3.2
  go_wp2_with fail
  refine bodyPost_ret (by simp [results, Tryz.results60, k0, k1, k2, k3, k4, k5, k6, k7, go_sem]; try rfl) rfl ?_
  exact ⟨rfl, below_eight q3 (Nat.le_refl _) _ _ _ _ _ _ _ _⟩
set_option maxHeartbeats 3200000 in
theorem entryTake_other (s : ByteArray) (t x : List UInt8) (w : World) (ht : Tab w) (hs : s.size ≤ 1048576) (h : Pl.Seat.bare s.data.toList = some t) (ho : openS tailU t = some x) (htl : t.length ≤ 1048576) (hxl : x.length ≤ 1048576) (hp : ¬ x.head? = some 82) :
    Calls Tryz.prog 60 #[.string s] w fun x w' => x = .returned (.tuple #[.agg #[.int .i64 0, .int .i64 0, .int .i64 0, .string ⟨#[]⟩, .string ⟨#[]⟩, .string ⟨#[]⟩, .int .i64 0, .int .i64 0], .int .i64 3]) ∧ Below w.heap.size w w' := by
  have HB := Lib.hid (fun w => bare_at s (some t) w hs h)
  have HO := Lib.hid (fun w ht => open_bs t (some x) w ht htl ho)
  simp only [Option.getD, Option.isSome, err, if_true] at HB HO
  have HNW := Lib.hid (fun w => new_any (bs x) w (by rw [bs_size]; omega))
  rw [bs_list] at HNW
  have hby : (((byteV (some x) : Nat) : Int) == 82) = false := byte_not hp
  have hby2 : (((byteV (some x) : Nat) : Int) != 82) = true := by rw [bne, hby]; rfl
  clear h ho hp
  go_enter Tryz.func60, Tryz.ntmps60
  go_wp2_with fail
  refine (HB.out _).mono ?_
  rintro z w1 ⟨rfl, hB1⟩
  have q0 := (Below.refl w.heap.size w).alloc (Nat.le_refl _) (.cells #[.int .i64 0, .int .i64 0, .int .i64 0, .string ⟨#[]⟩, .string ⟨#[]⟩, .string ⟨#[]⟩, .int .i64 0, .int .i64 0] 24)
  have q1 := q0.then' hB1 (by simp)
  have C1 := (Cell8.new w (.int .i64 0) (.int .i64 0) (.int .i64 0) (.string ⟨#[]⟩) (.string ⟨#[]⟩) (.string ⟨#[]⟩) (.int .i64 0) (.int .i64 0) 24).after hB1
  have t1 := ht.after q1
  clear q0 hB1
  go_wp2_with fail
  refine (HO.out _ t1).mono ?_
  rintro z w2 ⟨rfl, hB2⟩
  have q2 := q1.then' hB2 (Nat.le_refl _)
  have C2 := C1.after hB2
  clear q1 hB2
  go_wp2_with fail
  refine (HNW.out _).mono ?_
  rintro z w3 ⟨rfl, hS3, hB3⟩
  have q3 := q2.then' hB3 (Nat.le_refl _)
  have C3 := C2.after hB3
  have hne : w.heap.size ≠ w2.heap.size := Nat.ne_of_lt C2.lt
  have hle : w.heap.size ≤ w2.heap.size := Nat.le_of_lt C2.lt
  generalize w2.heap.size = b at hS3 hne hle ⊢
  clear q2 hB3 C1 C2
  have HBY := Lib.hid (byte_any b (some x) w3 hS3)
  generalize byteV (some x) = by1 at HBY hby hby2
  generalize fixR 1 (some x) = st1 at HBY
  go_wp2_with fail
  refine HBY.out.mono ?_
  rintro z w4 ⟨rfl, hS4, hG4⟩
  have q4 := grown_below hG4 hle q3 hS3.lt
  have C4 := C3.grown hG4 hne
  clear q3 C3 hG4 hS3
  obtain ⟨k0, k1, k2, k3, k4, k5, k6, k7, x0, x1, x2, x3, x4, x5, x6, x7, y0, y1, y2, y3, y4, y5, y6, y7⟩ := C4.stored
  have y8 := C4.2
  go_wp2_with fail
  refine bodyPost_ret (by simp [results, Tryz.results60, k0, k1, k2, k3, k4, k5, k6, k7, go_sem]; try rfl) rfl ?_
  exact ⟨rfl, below_eight q4 (Nat.le_refl _) _ _ _ _ _ _ _ _⟩
/-- stores of three texts, and of two numbers -/
def put345 (w : World) (b : Nat) (x y z : Value) : World := ((w.setCell ⟨b, 3, none⟩ x).setCell ⟨b, 4, none⟩ y).setCell ⟨b, 5, none⟩ z
def put67 (w : World) (b : Nat) (x y : Value) : World := (w.setCell ⟨b, 6, none⟩ x).setCell ⟨b, 7, none⟩ y
theorem put345_block {b c : Nat} (w : World) (hne : c ≠ b) (x y z : Value) : (put345 w b x y z).heap[c]? = w.heap[c]? := by
  unfold put345
  rw [Below.heap_setCell _ _ _ _ hne, Below.heap_setCell _ _ _ _ hne, Below.heap_setCell _ _ _ _ hne]
theorem put67_block {b c : Nat} (w : World) (hne : c ≠ b) (x y : Value) : (put67 w b x y).heap[c]? = w.heap[c]? := by
  unfold put67
  rw [Below.heap_setCell _ _ _ _ hne, Below.heap_setCell _ _ _ _ hne]
theorem below_345 {w W : World} {B b : Nat} (h : Below B w W) (hb : B ≤ b) (x y z : Value) : Below B w (put345 W b x y z) :=
  ((h.setCell (p := ⟨b, 3, none⟩) hb x).setCell (p := ⟨b, 4, none⟩) hb y).setCell (p := ⟨b, 5, none⟩) hb z
theorem below_67 {w W : World} {B b : Nat} (h : Below B w W) (hb : B ≤ b) (x y : Value) : Below B w (put67 W b x y) :=
  (h.setCell (p := ⟨b, 6, none⟩) hb x).setCell (p := ⟨b, 7, none⟩) hb y
theorem RecAt.put345 {b : Nat} {e q k : Int} {N O M : ByteArray} {t u : Int} {w : World} (h : RecAt b e q k N O M t u w) (N' O' M' : ByteArray) : RecAt b e q k N' O' M' t u (put345 w b (.string N') (.string O') (.string M')) := by
  unfold WalkSeat.put345
  refine ⟨?_, ?_, ?_, ?_, ?_, ?_, ?_, ?_, fun o => by rw [World.frozen?_setCell, World.frozen?_setCell, World.frozen?_setCell]; exact h.fz o⟩
  · rw [World.cell?_setCell_other _ _ _ _ (by simp), World.cell?_setCell_other _ _ _ _ (by simp), World.cell?_setCell_other _ _ _ _ (by simp)]; exact h.c0
  · rw [World.cell?_setCell_other _ _ _ _ (by simp), World.cell?_setCell_other _ _ _ _ (by simp), World.cell?_setCell_other _ _ _ _ (by simp)]; exact h.c1
  · rw [World.cell?_setCell_other _ _ _ _ (by simp), World.cell?_setCell_other _ _ _ _ (by simp), World.cell?_setCell_other _ _ _ _ (by simp)]; exact h.c2
  · rw [World.cell?_setCell_other _ _ _ _ (by simp), World.cell?_setCell_other _ _ _ _ (by simp)]; exact World.cell?_setCell_same _ _ _ h.c3
  · rw [World.cell?_setCell_other _ _ _ _ (by simp)]; exact World.cell?_setCell_same _ _ _ (by rw [World.cell?_setCell_other _ _ _ _ (by simp)]; exact h.c4)
  · exact World.cell?_setCell_same _ _ _ (by rw [World.cell?_setCell_other _ _ _ _ (by simp), World.cell?_setCell_other _ _ _ _ (by simp)]; exact h.c5)
  · rw [World.cell?_setCell_other _ _ _ _ (by simp), World.cell?_setCell_other _ _ _ _ (by simp), World.cell?_setCell_other _ _ _ _ (by simp)]; exact h.c6
  · rw [World.cell?_setCell_other _ _ _ _ (by simp), World.cell?_setCell_other _ _ _ _ (by simp), World.cell?_setCell_other _ _ _ _ (by simp)]; exact h.c7
theorem RecAt.put67 {b : Nat} {e q k : Int} {N O M : ByteArray} {t u : Int} {w : World} (h : RecAt b e q k N O M t u w) (t' u' : Int) : RecAt b e q k N O M t' u' (put67 w b (.int .i64 t') (.int .i64 u')) := by
  unfold WalkSeat.put67
  refine ⟨?_, ?_, ?_, ?_, ?_, ?_, ?_, ?_, fun o => by rw [World.frozen?_setCell, World.frozen?_setCell]; exact h.fz o⟩
  · rw [World.cell?_setCell_other _ _ _ _ (by simp), World.cell?_setCell_other _ _ _ _ (by simp)]; exact h.c0
  · rw [World.cell?_setCell_other _ _ _ _ (by simp), World.cell?_setCell_other _ _ _ _ (by simp)]; exact h.c1
  · rw [World.cell?_setCell_other _ _ _ _ (by simp), World.cell?_setCell_other _ _ _ _ (by simp)]; exact h.c2
  · rw [World.cell?_setCell_other _ _ _ _ (by simp), World.cell?_setCell_other _ _ _ _ (by simp)]; exact h.c3
  · rw [World.cell?_setCell_other _ _ _ _ (by simp), World.cell?_setCell_other _ _ _ _ (by simp)]; exact h.c4
  · rw [World.cell?_setCell_other _ _ _ _ (by simp), World.cell?_setCell_other _ _ _ _ (by simp)]; exact h.c5
  · rw [World.cell?_setCell_other _ _ _ _ (by simp)]; exact World.cell?_setCell_same _ _ _ h.c6
  · exact World.cell?_setCell_same _ _ _ (by rw [World.cell?_setCell_other _ _ _ _ (by simp)]; exact h.c7)
theorem RecAt.grown {b c : Nat} {e q k : Int} {N O M : ByteArray} {t u : Int} {w w' : World} (h : RecAt b e q k N O M t u w) (hG : w.grownBy w' (some c)) (hne : b ≠ c) : RecAt b e q k N O M t u w' := h.kept (hG.block b h.lt (by simpa using hne))
set_option maxHeartbeats 6400000 in
theorem entryTake_read (s : ByteArray) (t x : List UInt8) (w : World) (ht : Tab w) (hs : s.size ≤ 1048576) (h : Pl.Seat.bare s.data.toList = some t) (ho : openS tailU t = some x) (htl : t.length ≤ 1048576) (hxl : x.length ≤ 1048576) (hp : x.head? = some 82)
    (n1 n2 n3 n7 n8 : Nat) (L4 L5 L6 : List UInt8) (s0 s1 s2 s3 s4 s5 s6 s7 s8 : Option (List UInt8)) (hs0 : some (x.drop 1) = s0)
    (hn1 : numV 4294967295 s0 = n1) (hs1 : numR 4294967295 s0 = s1) (hn2 : numV 4096 s1 = n2) (hs2 : numR 4096 s1 = s2) (hn3 : numV 2 s2 = n3) (hs3 : numR 2 s2 = s3) (hn4 : txtV 12 s3 = L4) (hs4 : txtR 12 s3 = s4) (hn5 : txtV 32 s4 = L5) (hs5 : txtR 32 s4 = s5) (hn6 : txtV 32 s5 = L6) (hs6 : txtR 32 s5 = s6) (hn7 : numV 524288 s6 = n7) (hs7 : numR 524288 s6 = s7) (hn8 : numV 4294967296 s7 = n8) (hs8 : numR 4294967296 s7 = s8) (r : Bool) (hr : isR ⟨n1, n2, n3, L4, L5, L6, n7, n8⟩ = r) (z4 : L4.length ≤ 128) (z5 : L5.length ≤ 128) (z6 : L6.length ≤ 128) :
    Calls Tryz.prog 60 #[.string s] w fun e w' => e = .returned (if s8 = some [] ∧ r = true then .tuple #[.agg #[.int .i64 n1, .int .i64 n2, .int .i64 n3, .string (bs L4), .string (bs L5), .string (bs L6), .int .i64 n7, .int .i64 n8], .int .i64 0] else .tuple #[.agg #[.int .i64 0, .int .i64 0, .int .i64 0, .string ⟨#[]⟩, .string ⟨#[]⟩, .string ⟨#[]⟩, .int .i64 0, .int .i64 0], .int .i64 3]) ∧ Below w.heap.size w w' := by
  have HB := Lib.hid (fun w => bare_at s (some t) w hs h)
  have HO := Lib.hid (fun w ht => open_bs t (some x) w ht htl ho)
  simp only [Option.getD, Option.isSome, err, if_true] at HB HO
  have HNW := Lib.hid (fun w => new_any (bs x) w (by rw [bs_size]; omega))
  rw [bs_list] at HNW
  have hby : byteV (some x) = 82 ∧ fixR 1 (some x) = s0 := by
    cases x with
    | nil => simp at hp
    | cons c l =>
      simp at hp
      subst hp
      rw [← hs0]
      exact ⟨rfl, by simp [fixR]⟩
  have HN1 := Lib.hid (fun b w h => num_any b s0 4294967295 w h (by omega))
  rw [hn1, hs1] at HN1
  have HN2 := Lib.hid (fun b w h => num_any b s1 4096 w h (by omega))
  rw [hn2, hs2] at HN2
  have HN3 := Lib.hid (fun b w h => num_any b s2 2 w h (by omega))
  rw [hn3, hs3] at HN3
  have HN4 := Lib.hid (fun b w h => text_any b s3 12 w h (by omega))
  rw [hn4, hs4] at HN4
  have HN5 := Lib.hid (fun b w h => text_any b s4 32 w h (by omega))
  rw [hn5, hs5] at HN5
  have HN6 := Lib.hid (fun b w h => text_any b s5 32 w h (by omega))
  rw [hn6, hs6] at HN6
  have HN7 := Lib.hid (fun b w h => num_any b s6 524288 w h (by omega))
  rw [hn7, hs7] at HN7
  have HN8 := Lib.hid (fun b w h => num_any b s7 4294967296 w h (by omega))
  rw [hn8, hs8] at HN8
  have HBY := Lib.hid (fun b w h => byte_any b (some x) w h)
  rw [hby.1, hby.2] at HBY
  have HCK := Lib.hid (fun w => entryCheck_at n1 n2 n3 (bs L4) (bs L5) (bs L6) n7 n8 r w (by rw [bs_size]; omega) (by rw [bs_size]; omega) (by rw [← hr]; unfold rc; rw [bs_list, bs_list, bs_list]))
  clear h ho hp hs0 hby hn1 hs1 hn2 hs2 hn3 hs3 hn4 hs4 hn5 hs5 hn6 hs6 hn7 hs7 hn8 hs8 z4 z5 z6 hr
  go_enter Tryz.func60, Tryz.ntmps60
  go_wp2_with fail
  refine (HB.out _).mono ?_
  rintro z w1 ⟨rfl, hB1⟩
  have q0 := (Below.refl w.heap.size w).alloc (Nat.le_refl _) (.cells #[.int .i64 0, .int .i64 0, .int .i64 0, .string ⟨#[]⟩, .string ⟨#[]⟩, .string ⟨#[]⟩, .int .i64 0, .int .i64 0] 24)
  have q1 := q0.then' hB1 (by simp)
  have C1 := (Cell8.new w (.int .i64 0) (.int .i64 0) (.int .i64 0) (.string ⟨#[]⟩) (.string ⟨#[]⟩) (.string ⟨#[]⟩) (.int .i64 0) (.int .i64 0) 24).after hB1
  have t1 := ht.after q1
  clear q0 hB1
  go_wp2_with fail
  refine (HO.out _ t1).mono ?_
  rintro z w2 ⟨rfl, hB2⟩
  have q2 := q1.then' hB2 (Nat.le_refl _)
  have C2 := C1.after hB2
  clear q1 hB2
  go_wp2_with fail
  refine (HNW.out _).mono ?_
  rintro z w3 ⟨rfl, hS3, hB3⟩
  have q3 := q2.then' hB3 (Nat.le_refl _)
  have C3 := C2.after hB3
  have hne : w.heap.size ≠ w2.heap.size := Nat.ne_of_lt C2.lt
  have hle : w.heap.size ≤ w2.heap.size := Nat.le_of_lt C2.lt
  generalize w2.heap.size = b at hS3 hne hle ⊢
  clear q2 hB3 C1 C2
  go_wp2_with fail
  refine (HBY.out _ _ hS3).mono ?_
  rintro z w4 ⟨rfl, hS4, hG4⟩
  have q4 := grown_below hG4 hle q3 hS3.lt
  have C4 := C3.grown hG4 hne
  clear q3 C3 hG4 hS3
  go_wp2_with fail
  refine (HN1.out _ _ hS4).mono ?_
  rintro z w5 ⟨rfl, hS5, hG5⟩
  have q5 := grown_below hG5 hle q4 hS4.lt
  have C5 := C4.grown hG5 hne
  clear q4 C4 hG5 hS4
  go_wp2_with fail
  refine (HN2.out _ _ hS5).mono ?_
  rintro z w6 ⟨rfl, hS6, hG6⟩
  have q6 := grown_below hG6 hle q5 hS5.lt
  have C6 := C5.grown hG6 hne
  clear q5 C5 hG6 hS5
  go_wp2_with fail
  refine (HN3.out _ _ hS6).mono ?_
  rintro z w7 ⟨rfl, hS7, hG7⟩
  have q7 := grown_below hG7 hle q6 hS6.lt
  have C7 := C6.grown hG7 hne
  clear q6 C6 hG7 hS6
  have hbl := hS7.lt
  have hS8 := hS7.kept (Below.heap_alloc w7 (.cells #[.int .i64 n1, .int .i64 n2, .int .i64 n3, .string ⟨#[]⟩, .string ⟨#[]⟩, .string ⟨#[]⟩, .int .i64 0, .int .i64 0] 24) b hbl)
  have R8 := RecAt.new w7 n1 n2 n3 ⟨#[]⟩ ⟨#[]⟩ ⟨#[]⟩ 0 0 24
  have C8 := C7.alloc (.cells #[.int .i64 n1, .int .i64 n2, .int .i64 n3, .string ⟨#[]⟩, .string ⟨#[]⟩, .string ⟨#[]⟩, .int .i64 0, .int .i64 0] 24)
  have q8 := q7.alloc q7.size (.cells #[.int .i64 n1, .int .i64 n2, .int .i64 n3, .string ⟨#[]⟩, .string ⟨#[]⟩, .string ⟨#[]⟩, .int .i64 0, .int .i64 0] 24)
  have hnh : w7.heap.size ≠ b := by omega
  have hnw : w.heap.size ≠ w7.heap.size := Nat.ne_of_lt C7.lt
  have hlw : w.heap.size ≤ w7.heap.size := q7.size
  go_wp2_with fail
  generalize w7.heap.size = p at R8 hnh hnw hlw ⊢
  generalize w7.alloc (.cells #[.int .i64 n1, .int .i64 n2, .int .i64 n3, .string ⟨#[]⟩, .string ⟨#[]⟩, .string ⟨#[]⟩, .int .i64 0, .int .i64 0] 24) = w8 at R8 hS8 C8 q8 ⊢
  clear q7 C7 hS7 hbl
  refine (HN4.out _ _ hS8).mono ?_
  rintro z w9 ⟨rfl, hS9, hG9⟩
  have q9 := grown_below hG9 hle q8 hS8.lt
  have C9 := C8.grown hG9 hne
  have R9 := R8.grown hG9 hnh
  clear q8 C8 hG9 hS8 R8
  go_wp2_with fail
  refine (HN5.out _ _ hS9).mono ?_
  rintro z w10 ⟨rfl, hS10, hG10⟩
  have q10 := grown_below hG10 hle q9 hS9.lt
  have C10 := C9.grown hG10 hne
  have R10 := R9.grown hG10 hnh
  clear q9 C9 hG10 hS9 R9
  go_wp2_with fail
  refine (HN6.out _ _ hS10).mono ?_
  rintro z w11 ⟨rfl, hS11, hG11⟩
  have q11 := grown_below hG11 hle q10 hS10.lt
  have C11 := C10.grown hG11 hne
  have R11 := R10.grown hG11 hnh
  clear q10 C10 hG11 hS10 R10
  obtain ⟨c0, c1, c2, c3, c4, c5, c6, c7, c8⟩ := id R11
  have hS12 := hS11.kept (put345_block w11 (Ne.symm hnh) (.string (bs L4)) (.string (bs L5)) (.string (bs L6)))
  have C12 := C11.kept (put345_block w11 hnw (.string (bs L4)) (.string (bs L5)) (.string (bs L6)))
  have q12 := below_345 q11 hlw (.string (bs L4)) (.string (bs L5)) (.string (bs L6))
  have R12 := R11.put345 (bs L4) (bs L5) (bs L6)
  have g4 : ∀ v, (w11.setCell ⟨p, 3, none⟩ v).cell? ⟨p, 4, none⟩ = some (.string ⟨#[]⟩) := fun v => by rw [World.cell?_setCell_other _ _ _ _ (by simp)]; exact c4
  have g5 : ∀ v v', ((w11.setCell ⟨p, 3, none⟩ v).setCell ⟨p, 4, none⟩ v').cell? ⟨p, 5, none⟩ = some (.string ⟨#[]⟩) := fun v v' => by rw [World.cell?_setCell_other _ _ _ _ (by simp), World.cell?_setCell_other _ _ _ _ (by simp)]; exact c5
  go_wp2_with fail
  change Calls _ _ _ (put345 w11 p (.string (bs L4)) (.string (bs L5)) (.string (bs L6))) _
  generalize put345 w11 p (.string (bs L4)) (.string (bs L5)) (.string (bs L6)) = w12 at hS12 C12 q12 R12 ⊢
  clear c0 c1 c2 c3 c4 c5 c6 c7 c8 g4 g5 hS11 C11 q11 R11
  refine (HN7.out _ _ hS12).mono ?_
  rintro z w13 ⟨rfl, hS13, hG13⟩
  have q13 := grown_below hG13 hle q12 hS12.lt
  have C13 := C12.grown hG13 hne
  have R13 := R12.grown hG13 hnh
  clear q12 C12 hG13 hS12 R12
  go_wp2_with fail
  refine (HN8.out _ _ hS13).mono ?_
  rintro z w14 ⟨rfl, hS14, hG14⟩
  have q14 := grown_below hG14 hle q13 hS13.lt
  have C14 := C13.grown hG14 hne
  have R14 := R13.grown hG14 hnh
  clear q13 C13 hG14 hS13 R13
  obtain ⟨c0, c1, c2, c3, c4, c5, c6, c7, c8⟩ := id R14
  have hS15 := hS14.kept (put67_block w14 (Ne.symm hnh) (.int .i64 n7) (.int .i64 n8))
  have C15 := C14.kept (put67_block w14 hnw (.int .i64 n7) (.int .i64 n8))
  have q15 := below_67 q14 hlw (.int .i64 n7) (.int .i64 n8)
  have R15 := R14.put67 n7 n8
  have g7 : ∀ v, (w14.setCell ⟨p, 6, none⟩ v).cell? ⟨p, 7, none⟩ = some (.int .i64 0) := fun v => by rw [World.cell?_setCell_other _ _ _ _ (by simp)]; exact c7
  go_wp2_with fail
  change Calls _ _ _ (put67 w14 p (.int .i64 n7) (.int .i64 n8)) _
  generalize put67 w14 p (.int .i64 n7) (.int .i64 n8) = w15 at hS15 C15 q15 R15 ⊢
  clear c0 c1 c2 c3 c4 c5 c6 c7 c8 g7 hS14 C14 q14 R14
  refine (end_any b s8 _ hS15).mono ?_
  rintro z w16 ⟨kk, rfl, hk, hG16⟩
  have q16 := grown_below hG16 hle q15 hS15.lt
  have C16 := C15.grown hG16 hne
  have R16 := R15.grown hG16 hnh
  clear q15 C15 hG16 hS15 R15
  obtain ⟨c0, c1, c2, c3, c4, c5, c6, c7, c8⟩ := id R16
  by_cases h0 : kk = 0
  · subst h0
    have hst := hk.1 rfl
    subst hst
    clear hk
    go_wp2_with fail
    refine (HCK.out _).mono ?_
    rintro z w17 ⟨rfl, hB17⟩
    have q17 := q16.then' hB17 (Nat.le_refl _)
    have C17 := C16.after hB17
    have R17 := R16.after hB17
    clear c0 c1 c2 c3 c4 c5 c6 c7 c8 q16 C16 R16 hB17
    obtain ⟨c0, c1, c2, c3, c4, c5, c6, c7, c8⟩ := id R17
    cases r
    · simp only [arg]
      obtain ⟨k0, k1, k2, k3, k4, k5, k6, k7, x0, x1, x2, x3, x4, x5, x6, x7, y0, y1, y2, y3, y4, y5, y6, y7⟩ := C17.stored
      have y8 := C17.2
      go_wp2_with fail
      refine bodyPost_ret (by simp [results, Tryz.results60, k0, k1, k2, k3, k4, k5, k6, k7, go_sem]; try rfl) rfl ?_
      exact ⟨by simp, below_eight q17 (Nat.le_refl _) _ _ _ _ _ _ _ _⟩
    · simp only [arg]
      obtain ⟨k0, k1, k2, k3, k4, k5, k6, k7, x0, x1, x2, x3, x4, x5, x6, x7, y0, y1, y2, y3, y4, y5, y6, y7⟩ := C17.stored
      have y8 := C17.2
      go_wp2_with fail
      refine bodyPost_ret (by simp [results, Tryz.results60, k0, k1, k2, k3, k4, k5, k6, k7, go_sem]; try rfl) rfl ?_
      exact ⟨by simp, below_eight q17 (Nat.le_refl _) _ _ _ _ _ _ _ _⟩
  · have hst : ¬ (s8 = some [] ∧ r = true) := fun h => h0 (hk.2 h.1)
    have hkn : ((kk : Int) == 0) = false := by simp; omega
    have hkn2 : ((kk : Int) != 0) = true := by simpa using hkn
    obtain ⟨k0, k1, k2, k3, k4, k5, k6, k7, x0, x1, x2, x3, x4, x5, x6, x7, y0, y1, y2, y3, y4, y5, y6, y7⟩ := C16.stored
    have y8 := C16.2
    go_wp2_with fail
    refine bodyPost_ret (by simp [results, Tryz.results60, k0, k1, k2, k3, k4, k5, k6, k7, go_sem]; try rfl) rfl ?_
    exact ⟨by first | rfl | rw [if_neg hst] | simp [hst], below_eight q16 (Nat.le_refl _) _ _ _ _ _ _ _ _⟩
end Go.Proofs.YtfbakelpplpomaaGreatDoor.WalkSeat
