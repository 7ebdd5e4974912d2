/-
  The walk of the document's Take of a record.
-/
import Derived.Test.YtfbakelpplpomaaGreatDoorWalkEntryIs
import Derived.Test.YtfbakelpplpomaaGreatDoorWalkRefRecPut
import Derived.Deep.CutRange
namespace Go.Proofs.YtfbakelpplpomaaGreatDoor.WalkSeat
open Go.RowKit Go.Proofs.YtfbakelpplpomaaGreatDoor.WalkVar Go.Proofs.YtfbakelpplpomaaGreatDoor.WalkScan Go.Proofs.YtfbakelpplpomaaGreatDoor.WalkCrc
open Pl.Seat (numV numR txtV txtR numP txtP Head isH putH openS isName nameByte isHash Rec isR putR)
set_option linter.unusedVariables false
set_option linter.unusedSimpArgs false
set_option maxRecDepth 100000

theorem refOpen_bs (l : List UInt8) (o : Option (List UInt8)) (w : World) (hl : l.length ≤ 100000) (ho : openS tailU l = o) :
    Calls Tryz.prog 104 #[.string (bs l)] w fun e w' => e = .returned (.tuple #[.string (bs (o.getD [])), .bool o.isSome]) ∧ Below w.heap.size w w' := by
  have := refOpen_any (bs l) w (by rw [bs_size]; omega)
  rw [opened_bs, opens_bs, ho] at this
  exact this
/-- a scan's three stores, and one field's -/
def stepW (w : World) (g p i : Nat) (x0 x1 x2 v : Value) : World := (put3 w g x0 x1 x2).setCell ⟨p, i, none⟩ v
theorem stepW_block {b g p : Nat} (w : World) (h1 : b ≠ g) (h2 : b ≠ p) (i : Nat) (x0 x1 x2 v : Value) : (stepW w g p i x0 x1 x2 v).heap[b]? = w.heap[b]? := by
  unfold stepW
  rw [Below.heap_setCell _ _ _ _ h2, put3_block w h1]
theorem below_stepW {w W : World} {B g p : Nat} (h : Below B w W) (hg : B ≤ g) (hp : B ≤ p) (i : Nat) (x0 x1 x2 v : Value) : Below B w (stepW W g p i x0 x1 x2 v) :=
  (below_three h hg x0 x1 x2).setCell (p := ⟨p, i, none⟩) hp v
theorem stepW_sc {g p : Nat} {s : ByteArray} {a e : Nat} {w : World} (h : Sc3 g s a e w) (hne : g ≠ p) (i : Nat) (s' : ByteArray) (a' e' : Nat) (v : Value) : Sc3 g s' a' e' (stepW w g p i (.string s') (.int .i64 a') (.int .i64 e') v) :=
  (put3_sc h s' a' e').kept (by unfold stepW; rw [Below.heap_setCell _ _ _ _ hne])
theorem RecAt.set0 {b : Nat} {e q k : Int} {N O M : ByteArray} {t u : Int} {w : World} (h : RecAt b e q k N O M t u w) (y : Int) : RecAt b y q k N O M t u (w.setCell ⟨b, 0, none⟩ (.int .i64 y)) :=
  ⟨World.cell?_setCell_same _ _ _ h.c0, by rw [World.cell?_setCell_other _ _ _ _ (by simp)]; exact h.c1, by rw [World.cell?_setCell_other _ _ _ _ (by simp)]; exact h.c2, by rw [World.cell?_setCell_other _ _ _ _ (by simp)]; exact h.c3, by rw [World.cell?_setCell_other _ _ _ _ (by simp)]; exact h.c4, by rw [World.cell?_setCell_other _ _ _ _ (by simp)]; exact h.c5, by rw [World.cell?_setCell_other _ _ _ _ (by simp)]; exact h.c6, by rw [World.cell?_setCell_other _ _ _ _ (by simp)]; exact h.c7, fun o => by rw [World.frozen?_setCell]; exact h.fz o⟩
theorem RecAt.step0 {b g : Nat} {e q k : Int} {N O M : ByteArray} {t u : Int} {w : World} (h : RecAt b e q k N O M t u w) (hne : b ≠ g) (x0 x1 x2 : Value) (y : Int) : RecAt b y q k N O M t u (stepW w g b 0 x0 x1 x2 (.int .i64 y)) :=
  (h.kept (put3_block w hne x0 x1 x2)).set0 y
theorem RecAt.set1 {b : Nat} {e q k : Int} {N O M : ByteArray} {t u : Int} {w : World} (h : RecAt b e q k N O M t u w) (y : Int) : RecAt b e y k N O M t u (w.setCell ⟨b, 1, none⟩ (.int .i64 y)) :=
  ⟨by rw [World.cell?_setCell_other _ _ _ _ (by simp)]; exact h.c0, World.cell?_setCell_same _ _ _ h.c1, by rw [World.cell?_setCell_other _ _ _ _ (by simp)]; exact h.c2, by rw [World.cell?_setCell_other _ _ _ _ (by simp)]; exact h.c3, by rw [World.cell?_setCell_other _ _ _ _ (by simp)]; exact h.c4, by rw [World.cell?_setCell_other _ _ _ _ (by simp)]; exact h.c5, by rw [World.cell?_setCell_other _ _ _ _ (by simp)]; exact h.c6, by rw [World.cell?_setCell_other _ _ _ _ (by simp)]; exact h.c7, fun o => by rw [World.frozen?_setCell]; exact h.fz o⟩
theorem RecAt.step1 {b g : Nat} {e q k : Int} {N O M : ByteArray} {t u : Int} {w : World} (h : RecAt b e q k N O M t u w) (hne : b ≠ g) (x0 x1 x2 : Value) (y : Int) : RecAt b e y k N O M t u (stepW w g b 1 x0 x1 x2 (.int .i64 y)) :=
  (h.kept (put3_block w hne x0 x1 x2)).set1 y
theorem RecAt.set2 {b : Nat} {e q k : Int} {N O M : ByteArray} {t u : Int} {w : World} (h : RecAt b e q k N O M t u w) (y : Int) : RecAt b e q y N O M t u (w.setCell ⟨b, 2, none⟩ (.int .i64 y)) :=
  ⟨by rw [World.cell?_setCell_other _ _ _ _ (by simp)]; exact h.c0, by rw [World.cell?_setCell_other _ _ _ _ (by simp)]; exact h.c1, World.cell?_setCell_same _ _ _ h.c2, by rw [World.cell?_setCell_other _ _ _ _ (by simp)]; exact h.c3, by rw [World.cell?_setCell_other _ _ _ _ (by simp)]; exact h.c4, by rw [World.cell?_setCell_other _ _ _ _ (by simp)]; exact h.c5, by rw [World.cell?_setCell_other _ _ _ _ (by simp)]; exact h.c6, by rw [World.cell?_setCell_other _ _ _ _ (by simp)]; exact h.c7, fun o => by rw [World.frozen?_setCell]; exact h.fz o⟩
theorem RecAt.step2 {b g : Nat} {e q k : Int} {N O M : ByteArray} {t u : Int} {w : World} (h : RecAt b e q k N O M t u w) (hne : b ≠ g) (x0 x1 x2 : Value) (y : Int) : RecAt b e q y N O M t u (stepW w g b 2 x0 x1 x2 (.int .i64 y)) :=
  (h.kept (put3_block w hne x0 x1 x2)).set2 y
theorem RecAt.set3 {b : Nat} {e q k : Int} {N O M : ByteArray} {t u : Int} {w : World} (h : RecAt b e q k N O M t u w) (y : ByteArray) : RecAt b e q k y O M t u (w.setCell ⟨b, 3, none⟩ (.string y)) :=
  ⟨by rw [World.cell?_setCell_other _ _ _ _ (by simp)]; exact h.c0, by rw [World.cell?_setCell_other _ _ _ _ (by simp)]; exact h.c1, by rw [World.cell?_setCell_other _ _ _ _ (by simp)]; exact h.c2, World.cell?_setCell_same _ _ _ h.c3, by rw [World.cell?_setCell_other _ _ _ _ (by simp)]; exact h.c4, by rw [World.cell?_setCell_other _ _ _ _ (by simp)]; exact h.c5, by rw [World.cell?_setCell_other _ _ _ _ (by simp)]; exact h.c6, by rw [World.cell?_setCell_other _ _ _ _ (by simp)]; exact h.c7, fun o => by rw [World.frozen?_setCell]; exact h.fz o⟩
theorem RecAt.step3 {b g : Nat} {e q k : Int} {N O M : ByteArray} {t u : Int} {w : World} (h : RecAt b e q k N O M t u w) (hne : b ≠ g) (x0 x1 x2 : Value) (y : ByteArray) : RecAt b e q k y O M t u (stepW w g b 3 x0 x1 x2 (.string y)) :=
  (h.kept (put3_block w hne x0 x1 x2)).set3 y
theorem RecAt.set4 {b : Nat} {e q k : Int} {N O M : ByteArray} {t u : Int} {w : World} (h : RecAt b e q k N O M t u w) (y : ByteArray) : RecAt b e q k N y M t u (w.setCell ⟨b, 4, none⟩ (.string y)) :=
  ⟨by rw [World.cell?_setCell_other _ _ _ _ (by simp)]; exact h.c0, by rw [World.cell?_setCell_other _ _ _ _ (by simp)]; exact h.c1, by rw [World.cell?_setCell_other _ _ _ _ (by simp)]; exact h.c2, by rw [World.cell?_setCell_other _ _ _ _ (by simp)]; exact h.c3, World.cell?_setCell_same _ _ _ h.c4, by rw [World.cell?_setCell_other _ _ _ _ (by simp)]; exact h.c5, by rw [World.cell?_setCell_other _ _ _ _ (by simp)]; exact h.c6, by rw [World.cell?_setCell_other _ _ _ _ (by simp)]; exact h.c7, fun o => by rw [World.frozen?_setCell]; exact h.fz o⟩
theorem RecAt.step4 {b g : Nat} {e q k : Int} {N O M : ByteArray} {t u : Int} {w : World} (h : RecAt b e q k N O M t u w) (hne : b ≠ g) (x0 x1 x2 : Value) (y : ByteArray) : RecAt b e q k N y M t u (stepW w g b 4 x0 x1 x2 (.string y)) :=
  (h.kept (put3_block w hne x0 x1 x2)).set4 y
theorem RecAt.set5 {b : Nat} {e q k : Int} {N O M : ByteArray} {t u : Int} {w : World} (h : RecAt b e q k N O M t u w) (y : ByteArray) : RecAt b e q k N O y t u (w.setCell ⟨b, 5, none⟩ (.string y)) :=
  ⟨by rw [World.cell?_setCell_other _ _ _ _ (by simp)]; exact h.c0, by rw [World.cell?_setCell_other _ _ _ _ (by simp)]; exact h.c1, by rw [World.cell?_setCell_other _ _ _ _ (by simp)]; exact h.c2, by rw [World.cell?_setCell_other _ _ _ _ (by simp)]; exact h.c3, by rw [World.cell?_setCell_other _ _ _ _ (by simp)]; exact h.c4, World.cell?_setCell_same _ _ _ h.c5, by rw [World.cell?_setCell_other _ _ _ _ (by simp)]; exact h.c6, by rw [World.cell?_setCell_other _ _ _ _ (by simp)]; exact h.c7, fun o => by rw [World.frozen?_setCell]; exact h.fz o⟩
theorem RecAt.step5 {b g : Nat} {e q k : Int} {N O M : ByteArray} {t u : Int} {w : World} (h : RecAt b e q k N O M t u w) (hne : b ≠ g) (x0 x1 x2 : Value) (y : ByteArray) : RecAt b e q k N O y t u (stepW w g b 5 x0 x1 x2 (.string y)) :=
  (h.kept (put3_block w hne x0 x1 x2)).set5 y
theorem RecAt.set6 {b : Nat} {e q k : Int} {N O M : ByteArray} {t u : Int} {w : World} (h : RecAt b e q k N O M t u w) (y : Int) : RecAt b e q k N O M y u (w.setCell ⟨b, 6, none⟩ (.int .i64 y)) :=
  ⟨by rw [World.cell?_setCell_other _ _ _ _ (by simp)]; exact h.c0, by rw [World.cell?_setCell_other _ _ _ _ (by simp)]; exact h.c1, by rw [World.cell?_setCell_other _ _ _ _ (by simp)]; exact h.c2, by rw [World.cell?_setCell_other _ _ _ _ (by simp)]; exact h.c3, by rw [World.cell?_setCell_other _ _ _ _ (by simp)]; exact h.c4, by rw [World.cell?_setCell_other _ _ _ _ (by simp)]; exact h.c5, World.cell?_setCell_same _ _ _ h.c6, by rw [World.cell?_setCell_other _ _ _ _ (by simp)]; exact h.c7, fun o => by rw [World.frozen?_setCell]; exact h.fz o⟩
theorem RecAt.step6 {b g : Nat} {e q k : Int} {N O M : ByteArray} {t u : Int} {w : World} (h : RecAt b e q k N O M t u w) (hne : b ≠ g) (x0 x1 x2 : Value) (y : Int) : RecAt b e q k N O M y u (stepW w g b 6 x0 x1 x2 (.int .i64 y)) :=
  (h.kept (put3_block w hne x0 x1 x2)).set6 y
theorem RecAt.set7 {b : Nat} {e q k : Int} {N O M : ByteArray} {t u : Int} {w : World} (h : RecAt b e q k N O M t u w) (y : Int) : RecAt b e q k N O M t y (w.setCell ⟨b, 7, none⟩ (.int .i64 y)) :=
  ⟨by rw [World.cell?_setCell_other _ _ _ _ (by simp)]; exact h.c0, by rw [World.cell?_setCell_other _ _ _ _ (by simp)]; exact h.c1, by rw [World.cell?_setCell_other _ _ _ _ (by simp)]; exact h.c2, by rw [World.cell?_setCell_other _ _ _ _ (by simp)]; exact h.c3, by rw [World.cell?_setCell_other _ _ _ _ (by simp)]; exact h.c4, by rw [World.cell?_setCell_other _ _ _ _ (by simp)]; exact h.c5, by rw [World.cell?_setCell_other _ _ _ _ (by simp)]; exact h.c6, World.cell?_setCell_same _ _ _ h.c7, fun o => by rw [World.frozen?_setCell]; exact h.fz o⟩
theorem RecAt.step7 {b g : Nat} {e q k : Int} {N O M : ByteArray} {t u : Int} {w : World} (h : RecAt b e q k N O M t u w) (hne : b ≠ g) (x0 x1 x2 : Value) (y : Int) : RecAt b e q k N O M t y (stepW w g b 7 x0 x1 x2 (.int .i64 y)) :=
  (h.kept (put3_block w hne x0 x1 x2)).set7 y
set_option maxHeartbeats 3200000 in
theorem refRecTake_none (s : ByteArray) (w : World) (hs : s.size ≤ 1048576) (h : Pl.Seat.bare s.data.toList = none) :
    Calls Tryz.prog 74 #[.string s] w fun x w' => x = .returned (.tuple #[.agg #[.int .i64 0, .int .i64 0, .int .i64 0, .string ⟨#[]⟩, .string ⟨#[]⟩, .string ⟨#[]⟩, .int .i64 0, .int .i64 0], .bool false]) ∧ Below w.heap.size w w' := by
  have HB := Lib.hid (fun w => refBare_at s none w hs h)
  simp only [Option.getD, Option.isSome] at HB
  clear h
  go_enter Tryz.func74, Tryz.ntmps74
  go_wp2_with fail
  refine (HB.out _).mono ?_
  rintro z w1 ⟨rfl, hB1⟩
  have q0 := (Below.refl w.heap.size w).alloc (Nat.le_refl _) (.cells #[.int .i64 0, .int .i64 0, .int .i64 0, .string ⟨#[]⟩, .string ⟨#[]⟩, .string ⟨#[]⟩, .int .i64 0, .int .i64 0] 24)
  have q1 := q0.then' hB1 (by simp)
  have C1 := (Cell8.new w (.int .i64 0) (.int .i64 0) (.int .i64 0) (.string ⟨#[]⟩) (.string ⟨#[]⟩) (.string ⟨#[]⟩) (.int .i64 0) (.int .i64 0) 24).after hB1
  clear q0 hB1
  obtain ⟨k0, k1, k2, k3, k4, k5, k6, k7, x0, x1, x2, x3, x4, x5, x6, x7, y0, y1, y2, y3, y4, y5, y6, y7⟩ := C1.stored
  have y8 := C1.2
  go_wp2_with fail
  refine bodyPost_ret (by simp [results, Tryz.results74, k0, k1, k2, k3, k4, k5, k6, k7, go_sem]; try rfl) rfl ?_
  exact ⟨rfl, below_eight q1 (Nat.le_refl _) _ _ _ _ _ _ _ _⟩
set_option maxHeartbeats 3200000 in
theorem refRecTake_shut (s : ByteArray) (t : List UInt8) (w : World) (hs : s.size ≤ 1048576) (h : Pl.Seat.bare s.data.toList = some t) (ho : openS tailU t = none) (htl : t.length ≤ 100000) :
    Calls Tryz.prog 74 #[.string s] w fun x w' => x = .returned (.tuple #[.agg #[.int .i64 0, .int .i64 0, .int .i64 0, .string ⟨#[]⟩, .string ⟨#[]⟩, .string ⟨#[]⟩, .int .i64 0, .int .i64 0], .bool false]) ∧ Below w.heap.size w w' := by
  have HB := Lib.hid (fun w => refBare_at s (some t) w hs h)
  have HO := Lib.hid (fun w => refOpen_bs t none w htl ho)
  simp only [Option.getD, Option.isSome] at HB HO
  clear h ho
  go_enter Tryz.func74, Tryz.ntmps74
  go_wp2_with fail
  refine (HB.out _).mono ?_
  rintro z w1 ⟨rfl, hB1⟩
  have q0 := (Below.refl w.heap.size w).alloc (Nat.le_refl _) (.cells #[.int .i64 0, .int .i64 0, .int .i64 0, .string ⟨#[]⟩, .string ⟨#[]⟩, .string ⟨#[]⟩, .int .i64 0, .int .i64 0] 24)
  have q1 := q0.then' hB1 (by simp)
  have C1 := (Cell8.new w (.int .i64 0) (.int .i64 0) (.int .i64 0) (.string ⟨#[]⟩) (.string ⟨#[]⟩) (.string ⟨#[]⟩) (.int .i64 0) (.int .i64 0) 24).after hB1
  clear q0 hB1
  go_wp2_with fail
  refine (HO.out _).mono ?_
  rintro z w2 ⟨rfl, hB2⟩
  have q2 := q1.then' hB2 (Nat.le_refl _)
  have C2 := C1.after hB2
  clear q1 C1 hB2
  obtain ⟨k0, k1, k2, k3, k4, k5, k6, k7, x0, x1, x2, x3, x4, x5, x6, x7, y0, y1, y2, y3, y4, y5, y6, y7⟩ := C2.stored
  have y8 := C2.2
  go_wp2_with fail
  refine bodyPost_ret (by simp [results, Tryz.results74, k0, k1, k2, k3, k4, k5, k6, k7, go_sem]; try rfl) rfl ?_
  exact ⟨rfl, below_eight q2 (Nat.le_refl _) _ _ _ _ _ _ _ _⟩
set_option maxHeartbeats 3200000 in
theorem refRecTake_empty (s : ByteArray) (t : List UInt8) (w : World) (hs : s.size ≤ 1048576) (h : Pl.Seat.bare s.data.toList = some t) (ho : openS tailU t = some []) (htl : t.length ≤ 100000) :
    Calls Tryz.prog 74 #[.string s] w fun x w' => x = .returned (.tuple #[.agg #[.int .i64 0, .int .i64 0, .int .i64 0, .string ⟨#[]⟩, .string ⟨#[]⟩, .string ⟨#[]⟩, .int .i64 0, .int .i64 0], .bool false]) ∧ Below w.heap.size w w' := by
  have HB := Lib.hid (fun w => refBare_at s (some t) w hs h)
  have HO := Lib.hid (fun w => refOpen_bs t (some []) w htl ho)
  simp only [Option.getD, Option.isSome] at HB HO
  have hz : ((bs []).size : Int) < 1 := by decide
  clear h ho
  go_enter Tryz.func74, Tryz.ntmps74
  go_wp2_with fail
  refine (HB.out _).mono ?_
  rintro z w1 ⟨rfl, hB1⟩
  have q0 := (Below.refl w.heap.size w).alloc (Nat.le_refl _) (.cells #[.int .i64 0, .int .i64 0, .int .i64 0, .string ⟨#[]⟩, .string ⟨#[]⟩, .string ⟨#[]⟩, .int .i64 0, .int .i64 0] 24)
  have q1 := q0.then' hB1 (by simp)
  have C1 := (Cell8.new w (.int .i64 0) (.int .i64 0) (.int .i64 0) (.string ⟨#[]⟩) (.string ⟨#[]⟩) (.string ⟨#[]⟩) (.int .i64 0) (.int .i64 0) 24).after hB1
  clear q0 hB1
  go_wp2_with fail
  refine (HO.out _).mono ?_
  rintro z w2 ⟨rfl, hB2⟩
  have q2 := q1.then' hB2 (Nat.le_refl _)
  have C2 := C1.after hB2
  clear q1 C1 hB2
  obtain ⟨k0, k1, k2, k3, k4, k5, k6, k7, x0, x1, x2, x3, x4, x5, x6, x7, y0, y1, y2, y3, y4, y5, y6, y7⟩ := C2.stored
  have y8 := C2.2
  go_wp2_with fail
  refine bodyPost_ret (by simp [results, Tryz.results74, k0, k1, k2, k3, k4, k5, k6, k7, go_sem]; try rfl) rfl ?_
  exact ⟨rfl, below_eight q2 (Nat.le_refl _) _ _ _ _ _ _ _ _⟩
set_option maxHeartbeats 6400000 in
theorem refRecTake_read (s : ByteArray) (t x : List UInt8) (w : World) (hs : s.size ≤ 1048576) (h : Pl.Seat.bare s.data.toList = some t) (ho : openS tailU t = some x) (htl : t.length ≤ 100000) (hxl : x.length ≤ 1048576) (hx1 : 1 ≤ x.length)
    (n1 n2 n3 n7 n8 : Nat) (L4 L5 L6 : List UInt8) (s0 s1 s2 s3 s4 s5 s6 s7 s8 : Option (List UInt8)) (hs0 : some (x.drop 1) = s0)
    (hn1 : numV 4294967296 s0 = n1) (hs1 : numR 4294967296 s0 = s1) (hn2 : numV 4294967296 s1 = n2) (hs2 : numR 4294967296 s1 = s2) (hn3 : numV 4294967296 s2 = n3) (hs3 : numR 4294967296 s2 = s3) (hn4 : txtV 128 s3 = L4) (hs4 : txtR 128 s3 = s4) (hn5 : txtV 128 s4 = L5) (hs5 : txtR 128 s4 = s5) (hn6 : txtV 128 s5 = L6) (hs6 : txtR 128 s5 = s6) (hn7 : numV 4294967296 s6 = n7) (hs7 : numR 4294967296 s6 = s7) (hn8 : numV 4294967296 s7 = n8) (hs8 : numR 4294967296 s7 = s8) (r : Bool) (hr : isR ⟨n1, n2, n3, L4, L5, L6, n7, n8⟩ = r) (P : List UInt8) (hP : putRV ⟨n1, n2, n3, L4, L5, L6, n7, n8⟩ = P) (z4 : L4.length ≤ 128) :
    Calls Tryz.prog 74 #[.string s] w fun e w' => e = .returned (if s8 ≠ none ∧ r = true ∧ P = s.data.toList then .tuple #[.agg #[.int .i64 n1, .int .i64 n2, .int .i64 n3, .string (bs L4), .string (bs L5), .string (bs L6), .int .i64 n7, .int .i64 n8], .bool true] else .tuple #[.agg #[.int .i64 0, .int .i64 0, .int .i64 0, .string ⟨#[]⟩, .string ⟨#[]⟩, .string ⟨#[]⟩, .int .i64 0, .int .i64 0], .bool false]) ∧ Below w.heap.size w w' := by
  have HB := Lib.hid (fun w => refBare_at s (some t) w hs h)
  have HO := Lib.hid (fun w => refOpen_bs t (some x) w htl ho)
  simp only [Option.getD, Option.isSome] at HB HO
  have hxe : (bs x).extract 1 (bs x).size = bs (x.drop 1) := by
    rw [← bs_of ((bs x).extract 1 (bs x).size), extract_list, bs_list, List.take_of_length_le (by simp [bs_size])]
  have hxs : (1 : Int) ≤ ((bs x).size : Int) := by rw [bs_size]; omega
  have hS0 : Hid (RSc (bs (x.drop 1)) (.agg #[.string (bs (x.drop 1)), .int .i64 0, .int .i64 0]) (some (x.drop 1))) := ⟨0, 0, rfl, by rw [bs_size]; simp; omega, by omega, by omega, by simp [bs_list]⟩
  rw [hs0] at hS0
  generalize bs (x.drop 1) = S at hxe hS0
  have HN1 := Lib.hid (fun v w h => refNum_any S v s0 4294967296 w h (by omega))
  rw [hn1, hs1] at HN1
  have HN2 := Lib.hid (fun v w h => refNum_any S v s1 4294967296 w h (by omega))
  rw [hn2, hs2] at HN2
  have HN3 := Lib.hid (fun v w h => refNum_any S v s2 4294967296 w h (by omega))
  rw [hn3, hs3] at HN3
  have HN4 := Lib.hid (fun v w h => refText_any S v s3 128 w h (by omega))
  rw [hn4, hs4] at HN4
  have HN5 := Lib.hid (fun v w h => refText_any S v s4 128 w h (by omega))
  rw [hn5, hs5] at HN5
  have HN6 := Lib.hid (fun v w h => refText_any S v s5 128 w h (by omega))
  rw [hn6, hs6] at HN6
  have HN7 := Lib.hid (fun v w h => refNum_any S v s6 4294967296 w h (by omega))
  rw [hn7, hs7] at HN7
  have HN8 := Lib.hid (fun v w h => refNum_any S v s7 4294967296 w h (by omega))
  rw [hn8, hs8] at HN8
  have HIS := Lib.hid (fun w => refRec_at n1 n2 n3 (bs L4) (bs L5) (bs L6) n7 n8 r w (by rw [bs_size]; omega) (by rw [← hr]; unfold rc; rw [bs_list, bs_list, bs_list]))
  have HPT := Lib.hid (fun w => refRecPut_at n1 n2 n3 (bs L4) (bs L5) (bs L6) n7 n8 P w (by rw [bs_size]; omega) (by rw [← hP]; unfold rc; rw [bs_list, bs_list, bs_list]))
  clear h ho hs0 hn1 hs1 hn2 hs2 hn3 hs3 hn4 hs4 hn5 hs5 hn6 hs6 hn7 hs7 hn8 hs8 hr hP hx1
  obtain ⟨RES, hres⟩ : ∃ v, (if s8 ≠ none ∧ r = true ∧ P = s.data.toList then (Value.tuple #[.agg #[.int .i64 n1, .int .i64 n2, .int .i64 n3, .string (bs L4), .string (bs L5), .string (bs L6), .int .i64 n7, .int .i64 n8], .bool true]) else .tuple #[.agg #[.int .i64 0, .int .i64 0, .int .i64 0, .string ⟨#[]⟩, .string ⟨#[]⟩, .string ⟨#[]⟩, .int .i64 0, .int .i64 0], .bool false]) = v := ⟨_, rfl⟩
  rw [hres]
  have HRES := Lib.hid hres
  clear hres
  go_enter Tryz.func74, Tryz.ntmps74
  go_wp2_with fail
  refine (HB.out _).mono ?_
  rintro z w1 ⟨rfl, hB1⟩
  have q0 := (Below.refl w.heap.size w).alloc (Nat.le_refl _) (.cells #[.int .i64 0, .int .i64 0, .int .i64 0, .string ⟨#[]⟩, .string ⟨#[]⟩, .string ⟨#[]⟩, .int .i64 0, .int .i64 0] 24)
  have q1 := q0.then' hB1 (by simp)
  have C1 := (Cell8.new w (.int .i64 0) (.int .i64 0) (.int .i64 0) (.string ⟨#[]⟩) (.string ⟨#[]⟩) (.string ⟨#[]⟩) (.int .i64 0) (.int .i64 0) 24).after hB1
  clear q0 hB1
  go_wp2_with fail
  refine (HO.out _).mono ?_
  rintro z w2 ⟨rfl, hB2⟩
  have q2 := q1.then' hB2 (Nat.le_refl _)
  have C2 := C1.after hB2
  clear q1 C1 hB2
  have A3 := C2.alloc (.cells #[.int .i64 0, .int .i64 0, .int .i64 0, .string ⟨#[]⟩, .string ⟨#[]⟩, .string ⟨#[]⟩, .int .i64 0, .int .i64 0] 24)
  have R3 := RecAt.new w2 0 0 0 ⟨#[]⟩ ⟨#[]⟩ ⟨#[]⟩ 0 0 24
  have q3 := q2.alloc q2.size (.cells #[.int .i64 0, .int .i64 0, .int .i64 0, .string ⟨#[]⟩, .string ⟨#[]⟩, .string ⟨#[]⟩, .int .i64 0, .int .i64 0] 24)
  have hwp : w.heap.size ≠ w2.heap.size := Nat.ne_of_lt C2.lt
  have hlp : w.heap.size ≤ w2.heap.size := q2.size
  clear C2 q2
  go_upto_region 8 with fail
  generalize w2.heap.size = p at R3 hwp hlp ⊢
  generalize w2.alloc (.cells #[.int .i64 0, .int .i64 0, .int .i64 0, .string ⟨#[]⟩, .string ⟨#[]⟩, .string ⟨#[]⟩, .int .i64 0, .int .i64 0] 24) = w3 at A3 R3 q3 ⊢
  have A4 := A3.alloc (.cells #[.string S, .int .i64 0, .int .i64 0] 149)
  have R4 := R3.alloc (.cells #[.string S, .int .i64 0, .int .i64 0] 149)
  have D4 : Sc3 w3.heap.size S 0 0 (w3.alloc (.cells #[.string S, .int .i64 0, .int .i64 0] 149)) := Sc3.new w3 S 0 0 149
  have q4 := q3.alloc q3.size (.cells #[.string S, .int .i64 0, .int .i64 0] 149)
  have hwg : w.heap.size ≠ w3.heap.size := Nat.ne_of_lt A3.lt
  have hlg : w.heap.size ≤ w3.heap.size := q3.size
  have hpg : p ≠ w3.heap.size := Nat.ne_of_lt R3.lt
  have hgp : w3.heap.size ≠ p := Ne.symm hpg
  clear A3 R3 q3
  go_upto_region 9 with fail
  generalize w3.heap.size = g at D4 hwg hlg hpg hgp ⊢
  generalize w3.alloc (.cells #[.string S, .int .i64 0, .int .i64 0] 149) = w4 at A4 R4 D4 q4 ⊢
  obtain ⟨d0, d1, d2, d3⟩ := id D4
  go_wp2_with fail
  refine (HN1.out _ _ hS0.out).mono ?_
  rintro z w5 ⟨v5, rfl, ⟨a5, e5, rfl, g5⟩, hB5⟩
  have q5 := q4.then' hB5 (Nat.le_refl _)
  have A5 := A4.after hB5
  have R5 := R4.after hB5
  have D5 := D4.after hB5
  clear q4 A4 R4 D4 hB5 d0 d1 d2 d3
  obtain ⟨d0, d1, d2, d3⟩ := id D5
  obtain ⟨c0, c1, c2, c3, c4, c5, c6, c7, c8⟩ := id R5
  obtain ⟨k0, k1, k2⟩ := stored3 (three d0 d1 d2)
  have D6 := stepW_sc D5 hgp 0 S a5 e5 (.int .i64 n1)
  have A6 := A5.kept (stepW_block w5 hwg hwp 0 (.string S) (.int .i64 a5) (.int .i64 e5) (.int .i64 n1))
  have R6 := R5.step0 hpg (.string S) (.int .i64 a5) (.int .i64 e5) n1
  have q6 := below_stepW q5 hlg hlp 0 (.string S) (.int .i64 a5) (.int .i64 e5) (.int .i64 n1)
  go_wp2_with fail
  change Calls _ _ _ (stepW w5 g p 0 (.string S) (.int .i64 a5) (.int .i64 e5) (.int .i64 n1)) _
  generalize stepW w5 g p 0 (.string S) (.int .i64 a5) (.int .i64 e5) (.int .i64 n1) = w6 at D6 A6 R6 q6 ⊢
  clear k0 k1 k2 d0 d1 d2 d3 c0 c1 c2 c3 c4 c5 c6 c7 c8 D5 A5 R5 q5
  refine (HN2.out _ _ ⟨a5, e5, rfl, g5⟩).mono ?_
  rintro z w7 ⟨v7, rfl, ⟨a7, e7, rfl, g7⟩, hB7⟩
  clear g5
  have q7 := q6.then' hB7 (Nat.le_refl _)
  have A7 := A6.after hB7
  have R7 := R6.after hB7
  have D7 := D6.after hB7
  clear q6 A6 R6 D6 hB7
  obtain ⟨d0, d1, d2, d3⟩ := id D7
  obtain ⟨c0, c1, c2, c3, c4, c5, c6, c7, c8⟩ := id R7
  obtain ⟨k0, k1, k2⟩ := stored3 (three d0 d1 d2)
  have D8 := stepW_sc D7 hgp 1 S a7 e7 (.int .i64 n2)
  have A8 := A7.kept (stepW_block w7 hwg hwp 1 (.string S) (.int .i64 a7) (.int .i64 e7) (.int .i64 n2))
  have R8 := R7.step1 hpg (.string S) (.int .i64 a7) (.int .i64 e7) n2
  have q8 := below_stepW q7 hlg hlp 1 (.string S) (.int .i64 a7) (.int .i64 e7) (.int .i64 n2)
  go_wp2_with fail
  change Calls _ _ _ (stepW w7 g p 1 (.string S) (.int .i64 a7) (.int .i64 e7) (.int .i64 n2)) _
  generalize stepW w7 g p 1 (.string S) (.int .i64 a7) (.int .i64 e7) (.int .i64 n2) = w8 at D8 A8 R8 q8 ⊢
  clear k0 k1 k2 d0 d1 d2 d3 c0 c1 c2 c3 c4 c5 c6 c7 c8 D7 A7 R7 q7
  refine (HN3.out _ _ ⟨a7, e7, rfl, g7⟩).mono ?_
  rintro z w9 ⟨v9, rfl, ⟨a9, e9, rfl, g9⟩, hB9⟩
  clear g7
  have q9 := q8.then' hB9 (Nat.le_refl _)
  have A9 := A8.after hB9
  have R9 := R8.after hB9
  have D9 := D8.after hB9
  clear q8 A8 R8 D8 hB9
  obtain ⟨d0, d1, d2, d3⟩ := id D9
  obtain ⟨c0, c1, c2, c3, c4, c5, c6, c7, c8⟩ := id R9
  obtain ⟨k0, k1, k2⟩ := stored3 (three d0 d1 d2)
  have D10 := stepW_sc D9 hgp 2 S a9 e9 (.int .i64 n3)
  have A10 := A9.kept (stepW_block w9 hwg hwp 2 (.string S) (.int .i64 a9) (.int .i64 e9) (.int .i64 n3))
  have R10 := R9.step2 hpg (.string S) (.int .i64 a9) (.int .i64 e9) n3
  have q10 := below_stepW q9 hlg hlp 2 (.string S) (.int .i64 a9) (.int .i64 e9) (.int .i64 n3)
  go_wp2_with fail
  change Calls _ _ _ (stepW w9 g p 2 (.string S) (.int .i64 a9) (.int .i64 e9) (.int .i64 n3)) _
  generalize stepW w9 g p 2 (.string S) (.int .i64 a9) (.int .i64 e9) (.int .i64 n3) = w10 at D10 A10 R10 q10 ⊢
  clear k0 k1 k2 d0 d1 d2 d3 c0 c1 c2 c3 c4 c5 c6 c7 c8 D9 A9 R9 q9
  refine (HN4.out _ _ ⟨a9, e9, rfl, g9⟩).mono ?_
  rintro z w11 ⟨v11, rfl, ⟨a11, e11, rfl, g11⟩, hB11⟩
  clear g9
  have q11 := q10.then' hB11 (Nat.le_refl _)
  have A11 := A10.after hB11
  have R11 := R10.after hB11
  have D11 := D10.after hB11
  clear q10 A10 R10 D10 hB11
  obtain ⟨d0, d1, d2, d3⟩ := id D11
  obtain ⟨c0, c1, c2, c3, c4, c5, c6, c7, c8⟩ := id R11
  obtain ⟨k0, k1, k2⟩ := stored3 (three d0 d1 d2)
  have D12 := stepW_sc D11 hgp 3 S a11 e11 (.string (bs L4))
  have A12 := A11.kept (stepW_block w11 hwg hwp 3 (.string S) (.int .i64 a11) (.int .i64 e11) (.string (bs L4)))
  have R12 := R11.step3 hpg (.string S) (.int .i64 a11) (.int .i64 e11) (bs L4)
  have q12 := below_stepW q11 hlg hlp 3 (.string S) (.int .i64 a11) (.int .i64 e11) (.string (bs L4))
  go_wp2_with fail
  change Calls _ _ _ (stepW w11 g p 3 (.string S) (.int .i64 a11) (.int .i64 e11) (.string (bs L4))) _
  generalize stepW w11 g p 3 (.string S) (.int .i64 a11) (.int .i64 e11) (.string (bs L4)) = w12 at D12 A12 R12 q12 ⊢
  clear k0 k1 k2 d0 d1 d2 d3 c0 c1 c2 c3 c4 c5 c6 c7 c8 D11 A11 R11 q11
  refine (HN5.out _ _ ⟨a11, e11, rfl, g11⟩).mono ?_
  rintro z w13 ⟨v13, rfl, ⟨a13, e13, rfl, g13⟩, hB13⟩
  clear g11
  have q13 := q12.then' hB13 (Nat.le_refl _)
  have A13 := A12.after hB13
  have R13 := R12.after hB13
  have D13 := D12.after hB13
  clear q12 A12 R12 D12 hB13
  obtain ⟨d0, d1, d2, d3⟩ := id D13
  obtain ⟨c0, c1, c2, c3, c4, c5, c6, c7, c8⟩ := id R13
  obtain ⟨k0, k1, k2⟩ := stored3 (three d0 d1 d2)
  have D14 := stepW_sc D13 hgp 4 S a13 e13 (.string (bs L5))
  have A14 := A13.kept (stepW_block w13 hwg hwp 4 (.string S) (.int .i64 a13) (.int .i64 e13) (.string (bs L5)))
  have R14 := R13.step4 hpg (.string S) (.int .i64 a13) (.int .i64 e13) (bs L5)
  have q14 := below_stepW q13 hlg hlp 4 (.string S) (.int .i64 a13) (.int .i64 e13) (.string (bs L5))
  go_wp2_with fail
  change Calls _ _ _ (stepW w13 g p 4 (.string S) (.int .i64 a13) (.int .i64 e13) (.string (bs L5))) _
  generalize stepW w13 g p 4 (.string S) (.int .i64 a13) (.int .i64 e13) (.string (bs L5)) = w14 at D14 A14 R14 q14 ⊢
  clear k0 k1 k2 d0 d1 d2 d3 c0 c1 c2 c3 c4 c5 c6 c7 c8 D13 A13 R13 q13
  refine (HN6.out _ _ ⟨a13, e13, rfl, g13⟩).mono ?_
  rintro z w15 ⟨v15, rfl, ⟨a15, e15, rfl, g15⟩, hB15⟩
  clear g13
  have q15 := q14.then' hB15 (Nat.le_refl _)
  have A15 := A14.after hB15
  have R15 := R14.after hB15
  have D15 := D14.after hB15
  clear q14 A14 R14 D14 hB15
  obtain ⟨d0, d1, d2, d3⟩ := id D15
  obtain ⟨c0, c1, c2, c3, c4, c5, c6, c7, c8⟩ := id R15
  obtain ⟨k0, k1, k2⟩ := stored3 (three d0 d1 d2)
  have D16 := stepW_sc D15 hgp 5 S a15 e15 (.string (bs L6))
  have A16 := A15.kept (stepW_block w15 hwg hwp 5 (.string S) (.int .i64 a15) (.int .i64 e15) (.string (bs L6)))
  have R16 := R15.step5 hpg (.string S) (.int .i64 a15) (.int .i64 e15) (bs L6)
  have q16 := below_stepW q15 hlg hlp 5 (.string S) (.int .i64 a15) (.int .i64 e15) (.string (bs L6))
  go_wp2_with fail
  change Calls _ _ _ (stepW w15 g p 5 (.string S) (.int .i64 a15) (.int .i64 e15) (.string (bs L6))) _
  generalize stepW w15 g p 5 (.string S) (.int .i64 a15) (.int .i64 e15) (.string (bs L6)) = w16 at D16 A16 R16 q16 ⊢
  clear k0 k1 k2 d0 d1 d2 d3 c0 c1 c2 c3 c4 c5 c6 c7 c8 D15 A15 R15 q15
  refine (HN7.out _ _ ⟨a15, e15, rfl, g15⟩).mono ?_
  rintro z w17 ⟨v17, rfl, ⟨a17, e17, rfl, g17⟩, hB17⟩
  clear g15
  have q17 := q16.then' hB17 (Nat.le_refl _)
  have A17 := A16.after hB17
  have R17 := R16.after hB17
  have D17 := D16.after hB17
  clear q16 A16 R16 D16 hB17
  obtain ⟨d0, d1, d2, d3⟩ := id D17
  obtain ⟨c0, c1, c2, c3, c4, c5, c6, c7, c8⟩ := id R17
  obtain ⟨k0, k1, k2⟩ := stored3 (three d0 d1 d2)
  have D18 := stepW_sc D17 hgp 6 S a17 e17 (.int .i64 n7)
  have A18 := A17.kept (stepW_block w17 hwg hwp 6 (.string S) (.int .i64 a17) (.int .i64 e17) (.int .i64 n7))
  have R18 := R17.step6 hpg (.string S) (.int .i64 a17) (.int .i64 e17) n7
  have q18 := below_stepW q17 hlg hlp 6 (.string S) (.int .i64 a17) (.int .i64 e17) (.int .i64 n7)
  go_wp2_with fail
  change Calls _ _ _ (stepW w17 g p 6 (.string S) (.int .i64 a17) (.int .i64 e17) (.int .i64 n7)) _
  generalize stepW w17 g p 6 (.string S) (.int .i64 a17) (.int .i64 e17) (.int .i64 n7) = w18 at D18 A18 R18 q18 ⊢
  clear k0 k1 k2 d0 d1 d2 d3 c0 c1 c2 c3 c4 c5 c6 c7 c8 D17 A17 R17 q17
  refine (HN8.out _ _ ⟨a17, e17, rfl, g17⟩).mono ?_
  rintro z w19 ⟨v19, rfl, ⟨a19, e19, rfl, g19⟩, hB19⟩
  clear g17
  have q19 := q18.then' hB19 (Nat.le_refl _)
  have A19 := A18.after hB19
  have R19 := R18.after hB19
  have D19 := D18.after hB19
  clear q18 A18 R18 D18 hB19
  obtain ⟨d0, d1, d2, d3⟩ := id D19
  obtain ⟨c0, c1, c2, c3, c4, c5, c6, c7, c8⟩ := id R19
  obtain ⟨k0, k1, k2⟩ := stored3 (three d0 d1 d2)
  have D20 := stepW_sc D19 hgp 7 S a19 e19 (.int .i64 n8)
  have A20 := A19.kept (stepW_block w19 hwg hwp 7 (.string S) (.int .i64 a19) (.int .i64 e19) (.int .i64 n8))
  have R20 := R19.step7 hpg (.string S) (.int .i64 a19) (.int .i64 e19) n8
  have q20 := below_stepW q19 hlg hlp 7 (.string S) (.int .i64 a19) (.int .i64 e19) (.int .i64 n8)
  obtain ⟨_, _, _, hst⟩ := g19
  go_upto_region 17 with fail
  unfold stepW put3 at D20 A20 R20 q20
  generalize (((w19.setCell ⟨g, 0, none⟩ (.string S)).setCell ⟨g, 1, none⟩ (.int .i64 a19)).setCell ⟨g, 2, none⟩ (.int .i64 e19)).setCell ⟨p, 7, none⟩ (.int .i64 n8) = w20 at D20 A20 R20 q20 ⊢
  clear k0 k1 k2 d0 d1 d2 d3 c0 c1 c2 c3 c4 c5 c6 c7 c8 D19 A19 R19 q19
  obtain ⟨d0, d1, d2, d3⟩ := id D20
  obtain ⟨c0, c1, c2, c3, c4, c5, c6, c7, c8⟩ := id R20
  by_cases he : e19 = 0
  · rw [if_pos he] at hst
    subst he
    have hsn : s8 ≠ none := by rw [hst]; simp
    go_wp2_with fail
    refine (HIS.out _).mono ?_
    rintro z w30 ⟨rfl, hB30⟩
    have q30 := q20.then' hB30 (Nat.le_refl _)
    have A30 := A20.after hB30
    have R30 := R20.after hB30
    clear q20 A20 R20 D20 hB30 d0 d1 d2 d3 c0 c1 c2 c3 c4 c5 c6 c7 c8
    obtain ⟨c0, c1, c2, c3, c4, c5, c6, c7, c8⟩ := id R30
    cases r
    · skip
      obtain ⟨k0, k1, k2, k3, k4, k5, k6, k7, x0, x1, x2, x3, x4, x5, x6, x7, y0, y1, y2, y3, y4, y5, y6, y7⟩ := A30.stored
      have y8 := A30.2
      go_wp2_with fail
      refine bodyPost_ret (by simp [results, Tryz.results74, k0, k1, k2, k3, k4, k5, k6, k7, go_sem]; try rfl) rfl ?_
      exact ⟨by rw [← HRES.out, if_neg (by simp)], below_eight q30 (Nat.le_refl _) _ _ _ _ _ _ _ _⟩
    · go_wp2_with fail
      refine (HPT.out _).mono ?_
      rintro z w31 ⟨rfl, hB31⟩
      have q31 := q30.then' hB31 (Nat.le_refl _)
      have A31 := A30.after hB31
      have R31 := R30.after hB31
      clear q30 A30 R30 hB31 c0 c1 c2 c3 c4 c5 c6 c7 c8
      obtain ⟨c0, c1, c2, c3, c4, c5, c6, c7, c8⟩ := id R31
      by_cases hps : P = s.data.toList
      · have htt : ((bs P).toList == s.toList) = true := by rw [bs_toList, hps, ByteArray.toList_eq]; simp
        have HPS := Lib.hid hps
        clear hps
        obtain ⟨k0, k1, k2, k3, k4, k5, k6, k7, x0, x1, x2, x3, x4, x5, x6, x7, y0, y1, y2, y3, y4, y5, y6, y7⟩ := A31.stored
        have y8 := A31.2
        go_wp2_with fail
        refine bodyPost_ret (by simp [results, Tryz.results74, k0, k1, k2, k3, k4, k5, k6, k7, go_sem]; try rfl) rfl ?_
        exact ⟨by rw [← HRES.out, if_pos (by refine ⟨hsn, ?_, HPS.out⟩; simp)], below_eight q31 (Nat.le_refl _) _ _ _ _ _ _ _ _⟩
      · have htt : ((bs P).toList == s.toList) = false := by rw [bs_toList, ByteArray.toList_eq]; simpa using hps
        obtain ⟨k0, k1, k2, k3, k4, k5, k6, k7, x0, x1, x2, x3, x4, x5, x6, x7, y0, y1, y2, y3, y4, y5, y6, y7⟩ := A31.stored
        have y8 := A31.2
        go_wp2_with fail
        refine bodyPost_ret (by simp [results, Tryz.results74, k0, k1, k2, k3, k4, k5, k6, k7, go_sem]; try rfl) rfl ?_
        exact ⟨by rw [← HRES.out, if_neg (fun h => hps h.2.2)], below_eight q31 (Nat.le_refl _) _ _ _ _ _ _ _ _⟩
  · rw [if_neg he] at hst
    have hen : ((e19 : Int) == 0) = false := by simp; omega
    have hen2 : ((e19 : Int) != 0) = true := by simpa using hen
    obtain ⟨k0, k1, k2, k3, k4, k5, k6, k7, x0, x1, x2, x3, x4, x5, x6, x7, y0, y1, y2, y3, y4, y5, y6, y7⟩ := A20.stored
    have y8 := A20.2
    go_wp2_with fail
    refine bodyPost_ret (by simp [results, Tryz.results74, k0, k1, k2, k3, k4, k5, k6, k7, go_sem]; try rfl) rfl ?_
    exact ⟨by rw [← HRES.out, if_neg (fun h => h.1 hst)], below_eight q20 (Nat.le_refl _) _ _ _ _ _ _ _ _⟩
theorem refRecTake_any (s : ByteArray) (w : World) (hs : s.size ≤ 1048576) :
    Calls Tryz.prog 74 #[.string s] w fun e w' => e = .returned (.tuple #[recV (takeRV s.data.toList), .bool (takeRB s.data.toList)]) ∧ Below w.heap.size w w' := by
  unfold takeRV takeRB
  rw [← Pl.Seat.refTakeR_eq tailU tailU_len]
  unfold Pl.Seat.refTakeR Pl.Seat.textOf
  cases hb : Pl.Seat.bare s.data.toList with
  | none => exact refRecTake_none s w hs hb
  | some t =>
    have htl := bare_short hb
    simp only [Option.bind_some]
    cases ho : openS tailU t with
    | none => exact refRecTake_shut s t w hs hb ho (by omega)
    | some x =>
      have hxl := openS_short ho
      simp only
      by_cases h1 : 1 ≤ x.length
      · obtain ⟨p, hP⟩ : ∃ p, Pl.Seat.r8 4294967296 4294967296 4294967296 128 128 128 4294967296 4294967296 (some (x.drop 1)) = p := ⟨_, rfl⟩
        obtain ⟨X, st⟩ := p
        have hR : ∀ r P, isR X = r → putRV X = P → Calls Tryz.prog 74 #[.string s] w fun e w' => e = .returned (if st ≠ none ∧ r = true ∧ P = s.data.toList then .tuple #[recV X, .bool true] else .tuple #[recV Pl.Seat.Rec.zero, .bool false]) ∧ Below w.heap.size w w' := by
          unfold Pl.Seat.r8 at hP
          simp only [Prod.mk.injEq] at hP
          obtain ⟨rfl, rfl⟩ := hP
          intro r P hr hP
          exact refRecTake_read s t x w hs hb ho (by omega) (by omega) h1 _ _ _ _ _ _ _ _ _ _ _ _ _ _ _ _ _ rfl rfl rfl rfl rfl rfl rfl rfl rfl rfl rfl rfl rfl rfl rfl rfl rfl r hr P hP (txtV_le _ _ (by omega))
        have := hR _ _ rfl rfl
        rw [hP]
        simp only
        by_cases hc : st ≠ none ∧ isR X = true ∧ putR tailU X = s.data.toList
        · have hpv : putRV X = s.data.toList := by unfold putRV; rw [if_pos hc.2.1]; exact hc.2.2
          rw [if_pos ⟨hc.1, hc.2.1, hpv⟩] at this
          rw [if_pos ⟨h1, hc⟩]
          exact this
        · rw [if_neg (fun h => hc ⟨h.1, h.2.1, by have h3 := h.2.2; unfold putRV at h3; rw [if_pos h.2.1] at h3; exact h3⟩)] at this
          rw [if_neg (fun h => hc h.2)]
          exact this
      · rw [if_neg (fun h => h1 h.1)]
        have : x = [] := by cases x with
          | nil => rfl
          | cons c l => simp at h1
        subst this
        exact refRecTake_empty s t w hs hb ho (by omega)
theorem refTakeR_at (s : ByteArray) (X : Rec) (B : Bool) (w : World) (hs : s.size ≤ 1048576) (hX : takeRV s.data.toList = X) (hB : takeRB s.data.toList = B) :
    Calls Tryz.prog 74 #[.string s] w fun e w' => e = .returned (.tuple #[.agg #[.int .i64 X.epoch, .int .i64 X.seq, .int .i64 X.kind, .string (bs X.name), .string (bs X.old), .string (bs X.new), .int .i64 X.tail, .int .i64 X.num], .bool B]) ∧ Below w.heap.size w w' := hX ▸ hB ▸ refRecTake_any s w hs
end Go.Proofs.YtfbakelpplpomaaGreatDoor.WalkSeat
