/-
  The walk of the seat's Choose.
-/
import Derived.Test.YtalnmhlfjdocfaaDoorWalkSeatD
namespace Go.Proofs.YtalnmhlfjdocfaaDoor.WalkSeat
open Go.RowKit Go.Proofs.YtalnmhlfjdocfaaDoor.WalkVar Go.Proofs.YtalnmhlfjdocfaaDoor.WalkScan Go.Proofs.YtalnmhlfjdocfaaDoor.WalkCrc
open Pl.Seat (numV numR txtV txtR numP txtP Head isH putH openS)
set_option linter.unusedVariables false
set_option linter.unusedSimpArgs false
set_option maxRecDepth 100000

/-- a block that has a head -/
structure HeadAt (b : Nat) (H : Head) (w : World) : Prop where
  c0 : w.cell? ⟨b, 0, none⟩ = some (.int .i64 H.epoch)
  c1 : w.cell? ⟨b, 1, none⟩ = some (.int .i64 H.half)
  c2 : w.cell? ⟨b, 2, none⟩ = some (.int .i64 H.pack)
  c3 : w.cell? ⟨b, 3, none⟩ = some (.int .i64 H.num)
  fz : ∀ o, w.frozen? ⟨b, o, none⟩ = false
theorem HeadAt.lt {b : Nat} {H : Head} {w : World} (h : HeadAt b H w) : b < w.heap.size := World.block_lt_of_cell? w _ h.c0
theorem HeadAt.kept {b : Nat} {H : Head} {w w' : World} (h : HeadAt b H w) (hb : w'.heap[b]? = w.heap[b]?) : HeadAt b H w' := by
  have hc : ∀ o, w'.cell? ⟨b, o, none⟩ = w.cell? ⟨b, o, none⟩ := fun o => World.cell?_of_block (w := w) hb
  have hf : ∀ o, w'.frozen? ⟨b, o, none⟩ = w.frozen? ⟨b, o, none⟩ := fun o => World.frozen?_of_block (w := w) hb
  exact ⟨by rw [hc]; exact h.c0, by rw [hc]; exact h.c1, by rw [hc]; exact h.c2, by rw [hc]; exact h.c3, fun o => by rw [hf]; exact h.fz o⟩
theorem HeadAt.after {b : Nat} {H : Head} {w w' : World} (h : HeadAt b H w) (hB : Below w.heap.size w w') : HeadAt b H w' := h.kept (hB.block b h.lt)
theorem HeadAt.alloc {b : Nat} {H : Head} {w : World} (h : HeadAt b H w) (o : Obj) : HeadAt b H (w.alloc o) := h.kept (Below.heap_alloc w o b h.lt)
theorem HeadAt.new (w : World) (a b c d : Int) (T : TypeId) : HeadAt w.heap.size ⟨a, b, c, d⟩ (w.alloc (.cells #[.int .i64 a, .int .i64 b, .int .i64 c, .int .i64 d] T)) := ⟨by go_simp, by go_simp, by go_simp, by go_simp, fun o => by go_simp⟩
theorem HeadAt.cell4 {b : Nat} {H : Head} {w : World} (h : HeadAt b H w) : Cell4 b w := ⟨fun i hi => by
  have : i = 0 ∨ i = 1 ∨ i = 2 ∨ i = 3 := by omega
  rcases this with rfl | rfl | rfl | rfl
  · exact ⟨_, h.c0⟩
  · exact ⟨_, h.c1⟩
  · exact ⟨_, h.c2⟩
  · exact ⟨_, h.c3⟩, h.fz⟩
/-- four stores into a block -/
def put4 (w : World) (b : Nat) (x0 x1 x2 x3 : Value) : World := (((w.setCell ⟨b, 0, none⟩ x0).setCell ⟨b, 1, none⟩ x1).setCell ⟨b, 2, none⟩ x2).setCell ⟨b, 3, none⟩ x3
theorem put4_head {b : Nat} {w : World} (h : Cell4 b w) (H : Head) : HeadAt b H (put4 w b (.int .i64 H.epoch) (.int .i64 H.half) (.int .i64 H.pack) (.int .i64 H.num)) := by
  obtain ⟨k0, k1, k2, k3, _⟩ := h.stored
  unfold put4
  refine ⟨?_, ?_, ?_, k3 _ _ _ _, fun o => by rw [World.frozen?_setCell, World.frozen?_setCell, World.frozen?_setCell, World.frozen?_setCell]; exact h.2 o⟩
  · rw [World.cell?_setCell_other _ _ _ _ (by simp), World.cell?_setCell_other _ _ _ _ (by simp), World.cell?_setCell_other _ _ _ _ (by simp)]; exact k0 _
  · rw [World.cell?_setCell_other _ _ _ _ (by simp), World.cell?_setCell_other _ _ _ _ (by simp)]; exact k1 _ _
  · rw [World.cell?_setCell_other _ _ _ _ (by simp)]; exact k2 _ _ _
theorem put4_block {b c : Nat} (w : World) (hne : c ≠ b) (x0 x1 x2 x3 : Value) : (put4 w b x0 x1 x2 x3).heap[c]? = w.heap[c]? := by
  unfold put4
  rw [Below.heap_setCell _ _ _ _ hne, Below.heap_setCell _ _ _ _ hne, Below.heap_setCell _ _ _ _ hne, Below.heap_setCell _ _ _ _ hne]

theorem take_at (s : ByteArray) (H : Head) (B : Bool) (w : World) (ht : Tab w) (hs : s.size ≤ 1048576) (hH : takeV s.data.toList = H) (hB : takeB s.data.toList = B) :
    Calls Tryd.prog 25 #[.string s] w fun e w' => e = .returned (.tuple #[.agg #[.int .i64 H.epoch, .int .i64 H.half, .int .i64 H.pack, .int .i64 H.num], .int .i64 (err B 3)]) ∧ Below w.heap.size w w' := by
  have := seatTake_any s w ht hs
  rwa [hH, hB] at this
theorem take_r (s : ByteArray) (H : Head) (B : Bool) (r : Int) (w : World) (ht : Tab w) (hs : s.size ≤ 1048576) (hH : takeV s.data.toList = H) (hB : takeB s.data.toList = B) (hr : err B 3 = r) :
    Calls Tryd.prog 25 #[.string s] w fun e w' => e = .returned (.tuple #[.agg #[.int .i64 H.epoch, .int .i64 H.half, .int .i64 H.pack, .int .i64 H.num], .int .i64 r]) ∧ Below w.heap.size w w' := hr ▸ take_at s H B w ht hs hH hB
/-- is a sector's head one of the slot? -/
def okS (l : List UInt8) (i : Int) : Bool := takeB l && decide ((takeV l).epoch % 2 = i)
def best1 (l : List UInt8) : Head := if okS l 0 = true then takeV l else Pl.Seat.Head.zero
def best2 (l m : List UInt8) : Head := if okS m 1 = true ∧ (best1 l).epoch < (takeV m).epoch then takeV m else best1 l
theorem takeV_is (l : List UInt8) : (takeB l = true ∧ isH (takeV l) = true) ∨ (takeB l = false ∧ takeV l = Pl.Seat.Head.zero) := by
  unfold takeB takeV
  cases h : Pl.Seat.takeH tailU l with
  | none => right; exact ⟨rfl, rfl⟩
  | some x => left; exact ⟨rfl, ((Pl.Seat.takeH_iff tailU tailU_len l x).1 h).1⟩
theorem takeV_pos (l : List UInt8) (h : takeB l = true) : 1 ≤ (takeV l).epoch := by
  rcases takeV_is l with ⟨_, h2⟩ | ⟨h1, _⟩
  · exact ((Pl.Seat.isH_iff _).1 h2).1
  · rw [h] at h1; simp at h1
theorem best2_zero (l m : List UInt8) : (best2 l m = Pl.Seat.Head.zero) ∨ 1 ≤ (best2 l m).epoch := by
  unfold best2 best1 okS
  by_cases h1 : (takeB m && decide ((takeV m).epoch % 2 = 1)) = true ∧ (if (takeB l && decide ((takeV l).epoch % 2 = 0)) = true then takeV l else Pl.Seat.Head.zero).epoch < (takeV m).epoch
  · rw [if_pos h1]
    right
    have := h1.1
    rw [Bool.and_eq_true] at this
    exact takeV_pos m this.1
  · rw [if_neg h1]
    by_cases h2 : (takeB l && decide ((takeV l).epoch % 2 = 0)) = true
    · rw [if_pos h2]
      right
      rw [Bool.and_eq_true] at h2
      exact takeV_pos l h2.1
    · rw [if_neg h2]
      left; rfl
/-- the best head behind k sectors -/
def bestK (l m : List UInt8) : Nat → Head
  | 0 => Pl.Seat.Head.zero
  | 1 => best1 l
  | _ => best2 l m

theorem idx0 (s u : ByteArray) (W : World) : (Instr.index 63 (.agg #[.string s, .string u]) (.int .i64 0)).run Tryd.prog W = .ok (.string s) W := by kernel_rfl
theorem idx1 (s u : ByteArray) (W : World) : (Instr.index 63 (.agg #[.string s, .string u]) (.int .i64 1)).run Tryd.prog W = .ok (.string u) W := by kernel_rfl
set_option maxHeartbeats 6400000 in
theorem choose_any (s u : ByteArray) (w : World) (ht : Tab w) (hs : s.size ≤ 1048576) (hu : u.size ≤ 1048576) (R : Head) (hR : best2 s.data.toList u.data.toList = R) :
    Calls Tryd.prog 29 #[.string s, .string u] w fun e w' => e = .returned (.tuple #[.agg #[.int .i64 R.epoch, .int .i64 R.half, .int .i64 R.pack, .int .i64 R.num], .bool (R.epoch != 0)]) ∧ Below w.heap.size w w' := by
  have hRz : R = Pl.Seat.Head.zero ∨ 1 ≤ R.epoch := hR ▸ best2_zero _ _
  obtain ⟨K, hK⟩ : ∃ K, bestK s.data.toList u.data.toList = K := ⟨_, rfl⟩
  have hK0 : K 0 = Pl.Seat.Head.zero := by rw [← hK]; rfl
  have hK2 : K 2 = R := by rw [← hK]; exact hR
  obtain ⟨H1, hH1⟩ : ∃ H, takeV s.data.toList = H := ⟨_, rfl⟩
  obtain ⟨B1, hB1⟩ : ∃ H, takeB s.data.toList = H := ⟨_, rfl⟩
  obtain ⟨H2, hH2⟩ : ∃ H, takeV u.data.toList = H := ⟨_, rfl⟩
  obtain ⟨B2, hB2⟩ : ∃ H, takeB u.data.toList = H := ⟨_, rfl⟩
  have hK1 : K 1 = if (B1 && decide (H1.epoch % 2 = 0)) = true then H1 else Pl.Seat.Head.zero := by rw [← hK, ← hH1, ← hB1]; rfl
  have hK3 : K 2 = if (B2 && decide (H2.epoch % 2 = 1)) = true ∧ (K 1).epoch < H2.epoch then H2 else K 1 := by rw [← hK, ← hH2, ← hB2]; rfl
  have hp1 : B1 = true → 1 ≤ H1.epoch := by rw [← hB1, ← hH1]; exact takeV_pos _
  have T1 := Lib.hid (fun r hr w ht => take_r s H1 B1 r w ht hs hH1 hB1 hr)
  have T2 := Lib.hid (fun r hr w ht => take_r u H2 B2 r w ht hu hH2 hB2 hr)
  have hK1' : K 1 = if (B1 && decide (H1.epoch % 2 = 0)) = true ∧ (K 0).epoch < H1.epoch then H1 else K 0 := by
    rw [hK1, hK0]
    by_cases h : (B1 && decide (H1.epoch % 2 = 0)) = true
    · have h2 := h
      rw [Bool.and_eq_true] at h2
      have := hp1 h2.1
      rw [if_pos h, if_pos ⟨h, by show (0 : Int) < _; omega⟩]
    · rw [if_neg h, if_neg (fun x => h x.1)]
  have HKa := Lib.hid hK1'
  clear hK1'
  have HK0 := Lib.hid hK0
  have HK1 := Lib.hid hK1
  have HK2 := Lib.hid hK2
  have HK3 := Lib.hid hK3
  have HP1 := Lib.hid hp1
  have HRZ := Lib.hid hRz
  clear hK hK0 hK1 hK2 hK3 hH1 hB1 hH2 hB2 hR hp1 hRz
  have hix0 := idx0 s u
  have hix1 := idx1 s u
  go_enter Tryd.func29, Tryd.ntmps29
  go_wp2
  have C0 := (Cell4.new w (.int .i64 0) (.int .i64 0) (.int .i64 0) (.int .i64 0) 41).alloc (.cells #[.int .i64 0, .int .i64 0, .int .i64 0, .int .i64 0] 41)
  have D0 := HeadAt.new (w.alloc (.cells #[.int .i64 0, .int .i64 0, .int .i64 0, .int .i64 0] 41)) 0 0 0 0 41
  have e1 : (w.alloc (.cells #[.int .i64 0, .int .i64 0, .int .i64 0, .int .i64 0] 41)).heap.size = w.heap.size + 1 := by simp
  rw [e1] at D0
  have q0 := ((Below.refl w.heap.size w).alloc (Nat.le_refl _) (.cells #[.int .i64 0, .int .i64 0, .int .i64 0, .int .i64 0] 41)).alloc (by simp) (.cells #[.int .i64 0, .int .i64 0, .int .i64 0, .int .i64 0] 41)
  generalize (w.alloc (.cells #[.int .i64 0, .int .i64 0, .int .i64 0, .int .i64 0] 41)).alloc (.cells #[.int .i64 0, .int .i64 0, .int .i64 0, .int .i64 0] 41) = w0 at C0 D0 q0 ⊢
  clear e1
  go_loopw [14] (fun i wr => ∃ k : Nat, k ≤ 2 ∧ i = .int .i64 k ∧ HeadAt (w.heap.size + 1) (K k) wr ∧ Cell4 w.heap.size wr ∧ Below w.heap.size w wr) (fun i _ => 2 - (intOf i).toNat)
  case atStart => exact ⟨0, by omega, rfl, by rw [HK0.out]; exact D0, C0, q0⟩
  case round =>
    obtain ⟨k, hk, rfl, D, C, q⟩ := hrel
    clear D0 C0 q0
    have hbl := D.lt
    rcases (by omega : k = 0 ∨ k = 1 ∨ k = 2) with rfl | rfl | rfl
    · have HKn := HKa
      have hix := hix0
      cases B1
      · have hKn : K 0 = K (0 + 1) := by rw [HKn.out]; simp
        have HKN := Lib.hid hKn
        clear hKn
        go_wp2_with fail
        refine (T1.out 3 rfl _ (ht.after q)).mono ?_
        rintro e w1 ⟨rfl, hB⟩
        have q1 := q.then' hB (Nat.le_refl _)
        have D1 := (D.after hB).alloc (.cells #[.int .i64 H1.epoch, .int .i64 H1.half, .int .i64 H1.pack, .int .i64 H1.num] 41)
        have C1 := (C.after hB).alloc (.cells #[.int .i64 H1.epoch, .int .i64 H1.half, .int .i64 H1.pack, .int .i64 H1.num] 41)
        have E1 := HeadAt.new w1 H1.epoch H1.half H1.pack H1.num 41
        have q2 := q1.alloc q1.size (.cells #[.int .i64 H1.epoch, .int .i64 H1.half, .int .i64 H1.pack, .int .i64 H1.num] 41)
        have hne : w1.heap.size ≠ w.heap.size + 1 := by have := (D.after hB).lt; omega
        clear hB D C q q1
        obtain ⟨d0, d1, d2, d3, d4⟩ := id D1
        obtain ⟨e0, e1, e2, e3, e4⟩ := id E1
        go_wp2_with fail
        go_roundw
        case rel => exact ⟨0 + 1, by omega, rfl, HKN.out ▸ D1, C1, q2⟩
        case measure => simp [intOf]
      · by_cases hpar : H1.epoch % 2 = 0
        · by_cases hgt : (K 0).epoch < H1.epoch
          · have hKn : K (0 + 1) = H1 := by rw [HKn.out, if_pos ⟨by simp [hpar], hgt⟩]
            have HKN := Lib.hid hKn
            clear hKn
            go_wp2_with fail
            refine (T1.out 0 rfl _ (ht.after q)).mono ?_
            rintro e w1 ⟨rfl, hB⟩
            have q1 := q.then' hB (Nat.le_refl _)
            have D1 := (D.after hB).alloc (.cells #[.int .i64 H1.epoch, .int .i64 H1.half, .int .i64 H1.pack, .int .i64 H1.num] 41)
            have C1 := (C.after hB).alloc (.cells #[.int .i64 H1.epoch, .int .i64 H1.half, .int .i64 H1.pack, .int .i64 H1.num] 41)
            have E1 := HeadAt.new w1 H1.epoch H1.half H1.pack H1.num 41
            have q2 := q1.alloc q1.size (.cells #[.int .i64 H1.epoch, .int .i64 H1.half, .int .i64 H1.pack, .int .i64 H1.num] 41)
            have hne : w1.heap.size ≠ w.heap.size + 1 := by have := (D.after hB).lt; omega
            clear hB D C q q1
            obtain ⟨d0, d1, d2, d3, d4⟩ := id D1
            obtain ⟨e0, e1, e2, e3, e4⟩ := id E1
            go_wp2_with fail
            refine (slot_at H1.epoch 0 _ hpar).mono ?_
            rintro e w3 ⟨rfl, rfl⟩
            go_wp2_with fail
            have hst := put4_head D1.cell4 H1
            have hsc := C1.kept (put4_block (b := w.heap.size + 1) (c := w.heap.size) _ (by omega) (.int .i64 H1.epoch) (.int .i64 H1.half) (.int .i64 H1.pack) (.int .i64 H1.num))
            go_roundw
            case rel => exact ⟨0 + 1, by omega, rfl, HKN.out ▸ hst, hsc, below_four q2 (Nat.le_succ _) _ _ _ _⟩
            case measure => simp [intOf]
          · have hKn : K 0 = K (0 + 1) := by rw [HKn.out, if_neg (fun h => hgt h.2)]
            have HKN := Lib.hid hKn
            clear hKn
            have hle : H1.epoch ≤ (K 0).epoch := by omega
            go_wp2_with fail
            refine (T1.out 0 rfl _ (ht.after q)).mono ?_
            rintro e w1 ⟨rfl, hB⟩
            have q1 := q.then' hB (Nat.le_refl _)
            have D1 := (D.after hB).alloc (.cells #[.int .i64 H1.epoch, .int .i64 H1.half, .int .i64 H1.pack, .int .i64 H1.num] 41)
            have C1 := (C.after hB).alloc (.cells #[.int .i64 H1.epoch, .int .i64 H1.half, .int .i64 H1.pack, .int .i64 H1.num] 41)
            have E1 := HeadAt.new w1 H1.epoch H1.half H1.pack H1.num 41
            have q2 := q1.alloc q1.size (.cells #[.int .i64 H1.epoch, .int .i64 H1.half, .int .i64 H1.pack, .int .i64 H1.num] 41)
            have hne : w1.heap.size ≠ w.heap.size + 1 := by have := (D.after hB).lt; omega
            clear hB D C q q1
            obtain ⟨d0, d1, d2, d3, d4⟩ := id D1
            obtain ⟨e0, e1, e2, e3, e4⟩ := id E1
            go_wp2_with fail
            refine (slot_at H1.epoch 0 _ hpar).mono ?_
            rintro e w3 ⟨rfl, rfl⟩
            go_wp2_with fail
            go_roundw
            case rel => exact ⟨0 + 1, by omega, rfl, HKN.out ▸ D1, C1, q2⟩
            case measure => simp [intOf]
        · have hKn : K 0 = K (0 + 1) := by rw [HKn.out, if_neg (fun h => hpar (by simpa using h.1))]
          have HKN := Lib.hid hKn
          clear hKn
          have hpf : ((H1.epoch % 2 : Int) == 0) = false := by simpa using hpar
          go_wp2_with fail
          refine (T1.out 0 rfl _ (ht.after q)).mono ?_
          rintro e w1 ⟨rfl, hB⟩
          have q1 := q.then' hB (Nat.le_refl _)
          have D1 := (D.after hB).alloc (.cells #[.int .i64 H1.epoch, .int .i64 H1.half, .int .i64 H1.pack, .int .i64 H1.num] 41)
          have C1 := (C.after hB).alloc (.cells #[.int .i64 H1.epoch, .int .i64 H1.half, .int .i64 H1.pack, .int .i64 H1.num] 41)
          have E1 := HeadAt.new w1 H1.epoch H1.half H1.pack H1.num 41
          have q2 := q1.alloc q1.size (.cells #[.int .i64 H1.epoch, .int .i64 H1.half, .int .i64 H1.pack, .int .i64 H1.num] 41)
          have hne : w1.heap.size ≠ w.heap.size + 1 := by have := (D.after hB).lt; omega
          clear hB D C q q1
          obtain ⟨d0, d1, d2, d3, d4⟩ := id D1
          obtain ⟨e0, e1, e2, e3, e4⟩ := id E1
          go_wp2_with fail
          refine (slot_any H1.epoch _).mono ?_
          rintro e w3 ⟨rfl, rfl⟩
          go_wp2_with fail
          go_roundw
          case rel => exact ⟨0 + 1, by omega, rfl, HKN.out ▸ D1, C1, q2⟩
          case measure => simp [intOf]
    · have HKn := HK3
      have hix := hix1
      cases B2
      · have hKn : K 1 = K (1 + 1) := by rw [HKn.out]; simp
        have HKN := Lib.hid hKn
        clear hKn
        go_wp2_with fail
        refine (T2.out 3 rfl _ (ht.after q)).mono ?_
        rintro e w1 ⟨rfl, hB⟩
        have q1 := q.then' hB (Nat.le_refl _)
        have D1 := (D.after hB).alloc (.cells #[.int .i64 H2.epoch, .int .i64 H2.half, .int .i64 H2.pack, .int .i64 H2.num] 41)
        have C1 := (C.after hB).alloc (.cells #[.int .i64 H2.epoch, .int .i64 H2.half, .int .i64 H2.pack, .int .i64 H2.num] 41)
        have E1 := HeadAt.new w1 H2.epoch H2.half H2.pack H2.num 41
        have q2 := q1.alloc q1.size (.cells #[.int .i64 H2.epoch, .int .i64 H2.half, .int .i64 H2.pack, .int .i64 H2.num] 41)
        have hne : w1.heap.size ≠ w.heap.size + 1 := by have := (D.after hB).lt; omega
        clear hB D C q q1
        obtain ⟨d0, d1, d2, d3, d4⟩ := id D1
        obtain ⟨e0, e1, e2, e3, e4⟩ := id E1
        go_wp2_with fail
        go_roundw
        case rel => exact ⟨1 + 1, by omega, rfl, HKN.out ▸ D1, C1, q2⟩
        case measure => simp [intOf]
      · by_cases hpar : H2.epoch % 2 = 1
        · by_cases hgt : (K 1).epoch < H2.epoch
          · have hKn : K (1 + 1) = H2 := by rw [HKn.out, if_pos ⟨by simp [hpar], hgt⟩]
            have HKN := Lib.hid hKn
            clear hKn
            go_wp2_with fail
            refine (T2.out 0 rfl _ (ht.after q)).mono ?_
            rintro e w1 ⟨rfl, hB⟩
            have q1 := q.then' hB (Nat.le_refl _)
            have D1 := (D.after hB).alloc (.cells #[.int .i64 H2.epoch, .int .i64 H2.half, .int .i64 H2.pack, .int .i64 H2.num] 41)
            have C1 := (C.after hB).alloc (.cells #[.int .i64 H2.epoch, .int .i64 H2.half, .int .i64 H2.pack, .int .i64 H2.num] 41)
            have E1 := HeadAt.new w1 H2.epoch H2.half H2.pack H2.num 41
            have q2 := q1.alloc q1.size (.cells #[.int .i64 H2.epoch, .int .i64 H2.half, .int .i64 H2.pack, .int .i64 H2.num] 41)
            have hne : w1.heap.size ≠ w.heap.size + 1 := by have := (D.after hB).lt; omega
            clear hB D C q q1
            obtain ⟨d0, d1, d2, d3, d4⟩ := id D1
            obtain ⟨e0, e1, e2, e3, e4⟩ := id E1
            go_wp2_with fail
            refine (slot_at H2.epoch 1 _ hpar).mono ?_
            rintro e w3 ⟨rfl, rfl⟩
            go_wp2_with fail
            have hst := put4_head D1.cell4 H2
            have hsc := C1.kept (put4_block (b := w.heap.size + 1) (c := w.heap.size) _ (by omega) (.int .i64 H2.epoch) (.int .i64 H2.half) (.int .i64 H2.pack) (.int .i64 H2.num))
            go_roundw
            case rel => exact ⟨1 + 1, by omega, rfl, HKN.out ▸ hst, hsc, below_four q2 (Nat.le_succ _) _ _ _ _⟩
            case measure => simp [intOf]
          · have hKn : K 1 = K (1 + 1) := by rw [HKn.out, if_neg (fun h => hgt h.2)]
            have HKN := Lib.hid hKn
            clear hKn
            have hle : H2.epoch ≤ (K 1).epoch := by omega
            go_wp2_with fail
            refine (T2.out 0 rfl _ (ht.after q)).mono ?_
            rintro e w1 ⟨rfl, hB⟩
            have q1 := q.then' hB (Nat.le_refl _)
            have D1 := (D.after hB).alloc (.cells #[.int .i64 H2.epoch, .int .i64 H2.half, .int .i64 H2.pack, .int .i64 H2.num] 41)
            have C1 := (C.after hB).alloc (.cells #[.int .i64 H2.epoch, .int .i64 H2.half, .int .i64 H2.pack, .int .i64 H2.num] 41)
            have E1 := HeadAt.new w1 H2.epoch H2.half H2.pack H2.num 41
            have q2 := q1.alloc q1.size (.cells #[.int .i64 H2.epoch, .int .i64 H2.half, .int .i64 H2.pack, .int .i64 H2.num] 41)
            have hne : w1.heap.size ≠ w.heap.size + 1 := by have := (D.after hB).lt; omega
            clear hB D C q q1
            obtain ⟨d0, d1, d2, d3, d4⟩ := id D1
            obtain ⟨e0, e1, e2, e3, e4⟩ := id E1
            go_wp2_with fail
            refine (slot_at H2.epoch 1 _ hpar).mono ?_
            rintro e w3 ⟨rfl, rfl⟩
            go_wp2_with fail
            go_roundw
            case rel => exact ⟨1 + 1, by omega, rfl, HKN.out ▸ D1, C1, q2⟩
            case measure => simp [intOf]
        · have hKn : K 1 = K (1 + 1) := by rw [HKn.out, if_neg (fun h => hpar (by simpa using h.1))]
          have HKN := Lib.hid hKn
          clear hKn
          have hpf : ((H2.epoch % 2 : Int) == 1) = false := by simpa using hpar
          go_wp2_with fail
          refine (T2.out 0 rfl _ (ht.after q)).mono ?_
          rintro e w1 ⟨rfl, hB⟩
          have q1 := q.then' hB (Nat.le_refl _)
          have D1 := (D.after hB).alloc (.cells #[.int .i64 H2.epoch, .int .i64 H2.half, .int .i64 H2.pack, .int .i64 H2.num] 41)
          have C1 := (C.after hB).alloc (.cells #[.int .i64 H2.epoch, .int .i64 H2.half, .int .i64 H2.pack, .int .i64 H2.num] 41)
          have E1 := HeadAt.new w1 H2.epoch H2.half H2.pack H2.num 41
          have q2 := q1.alloc q1.size (.cells #[.int .i64 H2.epoch, .int .i64 H2.half, .int .i64 H2.pack, .int .i64 H2.num] 41)
          have hne : w1.heap.size ≠ w.heap.size + 1 := by have := (D.after hB).lt; omega
          clear hB D C q q1
          obtain ⟨d0, d1, d2, d3, d4⟩ := id D1
          obtain ⟨e0, e1, e2, e3, e4⟩ := id E1
          go_wp2_with fail
          refine (slot_any H2.epoch _).mono ?_
          rintro e w3 ⟨rfl, rfl⟩
          go_wp2_with fail
          go_roundw
          case rel => exact ⟨1 + 1, by omega, rfl, HKN.out ▸ D1, C1, q2⟩
          case measure => simp [intOf]
    · rw [HK2.out] at D
      obtain ⟨d0, d1, d2, d3, d4⟩ := id D
      obtain ⟨k0, k1, k2, k3, x0, x1, x2, x3, y0, y1, y2, y3⟩ := C.stored
      have y4 := C.2
      have hbn : w.heap.size + 1 ≠ w.heap.size := by omega
      rcases HRZ.out with rfl | hpos
      · simp only [Pl.Seat.Head.zero] at d0 d1 d2 d3
        go_wp2_with fail
        go_region_held3 (fun w' => w'.cell? ⟨w.heap.size + 1, 0, none⟩ = some (.int .i64 0) ∧ w'.cell? ⟨w.heap.size + 1, 1, none⟩ = some (.int .i64 0) ∧ w'.cell? ⟨w.heap.size + 1, 2, none⟩ = some (.int .i64 0) ∧ w'.cell? ⟨w.heap.size + 1, 3, none⟩ = some (.int .i64 0)) (first | exact ⟨d0, d1, d2, d3⟩ | assumption | go_keep) (first | fail)
        obtain ⟨l0, l1, l2, l3, _⟩ := (C.kept (w' := wr.drew) rfl).stored
        go_wp2_with fail
        refine bodyPost_ret (by simp [results, Tryd.results29, k0, k1, k2, k3, l0, l1, l2, l3, go_sem]; try rfl) rfl ?_
        exact ⟨rfl, below_four q.drew (Nat.le_refl _) _ _ _ _⟩
      · have hpe : ((R.epoch : Int) == 0) = false := by simp; omega
        have hpn : ((R.epoch : Int) != 0) = true := by simp; omega
        have hpe2 : ¬ R.epoch = 0 := by omega
        go_wp2_with fail
        go_region_held3 (fun w' => w'.cell? ⟨w.heap.size + 1, 0, none⟩ = some (.int .i64 R.epoch) ∧ w'.cell? ⟨w.heap.size + 1, 1, none⟩ = some (.int .i64 R.half) ∧ w'.cell? ⟨w.heap.size + 1, 2, none⟩ = some (.int .i64 R.pack) ∧ w'.cell? ⟨w.heap.size + 1, 3, none⟩ = some (.int .i64 R.num)) (first | exact ⟨d0, d1, d2, d3⟩ | assumption | go_keep) (first | fail)
        obtain ⟨l0, l1, l2, l3, _⟩ := (C.kept (w' := wr.drew) rfl).stored
        go_wp2_with fail
        refine bodyPost_ret (by simp [results, Tryd.results29, k0, k1, k2, k3, l0, l1, l2, l3, go_sem]; try rfl) rfl ?_
        exact ⟨by rw [hpn], below_four q.drew (Nat.le_refl _) _ _ _ _⟩
end Go.Proofs.YtalnmhlfjdocfaaDoor.WalkSeat
