/-
  The walk of entry.Put.
-/
import Derived.Test.YtfbakelpplpomaaGreatDoorWalkEntry
namespace Go.Proofs.YtfbakelpplpomaaGreatDoor.WalkSeat
open Go.RowKit Go.Proofs.YtfbakelpplpomaaGreatDoor.WalkVar Go.Proofs.YtfbakelpplpomaaGreatDoor.WalkScan Go.Proofs.YtfbakelpplpomaaGreatDoor.WalkCrc
open Pl.Seat (numV numR txtV txtR numP txtP Head isH putH openS isName nameByte isHash Rec isR putR)
set_option linter.unusedVariables false
set_option linter.unusedSimpArgs false
set_option maxRecDepth 100000

/-- a block that has a record -/
structure RecAt (b : Nat) (e q k : Int) (N O M : ByteArray) (t u : Int) (w : World) : Prop where
  c0 : w.cell? ⟨b, 0, none⟩ = some (.int .i64 e)
  c1 : w.cell? ⟨b, 1, none⟩ = some (.int .i64 q)
  c2 : w.cell? ⟨b, 2, none⟩ = some (.int .i64 k)
  c3 : w.cell? ⟨b, 3, none⟩ = some (.string N)
  c4 : w.cell? ⟨b, 4, none⟩ = some (.string O)
  c5 : w.cell? ⟨b, 5, none⟩ = some (.string M)
  c6 : w.cell? ⟨b, 6, none⟩ = some (.int .i64 t)
  c7 : w.cell? ⟨b, 7, none⟩ = some (.int .i64 u)
  fz : ∀ o, w.frozen? ⟨b, o, none⟩ = false
theorem RecAt.lt {b : Nat} {e q k : Int} {N O M : ByteArray} {t u : Int} {w : World} (h : RecAt b e q k N O M t u w) : b < w.heap.size := World.block_lt_of_cell? w _ h.c0
theorem RecAt.kept {b : Nat} {e q k : Int} {N O M : ByteArray} {t u : Int} {w w' : World} (h : RecAt b e q k N O M t u w) (hb : w'.heap[b]? = w.heap[b]?) : RecAt b e q k N O M t u w' := by
  have hc : ∀ o, w'.cell? ⟨b, o, none⟩ = w.cell? ⟨b, o, none⟩ := fun o => World.cell?_of_block (w := w) hb
  have hf : ∀ o, w'.frozen? ⟨b, o, none⟩ = w.frozen? ⟨b, o, none⟩ := fun o => World.frozen?_of_block (w := w) hb
  exact ⟨by rw [hc]; exact h.c0, by rw [hc]; exact h.c1, by rw [hc]; exact h.c2, by rw [hc]; exact h.c3, by rw [hc]; exact h.c4, by rw [hc]; exact h.c5, by rw [hc]; exact h.c6, by rw [hc]; exact h.c7, fun o => by rw [hf]; exact h.fz o⟩
theorem RecAt.after {b : Nat} {e q k : Int} {N O M : ByteArray} {t u : Int} {w w' : World} (h : RecAt b e q k N O M t u w) (hB : Below w.heap.size w w') : RecAt b e q k N O M t u w' := h.kept (hB.block b h.lt)
theorem RecAt.alloc {b : Nat} {e q k : Int} {N O M : ByteArray} {t u : Int} {w : World} (h : RecAt b e q k N O M t u w) (o : Obj) : RecAt b e q k N O M t u (w.alloc o) := h.kept (Below.heap_alloc w o b h.lt)
theorem RecAt.new (w : World) (e q k : Int) (N O M : ByteArray) (t u : Int) (T : TypeId) : RecAt w.heap.size e q k N O M t u (w.alloc (.cells #[.int .i64 e, .int .i64 q, .int .i64 k, .string N, .string O, .string M, .int .i64 t, .int .i64 u] T)) := ⟨by go_simp, by go_simp, by go_simp, by go_simp, by go_simp, by go_simp, by go_simp, by go_simp, fun o => by go_simp⟩
theorem idi0 (a b c : Int) (W : World) : (Instr.index 108 (.agg #[.int .i64 a, .int .i64 b, .int .i64 c]) (.int .i64 0)).run Tryz.prog W = .ok (.int .i64 a) W := by kernel_rfl
theorem ids0 (a b c : ByteArray) (W : World) : (Instr.index 109 (.agg #[.string a, .string b, .string c]) (.int .i64 0)).run Tryz.prog W = .ok (.string a) W := by kernel_rfl
theorem idi1 (a b c : Int) (W : World) : (Instr.index 108 (.agg #[.int .i64 a, .int .i64 b, .int .i64 c]) (.int .i64 1)).run Tryz.prog W = .ok (.int .i64 b) W := by kernel_rfl
theorem ids1 (a b c : ByteArray) (W : World) : (Instr.index 109 (.agg #[.string a, .string b, .string c]) (.int .i64 1)).run Tryz.prog W = .ok (.string b) W := by kernel_rfl
theorem idi2 (a b c : Int) (W : World) : (Instr.index 108 (.agg #[.int .i64 a, .int .i64 b, .int .i64 c]) (.int .i64 2)).run Tryz.prog W = .ok (.int .i64 c) W := by kernel_rfl
theorem ids2 (a b c : ByteArray) (W : World) : (Instr.index 109 (.agg #[.string a, .string b, .string c]) (.int .i64 2)).run Tryz.prog W = .ok (.string c) W := by kernel_rfl
theorem putText_at (s : ByteArray) (P : List UInt8) (w : World) (hs : s.size ≤ 1048576) (hP : Pl.Seat.putT s.data.toList = P) :
    Calls Tryz.prog 63 #[.string s] w fun x w' => x = .returned (.string (bs P)) ∧ Below w.heap.size w w' := hP ▸ putText_any s w hs
theorem sealX_at (T : ByteArray) (X Z : List UInt8) (w : World) (ht : Tab w) (hT : T = bs X) (hX : X.length ≤ 1048576) (hZ : X ++ tailU X = Z) :
    Calls Tryz.prog 65 #[.string T] w fun x w' => x = .returned (.string (bs Z)) ∧ Below w.heap.size w w' := by
  subst hT
  rw [← hZ]
  exact seal_bs X w ht hX
theorem fullX_at (X Z : List UInt8) (w : World) (hX : X.length ≤ 128) (hZ : Pl.Seat.full X = Z) :
    Calls Tryz.prog 64 #[.string (bs X)] w fun x w' => x = .returned (.tuple #[.string (bs Z), .int .i64 0]) ∧ Below w.heap.size w w' := hZ ▸ full_ok X w hX
theorem conv_R (W : World) : (convert 107 9 (.slice (some ⟨W.heap.size, 0, none⟩) 1 1)).run Tryz.prog (W.alloc (.cells #[.int .u8 82] 5)) = .ok (.string (bs [82])) (W.alloc (.cells #[.int .u8 82] 5)) := by
  have := WalkVar.conv_one W 82
  have e : strOfNums [(82 : Int)] = bs [82] := by rw [← nums_bs]; rfl
  rw [e] at this
  exact this
theorem Pairs.keep {b : Nat} {t u : Int} {w0 w w' : World} (h : w.cell? ⟨b, 6, none⟩ = some (.int .i64 t) ∧ w.cell? ⟨b, 7, none⟩ = some (.int .i64 u) ∧ Below w0.heap.size w0 w) (hB : Below w.heap.size w w') :
    w'.cell? ⟨b, 6, none⟩ = some (.int .i64 t) ∧ w'.cell? ⟨b, 7, none⟩ = some (.int .i64 u) ∧ Below w0.heap.size w0 w' := by
  obtain ⟨h1, h2, h3⟩ := h
  have hb := World.block_lt_of_cell? w _ h1
  exact ⟨by rw [hB.cell (p := ⟨b, 6, none⟩) hb]; exact h1, by rw [hB.cell (p := ⟨b, 7, none⟩) hb]; exact h2, h3.trans (hB.mono h3.size)⟩
/-- what a record's text is made of -/
theorem putR_parts (e q k : Int) (N O M : ByteArray) (t u : Int) (h : isR (rc e q k N O M t u) = true) :
    1 ≤ e ∧ e ≤ 4294967295 ∧ 0 ≤ q ∧ q ≤ 4095 ∧ 1 ≤ k ∧ k ≤ 2 ∧ 0 ≤ t ∧ t ≤ 524288 ∧ 1 ≤ u ∧ u ≤ 4294967296 ∧ N.size ≤ 12 ∧ O.size ≤ 32 ∧ M.size ≤ 32 := by
  obtain ⟨a1, a2, a3, a4, a5, a6, a7, a8, a9, a10, a11, a12, a13, a14⟩ := (Pl.Seat.isR_iff _).1 h
  have h1 : N.data.toList.length = N.size := by simp
  have h2 : O.data.toList.length = O.size := by simp
  have h3 : M.data.toList.length = M.size := by simp
  simp only [rc] at a1 a2 a3 a4 a5 a6 a7 a8 a9 a11 a12 a13 a14
  unfold isName at a7
  unfold isHash at a8 a9
  rw [h1] at a7
  rw [h2] at a8
  rw [h3] at a9
  rw [Bool.and_eq_true, Bool.and_eq_true] at a7
  rw [Bool.or_eq_true] at a8 a9
  have n1 := of_decide_eq_true a7.1.2
  have n2 : O.size ≤ 32 := by rcases a8 with h | h <;> have := of_decide_eq_true h <;> omega
  have n3 : M.size ≤ 32 := by rcases a9 with h | h <;> have := of_decide_eq_true h <;> omega
  exact ⟨a1, a2, a3, a4, a5, a6, a11, a12, a13, a14, n1, n2, n3⟩
set_option maxHeartbeats 6400000 in
theorem entryPut_ok (e q k : Int) (N O M : ByteArray) (t u : Int) (w : World) (ht : Tab w) (h : isR (rc e q k N O M t u) = true) :
    Calls Tryz.prog 35 #[.agg #[.int .i64 e, .int .i64 q, .int .i64 k, .string N, .string O, .string M, .int .i64 t, .int .i64 u]] w fun x w' => x = .returned (.tuple #[.string (bs (putR tailU (rc e q k N O M t u))), .int .i64 0]) ∧ Below w.heap.size w w' := by
  obtain ⟨a1, a2, a3, a4, a5, a6, a7, a8, a9, a10, a11, a12, a13⟩ := putR_parts e q k N O M t u h
  have htl := Pl.Seat.textR_len _ h
  have HCK := Lib.hid (fun w => entryCheck_at e q k N O M t u true w (by omega) (by omega) h)
  simp only [arg, if_true] at HCK
  obtain ⟨P1, hP1⟩ : ∃ P, Pl.Seat.put e.toNat = P := ⟨_, rfl⟩
  obtain ⟨P2, hP2⟩ : ∃ P, Pl.Seat.put q.toNat = P := ⟨_, rfl⟩
  obtain ⟨P3, hP3⟩ : ∃ P, Pl.Seat.put k.toNat = P := ⟨_, rfl⟩
  obtain ⟨P4, hP4⟩ : ∃ P, Pl.Seat.putT N.data.toList = P := ⟨_, rfl⟩
  obtain ⟨P5, hP5⟩ : ∃ P, Pl.Seat.putT O.data.toList = P := ⟨_, rfl⟩
  obtain ⟨P6, hP6⟩ : ∃ P, Pl.Seat.putT M.data.toList = P := ⟨_, rfl⟩
  obtain ⟨P7, hP7⟩ : ∃ P, Pl.Seat.put t.toNat = P := ⟨_, rfl⟩
  obtain ⟨P8, hP8⟩ : ∃ P, Pl.Seat.put u.toNat = P := ⟨_, rfl⟩
  have htx : Pl.Seat.textR (rc e q k N O M t u) = [82] ++ P1 ++ P2 ++ P3 ++ P4 ++ P5 ++ P6 ++ P7 ++ P8 := by
    unfold Pl.Seat.textR Pl.Seat.f8 rc
    simp only [hP1, hP2, hP3, hP4, hP5, hP6, hP7, hP8]
    simp
  rw [htx] at htl
  have Q1 := Lib.hid (fun w => putNum_at e P1 w (by omega) hP1)
  have Q2 := Lib.hid (fun w => putNum_at q P2 w (by omega) hP2)
  have Q3 := Lib.hid (fun w => putNum_at k P3 w (by omega) hP3)
  have Q4 := Lib.hid (fun w => putText_at N P4 w (by omega) hP4)
  have Q5 := Lib.hid (fun w => putText_at O P5 w (by omega) hP5)
  have Q6 := Lib.hid (fun w => putText_at M P6 w (by omega) hP6)
  have Q7 := Lib.hid (fun w => putNum_at t P7 w (by omega) hP7)
  have Q8 := Lib.hid (fun w => putNum_at u P8 w (by omega) hP8)
  have hpr : putR tailU (rc e q k N O M t u) = Pl.Seat.full (Pl.Seat.putT (([82] ++ P1 ++ P2 ++ P3 ++ P4 ++ P5 ++ P6 ++ P7 ++ P8) ++ tailU ([82] ++ P1 ++ P2 ++ P3 ++ P4 ++ P5 ++ P6 ++ P7 ++ P8))) := by
    show Pl.Seat.full (Pl.Seat.putT (Pl.Seat.textR _ ++ tailU (Pl.Seat.textR _))) = _
    rw [htx]
  rw [hpr]
  clear hpr htx hP1 hP2 hP3 hP4 hP5 hP6 hP7 hP8 h
  -- the text so far, behind so many parts
  obtain ⟨pre, hpre⟩ : ∃ f : Nat → List UInt8, f 0 = [82] ∧ f 1 = [82] ++ P1 ∧ f 2 = [82] ++ P1 ++ P2 ∧ f 3 = [82] ++ P1 ++ P2 ++ P3 ∧ f 4 = [82] ++ P1 ++ P2 ++ P3 ++ P4 ∧ f 5 = [82] ++ P1 ++ P2 ++ P3 ++ P4 ++ P5 ∧ f 6 = [82] ++ P1 ++ P2 ++ P3 ++ P4 ++ P5 ++ P6 :=
    ⟨fun n => match n with | 0 => [82] | 1 => [82] ++ P1 | 2 => [82] ++ P1 ++ P2 | 3 => [82] ++ P1 ++ P2 ++ P3 | 4 => [82] ++ P1 ++ P2 ++ P3 ++ P4 | 5 => [82] ++ P1 ++ P2 ++ P3 ++ P4 ++ P5 | _ => [82] ++ P1 ++ P2 ++ P3 ++ P4 ++ P5 ++ P6, rfl, rfl, rfl, rfl, rfl, rfl, rfl⟩
  obtain ⟨f0, f1, f2, f3, f4, f5, f6⟩ := hpre
  have X6 : bs (pre 6) ++ bs P7 ++ bs P8 = bs ([82] ++ P1 ++ P2 ++ P3 ++ P4 ++ P5 ++ P6 ++ P7 ++ P8) := by rw [bs_append, bs_append, f6]
  simp only [List.length_append, List.length_cons, List.length_nil] at htl
  have b0 : bs (pre 0) ++ bs P1 = bs (pre 1) := by rw [bs_append, f0, f1]
  have z0 : ¬ (9223372036854775807 < (bs (pre 0)).size + (bs P1).size) := by rw [bs_size, bs_size, f0]; simp only [List.length_append, List.length_cons, List.length_nil]; omega
  have B0 := Lib.hid b0
  have b1 : bs (pre 1) ++ bs P2 = bs (pre 2) := by rw [bs_append, f1, f2]
  have z1 : ¬ (9223372036854775807 < (bs (pre 1)).size + (bs P2).size) := by rw [bs_size, bs_size, f1]; simp only [List.length_append, List.length_cons, List.length_nil]; omega
  have B1 := Lib.hid b1
  have b2 : bs (pre 2) ++ bs P3 = bs (pre 3) := by rw [bs_append, f2, f3]
  have z2 : ¬ (9223372036854775807 < (bs (pre 2)).size + (bs P3).size) := by rw [bs_size, bs_size, f2]; simp only [List.length_append, List.length_cons, List.length_nil]; omega
  have B2 := Lib.hid b2
  have b3 : bs (pre 3) ++ bs P4 = bs (pre 4) := by rw [bs_append, f3, f4]
  have z3 : ¬ (9223372036854775807 < (bs (pre 3)).size + (bs P4).size) := by rw [bs_size, bs_size, f3]; simp only [List.length_append, List.length_cons, List.length_nil]; omega
  have B3 := Lib.hid b3
  have b4 : bs (pre 4) ++ bs P5 = bs (pre 5) := by rw [bs_append, f4, f5]
  have z4 : ¬ (9223372036854775807 < (bs (pre 4)).size + (bs P5).size) := by rw [bs_size, bs_size, f4]; simp only [List.length_append, List.length_cons, List.length_nil]; omega
  have B4 := Lib.hid b4
  have b5 : bs (pre 5) ++ bs P6 = bs (pre 6) := by rw [bs_append, f5, f6]
  have z5 : ¬ (9223372036854775807 < (bs (pre 5)).size + (bs P6).size) := by rw [bs_size, bs_size, f5]; simp only [List.length_append, List.length_cons, List.length_nil]; omega
  have B5 := Lib.hid b5
  have z6 : ¬ (9223372036854775807 < (bs (pre 6)).size + (bs P7).size) := by rw [bs_size, bs_size, f6]; simp only [List.length_append, List.length_cons, List.length_nil]; omega
  have z7 : ¬ (9223372036854775807 < (bs (pre 6) ++ bs P7).size + (bs P8).size) := by rw [ByteArray.size_append, bs_size, bs_size, bs_size, f6]; simp only [List.length_append, List.length_cons, List.length_nil]; omega
  have z8 : ¬ (9223372036854775807 < (bs (pre 6)).size + (bs P7).size + (bs P8).size) := by rw [bs_size, bs_size, bs_size, f6]; simp only [List.length_append, List.length_cons, List.length_nil]; omega
  have hl2 : ([82] ++ P1 ++ P2 ++ P3 ++ P4 ++ P5 ++ P6 ++ P7 ++ P8).length ≤ 110 := by simp only [List.length_append, List.length_cons, List.length_nil]; omega
  have F0 := Lib.hid f0
  have htu := tailU_len ([82] ++ P1 ++ P2 ++ P3 ++ P4 ++ P5 ++ P6 ++ P7 ++ P8)
  obtain ⟨Z, hZ⟩ : ∃ Z, ([82] ++ P1 ++ P2 ++ P3 ++ P4 ++ P5 ++ P6 ++ P7 ++ P8) ++ tailU ([82] ++ P1 ++ P2 ++ P3 ++ P4 ++ P5 ++ P6 ++ P7 ++ P8) = Z := ⟨_, rfl⟩
  have hZl : Z.length ≤ 114 := by rw [← hZ, List.length_append]; omega
  rw [hZ]
  have QS := Lib.hid (fun w ht => sealX_at _ _ Z w ht X6 (by omega) hZ)
  obtain ⟨Y, hY⟩ : ∃ Y, Pl.Seat.putT Z = Y := ⟨_, rfl⟩
  have hYl : Y.length ≤ 128 := by
    rw [← hY]
    unfold Pl.Seat.putT
    have := Pl.Seat.put_le Z.length
    rw [List.length_append]; omega
  rw [hY]
  have QT := Lib.hid (fun w => putText_at (bs Z) Y w (by rw [bs_size]; omega) (by rw [bs_list]; exact hY))
  obtain ⟨R, hR⟩ : ∃ R, Pl.Seat.full Y = R := ⟨_, rfl⟩
  rw [hR]
  have QF := Lib.hid (fun w => fullX_at Y R w hYl hR)
  clear hR hY hYl hZ hZl htu hl2 X6 f0 f1 f2 f3 f4 f5 f6 b0 b1 b2 b3 b4 b5 htl
  have i0 := idi0 e q k
  have i1 := idi1 e q k
  have i2 := idi2 e q k
  have j0 := ids0 N O M
  have j1 := ids1 N O M
  have j2 := ids2 N O M
  have hcR := conv_R
  have D0 := RecAt.new w e q k N O M t u 24
  have q0 := (Below.refl w.heap.size w).alloc (Nat.le_refl _) (.cells #[.int .i64 e, .int .i64 q, .int .i64 k, .string N, .string O, .string M, .int .i64 t, .int .i64 u] 24)
  go_enter Tryz.func35, Tryz.ntmps35
  go_wp2_with fail
  refine (HCK.out _).mono ?_
  rintro x w1 ⟨rfl, hB1⟩
  have q1 := (q0.then' hB1 (by simp)).alloc (Nat.le_trans q0.size hB1.size) (.cells #[.int .u8 82] 5)
  have D1 := (D0.after hB1).alloc (.cells #[.int .u8 82] 5)
  have hd1 := (D0.after hB1).lt
  obtain ⟨c0, c1, c2, c3, c4, c5, c6, c7, c8⟩ := id (D0.after hB1)
  clear q0 D0 hB1
  go_wp2_with fail
  generalize w1.alloc (.cells #[.int .u8 82] 5) = w2 at q1 D1 ⊢
  clear c0 c1 c2 c3 c4 c5 c6 c7 c8 hd1
  go_loopw [5, 24] (fun sv i wr => ∃ n : Nat, n ≤ 3 ∧ i = .int .i64 n ∧ sv = .string (bs (pre n)) ∧ RecAt w.heap.size e q k N O M t u wr ∧ Below w.heap.size w wr) (fun _ i _ => 3 - (intOf i).toNat)
  case atStart => exact ⟨0, by omega, rfl, by rw [F0.out], D1, q1⟩
  case round =>
    obtain ⟨n, hn, rfl, rfl, D, hq⟩ := hrel
    clear D1 q1
    rcases (by omega : n = 0 ∨ n = 1 ∨ n = 2 ∨ n = 3) with rfl | rfl | rfl | rfl
    · go_wp2_with fail
      refine (Q1.out _).mono ?_
      rintro x w3 ⟨rfl, hB⟩
      have D3 := D.after hB
      have q3 := hq.then' hB (Nat.le_refl _)
      go_wp2_with fail
      go_roundw
      case rel => exact ⟨1, by omega, rfl, by rw [B0.out], D3, q3⟩
      case measure => simp [intOf]
    · go_wp2_with fail
      refine (Q2.out _).mono ?_
      rintro x w3 ⟨rfl, hB⟩
      have D3 := D.after hB
      have q3 := hq.then' hB (Nat.le_refl _)
      go_wp2_with fail
      go_roundw
      case rel => exact ⟨2, by omega, rfl, by rw [B1.out], D3, q3⟩
      case measure => simp [intOf]
    · go_wp2_with fail
      refine (Q3.out _).mono ?_
      rintro x w3 ⟨rfl, hB⟩
      have D3 := D.after hB
      have q3 := hq.then' hB (Nat.le_refl _)
      go_wp2_with fail
      go_roundw
      case rel => exact ⟨3, by omega, rfl, by rw [B2.out], D3, q3⟩
      case measure => simp [intOf]
    · obtain ⟨c0, c1, c2, c3, c4, c5, c6, c7, c8⟩ := id D
      rw [show ((3 : Nat) : Int) = (3 : Int) from rfl]
      go_wp2
      go_loopw [5, 39] (fun sv i wr => ∃ n : Nat, n ≤ 3 ∧ i = .int .i64 n ∧ sv = .string (bs (pre (3 + n))) ∧ RecAt w.heap.size e q k N O M t u wr ∧ Below w.heap.size w wr) (fun _ i _ => 3 - (intOf i).toNat)
      case atStart => exact ⟨0, by omega, rfl, rfl, D, hq⟩
      case round =>
        obtain ⟨n, hn, rfl, rfl, D1, q1⟩ := hrel
        clear D hq c0 c1 c2 c3 c4 c5 c6 c7 c8
        rcases (by omega : n = 0 ∨ n = 1 ∨ n = 2 ∨ n = 3) with rfl | rfl | rfl | rfl
        · go_wp2_with fail
          refine (Q4.out _).mono ?_
          rintro x w3 ⟨rfl, hB⟩
          have D3 := D1.after hB
          have q3 := q1.then' hB (Nat.le_refl _)
          go_wp2_with fail
          go_roundw
          case rel => exact ⟨1, by omega, rfl, by rw [B3.out], D3, q3⟩
          case measure => simp [intOf]
        · go_wp2_with fail
          refine (Q5.out _).mono ?_
          rintro x w3 ⟨rfl, hB⟩
          have D3 := D1.after hB
          have q3 := q1.then' hB (Nat.le_refl _)
          go_wp2_with fail
          go_roundw
          case rel => exact ⟨2, by omega, rfl, by rw [B4.out], D3, q3⟩
          case measure => simp [intOf]
        · go_wp2_with fail
          refine (Q6.out _).mono ?_
          rintro x w3 ⟨rfl, hB⟩
          have D3 := D1.after hB
          have q3 := q1.then' hB (Nat.le_refl _)
          go_wp2_with fail
          go_roundw
          case rel => exact ⟨3, by omega, rfl, by rw [B5.out], D3, q3⟩
          case measure => simp [intOf]
        · obtain ⟨c0, c1, c2, c3, c4, c5, c6, c7, c8⟩ := id D1
          have tb := ht
          go_wp2_with fail
          go_region_held3 (fun w' => w'.cell? ⟨w.heap.size, 6, none⟩ = some (.int .i64 t) ∧ w'.cell? ⟨w.heap.size, 7, none⟩ = some (.int .i64 u) ∧ Below w.heap.size w w') (first | exact ⟨c6, c7, q1.drew⟩ | assumption | exact Pairs.keep (by assumption) (by assumption)) (first | (go_at_call_of 62 t; refine (Q7.out _).mono ?_; rintro x w3 ⟨rfl, hB3⟩) | (go_at_call_of 62 u; refine (Q8.out _).mono ?_; rintro x w4 ⟨rfl, hB4⟩) | (go_at_call 65; refine (QS.out _ (ht.after ((q1.drew.then' hB3 (Nat.le_refl _)).then' hB4 (Nat.le_refl _)))).mono ?_; rintro x w5 ⟨rfl, hB5⟩) | (go_at_call 63; refine (QT.out _).mono ?_; rintro x w6 ⟨rfl, hB6⟩) | (go_at_call 64; refine (QF.out _).mono ?_; rintro x w7 ⟨rfl, hB7⟩))
          have q3 := q1.drew.then' hB3 (Nat.le_refl _)
          have q4 := q3.then' hB4 (Nat.le_refl _)
          have q5 := q4.then' hB5 (Nat.le_refl _)
          have q6 := q5.then' hB6 (Nat.le_refl _)
          have q7 := q6.then' hB7 (Nat.le_refl _)
          go_wp2_with fail
          go_ret2
          exact ⟨rfl, q7⟩
theorem entryPut_badf (e q k : Int) (N O M : ByteArray) (t u : Int) (w : World) (h : isR (rc e q k N O M t u) = false) :
    Calls Tryz.prog 35 #[.agg #[.int .i64 e, .int .i64 q, .int .i64 k, .string N, .string O, .string M, .int .i64 t, .int .i64 u]] w fun x w' => x = .returned (.tuple #[.string (bs []), .int .i64 2]) ∧ Below w.heap.size w w' := by
  have HCK := Lib.hid (fun w => entryCheck_fr e q k N O M t u false w h)
  simp only [arg, Bool.false_eq_true, if_false] at HCK
  clear h
  go_enter Tryz.func35, Tryz.ntmps35
  go_wp2_with fail
  refine (HCK.out _).mono ?_
  rintro x w1 ⟨rfl, hB1⟩
  have q1 := ((Below.refl w.heap.size w).alloc (Nat.le_refl _) _).then' hB1 (by simp)
  go_wp2_with fail
  go_ret2
  exact ⟨rfl, q1⟩
/-- a record's sector, or nothing -/
def putRV (x : Rec) : List UInt8 := if isR x then putR tailU x else []
theorem entryPut_free (e q k : Int) (N O M : ByteArray) (t u : Int) (w : World) (ht : Tab w) :
    Calls Tryz.prog 35 #[.agg #[.int .i64 e, .int .i64 q, .int .i64 k, .string N, .string O, .string M, .int .i64 t, .int .i64 u]] w fun x w' => x = .returned (.tuple #[.string (bs (putRV (rc e q k N O M t u))), .int .i64 (arg (isR (rc e q k N O M t u)))]) ∧ Below w.heap.size w w' := by
  unfold putRV
  by_cases h : isR (rc e q k N O M t u) = true
  · rw [if_pos h, h]
    exact entryPut_ok e q k N O M t u w ht h
  · have h' : isR (rc e q k N O M t u) = false := by simpa using h
    rw [h']
    exact entryPut_badf e q k N O M t u w h'
theorem entryPut_any (e q k : Int) (N O M : ByteArray) (t u : Int) (w : World) (ht : Tab w) (hO : O.size ≤ 1048576) (hM : M.size ≤ 1048576) :
    Calls Tryz.prog 35 #[.agg #[.int .i64 e, .int .i64 q, .int .i64 k, .string N, .string O, .string M, .int .i64 t, .int .i64 u]] w fun x w' => x = .returned (.tuple #[.string (bs (putRV (rc e q k N O M t u))), .int .i64 (arg (isR (rc e q k N O M t u)))]) ∧ Below w.heap.size w w' := entryPut_free e q k N O M t u w ht
end Go.Proofs.YtfbakelpplpomaaGreatDoor.WalkSeat
