/-
  The walk of sha.turned: a state behind a block.
-/
import Derived.Test.YtfnjcobgbdioeaaDoorWalkSha
import Derived.Deep.WholeRow
namespace Go.Proofs.YtfnjcobgbdioeaaDoor.WalkSha
open Go.RowKit
set_option linter.unusedVariables false
set_option linter.unusedSimpArgs false
set_option maxRecDepth 100000

theorem wpList_alloc_zero {P : Program} {ops : Array Oper} {rest : List Oper} {o : Oper} {a : Act} {w : World} {Q : Exit → Act → World → Prop} (hgd : o.guard = none) (ty : TypeId) (ho : o.op = .alloc ty) (Z : Array Value) (n : Nat)
    (hz : (P.info? ty).map (fun i => (i.zero, i.size)) = some (some (.agg Z), n)) (h : wpList P ops Q rest (a.put o.dst (.pointer (some ⟨w.heap.size, 0, none⟩))) (w.alloc (.cells Z ty))) : wpList P ops Q (o :: rest) a w := by
  refine wpList_plain hgd fun K hK => ?_
  have hzv := (zero_of_info hz).1 w
  unfold Oper.wp execOp
  simp only [ho]
  simp [Instr.alloc, hzv, Value.cells]
  exact hK _ _ h
/-- the program's two tables -/
structure Tab (w : World) : Prop where
  first : ∀ i, i < 8 → w.cell? ⟨0, i, none⟩ = some (.int .u32 ([0x6a09e667, 0xbb67ae85, 0x3c6ef372, 0xa54ff53a, 0x510e527f, 0x9b05688c, 0x1f83d9ab, 0x5be0cd19].getD i 0 : Nat))
  consts : ∀ i, i < 64 → w.cell? ⟨1, i, none⟩ = some (.int .u32 (Pl.Sha.consts.getD i 0 : Nat))
theorem Tab.lt {w : World} (h : Tab w) : 1 < w.heap.size := block_lt_of_cell (h.consts 0 (by decide))
theorem Tab.below {w w' : World} (h : Tab w) {n : Nat} (b : Below n w w') (hn : 1 < n) : Tab w' :=
  ⟨fun i hi => by rw [b.cell (p := ⟨0, i, none⟩) (Nat.lt_trans Nat.zero_lt_one hn)]; exact h.first i hi, fun i hi => by rw [b.cell (p := ⟨1, i, none⟩) hn]; exact h.consts i hi⟩
/-- a state's words -/
def stV (s : Pl.Sha.St) : Array Value := #[.int .u32 (s.a : Nat), .int .u32 (s.b : Nat), .int .u32 (s.c : Nat), .int .u32 (s.d : Nat), .int .u32 (s.e : Nat), .int .u32 (s.f : Nat), .int .u32 (s.g : Nat), .int .u32 (s.h : Nat)]
structure Ok (s : Pl.Sha.St) : Prop where
  a : s.a < 4294967296
  b : s.b < 4294967296
  c : s.c < 4294967296
  d : s.d < 4294967296
  e : s.e < 4294967296
  f : s.f < 4294967296
  g : s.g < 4294967296
  h : s.h < 4294967296
theorem Ok.rnd {s : Pl.Sha.St} (h : Ok s) (k w : Nat) : Ok (Pl.Sha.rnd s k w) :=
  ⟨Nat.mod_lt _ (by decide), h.a, h.b, h.c, Nat.mod_lt _ (by decide), h.e, h.f, h.g⟩
theorem Ok.rnds {s : Pl.Sha.St} (h : Ok s) (w : List Nat) (k : Nat) : Ok (Pl.Sha.rnds s w k) := by
  induction k with
  | zero => exact h
  | succ k ih => exact ih.rnd _ _
theorem and_lt32 (a b : Nat) (h : a < 4294967296) : a &&& b < 4294967296 := Nat.lt_of_le_of_lt Nat.and_le_left h
theorem ch_bits (e f g : Nat) (he : e < 4294967296) (hf : f < 4294967296) (hg : g < 4294967296) :
    bits .xor .u32 (bits .and .u32 (e : Int) (f : Int)) (bits .and .u32 (bits .xor .u32 (if IntKind.u32.signed = true then -1 else IntKind.u32.max) (e : Int)) (g : Int)) = (Pl.Sha.ch e f g : Nat) ∧ Pl.Sha.ch e f g < 4294967296 := by
  have h0 : (if IntKind.u32.signed = true then (-1 : Int) else IntKind.u32.max) = ((4294967295 : Nat) : Int) := by decide
  have h1 : 4294967295 ^^^ e = 4294967295 - e := by
    apply Nat.eq_of_testBit_eq
    intro i
    rw [Nat.testBit_xor, Pl.Sha.compl_bit e i he, show (4294967295 : Nat) = 2 ^ 32 - 1 from rfl, Nat.testBit_two_pow_sub_one]
    by_cases hi : i < 32
    · simp [hi]
    · simp [hi, Nat.testBit_lt_two_pow (Nat.lt_of_lt_of_le he (Nat.pow_le_pow_right (n := 2) (by decide) (Nat.le_of_not_lt hi)))]
  rw [h0, u32_xor_nat _ _ (by decide) he, h1, u32_and_nat _ _ he hf, u32_and_nat _ _ (by omega) hg, u32_xor_nat _ _ (and_lt32 _ _ he) (and_lt32 _ _ (by omega))]
  exact ⟨rfl, Nat.xor_lt_two_pow (n := 32) (and_lt32 _ _ he) (and_lt32 _ _ (by omega))⟩
/-- block b is a state -/
def StAt (b : Nat) (s : Pl.Sha.St) (w : World) : Prop := w.heap[b]? = some (.cells (stV s) 36)
theorem StAt.drewN {b : Nat} {x : Pl.Sha.St} {w : World} (h : StAt b x w) (n : Nat) : StAt b x (w.drewN n) := h
theorem _root_.Go.RowKit.Below.drewN {B : Nat} {w w' : World} (h : Below B w w') (n : Nat) : Below B w (w'.drewN n) := h.trans ⟨rfl, rfl, rfl, Nat.le_refl _, fun _ _ => rfl⟩
theorem StAt.set8 {b : Nat} {x : Pl.Sha.St} {w : World} (h : StAt b x w) (y : Pl.Sha.St) : StAt b y ((((((((w.setCell ⟨b, 0, none⟩ (.int .u32 (y.a : Nat))).setCell ⟨b, 1, none⟩ (.int .u32 (y.b : Nat))).setCell ⟨b, 2, none⟩ (.int .u32 (y.c : Nat))).setCell ⟨b, 3, none⟩ (.int .u32 (y.d : Nat))).setCell ⟨b, 4, none⟩ (.int .u32 (y.e : Nat))).setCell ⟨b, 5, none⟩ (.int .u32 (y.f : Nat))).setCell ⟨b, 6, none⟩ (.int .u32 (y.g : Nat))).setCell ⟨b, 7, none⟩ (.int .u32 (y.h : Nat))) := by
  unfold StAt at h ⊢
  rw [Joins.block_setCell (Joins.block_setCell (Joins.block_setCell (Joins.block_setCell (Joins.block_setCell (Joins.block_setCell (Joins.block_setCell (Joins.block_setCell h _) _) _) _) _) _) _) _]
  simp [stV]
theorem below_set8 {B b : Nat} {w0 w : World} (h : Below B w0 w) (hb : B ≤ b) (y : Pl.Sha.St) : Below B w0 ((((((((w.setCell ⟨b, 0, none⟩ (.int .u32 (y.a : Nat))).setCell ⟨b, 1, none⟩ (.int .u32 (y.b : Nat))).setCell ⟨b, 2, none⟩ (.int .u32 (y.c : Nat))).setCell ⟨b, 3, none⟩ (.int .u32 (y.d : Nat))).setCell ⟨b, 4, none⟩ (.int .u32 (y.e : Nat))).setCell ⟨b, 5, none⟩ (.int .u32 (y.f : Nat))).setCell ⟨b, 6, none⟩ (.int .u32 (y.g : Nat))).setCell ⟨b, 7, none⟩ (.int .u32 (y.h : Nat))) :=
  (((((((h.setCell hb _).setCell hb _).setCell hb _).setCell hb _).setCell hb _).setCell hb _).setCell hb _).setCell hb _
/-- a state's words as a row -/
def stL (s : Pl.Sha.St) : List Nat := [s.a, s.b, s.c, s.d, s.e, s.f, s.g, s.h]
def pl (S X : List Nat) (k i : Nat) : Nat := if i < k then (S.getD i 0 + X.getD i 0) % 4294967296 else X.getD i 0
def pC (S X : List Nat) (k : Nat) : Array Value := ((List.range 8).map fun i => Value.int .u32 (pl S X k i : Nat)).toArray
theorem pC_size (S X : List Nat) (k : Nat) : (pC S X k).size = 8 := by simp [pC]
theorem pC_get (S X : List Nat) (k i : Nat) (h : i < 8) : (pC S X k)[i]? = some (.int .u32 (pl S X k i : Nat)) := by simp [pC, List.getElem?_range h]
theorem pC_set (S X : List Nat) (k : Nat) (h : k < 8) : (pC S X k).setIfInBounds k (.int .u32 ((S.getD k 0 + X.getD k 0) % 4294967296 : Nat)) = pC S X (k + 1) := by
  apply Array.ext_getElem?
  intro i
  by_cases hi : i < 8
  · rw [Array.getElem?_setIfInBounds, pC_get _ _ _ i hi, pC_get _ _ _ i hi]
    by_cases e : k = i
    · subst e
      rw [if_pos rfl, if_pos (by rw [pC_size]; exact hi)]
      simp [pl]
    · rw [if_neg e]
      congr 3
      unfold pl
      by_cases h2 : i < k
      · rw [if_pos h2, if_pos (by omega)]
      · rw [if_neg h2, if_neg (by omega)]
  · rw [Array.getElem?_eq_none (by rw [Array.size_setIfInBounds, pC_size]; omega), Array.getElem?_eq_none (by rw [pC_size]; omega)]
theorem pC_zero (S : List Nat) (x : Pl.Sha.St) : stV x = pC S (stL x) 0 := by simp [pC, pl, stV, stL, List.range_succ]
theorem pC_all (s x : Pl.Sha.St) : pC (stL s) (stL x) 8 = stV (Pl.Sha.plus s x) := by simp [pC, pl, stV, stL, List.range_succ, Pl.Sha.plus]
theorem stV_get (s : Pl.Sha.St) (k : Nat) (h : k < 8) : (stV s)[k]? = some (.int .u32 ((stL s).getD k 0 : Nat)) := by
  rw [pC_zero [], pC_get _ _ _ k h]
  simp [pl]
theorem quiet_at {P : Program} {f : FuncId} {args : Array Value} {w : World} {n : Nat} {v : Value}
    (h : Calls P f args (w.drewN n) fun e w' => e = .returned v ∧ w.drewN n = w') : Calls P f args (w.drewN n) fun e w'' => e = .returned v ∧ ∃ m, w'' = w.drewN m :=
  h.mono fun _ _ ⟨he, hm⟩ => ⟨he, n, hm.symm⟩
theorem quiet_at2 {P : Program} {f : FuncId} {args : Array Value} {w : World} {m n : Nat} {v : Value}
    (h : Calls P f args (w.drewN (m + n)) fun e w' => e = .returned v ∧ w.drewN (m + n) = w') : Calls P f args (w.drewN (m + n)) fun e w'' => e = .returned v ∧ ∃ k, w'' = w.drewN (m + k) :=
  h.mono fun _ _ ⟨he, hm⟩ => ⟨he, n, hm.symm⟩
theorem S0_steps (x : Nat) (h : x < 4294967296) : ∃ p q r m y, Pl.Sha.rotr x 2 = p ∧ Pl.Sha.rotr x 13 = q ∧ Pl.Sha.rotr x 22 = r ∧ Pl.Sha.S0 x = y ∧ bits .xor .u32 (p : Int) (q : Int) = (m : Nat) ∧ bits .xor .u32 (m : Int) (r : Int) = (y : Nat) ∧ y < 4294967296 := by
  obtain ⟨m, h1, h2, h3⟩ := xor3 _ _ _ (rotr_lt x 2 h) (rotr_lt x 13 h) (rotr_lt x 22 h)
  exact ⟨_, _, _, m, _, rfl, rfl, rfl, rfl, h1, h2, h3⟩
theorem S1_steps (x : Nat) (h : x < 4294967296) : ∃ p q r m y, Pl.Sha.rotr x 6 = p ∧ Pl.Sha.rotr x 11 = q ∧ Pl.Sha.rotr x 25 = r ∧ Pl.Sha.S1 x = y ∧ bits .xor .u32 (p : Int) (q : Int) = (m : Nat) ∧ bits .xor .u32 (m : Int) (r : Int) = (y : Nat) ∧ y < 4294967296 := by
  obtain ⟨m, h1, h2, h3⟩ := xor3 _ _ _ (rotr_lt x 6 h) (rotr_lt x 11 h) (rotr_lt x 25 h)
  exact ⟨_, _, _, m, _, rfl, rfl, rfl, rfl, h1, h2, h3⟩
theorem maj_steps (a b c : Nat) (ha : a < 4294967296) (hb : b < 4294967296) (hc : c < 4294967296) : ∃ p q r m y, bits .and .u32 (a : Int) (b : Int) = (p : Nat) ∧ bits .and .u32 (a : Int) (c : Int) = (q : Nat) ∧ bits .and .u32 (b : Int) (c : Int) = (r : Nat) ∧ bits .xor .u32 (p : Int) (q : Int) = (m : Nat) ∧ bits .xor .u32 (m : Int) (r : Int) = (y : Nat) ∧ Pl.Sha.maj a b c = y ∧ y < 4294967296 := by
  obtain ⟨m, h1, h2, h3⟩ := xor3 _ _ _ (and_lt32 a b ha) (and_lt32 a c ha) (and_lt32 b c hb)
  exact ⟨_, _, _, m, _, u32_and_nat _ _ ha hb, u32_and_nat _ _ ha hc, u32_and_nat _ _ hb hc, h1, h2, rfl, h3⟩
set_option maxHeartbeats 8000000 in
theorem turned_any (s : Pl.Sha.St) (B : List UInt8) (b off c : Nat) (w : World) (ht : Tab w) (hs : Ok s) (hB : Blk w b off B) (hb : b < w.heap.size) :
    Calls Tryd.prog 24 #[.agg (stV s), .slice (some ⟨b, off, none⟩) 64 c] w fun e w' => e = .returned (.agg (stV (Pl.Sha.turned s B))) ∧ Below w.heap.size w w' := by
  unfold stV
  go_enter Tryd.func24, Tryd.ntmps24
  go_upto_region 1 with fail
  obtain ⟨w0, hw0⟩ : ∃ w0, (w.alloc (.cells (stV s) 36)).alloc (.cells #[.int .u32 0, .int .u32 0, .int .u32 0, .int .u32 0, .int .u32 0, .int .u32 0, .int .u32 0, .int .u32 0] 36) = w0 := ⟨_, rfl⟩
  have b0 : Below w.heap.size w w0 := by rw [← hw0]; exact Joins.below_alloc2 _ _ _
  have s0 : StAt w.heap.size s w0 := by rw [← hw0]; exact heap_alloc2_old _ _ _
  have r0 : w0.heap[w.heap.size + 1]? = some (.cells #[.int .u32 0, .int .u32 0, .int .u32 0, .int .u32 0, .int .u32 0, .int .u32 0, .int .u32 0, .int .u32 0] 36) := by rw [← hw0]; exact heap_alloc2_new _ _ _
  unfold stV at hw0
  rw [hw0]
  have z0 : w0.heap.size = w.heap.size + 2 := by rw [← hw0]; simp
  clear hw0
  have hB0 := hB.below b0 hb
  go_wp2_with fail
  refine (spread_any B b off c w0 hB0 (by omega)).mono ?_
  rintro e w1 ⟨rfl, b1⟩
  have hRs := wcells_size (Pl.Sha.sched B 64)
  obtain ⟨R, hR⟩ : ∃ R, wcells (Pl.Sha.sched B 64) = R := ⟨_, rfl⟩
  rw [hR] at hRs ⊢
  rename_i K1 hK1
  refine hK1 _ _ ?_
  clear hK1 K1
  refine wpList_alloc_zero rfl 54 rfl (wcells []) 64 (by kernel_rfl) ?_
  have hRo : R.all (·.oneCell') = true := by rw [← hR]; simp [wcells, Value.oneCell']
  have hi : (Tryd.prog.info? 54).map (·.size) = some R.size := by rw [hRs]; kernel_rfl
  refine wpList_store_row rfl 54 _ _ rfl w1.heap.size R rfl rfl 54 (wcells []) (heap_alloc_last _ _) hi (by rw [hRs, wcells_size]) hRo ?_
  rw [World.setRow_alloc_new]
  apply wpList_nil
  have z1 := b1.size
  have hsp : StAt w.heap.size s w1 := (b1.block _ (by omega)).trans s0
  have hp0 := cell_of_row w1 w.heap.size 0 _ _ _ hsp
  have hp1 := cell_of_row w1 w.heap.size 1 _ _ _ hsp
  have hp2 := cell_of_row w1 w.heap.size 2 _ _ _ hsp
  have hp3 := cell_of_row w1 w.heap.size 3 _ _ _ hsp
  have hp4 := cell_of_row w1 w.heap.size 4 _ _ _ hsp
  have hp5 := cell_of_row w1 w.heap.size 5 _ _ _ hsp
  have hp6 := cell_of_row w1 w.heap.size 6 _ _ _ hsp
  have hp7 := cell_of_row w1 w.heap.size 7 _ _ _ hsp
  simp only [stV, List.getElem?_toArray, List.getElem?_cons_zero, List.getElem?_cons_succ] at hp0 hp1 hp2 hp3 hp4 hp5 hp6 hp7
  have n0 : w.heap.size < w1.heap.size := by omega
  go_upto_region 3 with fail
  obtain ⟨W2, hW2⟩ : ∃ W2, (w1.alloc (.cells R 54)).alloc (.cells (stV s) 36) = W2 := ⟨_, rfl⟩
  have b2 : Below w1.heap.size w1 W2 := by rw [← hW2]; exact Joins.below_alloc2 _ _ _
  have R2 : W2.heap[w1.heap.size]? = some (.cells R 54) := by rw [← hW2]; exact heap_alloc2_old _ _ _
  have S2 : StAt (w1.heap.size + 1) s W2 := by rw [← hW2]; exact heap_alloc2_new _ _ _
  unfold stV at hW2
  rw [hW2]
  have z2 : W2.heap.size = w1.heap.size + 2 := by rw [← hW2]; simp
  have t2 : Tab W2 := ((ht.below b0 ht.lt).below b1 (by have := ht.lt; omega)).below b2 (by have := ht.lt; omega)
  have hsp2 : StAt w.heap.size s W2 := (b2.block _ (by omega)).trans hsp
  have b02 : Below w.heap.size w W2 := (b0.trans (b1.mono (by omega))).trans (b2.mono (by omega))
  have r2 : W2.heap[w.heap.size + 1]? = _ := (b2.block _ (by omega)).trans ((b1.block _ (by omega)).trans r0)
  have hltN : w.heap.size + 1 < w1.heap.size := by omega
  have hg1 : 1 < w.heap.size := ht.lt
  clear hW2 hp0 hp1 hp2 hp3 hp4 hp5 hp6 hp7 b1 b2 b0 s0 r0 z0 z1 hsp hB0 hB ht
  generalize w1.heap.size = N at *
  go_upto_region 4 with fail
  go_loopw [16] (fun i wr => ∃ k : Nat, k ≤ 64 ∧ i = .int .i64 k ∧ Below (N + 1) W2 wr ∧ StAt (N + 1) (Pl.Sha.rnds s (Pl.Sha.sched B 64) k) wr) (fun i _ => 64 - (intOf i).toNat)
  case atStart => exact ⟨0, by omega, rfl, Below.refl _ _, S2⟩
  case round =>
    obtain ⟨k, hk, rfl, bk, sk⟩ := hrel
    by_cases hlt : k < 64
    · obtain ⟨x, hx⟩ : ∃ x, Pl.Sha.rnds s (Pl.Sha.sched B 64) k = x := ⟨_, rfl⟩
      have hOx : Ok x := by rw [← hx]; exact hs.rnds _ _
      rw [hx] at sk
      have HX := Lib.hid hx
      have HR := Lib.hid hR
      clear hx
      obtain ⟨a, b', c', d, e, f, g, h⟩ := x
      obtain ⟨l1, l2, l3, l4, l5, l6, l7, l8⟩ := hOx
      dsimp only at l1 l2 l3 l4 l5 l6 l7 l8
      have hp0 := cell_of_row wr (N + 1) 0 _ _ _ sk
      have hp1 := cell_of_row wr (N + 1) 1 _ _ _ sk
      have hp2 := cell_of_row wr (N + 1) 2 _ _ _ sk
      have hp3 := cell_of_row wr (N + 1) 3 _ _ _ sk
      have hp4 := cell_of_row wr (N + 1) 4 _ _ _ sk
      have hp5 := cell_of_row wr (N + 1) 5 _ _ _ sk
      have hp6 := cell_of_row wr (N + 1) 6 _ _ _ sk
      have hp7 := cell_of_row wr (N + 1) 7 _ _ _ sk
      simp only [stV, List.getElem?_toArray, List.getElem?_cons_zero, List.getElem?_cons_succ] at hp0 hp1 hp2 hp3 hp4 hp5 hp6 hp7
      have fz0 := frozen_of_row wr (N + 1) 0 _ _ sk
      have fz1 := frozen_of_row wr (N + 1) 1 _ _ sk
      have fz2 := frozen_of_row wr (N + 1) 2 _ _ sk
      have fz3 := frozen_of_row wr (N + 1) 3 _ _ sk
      have fz4 := frozen_of_row wr (N + 1) 4 _ _ sk
      have fz5 := frozen_of_row wr (N + 1) 5 _ _ sk
      have fz6 := frozen_of_row wr (N + 1) 6 _ _ sk
      have fz7 := frozen_of_row wr (N + 1) 7 _ _ sk
      have cR : wr.cell? ⟨N, k, none⟩ = some (.int .u32 ((Pl.Sha.sched B 64).getD k 0 : Nat)) := by
        rw [cell_of_row wr N k _ _ _ ((bk.block N (by omega)).trans R2), ← hR, wcells_get _ _ hlt]
      have cC : wr.cell? ⟨1, k, none⟩ = some (.int .u32 (Pl.Sha.consts.getD k 0 : Nat)) := by
        rw [bk.cell (p := ⟨1, k, none⟩) (by dsimp only; omega)]; exact t2.consts k hlt
      obtain ⟨wk, hwk⟩ : ∃ x, (Pl.Sha.sched B 64).getD k 0 = x := ⟨_, rfl⟩
      obtain ⟨ck, hck⟩ : ∃ x, Pl.Sha.consts.getD k 0 = x := ⟨_, rfl⟩
      have lwk : wk < 4294967296 := by rw [← hwk]; exact getD_lt _ (sched_lt B 64) k
      rw [hwk] at cR
      rw [hck] at cC
      obtain ⟨p1, q1, r1, m1, y1, e1, e2, e3, e4, e5, e6, ly1⟩ := S1_steps e l5
      obtain ⟨p2, q2, r2', m2, y2, f1, f2, f3, f4, f5, f6, ly2⟩ := S0_steps a l1
      obtain ⟨p3, q3, r3, m3, y3, g1, g2, g3, g4, g5, g6, ly3⟩ := maj_steps a b' c' l1 l2 l3
      have C6 := Lib.hid (fun w n => quiet_at (rot6 e (World.drewN w n) l5))
      have C11 := Lib.hid (fun w n => quiet_at (rot11 e (World.drewN w n) l5))
      have C25 := Lib.hid (fun w n => quiet_at (rot25 e (World.drewN w n) l5))
      have C2 := Lib.hid (fun w m n => quiet_at2 (rot2 a (World.drewN w (m + n)) l1))
      have C13 := Lib.hid (fun w m n => quiet_at2 (rot13 a (World.drewN w (m + n)) l1))
      have C22 := Lib.hid (fun w m n => quiet_at2 (rot22 a (World.drewN w (m + n)) l1))
      rw [e1] at C6
      rw [e2] at C11
      rw [e3] at C25
      rw [f1] at C2
      rw [f2] at C13
      rw [f3] at C22
      obtain ⟨hch, lch⟩ := ch_bits e f g l5 l6 l7
      obtain ⟨y4, hy4⟩ : ∃ y, Pl.Sha.ch e f g = y := ⟨_, rfl⟩
      rw [hy4] at hch lch
      obtain ⟨T1, hT1⟩ : ∃ t, (h + y1 + y4 + ck + wk) % 4294967296 = t := ⟨_, rfl⟩
      obtain ⟨T2, hT2⟩ : ∃ t, (y2 + y3) % 4294967296 = t := ⟨_, rfl⟩
      have lT1 : T1 < 4294967296 := by rw [← hT1]; exact Nat.mod_lt _ (by decide)
      have lT2 : T2 < 4294967296 := by rw [← hT2]; exact Nat.mod_lt _ (by decide)
      have HCH := Lib.hid hch
      have HT1 := Lib.hid (show (((h : Int) + y1 + y4 + ck) % 4294967296 + wk) % 4294967296 = (T1 : Int) by omega)
      have HT2 := Lib.hid (show ((y2 : Int) + y3) % 4294967296 = (T2 : Int) by omega)
      have HV := Lib.hid (And.intro hy4 (And.intro hT1 hT2))
      clear hy4 hT1 hT2 hch
      have HF := Lib.hid (And.intro hwk (And.intro hck (And.intro e4 (And.intro f4 g6))))
      have HK := Lib.hid (And.intro t2 (And.intro hsp2 (And.intro b02 (And.intro r2 (And.intro R2 (And.intro hRo (And.intro hRs hi)))))))
      clear hwk hck e1 e2 e3 e4 f1 f2 f3 f4 g6 t2 hsp2 b02 r2 R2 S2 hRo hRs hi hR
      go_upto_region 6 with fail
      go_quiet ((first | with_reducible exact C6.out _ _ | with_reducible exact C11.out _ _ | with_reducible exact C25.out _ _))
      go_upto_region 7 with fail
      go_quiet (fail)
      rw [HCH.out, HT1.out]
      go_upto_region 8 with fail
      go_quiet ((first | with_reducible exact C2.out _ _ _ | with_reducible exact C13.out _ _ _ | with_reducible exact C22.out _ _ _))
      go_upto_region 10 with fail
      rw [HT2.out]
      go_wp2
      obtain ⟨hwk, hck, hS1, hS0, hmaj⟩ := HF.out
      obtain ⟨hy4, hT1, hT2⟩ := HV.out
      have hnext : Pl.Sha.rnds s (Pl.Sha.sched B 64) (k + 1) = ⟨(T1 + T2) % 4294967296, a, b', c', (d + T1) % 4294967296, e, f, g⟩ := by
        rw [Pl.Sha.rnds, HX.out, hwk, hck, Pl.Sha.rnd]
        dsimp only
        rw [hS1, hy4, hT1, hS0, hmaj, hT2]
      refine ⟨⟨k + 1, by omega, by go_num, below_set8 (bk.drewN _) (Nat.le_refl _) ⟨(T1 + T2) % 4294967296, a, b', c', (d + T1) % 4294967296, e, f, g⟩, ?_⟩, by simp [intOf]; omega⟩
      rw [hnext]
      exact StAt.set8 (sk.drewN _) ⟨(T1 + T2) % 4294967296, a, b', c', (d + T1) % 4294967296, e, f, g⟩
    · have : k = 64 := by omega
      subst this
      obtain ⟨x, hx⟩ : ∃ x, Pl.Sha.rnds s (Pl.Sha.sched B 64) 64 = x := ⟨_, rfl⟩
      rw [hx] at sk
      have hfin : Pl.Sha.turned s B = Pl.Sha.plus s x := by unfold Pl.Sha.turned; rw [hx]
      have sk0 : wr.heap[N + 1]? = some (.cells (pC (stL s) (stL x) 0) 36) := by rw [← pC_zero]; exact sk
      have hfst := (bk.block w.heap.size (by omega)).trans hsp2
      have hres := (bk.block (w.heap.size + 1) (by omega)).trans r2
      have bel := b02.trans (bk.mono (by omega))
      clear S2 R2 hRo hRs hi hR t2 hsp2 b02 r2 hx sk
      go_upto_region 12 with fail
      rw [show ((64 : Nat) : Int) = (64 : Int) from rfl]
      generalize wr = W3 at *
      go_upto_region 13 with fail
      go_loopw [106] (fun i wr => ∃ k : Nat, k ≤ 8 ∧ i = .int .i64 k ∧ Below (N + 1) W3 wr ∧ wr.heap[N + 1]? = some (.cells (pC (stL s) (stL x) k) 36)) (fun i _ => 8 - (intOf i).toNat)
      case atStart => exact ⟨0, by omega, rfl, Below.refl _ _, sk0⟩
      case round =>
        obtain ⟨k, hk, rfl, bz, cz⟩ := hrel
        by_cases hlt : k < 8
        · have c1 := cell_of_row wr (N + 1) k _ _ _ cz
          rw [pC_get _ _ _ _ hlt, show pl (stL s) (stL x) k k = (stL x).getD k 0 by simp [pl]] at c1
          have c2 := cell_of_row wr w.heap.size k _ _ _ ((bz.block _ (by omega)).trans hfst)
          rw [stV_get _ _ hlt] at c2
          have c3 := frozen_of_row wr (N + 1) k _ _ cz
          have n1 := Joins.block_setCell (i := k) cz (.int .u32 (((stL s).getD k 0 + (stL x).getD k 0) % 4294967296 : Nat))
          rw [pC_set _ _ _ hlt] at n1
          have HN := Lib.hid n1
          obtain ⟨p, hp⟩ : ∃ p, (stL s).getD k 0 = p := ⟨_, rfl⟩
          obtain ⟨q, hq⟩ : ∃ q, (stL x).getD k 0 = q := ⟨_, rfl⟩
          rw [hp] at c2 HN
          rw [hq] at c1 HN
          have HS := Lib.hid (show ((q : Int) + p) % 4294967296 = (((p + q) % 4294967296 : Nat) : Int) by omega)
          clear n1 cz hp hq sk0 hres hfst
          go_upto_region 15 with fail
          go_region
          rw [HS.out]
          go_wp2
          go_round
          case rel => exact ⟨k + 1, by omega, by go_num, (bz.setCell (p := ⟨N + 1, k, none⟩) (Nat.le_refl _) _).drew, HN.out⟩
          case measure => simp [intOf]; omega
        · have : k = 8 := by omega
          subst this
          rw [pC_all, ← hfin] at cz
          obtain ⟨R8, hR8⟩ : ∃ r, stV (Pl.Sha.turned s B) = r := ⟨_, rfl⟩
          have hs8 : R8.size = 8 := by rw [← hR8]; rfl
          have ho8 : R8.all (·.oneCell') = true := by rw [← hR8]; simp [stV, Value.oneCell']
          rw [hR8] at cz
          have hi : (Tryd.prog.info? 36).map (·.size) = some R8.size := by rw [hs8]; kernel_rfl
          have hu : Tryd.prog.underlying 36 = some (.array 8 35) := Tryd.underlying36
          have hres2 := (bz.block (w.heap.size + 1) (by omega)).trans hres
          go_upto_region 17 with fail
          apply wp_region_lit
          refine wpList_load_row rfl 36 _ rfl (N + 1) rfl 36 R8 _ _ cz hu rfl hi ?_
          refine wpList_store_row rfl 36 _ _ rfl (w.heap.size + 1) R8 rfl rfl 36 _ hres2 hi (by rw [hs8]; rfl) ho8 ?_
          apply wpList_nil
          have y2 := setRow_heap wr (w.heap.size + 1) _ R8 _ _ hres2
          have bz2 := bel.trans (bz.mono (by omega))
          have bel2 : Below w.heap.size w (wr.setRow (w.heap.size + 1) R8) := ⟨bz2.os, bz2.tape, bz2.output, by rw [setRow_size]; exact bz2.size, fun j hj => (setRow_other wr _ j R8 (by omega)).trans (bz2.block j hj)⟩
          generalize wr.setRow (w.heap.size + 1) R8 = wz at *
          go_wp2
          unfold stV at hR8
          refine bodyPost_ret (results_cell_row (p := 4) rfl _ _ (w.heap.size + 1) 36 R8 _ _ rfl y2 hu rfl hi) rfl ⟨by rw [hR8], bel2⟩
end Go.Proofs.YtfnjcobgbdioeaaDoor.WalkSha
