/-
  The walks of sha.spread and sha.turned: a block's words, and a state behind a block.
-/
import Derived.Test.YtfnjcobgbdioeaaDoorWalkShaRot
namespace Go.Proofs.YtfnjcobgbdioeaaDoor.WalkSha
open Go.RowKit
set_option linter.unusedVariables false
set_option linter.unusedSimpArgs false
set_option maxRecDepth 100000

/-- a block's bytes lie there -/
def Blk (w : World) (b off : Nat) (B : List UInt8) : Prop := ∀ i, i < 64 → w.cell? ⟨b, off + i, none⟩ = some (.int .u8 ((B.getD i 0).toNat : Nat))
theorem Blk.below {w w' : World} {b off : Nat} {B : List UInt8} (h : Blk w b off B) {n : Nat} (hb : Below n w w') (hn : b < n) : Blk w' b off B := fun i hi => by rw [hb.cell (p := ⟨b, off + i, none⟩) hn]; exact h i hi
/-- 64 words -/
def wcells (l : List Nat) : Array Value := ((List.range 64).map fun i => Value.int .u32 (l.getD i 0 : Nat)).toArray
theorem wcells_size (l : List Nat) : (wcells l).size = 64 := by simp [wcells]
theorem wcells_get (l : List Nat) (i : Nat) (h : i < 64) : (wcells l)[i]? = some (.int .u32 (l.getD i 0 : Nat)) := by simp [wcells, List.getElem?_range h]
theorem wcells_set (l : List Nat) (x : Nat) : (wcells l).setIfInBounds l.length (.int .u32 (x : Nat)) = wcells (l ++ [x]) := by
  apply Array.ext_getElem?
  intro i
  by_cases hi : i < 64
  · rw [Array.getElem?_setIfInBounds, wcells_get _ i hi]
    by_cases e : l.length = i
    · subst e
      rw [if_pos rfl, if_pos (by rw [wcells_size]; exact hi), wcells_get _ _ hi]
      simp [List.getD_eq_getElem?_getD]
    · rw [if_neg e, wcells_get _ i hi]
      congr 3
      rw [List.getD_eq_getElem?_getD, List.getD_eq_getElem?_getD]
      by_cases h2 : i < l.length
      · rw [List.getElem?_append_left h2]
      · rw [List.getElem?_eq_none (by omega), List.getElem?_eq_none (by simp; omega)]
  · rw [Array.getElem?_eq_none (by rw [Array.size_setIfInBounds, wcells_size]; omega), Array.getElem?_eq_none (by rw [wcells_size]; omega)]
theorem word_or (a b c d : Nat) (ha : a < 256) (hb : b < 256) (hc : c < 256) (hd : d < 256) : bits .or .u32 (bits .or .u32 (bits .or .u32 ((a : Int) * 16777216) ((b : Int) * 65536)) ((c : Int) * 256)) (d : Int) = ((a * 16777216 + b * 65536 + c * 256 + d : Nat) : Int) := by
  have e1 : a * 16777216 ||| b * 65536 = a * 16777216 + b * 65536 := by
    rw [Nat.mul_comm a]; exact (Nat.two_pow_add_eq_or_of_lt (i := 24) (b := b * 65536) (by omega) a).symm
  have e2 : (a * 16777216 + b * 65536) ||| c * 256 = a * 16777216 + b * 65536 + c * 256 := by
    rw [show a * 16777216 + b * 65536 = 2 ^ 16 * (a * 256 + b) by omega]; exact (Nat.two_pow_add_eq_or_of_lt (i := 16) (b := c * 256) (by omega) _).symm
  have e3 : (a * 16777216 + b * 65536 + c * 256) ||| d = a * 16777216 + b * 65536 + c * 256 + d := by
    rw [show a * 16777216 + b * 65536 + c * 256 = 2 ^ 8 * (a * 65536 + b * 256 + c) by omega]; exact (Nat.two_pow_add_eq_or_of_lt (i := 8) (b := d) (by omega) _).symm
  rw [show (a : Int) * 16777216 = ((a * 16777216 : Nat) : Int) from rfl, show (b : Int) * 65536 = ((b * 65536 : Nat) : Int) from rfl, show (c : Int) * 256 = ((c * 256 : Nat) : Int) from rfl,
    u32_or_nat _ _ (by omega) (by omega), e1, u32_or_nat _ _ (by omega) (by omega), e2, u32_or_nat _ _ (by omega) (by omega), e3]
theorem rotr_lt (x n : Nat) (h : x < 4294967296) : Pl.Sha.rotr x n < 4294967296 := by
  unfold Pl.Sha.rotr
  have h1 : x / 2 ^ n ≤ x := Nat.div_le_self _ _
  exact Nat.or_lt_two_pow (n := 32) (by omega) (by omega)
theorem xor3 (a b c : Nat) (ha : a < 4294967296) (hb : b < 4294967296) (hc : c < 4294967296) : ∃ m, bits .xor .u32 (a : Int) (b : Int) = (m : Nat) ∧ bits .xor .u32 (m : Int) (c : Int) = ((a ^^^ b ^^^ c : Nat) : Int) ∧ (a ^^^ b ^^^ c) < 4294967296 := by
  have h1 : a ^^^ b < 4294967296 := Nat.xor_lt_two_pow (n := 32) ha hb
  exact ⟨a ^^^ b, u32_xor_nat _ _ ha hb, u32_xor_nat _ _ h1 hc, Nat.xor_lt_two_pow (n := 32) h1 hc⟩
theorem s0_steps (x : Nat) (h : x < 4294967296) : ∃ p q m y, Pl.Sha.rotr x 7 = p ∧ Pl.Sha.rotr x 18 = q ∧ Pl.Sha.s0 x = y ∧ bits .xor .u32 (p : Int) (q : Int) = (m : Nat) ∧ bits .xor .u32 (m : Int) ((x : Int) / 8) = (y : Nat) ∧ y < 4294967296 := by
  obtain ⟨m, h1, h2, h3⟩ := xor3 _ _ _ (rotr_lt x 7 h) (rotr_lt x 18 h) (show x / 8 < 4294967296 by omega)
  exact ⟨_, _, m, _, rfl, rfl, rfl, h1, h2, h3⟩
theorem s1_steps (x : Nat) (h : x < 4294967296) : ∃ p q m y, Pl.Sha.rotr x 17 = p ∧ Pl.Sha.rotr x 19 = q ∧ Pl.Sha.s1 x = y ∧ bits .xor .u32 (p : Int) (q : Int) = (m : Nat) ∧ bits .xor .u32 (m : Int) ((x : Int) / 1024) = (y : Nat) ∧ y < 4294967296 := by
  obtain ⟨m, h1, h2, h3⟩ := xor3 _ _ _ (rotr_lt x 17 h) (rotr_lt x 19 h) (show x / 1024 < 4294967296 by omega)
  exact ⟨_, _, m, _, rfl, rfl, rfl, h1, h2, h3⟩
theorem word_lt (b : List UInt8) (i : Nat) : Pl.Sha.word b i < 4294967296 := by
  have h0 := UInt8.toNat_lt (b.getD (4 * i) 0)
  have h1 := UInt8.toNat_lt (b.getD (4 * i + 1) 0)
  have h2 := UInt8.toNat_lt (b.getD (4 * i + 2) 0)
  have h3 := UInt8.toNat_lt (b.getD (4 * i + 3) 0)
  unfold Pl.Sha.word
  omega
theorem getD_lt (l : List Nat) (h : ∀ x ∈ l, x < 4294967296) (i : Nat) : l.getD i 0 < 4294967296 := by
  rw [List.getD_eq_getElem?_getD]
  by_cases hi : i < l.length
  · rw [List.getElem?_eq_getElem hi]; exact h _ (List.getElem_mem hi)
  · rw [List.getElem?_eq_none (by omega)]; decide
theorem sched_lt (b : List UInt8) (k : Nat) : ∀ x ∈ Pl.Sha.sched b k, x < 4294967296 := by
  induction k with
  | zero => intro x hx; simp [Pl.Sha.sched] at hx
  | succ k ih =>
    intro x hx
    rw [Pl.Sha.sched] at hx
    rcases List.mem_append.1 hx with h | h
    · exact ih x h
    · simp only [List.mem_singleton] at h
      subst h
      split
      · exact word_lt _ _
      · exact Nat.mod_lt _ (by decide)
theorem wnew (w : World) : ∃ W, (w.alloc (.cells (wcells []) 54)).alloc (.cells (wcells []) 54) = W ∧ Below w.heap.size w W ∧ W.heap[w.heap.size]? = some (.cells (wcells []) 54) ∧ W.heap[w.heap.size + 1]? = some (.cells (wcells []) 54) := ⟨_, rfl, Joins.below_alloc2 _ _ _, heap_alloc2_old _ _ _, heap_alloc2_new _ _ _⟩
theorem spread_any (B : List UInt8) (b off c : Nat) (w : World) (hB : Blk w b off B) (hb : b < w.heap.size) :
    Calls Tryd.prog 28 #[.slice (some ⟨b, off, none⟩) 64 c] w fun e w' => e = .returned (.agg (wcells (Pl.Sha.sched B 64))) ∧ Below w.heap.size w w' := by
  go_enter Tryd.func28, Tryd.ntmps28
  go_upto_region 2 with fail
  change Code.wp _ _ _ _ ((w.alloc (.cells (wcells []) 54)).alloc (.cells (wcells []) 54)) 
  obtain ⟨W, hW, bel, z0, z1⟩ := wnew w
  rw [hW]
  clear hW
  go_upto_region 3 with fail
  go_loopw [9] (fun i wr => ∃ k : Nat, k ≤ 64 ∧ i = .int .i64 k ∧ Below w.heap.size w wr ∧ wr.heap[w.heap.size]? = some (.cells (wcells []) 54) ∧ wr.heap[w.heap.size + 1]? = some (.cells (wcells (Pl.Sha.sched B k)) 54)) (fun i _ => 64 - (intOf i).toNat)
  case atStart => exact ⟨0, by omega, rfl, bel, z0, z1⟩
  case round =>
    obtain ⟨k, hk, rfl, bk, y0, y1⟩ := hrel
    have hBk := hB.below bk hb
    have hsz := bk.size
    by_cases hlt : k < 64
    · by_cases h16 : k < 16
      · obtain ⟨x0, hx0⟩ : ∃ x, (B.getD (4 * k) 0).toNat = x := ⟨_, rfl⟩
        obtain ⟨x1, hx1⟩ : ∃ x, (B.getD (4 * k + 1) 0).toNat = x := ⟨_, rfl⟩
        obtain ⟨x2, hx2⟩ : ∃ x, (B.getD (4 * k + 2) 0).toNat = x := ⟨_, rfl⟩
        obtain ⟨x3, hx3⟩ : ∃ x, (B.getD (4 * k + 3) 0).toNat = x := ⟨_, rfl⟩
        have q0 := hBk (4 * k) (by omega)
        have q1 := hBk (4 * k + 1) (by omega)
        have q2 := hBk (4 * k + 2) (by omega)
        have q3 := hBk (4 * k + 3) (by omega)
        rw [hx0] at q0
        rw [hx1] at q1
        rw [hx2] at q2
        rw [hx3] at q3
        have cs := cell_of_row wr (w.heap.size + 1) k _ _ _ y1
        rw [wcells_get _ _ (by omega)] at cs
        have fs := frozen_of_row wr (w.heap.size + 1) k _ _ y1
        have b0 : x0 < 256 := by rw [← hx0]; exact UInt8.toNat_lt _
        have b1 : x1 < 256 := by rw [← hx1]; exact UInt8.toNat_lt _
        have b2 : x2 < 256 := by rw [← hx2]; exact UInt8.toNat_lt _
        have b3 : x3 < 256 := by rw [← hx3]; exact UInt8.toNat_lt _
        have hor := word_or x0 x1 x2 x3 b0 b1 b2 b3
        rw [show x0 * 16777216 + x1 * 65536 + x2 * 256 + x3 = Pl.Sha.word B k by unfold Pl.Sha.word; rw [hx0, hx1, hx2, hx3]] at hor
        have HOR := Lib.hid hor
        have Y0 := Lib.hid y0
        clear y0 bel z0 z1 hBk hB hor hx0 hx1 hx2 hx3
        go_upto_region 6 with fail
        go_region
        have y0 := Y0.out
        rw [HOR.out]
        obtain ⟨wx, hwx⟩ : ∃ wx, wr.setCell { block := w.heap.size + 1, off := k } (.int .u32 (Pl.Sha.word B k : Nat)) = wx := ⟨_, rfl⟩
        have n0 : wx.heap[w.heap.size]? = some (.cells (wcells []) 54) := by rw [← hwx, Below.heap_setCell _ _ _ _ (by simp)]; exact y0
        have n1 : wx.heap[w.heap.size + 1]? = some (.cells (wcells (Pl.Sha.sched B (k + 1))) 54) := by
          rw [← hwx, Joins.block_setCell y1]
          have := wcells_set (Pl.Sha.sched B k) (Pl.Sha.word B k)
          rw [Pl.Sha.sched_length] at this
          rw [this, Pl.Sha.sched, if_pos h16]
        have nb : Below w.heap.size w wx := by rw [← hwx]; exact bk.setCell (Nat.le_succ _) _
        rw [hwx]
        clear y0 y1 cs fs hwx
        go_wp2
        go_round
        case rel => exact ⟨k + 1, by omega, by go_num, nb.drew, n0, n1⟩
        case measure => simp [intOf]; omega
      · have cell : ∀ j, j < k → ∃ x, (Pl.Sha.sched B k).getD j 0 = x ∧ x < 4294967296 ∧ wr.cell? ⟨w.heap.size + 1, j, none⟩ = some (.int .u32 (x : Nat)) := by
          intro j hj
          refine ⟨_, rfl, getD_lt _ (sched_lt B k) j, ?_⟩
          rw [cell_of_row wr (w.heap.size + 1) j _ _ _ y1, wcells_get _ _ (by omega)]
        obtain ⟨x16, hx16, l16, q16⟩ := cell (k - 16) (by omega)
        obtain ⟨x15, hx15, l15, q15⟩ := cell (k - 15) (by omega)
        obtain ⟨x7, hx7, l7, q7⟩ := cell (k - 7) (by omega)
        obtain ⟨x2, hx2, l2, q2⟩ := cell (k - 2) (by omega)
        obtain ⟨a, b', m, s, ha, hb', hs, a1, a2, a3⟩ := s0_steps x15 l15
        obtain ⟨c', d', n, t, hc', hd', ht, a4, a5, a6⟩ := s1_steps x2 l2
        have C7 := Lib.hid (fun w => rot7 x15 w l15)
        have C18 := Lib.hid (fun w => rot18 x15 w l15)
        have C17 := Lib.hid (fun w => rot17 x2 w l2)
        have C19 := Lib.hid (fun w => rot19 x2 w l2)
        rw [ha] at C7
        rw [hb'] at C18
        rw [hc'] at C17
        rw [hd'] at C19
        have e16 : (k : Int) - 16 = ((k - 16 : Nat) : Int) := by omega
        have e15 : (k : Int) - 15 = ((k - 15 : Nat) : Int) := by omega
        have e7 : (k : Int) - 7 = ((k - 7 : Nat) : Int) := by omega
        have e2 : (k : Int) - 2 = ((k - 2 : Nat) : Int) := by omega
        have cs := cell_of_row wr (w.heap.size + 1) k _ _ _ y1
        rw [wcells_get _ _ (by omega)] at cs
        have fs := frozen_of_row wr (w.heap.size + 1) k _ _ y1
        have hv : (x16 + s + x7 + t) % 4294967296 = Pl.Sha.wnext (Pl.Sha.sched B k) := by
          unfold Pl.Sha.wnext
          rw [Pl.Sha.sched_length, hx16, hx15, hx7, hx2, hs, ht]
        obtain ⟨v, hv'⟩ : ∃ v, Pl.Sha.wnext (Pl.Sha.sched B k) = v := ⟨_, rfl⟩
        rw [hv'] at hv
        have n1' : (wr.setCell { block := w.heap.size + 1, off := k } (.int .u32 (v : Nat))).heap[w.heap.size + 1]? = some (.cells (wcells (Pl.Sha.sched B (k + 1))) 54) := by
          rw [Joins.block_setCell y1]
          have := wcells_set (Pl.Sha.sched B k) v
          rw [Pl.Sha.sched_length] at this
          rw [this, Pl.Sha.sched, if_neg h16, hv']
        have N1 := Lib.hid n1'
        have Y0 := Lib.hid y0
        have HV := Lib.hid hv
        clear y0 y1 bel z0 z1 hBk hB cell n1' hv hv' ha hb' hs hc' hd' ht hx16 hx15 hx7 hx2
        go_upto_region 7 with fail
        go_region
        go_wp2_with fail
        refine (C7.out _).mono ?_
        rintro e w1 ⟨rfl, rfl⟩
        go_wp2_with fail
        refine (C18.out _).mono ?_
        rintro e w1 ⟨rfl, rfl⟩
        go_wp2_with fail
        refine (C17.out _).mono ?_
        rintro e w1 ⟨rfl, rfl⟩
        go_wp2_with fail
        refine (C19.out _).mono ?_
        rintro e w1 ⟨rfl, rfl⟩
        go_wp2_with fail
        go_region
        have hval : ((x16 : Int) + s + x7 + t) % 4294967296 = (v : Int) := by have := HV.out; omega
        rw [hval]
        clear hval
        obtain ⟨wx, hwx⟩ : ∃ wx, wr.setCell { block := w.heap.size + 1, off := k } (.int .u32 (v : Nat)) = wx := ⟨_, rfl⟩
        have n0 : wx.heap[w.heap.size]? = some (.cells (wcells []) 54) := by rw [← hwx, Below.heap_setCell _ _ _ _ (by simp)]; exact Y0.out
        have n1 := N1.out
        rw [hwx] at n1
        have nb : Below w.heap.size w wx := by rw [← hwx]; exact bk.setCell (Nat.le_succ _) _
        rw [hwx]
        clear cs fs hwx
        go_wp2
        go_round
        case rel => exact ⟨k + 1, by omega, by go_num, nb.drew.drew, n0, n1⟩
        case measure => simp [intOf]; omega
    · have : k = 64 := by omega
      subst this
      have hx := wcells_size (Pl.Sha.sched B 64)
      have ho : (wcells (Pl.Sha.sched B 64)).all (·.oneCell') = true := by simp [wcells, Value.oneCell']
      generalize hR : wcells (Pl.Sha.sched B 64) = R at *
      have hn := wcells_size []
      generalize wcells [] = Z at *
      have hi : (Tryd.prog.info? 54).map (·.size) = some R.size := by rw [hx]; kernel_rfl
      have hu : Tryd.prog.underlying 54 = some (.array 64 35) := Tryd.underlying54
      go_upto_region 12 with fail
      apply wp_region_lit
      refine wpList_load_row rfl 54 _ rfl (w.heap.size + 1) rfl 54 R _ _ y1 hu rfl hi ?_
      refine wpList_store_row rfl 54 _ _ rfl w.heap.size R rfl rfl 54 Z y0 hi (by rw [hx, hn]) ho ?_
      apply wpList_nil
      have y2 := setRow_heap wr w.heap.size Z R _ _ y0
      have bel2 : Below w.heap.size w (wr.setRow w.heap.size R) := ⟨bk.os, bk.tape, bk.output, by rw [setRow_size]; exact bk.size, fun j hj => (setRow_other wr _ j R (by omega)).trans (bk.block j hj)⟩
      generalize wr.setRow w.heap.size R = wz at *
      go_wp2
      refine bodyPost_ret (results_cell_row (p := 2) rfl _ _ w.heap.size 54 R _ _ rfl y2 hu rfl hi) rfl ⟨by rw [hR], bel2⟩
end Go.Proofs.YtfnjcobgbdioeaaDoor.WalkSha
