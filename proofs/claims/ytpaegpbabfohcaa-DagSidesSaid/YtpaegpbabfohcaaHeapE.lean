/-
  container/heap over dag's queue: the row of numbers, and Up.
-/
import Derived.Test.YtpaegpbabfohcaaHeapD
import Derived.Test.YtpaegpbabfohcaaHeapPure
import Derived.OwnWalk
import Derived.Maps.AppendAt
import Derived.Laws.Rows
import Derived.Deep.WholeRow
import Derived.Deep.DeepMust
import Derived.Lib.SmallJoins
import Derived.Deep.RegionWith
import Derived.Deep.Draws
namespace Go.Proofs.Ytpaegpbabfohcaa.HeapA
open Go.RowKit Go.Proofs.Ytpaegpbabfohcaa.HeapPure
set_option linter.unusedVariables false
set_option linter.unusedSimpArgs false
set_option maxRecDepth 100000

/-- numbers as cells -/
def iv (q : List Int) : List Value := q.map (Value.int .i64)
theorem iv_length (q : List Int) : (iv q).length = q.length := by simp [iv]
theorem iv_get (q : List Int) (i : Nat) (h : i < q.length) : (iv q)[i]? = some (.int .i64 (q.getD i 0)) := by
  simp [iv, List.getD_eq_getElem?_getD, List.getElem?_eq_getElem h]
theorem iv_set (q : List Int) (i : Nat) (x : Int) : (iv q).set i (.int .i64 x) = iv (q.set i x) := by simp [iv, List.map_set]
/-- a row of numbers of its own in block g -/
structure QRow (w : World) (g cap : Nat) (q : List Int) : Prop where
  row : ∃ cur, w.heap[g]? = some (.cells cur 3 (0, 0)) ∧ cur.size = cap ∧ cur.toList.take q.length = iv q
  le : q.length ≤ cap
  max : cap ≤ maxLen
theorem QRow.lt {w : World} {g cap : Nat} {q : List Int} (h : QRow w g cap q) : g < w.heap.size := by
  obtain ⟨cur, hc, _⟩ := h.row
  exact (Array.getElem?_eq_some_iff.1 hc).1
theorem QRow.cell {w : World} {g cap : Nat} {q : List Int} (h : QRow w g cap q) {i : Nat} (hi : i < q.length) : w.cell? ⟨g, i, none⟩ = some (.int .i64 (q.getD i 0)) := by
  obtain ⟨cur, hc, hs, ht⟩ := h.row
  rw [cell_of_row w g i cur _ _ hc, ← iv_get q i hi, ← ht, List.getElem?_take, if_pos hi]
  simp
theorem QRow.frozen {w : World} {g cap : Nat} {q : List Int} (h : QRow w g cap q) (i : Nat) : w.frozen? ⟨g, i, none⟩ = false := by
  obtain ⟨cur, hc, _⟩ := h.row
  exact frozen_of_row w g i cur _ hc
theorem QRow.keep {w w' : World} {g cap : Nat} {q : List Int} (h : QRow w g cap q) (k : w'.heap[g]? = w.heap[g]?) : QRow w' g cap q := by
  obtain ⟨cur, hc, hs, ht⟩ := h.row
  exact ⟨⟨cur, by rw [k]; exact hc, hs, ht⟩, h.le, h.max⟩
theorem QRow.set {w : World} {g cap : Nat} {q : List Int} (h : QRow w g cap q) {i : Nat} (hi : i < q.length) (x : Int) : QRow (w.setCell ⟨g, i, none⟩ (.int .i64 x)) g cap (q.set i x) := by
  obtain ⟨cur, hc, hs, ht⟩ := h.row
  have hl := h.le
  refine ⟨⟨cur.setIfInBounds i (.int .i64 x), Joins.block_setCell hc _, by rw [Array.size_setIfInBounds]; exact hs, ?_⟩, by simpa using hl, h.max⟩
  rw [← iv_set, ← ht, List.length_set, Array.toList_setIfInBounds, List.take_set]
theorem QRow.take {w : World} {g cap : Nat} {q : List Int} (h : QRow w g cap q) (n : Nat) : QRow w g cap (q.take n) := by
  obtain ⟨cur, hc, hs, ht⟩ := h.row
  refine ⟨⟨cur, hc, hs, ?_⟩, by have := h.le; simp; omega, h.max⟩
  have : iv (q.take n) = (iv q).take n := by simp [iv, List.map_take]
  rw [this, ← ht, List.take_take, List.length_take]
  
theorem QRow.drewN {w : World} {g cap : Nat} {q : List Int} (h : QRow w g cap q) (n : Nat) : QRow (w.drewN n) g cap q := ⟨h.row, h.le, h.max⟩
theorem QRow.swap {w : World} {g cap : Nat} {q : List Int} (h : QRow w g cap q) {i j : Nat} (hi : i < q.length) (hj : j < q.length) : QRow ((w.setCell ⟨g, i, none⟩ (.int .i64 (q.getD j 0))).setCell ⟨g, j, none⟩ (.int .i64 (q.getD i 0))) g cap (swapL q i j) :=
  (h.set hi _).set (by simpa using hj) _

/-- from w to w' block g alone was written, in place -/
structure Wr (g : Nat) (w w' : World) : Prop where
  os : w'.os = w.os
  tape : w'.tape = w.tape
  output : w'.output = w.output
  size : w'.heap.size = w.heap.size
  block : ∀ k, k ≠ g → w'.heap[k]? = w.heap[k]?
theorem Wr.refl (g : Nat) (w : World) : Wr g w w := ⟨rfl, rfl, rfl, rfl, fun _ _ => rfl⟩
theorem Wr.trans {g : Nat} {w w' w'' : World} (h : Wr g w w') (k : Wr g w' w'') : Wr g w w'' :=
  ⟨k.os.trans h.os, k.tape.trans h.tape, k.output.trans h.output, k.size.trans h.size, fun i hi => (k.block i hi).trans (h.block i hi)⟩
theorem Wr.drewN {g : Nat} {w w' : World} (h : Wr g w w') (n : Nat) : Wr g w (w'.drewN n) := h.trans ⟨rfl, rfl, rfl, rfl, fun _ _ => rfl⟩
theorem Wr.drew {g : Nat} {w w' : World} (h : Wr g w w') : Wr g w w'.drew := h.drewN 1
theorem Wr.set {g : Nat} {w w' : World} (h : Wr g w w') (o : Nat) (v : Value) : Wr g w (w'.setCell ⟨g, o, none⟩ v) :=
  h.trans ⟨rfl, rfl, rfl, by simp [World.setCell], fun k hk => Below.heap_setCell _ _ _ _ hk⟩
theorem Wr.cell {g : Nat} {w w' : World} (h : Wr g w w') {k o : Nat} (hk : k ≠ g) : w'.cell? ⟨k, o, none⟩ = w.cell? ⟨k, o, none⟩ := World.cell?_of_block (a := ⟨k, o, none⟩) (h.block k hk)
theorem Wr.frozen {g : Nat} {w w' : World} (h : Wr g w w') {k o : Nat} (hk : k ≠ g) : w'.frozen? ⟨k, o, none⟩ = w.frozen? ⟨k, o, none⟩ := World.frozen?_of_block (a := ⟨k, o, none⟩) (h.block k hk)

theorem lessQ (b g cap n : Nat) (q : List Int) (i j : Nat) (w : World) (h : QRow w g cap q) (hn : n = q.length) (hi : i < n) (hj : j < n) (hm : n < 2 ^ 40) (r : Bool) (hr : decide (q.getD j 0 < q.getD i 0) = r) :
    Calls Try.prog 126 #[.slice (some ⟨g, 0, none⟩) n cap, .int .i64 i, .int .i64 j] w fun e w' => e = .returned (.bool r) ∧ ∃ m, w' = w.drewN m := by
  subst hr hn
  have := less_any g 0 q.length cap i j (q.getD i 0) (q.getD j 0) w hi hj hm (by rw [Nat.zero_add]; exact h.cell hi) (by rw [Nat.zero_add]; exact h.cell hj)
  exact this
theorem swapQ (g cap n : Nat) (q : List Int) (i j : Nat) (w : World) (h : QRow w g cap q) (hn : n = q.length) (hi : i < n) (hj : j < n) (hm : n < 2 ^ 40) :
    Calls Try.prog 127 #[.slice (some ⟨g, 0, none⟩) n cap, .int .i64 i, .int .i64 j] w fun e w' => e = .returned (.tuple #[]) ∧ QRow w' g cap (swapL q i j) ∧ Wr g w w' := by
  subst hn
  refine (swap_any g q.length cap i j (q.getD i 0) (q.getD j 0) w hi hj hm (h.cell hi) (h.cell hj) (h.frozen _) (h.frozen _)).mono ?_
  rintro e w' ⟨rfl, m, rfl⟩
  exact ⟨rfl, (h.swap hi hj).drewN m, (((Wr.refl g w).set _ _).set _ _).drewN m⟩
/-- what the interface's names enter, while the queue's header lies in cell 2 of block b -/
theorem names (b : Nat) (V : Value) : (∀ k (W : World), k ≠ 0 → W.cell? ⟨b, 2, none⟩ = some V → (method k 122 (.pointer (some ⟨b, 2, none⟩)) "Less").run Try.prog W = .ok (126, V) W) ∧
    (∀ k (W : World), k ≠ 0 → W.cell? ⟨b, 2, none⟩ = some V → (method k 122 (.pointer (some ⟨b, 2, none⟩)) "Swap").run Try.prog W = .ok (127, V) W) ∧
    (∀ k (W : World), k ≠ 0 → W.cell? ⟨b, 2, none⟩ = some V → (method k 122 (.pointer (some ⟨b, 2, none⟩)) "Len").run Try.prog W = .ok (54, V) W) := by
  have ld : ∀ W : World, W.cell? ⟨b, 2, none⟩ = some V → (loadVar 88 ⟨b, 2, none⟩).run Try.prog W = .ok V W := fun W h => by
    unfold loadVar
    simp [h]
  exact ⟨fun k W hk h => name_less _ _ W k hk (ld W h), fun k W hk h => name_swap _ _ W k hk (ld W h), fun k W hk h => name_len _ _ W k hk (ld W h)⟩

set_option maxHeartbeats 1600000 in
theorem up_any (b g cap n j0 : Nat) (q0 : List Int) (w : World) (h : QRow w g cap q0) (hn : n = q0.length) (hj : j0 < n) (hm : n < 2 ^ 40) (hq : UpL q0 n j0) (hb : w.cell? ⟨b, 2, none⟩ = some (.slice (some ⟨g, 0, none⟩) n cap)) (hbg : b ≠ g) :
    Calls Try.prog 91 #[.iface 122 (.pointer (some ⟨b, 2, none⟩)), .int .i64 j0] w fun e w' => e = .returned (.tuple #[]) ∧ (∃ q', QRow w' g cap q' ∧ q'.Perm q0 ∧ HeapL q' n) ∧ Wr g w w' := by
  obtain ⟨NL, NS, -⟩ := names b (.slice (some ⟨g, 0, none⟩) n cap)
  have HN := Lib.hid hn
  clear hn
  go_enter Try.func91, Try.ntmps91
  go_wp2
  go_loopw [1] (fun v wr => ∃ (j : Nat) (q : List Int), v = .int .i64 j ∧ j < n ∧ QRow wr g cap q ∧ q.Perm q0 ∧ UpL q n j ∧ Wr g w wr) (fun v _ => (intOf v).toNat)
  case atStart => exact ⟨j0, q0, rfl, hj, h, .refl _, hq, Wr.refl _ _⟩
  case round =>
    obtain ⟨j, q, rfl, hjn, hr, hp, hu, hw⟩ := hrel
    have hb' := (hw.cell hbg).trans hb
    have HL := Lib.hid (hp.length_eq.trans HN.out.symm)
    clear hb hj hq h
    rcases Nat.eq_zero_or_pos j with rfl | j0'
    · have hz : ((((0 : Nat) : Int) - 1).tdiv 2 == ((0 : Nat) : Int)) = true := by decide
      clear NS NL hb'
      go_wp2_with fail
      go_end0
      exact ⟨rfl, ⟨q, hr, hp, up_done hu (.inl rfl)⟩, hw⟩
    · obtain ⟨i, hi⟩ : ∃ i, i = (j - 1) / 2 := ⟨_, rfl⟩
      have hij : i < j := by omega
      have hd : ((j : Int) - 1) / 2 = (i : Int) := by omega
      have hne : ((i : Int) == (j : Int)) = false := by simp; omega
      obtain ⟨r, hrr⟩ : ∃ r, decide (q.getD i 0 < q.getD j 0) = r := ⟨_, rfl⟩
      have HR := Lib.hid hrr
      have HI := Lib.hid hi
      clear hrr hi
      cases r with
      | false =>
        clear NS
        go_wp2_with fail
        refine (lessQ b g cap n q j i wr hr HL.out.symm (by omega) (by omega) hm false HR.out).mono ?_
        rintro e w' ⟨rfl, m, rfl⟩
        go_wp2_with fail
        go_end0
        exact ⟨rfl, ⟨q, hr.drewN m, hp, up_done hu (.inr (by have := of_decide_eq_false HR.out; have := HI.out; subst this; show q.getD j 0 ≤ q.getD _ 0; omega))⟩, hw.drewN m⟩
      | true =>
        go_wp2_with fail
        refine (lessQ b g cap n q j i wr hr HL.out.symm (by omega) (by omega) hm true HR.out).mono ?_
        rintro e w' ⟨rfl, m, rfl⟩
        clear NL
        go_wp2_with fail
        refine (swapQ g cap n q i j (wr.drewN m) (hr.drewN m) HL.out.symm (by omega) (by omega) hm).mono ?_
        rintro e w' ⟨rfl, hr2, hw2⟩
        clear NS
        go_wp2_with fail
        go_roundw
        case rel => exact ⟨i, swapL q i j, rfl, by omega, hr2, (swapL_perm q i j (by have := HL.out; omega) (by have := HL.out; omega)).trans hp, by have := HI.out; subst this; exact upL_step hu (by have := HL.out; omega) j0' hjn (of_decide_eq_true HR.out), (hw.drewN m).trans hw2⟩
        case measure => simp [intOf]; omega
end Go.Proofs.Ytpaegpbabfohcaa.HeapA
