/-
  Rows of texts that a call owns: their cells, a cell written, rows kept; slices.Clone of such rows.
-/
import Derived.Test.YtfbakelpplpomaaGreatDoorProg
import Derived.WalkKit
import Derived.KernelRfl
import Derived.IntWalk
import Derived.Lib.Hide
import Derived.OwnWalk
import Derived.Maps.AppendAt
import Derived.Laws.Rows
import Derived.Deep.WholeRow
import Derived.Deep.DeepMust
import Derived.Deep.QuietTactic
import Derived.Lib.SmallJoins
import Derived.Lib.SliceRun
namespace Go.Proofs.YtfbakelpplpomaaGreatDoor.DiskRows
open Go.RowKit
set_option linter.unusedVariables false
set_option linter.unusedSimpArgs false
set_option maxRecDepth 100000

/-- texts as cells -/
def sv (l : List ByteArray) : List Value := l.map Value.string
theorem sv_length (l : List ByteArray) : (sv l).length = l.length := by simp [sv]
theorem sv_get (l : List ByteArray) (i : Nat) (h : i < l.length) : (sv l)[i]? = some (.string (l.getD i ByteArray.empty)) := by
  simp [sv, List.getD_eq_getElem?_getD, List.getElem?_eq_getElem h]
theorem sv_set (l : List ByteArray) (i : Nat) (s : ByteArray) : (sv l).set i (.string s) = sv (l.set i s) := by simp [sv, List.map_set]
theorem sv_one (l : List ByteArray) : ∀ u ∈ sv l, u.oneCell' = true := by
  intro u hu
  simp only [sv, List.mem_map] at hu
  obtain ⟨b, _, rfl⟩ := hu
  rfl
/-- a row of texts of its own in block g -/
structure RowS (w : World) (g cap : Nat) (l : List ByteArray) : Prop where
  row : ∃ cur, w.heap[g]? = some (.cells cur 9 (0, 0)) ∧ cur.size = cap ∧ cur.toList.take l.length = sv l
  le : l.length ≤ cap
  max : cap ≤ maxLen
theorem RowS.lt {w : World} {g cap : Nat} {l : List ByteArray} (h : RowS w g cap l) : g < w.heap.size := by
  obtain ⟨cur, hc, _⟩ := h.row
  exact (Array.getElem?_eq_some_iff.1 hc).1
theorem RowS.of_own {w : World} {base g n cap : Nat} {l : List ByteArray} (h : w.ownsRow base 9 1 (.slice (some ⟨g, 0, none⟩) n cap) n (sv l)) : RowS w g cap l ∧ base ≤ g ∧ n = l.length := by
  obtain ⟨h1, h2⟩ := h
  rw [sv_length, Nat.mul_one] at h1
  subst h1
  rcases h2 with ⟨h, _⟩ | ⟨g', cap', cur, e, hb, hg, hn, hm, hs, ht⟩
  · simp at h
  · simp at e
    obtain ⟨rfl, rfl⟩ := e
    exact ⟨⟨⟨cur, hg, by omega, by simpa using ht⟩, hn, hm⟩, hb, rfl⟩
theorem RowS.cell {w : World} {g cap : Nat} {l : List ByteArray} (h : RowS w g cap l) {i : Nat} (hi : i < l.length) : w.cell? ⟨g, i, none⟩ = some (.string (l.getD i ByteArray.empty)) := by
  obtain ⟨cur, hc, hs, ht⟩ := h.row
  rw [cell_of_row w g i cur _ _ hc, ← sv_get l i hi, ← ht, List.getElem?_take, if_pos hi]
  simp
theorem RowS.frozen {w : World} {g cap : Nat} {l : List ByteArray} (h : RowS w g cap l) (i : Nat) : w.frozen? ⟨g, i, none⟩ = false := by
  obtain ⟨cur, hc, _⟩ := h.row
  exact frozen_of_row w g i cur _ hc
theorem RowS.keep {w w' : World} {g cap : Nat} {l : List ByteArray} (h : RowS w g cap l) (k : w'.heap[g]? = w.heap[g]?) : RowS w' g cap l := by
  obtain ⟨cur, hc, hs, ht⟩ := h.row
  exact ⟨⟨cur, by rw [k]; exact hc, hs, ht⟩, h.le, h.max⟩
theorem RowS.below {w w' : World} {g cap B : Nat} {l : List ByteArray} (h : RowS w g cap l) (k : Below B w w') (hg : g < B) : RowS w' g cap l := h.keep (k.block g hg)
theorem RowS.set {w : World} {g cap : Nat} {l : List ByteArray} (h : RowS w g cap l) {i : Nat} (hi : i < l.length) (s : ByteArray) : RowS (w.setCell ⟨g, i, none⟩ (.string s)) g cap (l.set i s) := by
  obtain ⟨cur, hc, hs, ht⟩ := h.row
  have hl := h.le
  refine ⟨⟨cur.setIfInBounds i (.string s), Joins.block_setCell hc _, by rw [Array.size_setIfInBounds]; exact hs, ?_⟩, by simpa using hl, h.max⟩
  rw [← sv_set, ← ht, List.length_set, Array.toList_setIfInBounds, List.take_set]
theorem RowS.other {w : World} {g cap : Nat} {l : List ByteArray} (h : RowS w g cap l) (a : Addr) (u : Value) (hg : g ≠ a.block) : RowS (w.setCell a u) g cap l := h.keep (Below.heap_setCell _ _ _ _ hg)
theorem RowS.alloc {w : World} {g cap : Nat} {l : List ByteArray} (h : RowS w g cap l) (o : Obj) : RowS (w.alloc o) g cap l := h.keep (Below.heap_alloc w o g h.lt)
theorem RowS.drew {w : World} {g cap : Nat} {l : List ByteArray} (h : RowS w g cap l) : RowS w.drew g cap l := ⟨h.row, h.le, h.max⟩
theorem RowS.drewN {w : World} {g cap : Nat} {l : List ByteArray} (h : RowS w g cap l) (n : Nat) : RowS (w.drewN n) g cap l := ⟨h.row, h.le, h.max⟩
theorem info_str : (Tryz.prog.info? 9).map (fun i => (i.zero, i.size, i.bytes)) = some (some (.string ByteArray.empty), 1, 16) := by kernel_rfl
theorem own_emptyS (w : World) : (w.alloc (.cells #[] 9)).ownsRow w.heap.size 9 1 (.slice (some ⟨w.heap.size, 0, none⟩) 0 0) 0 (sv []) :=
  ⟨rfl, .inr ⟨w.heap.size, 0, #[], rfl, Nat.le_refl _, heap_alloc_last _ _, Nat.le_refl _, by simp [maxLen], rfl, rfl⟩⟩

/-- is a slice of texts nil? -/
theorem eqlS (w : World) (a : Option Addr) (n c n' c' : Nat) : (binOp .eql 25 (.slice a n c) (.slice none n' c')).run Tryz.prog w = .ok (.bool a.isNone) w := Lib.run_eql_slice_nil w _ _ a n c n' c' Tryz.underlying25
/-- slices.Clone of texts -/
theorem cloneS_any (g cap n : Nat) (l : List ByteArray) (w : World) (h : RowS w g cap l) (hn : n = l.length) (h0 : 0 < n) (hb : n ≤ 1000000) :
    Calls Tryz.prog 47 #[.slice (some ⟨g, 0, none⟩) n cap] w fun e w' => (∃ g' cap', e = .returned (.slice (some ⟨g', 0, none⟩) n cap') ∧ RowS w' g' cap' l ∧ w.heap.size ≤ g') ∧ Below w.heap.size w w' := by
  obtain ⟨i0, hi, hz0, hz1, hz2⟩ := info_parts info_str
  have hlt := h.lt
  have heq := eqlS
  subst hn
  have hcell := fun i (hi : i < l.length) => h.cell hi
  go_enter Tryz.func47, Tryz.ntmps47
  go_wp2_with (at_builtin; go_must (refine wpList_append_own _ rfl _ _ 25 rfl w.heap.size 9 i0 (.string ByteArray.empty) 1 16 Tryz.underlying25 hi hz0 hz1 hz2 rfl (by decide) (.slice (some ⟨w.heap.size, 0, none⟩) 0 0) 0 [] rfl (own_emptyS w) ⟨g, 0, none⟩ l.length cap (sv l) rfl (by rw [sv_length, Nat.mul_one]) (fun j u hj => by
    rw [Addr.add_lit, Nat.zero_add]
    have hjl : j < l.length := by rw [← sv_length l]; exact (List.getElem?_eq_some_iff.1 hj).1
    rw [(Joins.below_alloc1 w _).cell (p := ⟨g, j, none⟩) hlt, h.cell hjl, ← sv_get l j hjl, hj]) (sv_one l) (by unfold maxLen; omega) (by omega) (by simp) ?_); intro v1 w1 o1 g1 _)
  rw [Nat.zero_add, List.nil_append] at o1
  obtain ⟨g', cap', rfl⟩ := Joins.ownsRow_form o1 h0
  obtain ⟨r1, hb1, -⟩ := RowS.of_own o1
  go_ret
  exact ⟨⟨g', cap', rfl, r1, hb1⟩, (Joins.below_alloc1 w _).trans ((Below.refl w.heap.size _).grown g1 (by simp) (fun k hk => by simp [Value.ownBlock] at hk; omega))⟩
end Go.Proofs.YtfbakelpplpomaaGreatDoor.DiskRows
/-
  What stays: a world in which some blocks are as they were.
-/
namespace Go.Proofs.YtfbakelpplpomaaGreatDoor.Disk
open Go.RowKit Go.Proofs.YtfbakelpplpomaaGreatDoor.DiskRows
/-- a block is none of these -/
def Nf (F : Nat → Prop) (k : Nat) : Prop := ¬ F k
/-- all of these lie below n -/
def Top (F : Nat → Prop) (n : Nat) : Prop := ∀ k, F k → k < n
/-- all blocks below n -/
def lo (n : Nat) : Nat → Prop := fun k => k < n
theorem Top.trans {F : Nat → Prop} {n m : Nat} (h : Top F n) (k : n ≤ m) : Top F m := fun j hj => Nat.lt_of_lt_of_le (h j hj) k
theorem Top.nf {F : Nat → Prop} {n g : Nat} (h : Top F n) (k : n ≤ g) : Nf F g := fun hj => absurd (h g hj) (by omega)
theorem lo_top (n : Nat) : Top (lo n) n := fun _ h => h
theorem lo_nf {n g : Nat} (h : n ≤ g) : Nf (lo n) g := fun k => by unfold lo at k; omega
theorem nf_lo {n g : Nat} (h : Nf (lo n) g) : n ≤ g := by unfold Nf lo at h; omega
/-- these blocks are as they were -/
structure Kp (F : Nat → Prop) (w w' : World) : Prop where
  os : w'.os = w.os
  tape : w'.tape = w.tape
  output : w'.output = w.output
  size : w.heap.size ≤ w'.heap.size
  block : ∀ k, k < w.heap.size → F k → w'.heap[k]? = w.heap[k]?
theorem Kp.refl (F : Nat → Prop) (w : World) : Kp F w w := ⟨rfl, rfl, rfl, Nat.le_refl _, fun _ _ _ => rfl⟩
theorem Kp.trans {F : Nat → Prop} {a b c : World} (h : Kp F a b) (k : Kp F b c) : Kp F a c :=
  ⟨k.os.trans h.os, k.tape.trans h.tape, k.output.trans h.output, Nat.le_trans h.size k.size, fun j hj hF => (k.block j (Nat.lt_of_lt_of_le hj h.size) hF).trans (h.block j hj hF)⟩
theorem Kp.sub {F G : Nat → Prop} {w w' : World} (h : Kp F w w') (hs : ∀ k, G k → F k) : Kp G w w' := ⟨h.os, h.tape, h.output, h.size, fun j hj hG => h.block j hj (hs j hG)⟩
theorem _root_.Go.RowKit.Below.kp {F : Nat → Prop} {w w' : World} (h : Below w.heap.size w w') : Kp F w w' := ⟨h.os, h.tape, h.output, h.size, fun j hj _ => h.block j hj⟩
theorem Kp.below {n : Nat} {w w' : World} (h : Kp (lo n) w w') (hn : n ≤ w.heap.size) : Below n w w' := ⟨h.os, h.tape, h.output, h.size, fun j hj => h.block j (by omega) hj⟩
theorem _root_.Go.RowKit.Below.kpl {n : Nat} {w w' : World} (h : Below n w w') : Kp (lo n) w w' := ⟨h.os, h.tape, h.output, h.size, fun j _ hj => h.block j hj⟩
theorem Kp.drew {F : Nat → Prop} {a w : World} (h : Kp F a w) : Kp F a w.drew := ⟨h.os, h.tape, h.output, h.size, h.block⟩
theorem Kp.alloc {F : Nat → Prop} {a w : World} (h : Kp F a w) (_ : Top F w.heap.size) (o : Obj) : Kp F a (w.alloc o) := h.trans ((Below.refl _ w).alloc (Nat.le_refl _) o).kp
theorem Kp.setCell {F : Nat → Prop} {a w : World} (h : Kp F a w) {p : Addr} (hp : Nf F p.block) (u : Value) : Kp F a (w.setCell p u) :=
  h.trans ⟨rfl, rfl, rfl, by simp [World.setCell], fun k hk hF => Below.heap_setCell _ _ _ _ (fun e => hp (e ▸ hF))⟩
theorem Kp.grown {F : Nat → Prop} {a w w' : World} {row : Option Nat} (h : Kp F a w) (hg : w.grownBy w' row) (_ : Top F w.heap.size) (hr : ∀ k, row = some k → Nf F k) : Kp F a w' :=
  h.trans ⟨hg.os, hg.tape, hg.output, hg.size, fun k hk hF => hg.block k hk (fun e => hr k e.symm hF)⟩
end Go.Proofs.YtfbakelpplpomaaGreatDoor.Disk
