/-
  The walks of pleachref07: in, step.
-/
import Derived.Test.YtfbakelpplpomaaGreatDoorWalkDiskK
import Derived.Deep.RegionHeldLaw
import Derived.Deep.AppendSrc
import Derived.Deep.Upon
namespace Go.Proofs.YtfbakelpplpomaaGreatDoor.Disk
open Go.RowKit Go.Proofs.YtfbakelpplpomaaGreatDoor.DiskRows
set_option linter.unusedVariables false
set_option linter.unusedSimpArgs false
set_option maxRecDepth 100000

/-- the document's disk, as cells -/
def rc (vS vC : Value) (d : Dk) : List Value := [vS, vC, .int .i64 (d.armed : Nat), .bool d.down, .int .i64 (d.ops : Nat)]
theorem in_any (A : Option Addr) (c : Nat) (vC : Value) (d : Dk) (i : Int) (w : World) :
    Calls Tryz.prog 81 #[.agg (rc (.slice A d.S.length c) vC d).toArray, .int .i64 i] w fun x w' => x = .returned (.bool (decide (d.has i))) ∧ Below w.heap.size w w' := by
  have kb := Joins.below_alloc1 w (.cells #[.slice A d.S.length c, vC, .int .i64 (d.armed : Nat), .bool d.down, .int .i64 (d.ops : Nat)] 54)
  have HK := Lib.hid kb
  clear kb
  simp only [rc]
  by_cases hi : 0 ≤ i
  · by_cases hl : i < (d.S.length : Int)
    · rw [show decide (d.has i) = true from decide_eq_true (And.intro hi hl)]
      go_enter Tryz.func81, Tryz.ntmps81
      go_wp2
      go_ret
      exact ⟨by simp [hl], HK.out⟩
    · rw [show decide (d.has i) = false from decide_eq_false (fun k : d.has i => hl k.2)]
      go_enter Tryz.func81, Tryz.ntmps81
      go_wp2
      go_ret
      exact ⟨by simp, HK.out⟩
  · rw [show decide (d.has i) = false from decide_eq_false (fun k : d.has i => hi k.1)]
    go_enter Tryz.func81, Tryz.ntmps81
    go_wp2
    go_ret
    exact ⟨rfl, HK.out⟩
theorem refStep_any (A A' : Option Addr) (n c n' c' : Nat) (d : Dk) (w : World) (ha : (d.armed : Int) ≤ 9223372036854775807) (ho : (d.ops : Int) < 1000000000000) :
    Calls Tryz.prog 109 #[.agg (rc (.slice A n c) (.slice A' n' c') d).toArray] w fun x w' => x = .returned (.tuple #[.agg (rc (.slice A n c) (.slice A' n' c') d.step.1).toArray, .bool d.step.2]) ∧ Below w.heap.size w w' := by
  obtain ⟨S, Hs, C, a, dn, o⟩ := d
  simp only [rc, Dk.step] at ha ho ⊢
  have hw : IntKind.i64.wrap ((o : Int) + 1) = (o : Int) + 1 := by rw [IntKind.wrap_i64]; omega
  by_cases h1 : a = 1
  · subst h1
    simp only [if_pos]
    go_enter Tryz.func109, Tryz.ntmps109
    go_wp2
    refine bodyPost_ret (by simp [results, Tryz.results109, go_sem]; try rfl) rfl ?_
    exact ⟨rfl, ((Below.refl _ _).alloc (Nat.le_refl _) _).alloc (by simp) _⟩
  · by_cases h2 : 1 < a
    · rw [if_neg h1]
      have hz : ((a - 1 : Nat) : Int) = (a : Int) - 1 := by omega
      rw [hz]
      have h1i : ((a : Int) == 1) = false := by simp; omega
      have h2i : decide ((1 : Int) < (a : Int)) = true := decide_eq_true (by omega)
      have ha0 : 0 < (a : Int) := by omega
      have hw2 : IntKind.i64.wrap ((a : Int) - 1) = (a : Int) - 1 := by rw [IntKind.wrap_i64]; omega
      clear h1 h2 hz ha
      generalize (a : Int) = a at *
      go_enter Tryz.func109, Tryz.ntmps109
      go_wp2
      refine bodyPost_ret (by simp [results, Tryz.results109, go_sem]; try rfl) rfl ?_
      exact ⟨rfl, ((Below.refl _ _).alloc (Nat.le_refl _) _).alloc (by simp) _⟩
    · obtain rfl : a = 0 := by omega
      rw [if_neg h1]
      clear h1 h2
      go_enter Tryz.func109, Tryz.ntmps109
      go_wp2
      refine bodyPost_ret (by simp [results, Tryz.results109, go_sem]; try rfl) rfl ?_
      exact ⟨rfl, ((Below.refl _ _).alloc (Nat.le_refl _) _).alloc (by simp) _⟩
end Go.Proofs.YtfbakelpplpomaaGreatDoor.Disk
/-
  The walk of pleachref07's Copy: rows that are copied.
-/
namespace Go.Proofs.YtfbakelpplpomaaGreatDoor.Disk
open Go.RowKit Go.Proofs.YtfbakelpplpomaaGreatDoor.DiskRows
set_option linter.unusedVariables false
set_option linter.unusedSimpArgs false
set_option maxRecDepth 100000

/-- what a cell has (a name that no rule unfolds) -/
def curOf (w : World) (a : Addr) : Value := (w.cell? a).getD (.int .i64 0)
theorem cur_some {w : World} {a : Addr} {v : Value} (h : w.cell? a = some v) : w.cell? a = some (curOf w a) := by
  unfold curOf
  rw [h]
  rfl
/-- a copied row of texts -/
def OwnT (base : Nat) (w : World) (A : Option Addr) (c : Nat) (l : List ByteArray) : Prop := l = [] ∨ ∃ g, A = some ⟨g, 0, none⟩ ∧ base ≤ g ∧ RowS w g c l
/-- a copied row of writes -/
def OwnW (base : Nat) (w : World) (A : Option Addr) (c : Nat) (C : List (Int × ByteArray)) : Prop := (C = [] ∧ c = 0) ∨ ∃ g, A = some ⟨g, 0, none⟩ ∧ (base ≤ g ∧ 0 < C.length) ∧ w.ownsRow base 89 2 (.slice (some ⟨g, 0, none⟩) C.length c) C.length (wvI C)
/-- a row lies in a block that was made between two worlds -/
def Btw (w w' : World) (A : Option Addr) (n : Nat) : Prop := n = 0 ∨ ∃ g, A = some ⟨g, 0, none⟩ ∧ w.heap.size ≤ g ∧ g < w'.heap.size
section
variable {ops : Array Oper} {o : Oper} {a : Act} {w : World} {Q : Exit → Act → World → Prop} {K : Act → World → Prop} {E : Prop}
theorem run_grow {e : TypeId} {i : TypeInfo} {z : Value} {t : TypeId} (w : World) (ht : Tryz.prog.underlying t = some (.slice e)) (hi : Tryz.prog.info? e = some i) (hz : i.zero = some z) (ty : TypeId) (b0 : Option Addr) (g off n c : Nat) (news : List Value) (hn : 0 < n) (hb : n ≤ 1000000) (hby : i.bytes ≤ 24)
    (hl : news.length = n * i.size) (hc : ∀ j u, news[j]? = some u → w.cell? ⟨g, off + j, none⟩ = some u) (h1 : ∀ u ∈ news, u.oneCell' = true) :
    ∃ cap w', (Builtin.append_ #[t, t] ty #[.slice b0 0 0, .slice (some ⟨g, off, none⟩) n c]).run Tryz.prog w = .ok (.slice (some ⟨w.heap.size, 0, none⟩) n cap) w' ∧ Below w.heap.size w w' ∧ w'.heap.size = w.heap.size + 1 ∧ n ≤ cap ∧ cap ≤ maxLen ∧
      w'.heap[w.heap.size]? = some (.cells (news.toArray ++ Builtin.zeroCells z.cells (cap - n)) e (0, 0)) := by
  have hsrc : Src Tryz.prog i.size t (.slice (some ⟨g, off, none⟩) n c) n news w := Src.ofSlice w ht ⟨g, off, none⟩ n c news hl (fun j u hj => by rw [Addr.add_lit]; exact hc j u hj) h1
  have hr := run_append_grow_src (P := Tryz.prog) w t t ty e i z ht hi hz b0 0 0 [] (by
    cases b0 with
    | none => exact run_firstCells_none w.drew i.size 0 0 0
    | some ad => exact run_firstCells_some w.drew i.size 0 ad 0 0 [] (by simp) (fun j u hj => by simp at hj)) (.slice (some ⟨g, off, none⟩) n c) n news hsrc (by omega) (by omega) (growslice_fits (by omega) (by
    have := Nat.mul_le_mul (show 0 + n ≤ 1000000 by omega) hby
    omega))
  rw [Nat.zero_add] at hr
  refine ⟨_, _, hr, (Below.refl _ w).drew.alloc (Nat.le_refl _) _, by simp, ?_, ?_, ?_⟩
  · exact grownCap_ge _ _ _ _
  · exact grownCap_le_maxLen _ _ _ _ (by unfold maxLen; omega)
  · simpa using heap_alloc_last w.drew _
theorem txs_cells {w : World} {g off : Nat} {l : List ByteArray} (hc : ∀ i, i < l.length → w.cell? ⟨g, off + i, none⟩ = some (.string (l.getD i ByteArray.empty))) : ∀ j u, (sv l)[j]? = some u → w.cell? ⟨g, off + j, none⟩ = some u := fun j u hj => by
  have hjl : j < l.length := by rw [← sv_length l]; exact (List.getElem?_eq_some_iff.1 hj).1
  rw [hc j hjl, ← sv_get l j hjl, hj]
theorem wrs_cells {w : World} {g off : Nat} {C : List (Int × ByteArray)} (hc : ∀ k, k < C.length → w.cell? ⟨g, off + k * 2, none⟩ = some (.int .i64 (C.getD k (0, ByteArray.empty)).1) ∧ w.cell? ⟨g, off + k * 2 + 1, none⟩ = some (.string (C.getD k (0, ByteArray.empty)).2)) : ∀ j u, (wvI C)[j]? = some u → w.cell? ⟨g, off + j, none⟩ = some u := fun j u hj => by
  have hj2 := (List.getElem?_eq_some_iff.1 hj).1
  rw [wvI_length] at hj2
  obtain ⟨k, hk⟩ : ∃ k, j = k * 2 ∨ j = k * 2 + 1 := ⟨j / 2, by omega⟩
  have hkl : k < C.length := by omega
  obtain ⟨g1, g2⟩ := wvI_get C k hkl
  obtain ⟨e1, e2⟩ := hc k hkl
  rcases hk with rfl | rfl
  · rw [hj] at g1; rw [g1]; exact e1
  · rw [hj] at g2; rw [g2, ← Nat.add_assoc]; exact e2
theorem run_appT (w : World) (ty : TypeId) (b0 A : Option Addr) (l : List ByteArray) (c : Nat) (hT : Txs w A l) (hb : l.length ≤ 1000000) :
    ∃ A' c' w', (Builtin.append_ #[25, 25] ty #[.slice b0 0 0, .slice A l.length c]).run Tryz.prog w = .ok (.slice A' l.length c') w' ∧ OwnT w.heap.size w' A' c' l ∧ Below w.heap.size w w' ∧ Btw w w' A' l.length := by
  obtain ⟨i0, hi, hz0, hz1, hz2⟩ := info_parts info_str
  rcases Nat.eq_zero_or_pos l.length with h0 | h0
  · obtain rfl := List.eq_nil_of_length_eq_zero h0
    have hsrc : Src Tryz.prog i0.size 25 (.slice A ([] : List ByteArray).length c) 0 [] w := by
      cases A with
      | none => exact Src.ofNil w Tryz.underlying25 c
      | some ad => exact Src.ofSlice w Tryz.underlying25 ad 0 c [] (by simp) (fun j u hj => by simp at hj) (fun u hu => by cases hu)
    exact ⟨b0, 0, w, run_append_nothing w _ _ ty _ i0 Tryz.underlying25 hi b0 0 0 (Nat.le_refl _) _ hsrc, .inl rfl, Below.refl _ _, .inl rfl⟩
  · obtain ⟨g, off, rfl, hg, hc⟩ : ∃ g off, A = some ⟨g, off, none⟩ ∧ g < w.heap.size ∧ ∀ i, i < l.length → w.cell? ⟨g, off + i, none⟩ = some (.string (l.getD i ByteArray.empty)) := by
      rcases hT with rfl | h
      · simp at h0
      · exact h
    obtain ⟨cap, w', hr, hB, hsz, hle, hm, hh⟩ := run_grow w Tryz.underlying25 hi hz0 ty b0 g off l.length c (sv l) h0 hb (by rw [hz2]; decide) (by rw [hz1, sv_length, Nat.mul_one]) (txs_cells hc) (sv_one l)
    refine ⟨_, cap, w', hr, .inr ⟨w.heap.size, rfl, Nat.le_refl _, ⟨⟨_, hh, ?_, ?_⟩, hle, hm⟩⟩, hB, .inr ⟨_, rfl, Nat.le_refl _, by omega⟩⟩
    · simp [Value.cells, Builtin.zeroCells, sv_length]
      omega
    · rw [Array.toList_append, List.take_append_of_le_length (by simp [sv_length])]
      simp [← sv_length l]
theorem run_appW (w : World) (ty : TypeId) (b0 A : Option Addr) (C : List (Int × ByteArray)) (c : Nat) (hT : Wrs w A C) (hb : C.length ≤ 1000000) :
    ∃ A' c' w', (Builtin.append_ #[49, 49] ty #[.slice b0 0 0, .slice A C.length c]).run Tryz.prog w = .ok (.slice A' C.length c') w' ∧ OwnW w.heap.size w' A' c' C ∧ Below w.heap.size w w' ∧ Btw w w' A' C.length := by
  obtain ⟨i0, hi, hz0, hz1, hz2⟩ := info_parts info_w
  rcases Nat.eq_zero_or_pos C.length with h0 | h0
  · obtain rfl := List.eq_nil_of_length_eq_zero h0
    have hsrc : Src Tryz.prog i0.size 49 (.slice A ([] : List (Int × ByteArray)).length c) 0 [] w := by
      cases A with
      | none => exact Src.ofNil w Tryz.underlying49 c
      | some ad => exact Src.ofSlice w Tryz.underlying49 ad 0 c [] (by simp) (fun j u hj => by simp at hj) (fun u hu => by cases hu)
    exact ⟨b0, 0, w, run_append_nothing w _ _ ty _ i0 Tryz.underlying49 hi b0 0 0 (Nat.le_refl _) _ hsrc, .inl ⟨rfl, rfl⟩, Below.refl _ _, .inl rfl⟩
  · obtain ⟨g, off, rfl, hg, hc⟩ : ∃ g off, A = some ⟨g, off, none⟩ ∧ g < w.heap.size ∧ ∀ k, k < C.length → w.cell? ⟨g, off + k * 2, none⟩ = some (.int .i64 (C.getD k (0, ByteArray.empty)).1) ∧ w.cell? ⟨g, off + k * 2 + 1, none⟩ = some (.string (C.getD k (0, ByteArray.empty)).2) := by
      rcases hT with rfl | h
      · simp at h0
      · exact h
    obtain ⟨cap, w', hr, hB, hsz, hle, hm, hh⟩ := run_grow w Tryz.underlying49 hi hz0 ty b0 g off C.length c (wvI C) h0 hb (by rw [hz2]; decide) (by rw [hz1, wvI_length]) (wrs_cells hc) (wvI_one C)
    refine ⟨_, cap, w', hr, .inr ⟨w.heap.size, rfl, ⟨Nat.le_refl _, h0⟩, wvI_length C, .inr ⟨w.heap.size, cap, _, rfl, Nat.le_refl _, hh, hle, hm, ?_, ?_⟩⟩, hB, .inr ⟨_, rfl, Nat.le_refl _, by omega⟩⟩
    · simp [Value.cells, Builtin.zeroCells, wvI_length]
      omega
    · rw [Array.toList_append, List.take_append_of_le_length (by simp [wvI_length])]
      simp [← wvI_length C]
theorem step_appT (hg : o.guard = none) (sl x : Operand) (ho : o.op = .call { callee := .builtin .append, args := #[sl, x], argTypes := #[25, 25] })
    (b0 A : Option Addr) (l : List ByteArray) (c : Nat) (hs : a.eval sl = .slice b0 0 0) (hx : a.eval x = .slice A l.length c) (hT : Txs w A l) (hb : l.length ≤ 1000000)
    (h : ∀ A' c' w', OwnT w.heap.size w' A' c' l ∧ Below w.heap.size w w' ∧ Btw w w' A' l.length → K (a.put o.dst (.slice A' l.length c')) w') : if Region.wanted o (yielded ops a.tmps) = true then Oper.wp Tryz.prog o a w K Q else E := by
  have hw : Region.wanted o (yielded ops a.tmps) = true := by simp [Region.wanted, hg]
  rw [if_pos hw]
  obtain ⟨A', c', w', hr, h2⟩ := run_appT w o.type b0 A l c hT hb
  unfold Oper.wp execOp
  simp only [ho, resolve, invoke, builtin, Sem.run_bind, Sem.run_pure, Result.andThen_ok, List.map_toArray, List.map_cons, List.map_nil, hs, hx, hr]
  exact h A' c' w' h2
theorem step_appW (hg : o.guard = none) (sl x : Operand) (ho : o.op = .call { callee := .builtin .append, args := #[sl, x], argTypes := #[49, 49] })
    (b0 A : Option Addr) (C : List (Int × ByteArray)) (c : Nat) (hs : a.eval sl = .slice b0 0 0) (hx : a.eval x = .slice A C.length c) (hT : Wrs w A C) (hb : C.length ≤ 1000000)
    (h : ∀ A' c' w', OwnW w.heap.size w' A' c' C ∧ Below w.heap.size w w' ∧ Btw w w' A' C.length → K (a.put o.dst (.slice A' C.length c')) w') : if Region.wanted o (yielded ops a.tmps) = true then Oper.wp Tryz.prog o a w K Q else E := by
  have hw : Region.wanted o (yielded ops a.tmps) = true := by simp [Region.wanted, hg]
  rw [if_pos hw]
  obtain ⟨A', c', w', hr, h2⟩ := run_appW w o.type b0 A C c hT hb
  unfold Oper.wp execOp
  simp only [ho, resolve, invoke, builtin, Sem.run_bind, Sem.run_pure, Result.andThen_ok, List.map_toArray, List.map_cons, List.map_nil, hs, hx, hr]
  exact h A' c' w' h2
end
/-- Copy's blocks: the argument's, the result's -/
structure Cp (w0 : World) (vS vC : Value) (w : World) : Prop where
  box : w.heap[w0.heap.size]? = some (.cells #[vS, vC] 51 (0, 0))
  res : ∃ cur, w.heap[w0.heap.size + 1]? = some (.cells cur 51 (0, 0)) ∧ cur.size = 2
  bel : Below w0.heap.size w0 w
def CpS (w0 : World) (vS vC : Value) (w : World) : Prop := Cp w0 vS vC w ∧ w.cell? ⟨w0.heap.size, 0, none⟩ = some vS ∧ w.cell? ⟨w0.heap.size, 1, none⟩ = some vC ∧
  w.cell? ⟨w0.heap.size + 1, 0, none⟩ = some (curOf w ⟨w0.heap.size + 1, 0, none⟩) ∧ w.cell? ⟨w0.heap.size + 1, 1, none⟩ = some (curOf w ⟨w0.heap.size + 1, 1, none⟩) ∧ w.frozen? ⟨w0.heap.size + 1, 0, none⟩ = false ∧ w.frozen? ⟨w0.heap.size + 1, 1, none⟩ = false
theorem Cp.all {w0 w : World} {vS vC : Value} (h : Cp w0 vS vC w) : CpS w0 vS vC w := by
  obtain ⟨cur, hc, hs⟩ := h.res
  have hx : ∀ i, i < 2 → w.cell? ⟨w0.heap.size + 1, i, none⟩ = some (curOf w ⟨w0.heap.size + 1, i, none⟩) := fun i hi => cur_some ((cell_of_row w _ i cur _ _ hc).trans (Array.getElem?_eq_getElem (by omega)))
  exact ⟨h, (cell_of_row w _ 0 _ _ _ h.box).trans rfl, (cell_of_row w _ 1 _ _ _ h.box).trans rfl, hx 0 (by omega), hx 1 (by omega), frozen_of_row w _ 0 _ _ hc, frozen_of_row w _ 1 _ _ hc⟩
theorem Cp.later {w0 w w' : World} {vS vC : Value} (h : Cp w0 vS vC w) (k : Below w.heap.size w w') : Cp w0 vS vC w' := by
  obtain ⟨cur, hc, hs⟩ := h.res
  have h1 := (Array.getElem?_eq_some_iff.1 h.box).1
  have h2 := (Array.getElem?_eq_some_iff.1 hc).1
  exact ⟨by rw [k.block _ h1]; exact h.box, ⟨cur, by rw [k.block _ h2]; exact hc, hs⟩, h.bel.trans (k.mono h.bel.size)⟩
theorem Cp.lt {w0 w : World} {vS vC : Value} (h : Cp w0 vS vC w) : w0.heap.size + 2 ≤ w.heap.size := by
  obtain ⟨cur, hc, hs⟩ := h.res
  exact (Array.getElem?_eq_some_iff.1 hc).1
theorem Cp.drew {w0 w : World} {vS vC : Value} (h : Cp w0 vS vC w) : Cp w0 vS vC w.drew := h.later (Below.refl _ _).drew
theorem Cp.alloc {w0 w : World} {vS vC : Value} (h : Cp w0 vS vC w) (o : Obj) : Cp w0 vS vC (w.alloc o) := h.later ((Below.refl _ _).alloc (Nat.le_refl _) o)
theorem Cp.store {w0 w : World} {vS vC : Value} (h : Cp w0 vS vC w) (i : Nat) (u : Value) : Cp w0 vS vC (w.setCell ⟨w0.heap.size + 1, i, none⟩ u) := by
  obtain ⟨cur, hc, hs⟩ := h.res
  exact ⟨by rw [Below.heap_setCell _ _ _ _ (by simp)]; exact h.box, ⟨_, Joins.block_setCell hc _, by simpa using hs⟩, h.bel.setCell (p := ⟨w0.heap.size + 1, i, none⟩) (by simp) u⟩
theorem Cp.start (w : World) (vS vC u0 u1 : Value) : Cp w vS vC ((w.alloc (.cells #[vS, vC] 51)).alloc (.cells #[u0, u1] 51)) := by
  have e : (w.alloc (.cells #[vS, vC] 51)).heap.size = w.heap.size + 1 := by simp
  refine ⟨?_, ⟨#[u0, u1], ?_, rfl⟩, ((Below.refl _ _).alloc (Nat.le_refl _) _).alloc (by simp) _⟩
  · rw [Below.heap_alloc _ _ _ (by simp)]; exact heap_alloc_last _ _
  · rw [← e]; exact heap_alloc_last _ _
theorem OwnT.keep {b b' : Nat} {w w' : World} {A : Option Addr} {c : Nat} {l : List ByteArray} (h : OwnT b w A c l) (k : Below w.heap.size w w') (hb : b' ≤ b) : OwnT b' w' A c l := by
  rcases h with rfl | ⟨g, rfl, hg, hr⟩
  · exact .inl rfl
  · exact .inr ⟨g, rfl, Nat.le_trans hb hg, hr.below k hr.lt⟩
theorem OwnT.store {b : Nat} {w : World} {A : Option Addr} {c : Nat} {l : List ByteArray} (h : OwnT b w A c l) {p : Addr} (hp : p.block < b) (u : Value) : OwnT b (w.setCell p u) A c l := by
  rcases h with rfl | ⟨g, rfl, hg, hr⟩
  · exact .inl rfl
  · exact .inr ⟨g, rfl, hg, hr.other _ _ (by omega)⟩
theorem OwnT.txs {b : Nat} {w : World} {A : Option Addr} {c : Nat} {l : List ByteArray} (h : OwnT b w A c l) : Txs w A l := by
  rcases h with rfl | ⟨g, rfl, hg, hr⟩
  · exact .inl rfl
  · exact hr.txs
theorem OwnW.keep {b b' : Nat} {w w' : World} {A : Option Addr} {c : Nat} {C : List (Int × ByteArray)} (h : OwnW b w A c C) (k : Below w.heap.size w w') (hb : b' ≤ b) : OwnW b' w' A c C := by
  rcases h with h | ⟨g, rfl, hg, hr⟩
  · exact .inl h
  · exact .inr ⟨g, rfl, ⟨Nat.le_trans hb hg.1, hg.2⟩, own_base (own_below hr k (fun j hj => (hr.lt j hj).2)) hb⟩
theorem OwnW.store {b : Nat} {w : World} {A : Option Addr} {c : Nat} {C : List (Int × ByteArray)} (h : OwnW b w A c C) {p : Addr} (hp : p.block < b) (u : Value) : OwnW b (w.setCell p u) A c C := by
  rcases h with h | ⟨g, rfl, hg, hr⟩
  · exact .inl h
  · exact .inr ⟨g, rfl, hg, own_other hr _ _ (fun k hk => by have := (hr.lt k hk).1; omega)⟩
theorem OwnW.wrs {b : Nat} {w : World} {A : Option Addr} {c : Nat} {C : List (Int × ByteArray)} (h : OwnW b w A c C) : Wrs w A C := by
  rcases h with ⟨rfl, -⟩ | ⟨g, rfl, hg, hr⟩
  · exact .inl rfl
  · exact own_wrs hr
/-- two rows lie apart -/
def SepA (A1 A2 : Option Addr) (n m : Nat) : Prop := ∀ g g', A1 = some ⟨g, 0, none⟩ → A2 = some ⟨g', 0, none⟩ → n ≠ 0 → m ≠ 0 → g ≠ g'
theorem sep_first {w w1 w1' w2 : World} {A1 A2 : Option Addr} {n m : Nat} (h1 : Btw w w1 A1 n) (h2 : Btw w1' w2 A2 m) (k : w1.heap.size ≤ w1'.heap.size) : SepA A1 A2 n m := by
  rintro g g' rfl rfl hn hm
  rcases h1 with h1 | ⟨a, e, h1, h1'⟩
  · exact absurd h1 hn
  · rcases h2 with h2 | ⟨a', e', h2, h2'⟩
    · exact absurd h2 hm
    · simp at e e'
      omega
theorem SepA.symm {A1 A2 : Option Addr} {n m : Nat} (h : SepA A1 A2 n m) : SepA A2 A1 m n := fun g g' e e' hn hm k => h g' g e' e hm hn k.symm
theorem copy_end {w wl : World} {vS vC : Value} {A1 A2 : Option Addr} {c1 c2 n n' : Nat} {l : List ByteArray} {C : List (Int × ByteArray)} (hC : Cp w vS vC wl) (h1 : OwnT (w.heap.size + 2) wl A1 c1 l) (h2 : OwnW (w.heap.size + 2) wl A2 c2 C) :
    ((wl.setCell ⟨w.heap.size + 1, 0, none⟩ (.slice A1 n c1)).setCell ⟨w.heap.size + 1, 1, none⟩ (.slice A2 n' c2)).cell? ⟨w.heap.size + 1, 0, none⟩ = some (.slice A1 n c1) ∧
    ((wl.setCell ⟨w.heap.size + 1, 0, none⟩ (.slice A1 n c1)).setCell ⟨w.heap.size + 1, 1, none⟩ (.slice A2 n' c2)).cell? ⟨w.heap.size + 1, 1, none⟩ = some (.slice A2 n' c2) ∧
    OwnT w.heap.size ((wl.setCell ⟨w.heap.size + 1, 0, none⟩ (.slice A1 n c1)).setCell ⟨w.heap.size + 1, 1, none⟩ (.slice A2 n' c2)) A1 c1 l ∧
    OwnW w.heap.size ((wl.setCell ⟨w.heap.size + 1, 0, none⟩ (.slice A1 n c1)).setCell ⟨w.heap.size + 1, 1, none⟩ (.slice A2 n' c2)) A2 c2 C ∧
    Below w.heap.size w ((wl.setCell ⟨w.heap.size + 1, 0, none⟩ (.slice A1 n c1)).setCell ⟨w.heap.size + 1, 1, none⟩ (.slice A2 n' c2)) := by
  obtain ⟨cur, hc, hs⟩ := hC.res
  have hcf := Joins.block_setCell (i := 1) (Joins.block_setCell (i := 0) hc (.slice A1 n c1)) (.slice A2 n' c2)
  refine ⟨(cell_of_row _ _ 0 _ _ _ hcf).trans ?_, (cell_of_row _ _ 1 _ _ _ hcf).trans ?_, ((h1.store (by simp) _).store (by simp) _).keep (Below.refl _ _) (by omega), ((h2.store (by simp) _).store (by simp) _).keep (Below.refl _ _) (by omega), ((hC.store _ _).store _ _).bel⟩
  · simp [Array.getElem?_setIfInBounds, hs]
  · simp [Array.getElem?_setIfInBounds, hs]
set_option maxHeartbeats 3200000 in
theorem copy_any (A A' : Option Addr) (c c' : Nat) (l : List ByteArray) (C : List (Int × ByteArray)) (w : World) (h : Txs w A l) (h' : Wrs w A' C) (hb : l.length ≤ 1000000) (hb' : C.length ≤ 1000000) :
    Calls Tryz.prog 82 #[.agg #[.slice A l.length c, .slice A' C.length c']] w fun x w' => (∃ A1 c1 A2 c2, x = .returned (.agg #[.slice A1 l.length c1, .slice A2 C.length c2]) ∧ OwnT w.heap.size w' A1 c1 l ∧ OwnW w.heap.size w' A2 c2 C ∧ SepA A1 A2 l.length C.length) ∧ Below w.heap.size w w' := by
  have hstart := Cp.start w (.slice A l.length c) (.slice A' C.length c') (.slice none 0 0) (.slice none 0 0)
  obtain ⟨n, hn⟩ : ∃ n, l.length = n := ⟨_, rfl⟩
  obtain ⟨n', hn'⟩ : ∃ n, C.length = n := ⟨_, rfl⟩
  rw [hn, hn'] at hstart ⊢
  have HT := Lib.hid (fun W (k : Cp w (.slice A n c) (.slice A' n' c') W) => h.later k.bel)
  have HW := Lib.hid (fun W (k : Cp w (.slice A n c) (.slice A' n' c') W) => h'.later k.bel)
  have HN := Lib.hid (And.intro hn (And.intro hn' (And.intro hb hb')))
  clear h h' hn hn' hb hb'
  go_enter Tryz.func82, Tryz.ntmps82
  go_upto_region 1 with fail
  have hst := hstart.drew.all
  clear hstart
  unfold CpS at hst
  go_region_held_law (fun W => Cp w (.slice A n c) (.slice A' n' c') W ∧ W.cell? ⟨w.heap.size, 0, none⟩ = some (.slice A n c) ∧ W.cell? ⟨w.heap.size, 1, none⟩ = some (.slice A' n' c') ∧
    W.cell? ⟨w.heap.size + 1, 0, none⟩ = some (curOf W ⟨w.heap.size + 1, 0, none⟩) ∧ W.cell? ⟨w.heap.size + 1, 1, none⟩ = some (curOf W ⟨w.heap.size + 1, 1, none⟩) ∧ W.frozen? ⟨w.heap.size + 1, 0, none⟩ = false ∧ W.frozen? ⟨w.heap.size + 1, 1, none⟩ = false)
    (first | exact hst | exact (Cp.alloc (And.left (by assumption)) _).all | exact hP1.all | exact hP2.all | exact (Cp.store (Cp.store (And.left (by assumption)) _ _) _ _).all)
    (first
      | (refine step_appT rfl _ _ rfl _ A l c rfl (by rw [HN.out.1]; rfl) (HT.out _ (And.left (by assumption))) HN.out.2.2.1 ?_; rintro A1 c1 w1 ⟨hO1, hB1, hX1⟩; have hP1 : Cp w (.slice A n c) (.slice A' n' c') w1 := Cp.later (And.left (by assumption)) hB1; rw [HN.out.1])
      | (refine step_appW rfl _ _ rfl _ A' C c' rfl (by rw [HN.out.2.1]; rfl) (HW.out _ (And.left (by assumption))) HN.out.2.2.2 ?_; rintro A2 c2 w2 ⟨hO2, hB2, hX2⟩; have hP2 : Cp w (.slice A n c) (.slice A' n' c') w2 := Cp.later (And.left (by assumption)) hB2; rw [HN.out.2.1]))
  · have hk : Below w1.heap.size w1 w2 := by first | exact hB2 | exact ((Below.refl _ w1).alloc (Nat.le_refl _) _).trans (hB2.mono (by simp))
    have hsep : SepA A1 A2 n n' := by
      rw [← HN.out.1, ← HN.out.2.1]
      exact sep_first hX1 hX2 (by simp)
    have hF : OwnT (w.heap.size + 2) w2 A1 c1 l := hO1.keep (hk) (by first | (simp; done) | (have := hP1.lt; have := hP2.lt; omega) | (have := hP1.lt; have := hP2.lt; simp; omega))
    have hG : OwnW (w.heap.size + 2) w2 A2 c2 C := hO2.keep (Below.refl _ _) (by first | (simp; done) | (have := hP1.lt; have := hP2.lt; omega) | (have := hP1.lt; have := hP2.lt; simp; omega))
    obtain ⟨t1, t2, f1, f2, f3⟩ := copy_end (n := n) (n' := n') hP2 hF hG
    go_wp2_with fail
    refine bodyPost_ret (v := .agg #[.slice A1 n c1, .slice A2 n' c2]) (by simp [results, Tryz.results82, go_sem, t1, t2]) rfl ?_
    exact ⟨⟨A1, c1, A2, c2, rfl, f1, f2, hsep⟩, f3⟩
  · have hk : Below w1.heap.size w1 w2 := by first | exact hB2 | exact ((Below.refl _ w1).alloc (Nat.le_refl _) _).trans (hB2.mono (by simp))
    have hsep : SepA A1 A2 n n' := by
      rw [← HN.out.1, ← HN.out.2.1]
      exact sep_first hX1 hX2 (by simp)
    have hF : OwnT (w.heap.size + 2) w2 A1 c1 l := hO1.keep (hk) (by first | (simp; done) | (have := hP1.lt; have := hP2.lt; omega) | (have := hP1.lt; have := hP2.lt; simp; omega))
    have hG : OwnW (w.heap.size + 2) w2 A2 c2 C := hO2.keep (Below.refl _ _) (by first | (simp; done) | (have := hP1.lt; have := hP2.lt; omega) | (have := hP1.lt; have := hP2.lt; simp; omega))
    obtain ⟨t1, t2, f1, f2, f3⟩ := copy_end (n := n) (n' := n') hP2 hF hG
    go_wp2_with fail
    refine bodyPost_ret (v := .agg #[.slice A1 n c1, .slice A2 n' c2]) (by simp [results, Tryz.results82, go_sem, t1, t2]) rfl ?_
    exact ⟨⟨A1, c1, A2, c2, rfl, f1, f2, hsep⟩, f3⟩
  · have hk : Below w1.heap.size w1 w2 := by first | exact hB2 | exact ((Below.refl _ w1).alloc (Nat.le_refl _) _).trans (hB2.mono (by simp))
    have hsep : SepA A1 A2 n n' := by
      rw [← HN.out.1, ← HN.out.2.1]
      exact sep_first hX1 hX2 (by simp)
    have hF : OwnT (w.heap.size + 2) w2 A1 c1 l := hO1.keep (hk) (by first | (simp; done) | (have := hP1.lt; have := hP2.lt; omega) | (have := hP1.lt; have := hP2.lt; simp; omega))
    have hG : OwnW (w.heap.size + 2) w2 A2 c2 C := hO2.keep (Below.refl _ _) (by first | (simp; done) | (have := hP1.lt; have := hP2.lt; omega) | (have := hP1.lt; have := hP2.lt; simp; omega))
    obtain ⟨t1, t2, f1, f2, f3⟩ := copy_end (n := n) (n' := n') hP2 hF hG
    go_wp2_with fail
    refine bodyPost_ret (v := .agg #[.slice A1 n c1, .slice A2 n' c2]) (by simp [results, Tryz.results82, go_sem, t1, t2]) rfl ?_
    exact ⟨⟨A1, c1, A2, c2, rfl, f1, f2, hsep⟩, f3⟩
end Go.Proofs.YtfbakelpplpomaaGreatDoor.Disk
