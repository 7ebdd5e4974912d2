/-
  The walks of the disk: ready, within, step, Ops, Read, Write.
-/
import Derived.Test.YtfbakelpplpomaaGreatDoorKp
import Derived.BigRegion
import Derived.Deep.CutRange
import Derived.Deep.RegionWith
namespace Go.Proofs.YtfbakelpplpomaaGreatDoor.Disk
open Go.RowKit Go.Proofs.YtfbakelpplpomaaGreatDoor.DiskRows
set_option linter.unusedVariables false
set_option linter.unusedSimpArgs false
set_option maxRecDepth 100000

/-- a disk: what is safe, what shows, the writes between, what is armed, how much was done, whether the power is gone -/
structure Dk where
  S : List ByteArray
  H : List ByteArray
  C : List (Nat × ByteArray)
  armed : Nat
  down : Bool
  ops : Nat
/-- writes as cells -/
def wv (C : List (Nat × ByteArray)) : List Value := C.flatMap fun x => [.int .i64 (x.1 : Nat), .string x.2]
theorem wv_length (C : List (Nat × ByteArray)) : (wv C).length = C.length * 2 := by
  induction C with
  | nil => rfl
  | cons x C ih =>
    have : wv (x :: C) = [.int .i64 (x.1 : Nat), .string x.2] ++ wv C := by simp [wv]
    rw [this, List.length_append, ih, List.length_cons]
    simp; omega
theorem wv_snoc (C : List (Nat × ByteArray)) (i : Nat) (s : ByteArray) : wv (C ++ [(i, s)]) = wv C ++ [.int .i64 (i : Nat), .string s] := by simp [wv]
/-- a disk's cells -/
def dV (gS cS gH cH : Nat) (vC : Value) (d : Dk) : Array Value := #[.slice (some ⟨gS, 0, none⟩) d.S.length cS, vC, .slice (some ⟨gH, 0, none⟩) d.S.length cH, .int .i64 (d.armed : Nat), .bool d.down, .int .i64 (d.ops : Nat)]
structure DAt (base : Nat → Prop) (b gS cS gH cH : Nat) (vC : Value) (d : Dk) (w : World) : Prop where
  heap : w.heap[b]? = some (.cells (dV gS cS gH cH vC d) 84)
  rowS : RowS w gS cS d.S
  rowH : RowS w gH cH d.H
  rowC : w.ownsRow 0 89 2 vC d.C.length (wv d.C)
  sep : Nf base b ∧ Nf base gS ∧ Nf base gH ∧ gS ≠ b ∧ gH ≠ b ∧ gS ≠ gH
  sepC : ∀ k, vC.ownBlock = some k → k ≠ b ∧ k ≠ gS ∧ k ≠ gH
  nfC : ∀ k, vC.ownBlock = some k → Nf base k
  len : d.H.length = d.S.length
  pos : 16 ≤ d.S.length
  most : d.S.length ≤ 4096
  few : d.C.length ≤ 100000
  ats : ∀ x ∈ d.C, x.1 < d.S.length
  low : d.armed ≤ 9223372036854775807 ∧ d.ops ≤ 1000000000000
/-- block b is a disk -/
def DiskAt (base : Nat → Prop) (b : Nat) (d : Dk) (w : World) : Prop := ∃ gS cS gH cH vC, DAt base b gS cS gH cH vC d w
theorem DAt.lt {base : Nat → Prop} {b gS cS gH cH : Nat} {vC : Value} {d : Dk} {w : World} (h : DAt base b gS cS gH cH vC d w) : b < w.heap.size := (Array.getElem?_eq_some_iff.1 h.heap).1
theorem DiskAt.lt {base : Nat → Prop} {b : Nat} {d : Dk} {w : World} (h : DiskAt base b d w) : b < w.heap.size := by obtain ⟨_, _, _, _, _, h⟩ := h; exact h.lt
theorem own_below {w w' : World} {base B e size n : Nat} {v : Value} {xs : List Value} (h : w.ownsRow base e size v n xs) (k : Below B w w') (hB : ∀ g, v.ownBlock = some g → g < B) : w'.ownsRow base e size v n xs := by
  refine ⟨h.1, ?_⟩
  rcases h.2 with h | ⟨g, cap, cur, rfl, hb, hg, hn, hm, hs, ht⟩
  · exact .inl h
  · exact .inr ⟨g, cap, cur, rfl, hb, by rw [k.block g (hB g rfl)]; exact hg, hn, hm, hs, ht⟩
/-- later worlds in which old blocks stay have the disk -/
theorem DAt.later {base : Nat → Prop} {b gS cS gH cH : Nat} {vC : Value} {d : Dk} {w w' : World} (h : DAt base b gS cS gH cH vC d w) (k : Below w.heap.size w w') : DAt base b gS cS gH cH vC d w' :=
  { h with heap := by rw [k.block b h.lt]; exact h.heap, rowS := h.rowS.below k h.rowS.lt, rowH := h.rowH.below k h.rowH.lt, rowC := own_below h.rowC k (fun g hg => (h.rowC.lt g hg).2) }
theorem DiskAt.later {base : Nat → Prop} {b : Nat} {d : Dk} {w w' : World} (h : DiskAt base b d w) (k : Below w.heap.size w w') : DiskAt base b d w' := by
  obtain ⟨gS, cS, gH, cH, vC, h⟩ := h
  exact ⟨gS, cS, gH, cH, vC, h.later k⟩
/-- a cell of the disk itself is written -/
theorem own_other {w : World} {base e size n : Nat} {v : Value} {xs : List Value} (h : w.ownsRow base e size v n xs) (a : Addr) (u : Value) (hne : ∀ k, v.ownBlock = some k → k ≠ a.block) : (w.setCell a u).ownsRow base e size v n xs := by
  refine ⟨h.1, ?_⟩
  rcases h.2 with h | ⟨g, cap, cur, rfl, hb, hg, hn, hm, hs, ht⟩
  · exact .inl h
  · exact .inr ⟨g, cap, cur, rfl, hb, by rw [Below.heap_setCell _ _ _ _ (hne g rfl)]; exact hg, hn, hm, hs, ht⟩

theorem ready_ok (base : Nat → Prop) (b gS cS gH cH : Nat) (vC : Value) (d : Dk) (w : World) (h : DAt base b gS cS gH cH vC d w) (e : Int) (he : e = if d.down then 7 else 0) :
    Calls Tryz.prog 42 #[.pointer (some ⟨b, 0, none⟩)] w fun x w' => x = .returned (.int .i64 e) ∧ w = w' := by
  have h0 : w.cell? ⟨b, 0, none⟩ = some (.slice (some ⟨gS, 0, none⟩) d.S.length cS) := by rw [cell_of_row w b 0 _ _ _ h.heap]; rfl
  have h4 : w.cell? ⟨b, 4, none⟩ = some (.bool d.down) := by rw [cell_of_row w b 4 _ _ _ h.heap]; rfl
  have hp : ¬ ((d.S.length : Int) = 0) := by have := h.pos; omega
  subst he
  clear h
  cases hd : d.down
  all_goals
    rw [hd] at h4
    go_enter Tryz.func42, Tryz.ntmps42
    go_wp2
    go_ret
    exact ⟨rfl, rfl⟩
theorem ready_nil (w : World) : Calls Tryz.prog 42 #[.pointer none] w fun x w' => x = .returned (.int .i64 1) ∧ w = w' := by
  go_enter Tryz.func42, Tryz.ntmps42
  go_wp2
  go_ret
  exact ⟨rfl, rfl⟩
theorem ready_zero (b : Nat) (w : World) (h : w.cell? ⟨b, 0, none⟩ = some (.slice none 0 0)) : Calls Tryz.prog 42 #[.pointer (some ⟨b, 0, none⟩)] w fun x w' => x = .returned (.int .i64 1) ∧ w = w' := by
  go_enter Tryz.func42, Tryz.ntmps42
  go_wp2
  go_ret
  exact ⟨rfl, rfl⟩
theorem within_any (base : Nat → Prop) (b gS cS gH cH : Nat) (vC : Value) (d : Dk) (w : World) (h : DAt base b gS cS gH cH vC d w) (i : Int) :
    Calls Tryz.prog 43 #[.pointer (some ⟨b, 0, none⟩), .int .i64 i] w fun x w' => x = .returned (.bool (decide (0 ≤ i ∧ i < (d.S.length : Int)))) ∧ w = w' := by
  have h0 : w.cell? ⟨b, 0, none⟩ = some (.slice (some ⟨gS, 0, none⟩) d.S.length cS) := by rw [cell_of_row w b 0 _ _ _ h.heap]; rfl
  clear h
  by_cases hi : 0 ≤ i
  · by_cases hl : i < (d.S.length : Int)
    · rw [decide_eq_true (And.intro hi hl)]
      go_enter Tryz.func43, Tryz.ntmps43
      go_wp2
      go_ret
      exact ⟨by simp [hl], rfl⟩
    · rw [decide_eq_false (fun k => hl k.2)]
      go_enter Tryz.func43, Tryz.ntmps43
      go_wp2
      go_ret
      exact ⟨by simp, rfl⟩
  · rw [decide_eq_false (fun k => hi k.1)]
    go_enter Tryz.func43, Tryz.ntmps43
    go_wp2
    go_ret
    exact ⟨rfl, rfl⟩
theorem ops_any (base : Nat → Prop) (b : Nat) (d : Dk) (w : World) (h : DiskAt base b d w) :
    Calls Tryz.prog 24 #[.pointer (some ⟨b, 0, none⟩)] w fun x w' => x = .returned (.int .i64 (d.ops : Nat)) ∧ w = w' := by
  obtain ⟨gS, cS, gH, cH, vC, h⟩ := h
  have h5 : w.cell? ⟨b, 5, none⟩ = some (.int .i64 (d.ops : Nat)) := by rw [cell_of_row w b 5 _ _ _ h.heap]; rfl
  clear h
  go_enter Tryz.func24, Tryz.ntmps24
  go_wp2
  go_ret
  exact ⟨rfl, rfl⟩
theorem below_set1 {base : Nat → Prop} {b : Nat} {w : World} (hb : Nf base b) (o : Nat) (u : Value) : Kp base w (w.setCell ⟨b, o, none⟩ u) := (Kp.refl base w).setCell (p := ⟨b, o, none⟩) hb u
/-- a number of the disk is written -/
theorem DAt.setOps {base : Nat → Prop} {b gS cS gH cH : Nat} {vC : Value} {d : Dk} {w : World} (h : DAt base b gS cS gH cH vC d w) (n : Nat) (hn : n ≤ 1000000000000) : DAt base b gS cS gH cH vC { d with ops := n } (w.setCell ⟨b, 5, none⟩ (.int .i64 (n : Nat))) :=
  { heap := by rw [Joins.block_setCell h.heap]; simp [dV], rowS := h.rowS.other _ _ h.sep.2.2.2.1, rowH := h.rowH.other _ _ h.sep.2.2.2.2.1, rowC := own_other h.rowC _ _ (fun k hk => (h.sepC k hk).1), sep := h.sep, sepC := h.sepC, nfC := h.nfC, len := h.len, pos := h.pos, most := h.most, few := h.few, ats := h.ats, low := ⟨h.low.1, hn⟩ }
theorem DAt.setArmed {base : Nat → Prop} {b gS cS gH cH : Nat} {vC : Value} {d : Dk} {w : World} (h : DAt base b gS cS gH cH vC d w) (n : Nat) (hn : n ≤ 9223372036854775807) : DAt base b gS cS gH cH vC { d with armed := n } (w.setCell ⟨b, 3, none⟩ (.int .i64 (n : Nat))) :=
  { heap := by rw [Joins.block_setCell h.heap]; simp [dV], rowS := h.rowS.other _ _ h.sep.2.2.2.1, rowH := h.rowH.other _ _ h.sep.2.2.2.2.1, rowC := own_other h.rowC _ _ (fun k hk => (h.sepC k hk).1), sep := h.sep, sepC := h.sepC, nfC := h.nfC, len := h.len, pos := h.pos, most := h.most, few := h.few, ats := h.ats, low := ⟨hn, h.low.2⟩ }
theorem DAt.setDown {base : Nat → Prop} {b gS cS gH cH : Nat} {vC : Value} {d : Dk} {w : World} (h : DAt base b gS cS gH cH vC d w) (x : Bool) : DAt base b gS cS gH cH vC { d with down := x } (w.setCell ⟨b, 4, none⟩ (.bool x)) :=
  { heap := by rw [Joins.block_setCell h.heap]; simp [dV], rowS := h.rowS.other _ _ h.sep.2.2.2.1, rowH := h.rowH.other _ _ h.sep.2.2.2.2.1, rowC := own_other h.rowC _ _ (fun k hk => (h.sepC k hk).1), sep := h.sep, sepC := h.sepC, nfC := h.nfC, len := h.len, pos := h.pos, most := h.most, few := h.few, ats := h.ats, low := h.low }
/-- a row of writes is put in its place -/
theorem DAt.setC {base : Nat → Prop} {b gS cS gH cH : Nat} {vC : Value} {d : Dk} {w : World} (h : DAt base b gS cS gH cH vC d w) (v : Value) (C : List (Nat × ByteArray)) (ho : w.ownsRow 0 89 2 v C.length (wv C)) (hs : ∀ k, v.ownBlock = some k → k ≠ b ∧ k ≠ gS ∧ k ≠ gH) (hnf : ∀ k, v.ownBlock = some k → Nf base k) (hf : C.length ≤ 100000) (hat : ∀ x ∈ C, x.1 < d.S.length) : DAt base b gS cS gH cH v { d with C := C } (w.setCell ⟨b, 1, none⟩ v) :=
  { heap := by rw [Joins.block_setCell h.heap]; simp [dV], rowS := h.rowS.other _ _ h.sep.2.2.2.1, rowH := h.rowH.other _ _ h.sep.2.2.2.2.1, rowC := own_other ho _ _ (fun k hk => (hs k hk).1), sep := h.sep, sepC := hs, nfC := hnf, len := h.len, pos := h.pos, most := h.most, few := hf, ats := hat, low := h.low }
/-- what shows of a sector is written -/
theorem DAt.setH {base : Nat → Prop} {b gS cS gH cH : Nat} {vC : Value} {d : Dk} {w : World} (h : DAt base b gS cS gH cH vC d w) (i : Nat) (hi : i < d.S.length) (s : ByteArray) : DAt base b gS cS gH cH vC { d with H := d.H.set i s } (w.setCell ⟨gH, i, none⟩ (.string s)) :=
  { heap := by rw [Below.heap_setCell _ _ _ _ (fun e => h.sep.2.2.2.2.1 e.symm)]; exact h.heap, rowS := h.rowS.other _ _ h.sep.2.2.2.2.2, rowH := h.rowH.set (by rw [h.len]; exact hi) s, rowC := own_other h.rowC _ _ (fun k hk => (h.sepC k hk).2.2), sep := h.sep, sepC := h.sepC, nfC := h.nfC, len := by simpa using h.len, pos := h.pos, most := h.most, few := h.few, ats := h.ats, low := h.low }
theorem DAt.setS {base : Nat → Prop} {b gS cS gH cH : Nat} {vC : Value} {d : Dk} {w : World} (h : DAt base b gS cS gH cH vC d w) (i : Nat) (hi : i < d.S.length) (s : ByteArray) : DAt base b gS cS gH cH vC { d with S := d.S.set i s } (w.setCell ⟨gS, i, none⟩ (.string s)) :=
  { heap := by rw [Below.heap_setCell _ _ _ _ (fun e => h.sep.2.2.2.1 e.symm)]; simpa [dV] using h.heap, rowS := h.rowS.set hi s, rowH := h.rowH.other _ _ (fun e => h.sep.2.2.2.2.2 e.symm), rowC := own_other h.rowC _ _ (fun k hk => (h.sepC k hk).2.1), sep := h.sep, sepC := h.sepC, nfC := h.nfC, len := by simpa using h.len, pos := by simpa using h.pos, most := by simpa using h.most, few := h.few, ats := by simpa using h.ats, low := h.low }

/-- a step where nothing is armed -/
theorem step_free (base : Nat → Prop) (b gS cS gH cH : Nat) (vC : Value) (d : Dk) (w : World) (h : DAt base b gS cS gH cH vC d w) (h0 : d.armed = 0) (ho : d.ops < 1000000000000) :
    Calls Tryz.prog 66 #[.pointer (some ⟨b, 0, none⟩)] w fun x w' => x = .returned (.int .i64 0) ∧ DAt base b gS cS gH cH vC { d with ops := d.ops + 1 } w' ∧ Kp base w w' ∧ w'.heap.size = w.heap.size := by
  have h3 : w.cell? ⟨b, 3, none⟩ = some (.int .i64 0) := by rw [cell_of_row w b 3 _ _ _ h.heap]; simp [dV, h0]
  have h5 : w.cell? ⟨b, 5, none⟩ = some (.int .i64 (d.ops : Nat)) := by rw [cell_of_row w b 5 _ _ _ h.heap]; rfl
  have f5 := frozen_of_row w b 5 _ _ h.heap
  have hb : (d.ops : Int) < 1000000000000 := by omega
  have hn := h.setOps (d.ops + 1) ho
  have hsb := below_set1 (w := w) h.sep.1 5 (.int .i64 ((d.ops + 1 : Nat) : Int))
  have HN := Lib.hid (And.intro hn hsb)
  clear h hn hsb h0
  go_enter Tryz.func66, Tryz.ntmps66
  go_wp2
  go_ret
  exact ⟨rfl, HN.out.1, HN.out.2, by simp [World.setCell]⟩
/-- what a sector shows -/
theorem read_ok (base : Nat → Prop) (b : Nat) (d : Dk) (w : World) (h : DiskAt base b d w) (hd : d.down = false) (i : Nat) (hi : i < d.S.length) (ho : d.ops < 1000000000000) :
    Calls Tryz.prog 33 #[.pointer (some ⟨b, 0, none⟩), .int .i64 i] w fun x w' => x = .returned (.tuple #[.string (d.H.getD i ByteArray.empty), .int .i64 0]) ∧ DiskAt base b { d with ops := d.ops + 1 } w' ∧ Kp base w w' := by
  obtain ⟨gS, cS, gH, cH, vC, h⟩ := h
  have h5 : w.cell? ⟨b, 5, none⟩ = some (.int .i64 (d.ops : Nat)) := by rw [cell_of_row w b 5 _ _ _ h.heap]; rfl
  have h2 : w.cell? ⟨b, 2, none⟩ = some (.slice (some ⟨gH, 0, none⟩) d.S.length cH) := by rw [cell_of_row w b 2 _ _ _ h.heap]; rfl
  have f5 := frozen_of_row w b 5 _ _ h.heap
  have hc := h.rowH.cell (by rw [h.len]; exact hi : i < d.H.length)
  have hgb : gH ≠ b := h.sep.2.2.2.2.1
  have hr := ready_ok base b gS cS gH cH vC d w h 0 (by rw [hd]; rfl)
  have hw := within_any base b gS cS gH cH vC d w h i
  rw [decide_eq_true (And.intro (Int.natCast_nonneg i) (by omega : (i : Int) < (d.S.length : Int)))] at hw
  have hb : (d.ops : Int) < 1000000000000 := by omega
  have hli : (i : Int) < (d.S.length : Int) := by omega
  have hn := h.setOps (d.ops + 1) ho
  have hsb := below_set1 (w := w) h.sep.1 5 (.int .i64 ((d.ops + 1 : Nat) : Int))
  have HN := Lib.hid (And.intro hn hsb)
  have HR := Lib.hid hr
  have HW := Lib.hid hw
  obtain ⟨s, hs⟩ : ∃ s, d.H.getD i ByteArray.empty = s := ⟨_, rfl⟩
  rw [hs] at hc ⊢
  clear h hn hsb hr hw hd hs
  go_enter Tryz.func33, Tryz.ntmps33
  go_wp2_with fail
  refine HR.out.mono ?_
  rintro e w1 ⟨rfl, rfl⟩
  go_wp2_with fail
  refine HW.out.mono ?_
  rintro e w1 ⟨rfl, rfl⟩
  go_wp2
  go_ret2
  exact ⟨rfl, ⟨gS, cS, gH, cH, vC, HN.out.1⟩, HN.out.2⟩
theorem info_w : (Tryz.prog.info? 89).map (fun i => (i.zero, i.size, i.bytes)) = some (some (.agg #[.int .i64 0, .string ByteArray.empty]), 2, 24) := by kernel_rfl
section
variable {ops : Array Oper} {rest : List Oper} {o : Oper} {a : Act} {w : World} {Q : Exit → Act → World → Prop}
/-- append of one write onto a row of its own, and where the row lies then -/
theorem wpList_append_w (hgd : o.guard = none) (sl x : Operand) (ho : o.op = .call { callee := .builtin .append, args := #[sl, x], argTypes := #[49, 49] })
    (base : Nat) (v : Value) (C : List (Nat × ByteArray)) (i : Nat) (s : ByteArray) (hs : a.eval sl = v) (hown : w.ownsRow base 89 2 v C.length (wv C)) (g c : Nat) (hx : a.eval x = .slice (some ⟨g, 0, none⟩) 1 c)
    (hc0 : w.cell? ⟨g, 0, none⟩ = some (.int .i64 (i : Nat))) (hc1 : w.cell? ⟨g, 1, none⟩ = some (.string s)) (hb : C.length ≤ 1000000) (hbase : base ≤ w.heap.size)
    (h : ∀ v' w', w'.ownsRow base 89 2 v' (C ++ [(i, s)]).length (wv (C ++ [(i, s)])) → w.grownBy w' v.ownBlock → (v'.ownBlock = v.ownBlock ∨ v'.ownBlock = some w.heap.size) → wpList Tryz.prog ops Q rest (a.put o.dst v') w') : wpList Tryz.prog ops Q (o :: rest) a w := by
  obtain ⟨i0, hi, hz0, hz1, hz2⟩ := info_parts info_w
  refine wpList_plain hgd fun K hK => ?_
  obtain ⟨v', w', hr, h2, h3, _, h5⟩ := run_append_own_at (P := Tryz.prog) w base 49 o.type 89 i0 (.agg #[.int .i64 0, .string ByteArray.empty]) 2 24 Tryz.underlying49 hi hz0 hz1 hz2 rfl (by decide) v C.length (wv C) hown
    ⟨g, 0, none⟩ 1 c [.int .i64 (i : Nat), .string s] rfl (fun j u hj => by
      have hj2 := (List.getElem?_eq_some_iff.1 hj).1
      have : j = 0 ∨ j = 1 := by simp at hj2; omega
      rcases this with rfl | rfl
      · simp at hj; subst hj; rw [Addr.add_zero']; exact hc0
      · simp at hj; subst hj; rw [Addr.add_lit]; exact hc1) (by intro u hu; simp at hu; rcases hu with rfl | rfl <;> rfl) (by unfold maxLen; omega) (by omega) hbase
  unfold Oper.wp execOp
  simp only [ho, resolve, invoke, builtin, Sem.run_bind, Sem.run_pure, Result.andThen_ok, List.map_toArray, List.map_cons, List.map_nil, hs, hx, hr]
  exact hK _ _ (h v' w' (by rw [wv_snoc, List.length_append]; exact h2) h3 h5)
end
theorem grown_block {w w' : World} {o : Obj} {row : Option Nat} (g : (w.alloc o).grownBy w' row) (k : Nat) (hk : k < w.heap.size) (hne : ∀ j, row = some j → j ≠ k) : w'.heap[k]? = w.heap[k]? := by
  rw [g.block k (Nat.lt_of_lt_of_le hk (by simp)) (fun e => hne k e.symm rfl), Below.heap_alloc w o k hk]
theorem own_shapeV {w : World} {base e size n : Nat} {v : Value} {xs : List Value} (h : w.ownsRow base e size v n xs) : ∃ a m c, v = .slice a m c := by
  rcases h.2 with ⟨rfl, rfl⟩ | ⟨g, cap, cur, rfl, _⟩
  · exact ⟨_, _, _, rfl⟩
  · exact ⟨_, _, _, rfl⟩
/-- a row of writes, grown in a later world, is put in its place -/
theorem DAt.grownC {base : Nat → Prop} {b gS cS gH cH : Nat} {vC : Value} {d : Dk} {w w2 : World} (h : DAt base b gS cS gH cH vC d w) (kb : w2.heap[b]? = w.heap[b]?) (kS : w2.heap[gS]? = w.heap[gS]?) (kH : w2.heap[gH]? = w.heap[gH]?) (v : Value) (C : List (Nat × ByteArray)) (ho : w2.ownsRow 0 89 2 v C.length (wv C)) (hs : ∀ k, v.ownBlock = some k → k ≠ b ∧ k ≠ gS ∧ k ≠ gH) (hnf : ∀ k, v.ownBlock = some k → Nf base k) (hf : C.length ≤ 100000) (hat : ∀ x ∈ C, x.1 < d.S.length) : DAt base b gS cS gH cH v { d with C := C } (w2.setCell ⟨b, 1, none⟩ v) :=
  { heap := by rw [Joins.block_setCell (kb.trans h.heap)]; simp [dV], rowS := (h.rowS.keep kS).other _ _ h.sep.2.2.2.1, rowH := (h.rowH.keep kH).other _ _ h.sep.2.2.2.2.1, rowC := own_other ho _ _ (fun k hk => (hs k hk).1), sep := h.sep, sepC := hs, nfC := hnf, len := h.len, pos := h.pos, most := h.most, few := hf, ats := hat, low := h.low }
/-- a write that is done -/
theorem write_ok (base : Nat → Prop) (b : Nat) (d : Dk) (w : World) (h : DiskAt base b d w) (hd : d.down = false) (h0 : d.armed = 0) (i : Nat) (s : ByteArray) (hi : i < d.S.length) (hs : s.size = 128) (ho : d.ops < 1000000000000) (hC : d.C.length < 100000) (hbase : Top base w.heap.size) :
    Calls Tryz.prog 38 #[.pointer (some ⟨b, 0, none⟩), .int .i64 i, .string s] w fun x w' => x = .returned (.int .i64 0) ∧ DiskAt base b { d with ops := d.ops + 1, C := d.C ++ [(i, s)], H := d.H.set i s } w' ∧ Kp base w w' := by
  obtain ⟨gS, cS, gH, cH, vC, h⟩ := h
  have hr := ready_ok base b gS cS gH cH vC d w h 0 (by rw [hd]; rfl)
  have hw := within_any base b gS cS gH cH vC d w h i
  rw [decide_eq_true (And.intro (Int.natCast_nonneg i) (by omega : (i : Int) < (d.S.length : Int)))] at hw
  have hst := step_free base b gS cS gH cH vC d w h h0 ho
  have hsi : (s.size : Int) = 128 := by omega
  have hli : (i : Int) < (d.S.length : Int) := by omega
  have HR := Lib.hid hr
  have HW := Lib.hid hw
  have HSt := Lib.hid hst
  clear h hr hw hst hd h0 hs
  go_enter Tryz.func38, Tryz.ntmps38
  go_wp2_with fail
  refine HR.out.mono ?_
  rintro e w1 ⟨rfl, rfl⟩
  go_wp2_with fail
  refine HW.out.mono ?_
  rintro e w1 ⟨rfl, rfl⟩
  go_wp2_with fail
  refine HSt.out.mono ?_
  rintro e w1 ⟨rfl, h1, b1, z1⟩
  have hb1 : Top base w1.heap.size := by rw [z1]; exact hbase
  have c1 : w1.cell? ⟨b, 1, none⟩ = some vC := by rw [cell_of_row w1 b 1 _ _ _ h1.heap]; rfl
  have f1 := frozen_of_row w1 b 1 _ _ h1.heap
  have c2 : w1.cell? ⟨b, 2, none⟩ = some (.slice (some ⟨gH, 0, none⟩) d.S.length cH) := by rw [cell_of_row w1 b 2 _ _ _ h1.heap]; rfl
  have H1 := Lib.hid h1
  have hblt := h1.lt
  clear h1 HSt HR HW z1
  go_upto_region 12 with (at_builtin; go_must (refine wpList_append_w rfl _ _ rfl 0 vC d.C i s rfl (H1.out.rowC.alloc _) w1.heap.size 1 rfl ((cell_of_row _ _ 0 _ _ _ (heap_alloc_last _ _)).trans rfl) ((cell_of_row _ _ 1 _ _ _ (heap_alloc_last _ _)).trans rfl) (by omega) (Nat.zero_le _) ?_; intro v2 w2 o2 g2 l2; have kb := grown_block g2 b hblt (fun j e => (H1.out.sepC j e).1); have d1 : w2.cell? ⟨b, 1, none⟩ = some vC := (World.cell?_of_block (a := ⟨b, 1, none⟩) kb).trans c1; have e1 : w2.frozen? ⟨b, 1, none⟩ = false := (World.frozen?_of_block (a := ⟨b, 1, none⟩) kb).trans f1; obtain ⟨a2, n2, k2, rfl⟩ := own_shapeV o2))
  have kS := grown_block g2 gS H1.out.rowS.lt (fun j e => (H1.out.sepC j e).2.1)
  have kH := grown_block g2 gH H1.out.rowH.lt (fun j e => (H1.out.sepC j e).2.2)
  have b2 : Kp base w1 w2 := ((Kp.refl base w1).alloc hb1 _).grown g2 (hb1.trans (by simp)) (fun k hk => H1.out.nfC k hk)
  have sep2 : ∀ k, (Value.slice a2 n2 k2).ownBlock = some k → k ≠ b ∧ k ≠ gS ∧ k ≠ gH := by
    intro k hk
    rcases l2 with e | e
    · exact H1.out.sepC k (e ▸ hk)
    · rw [e] at hk
      have hk' : k = (w1.alloc (.cells #[.int .i64 (i : Nat), .string s] 89)).heap.size := (Option.some.inj hk).symm
      have hz : (w1.alloc (.cells #[.int .i64 (i : Nat), .string s] 89)).heap.size = w1.heap.size + 1 := by simp
      have hlS := H1.out.rowS.lt
      have hlH := H1.out.rowH.lt
      omega
  have nf2 : ∀ k, (Value.slice a2 n2 k2).ownBlock = some k → Nf base k := by
    intro k hk
    rcases l2 with e | e
    · exact H1.out.nfC k (e ▸ hk)
    · rw [e] at hk
      have hk' := (Option.some.inj hk).symm
      exact hb1.nf (by rw [hk']; simp)
  have h3 := H1.out.grownC kb kS kH (.slice a2 n2 k2) (d.C ++ [(i, s)]) o2 sep2 nf2 (by simp; omega) (fun x hx => by
    rcases List.mem_append.1 hx with k | k
    · exact H1.out.ats x k
    · simp at k; subst k; exact hi)
  have b3 : Kp base w1 (w2.setCell ⟨b, 1, none⟩ (.slice a2 n2 k2)) := b2.setCell (p := ⟨b, 1, none⟩) H1.out.sep.1 _
  generalize w2.setCell _ _ = w3 at *
  have c3 : w3.cell? ⟨b, 2, none⟩ = some (.slice (some ⟨gH, 0, none⟩) d.S.length cH) := by rw [cell_of_row w3 b 2 _ _ _ h3.heap]; rfl
  have c4 := h3.rowH.cell (by rw [h3.len]; exact hi : i < d.H.length)
  have f4 := h3.rowH.frozen i
  have hfin := h3.setH i hi s
  have hbf : Kp base w1 (w3.setCell ⟨gH, i, none⟩ (.string s)) := b3.setCell (p := ⟨gH, i, none⟩) h3.sep.2.2.1 _
  have HF := Lib.hid (And.intro hfin (b1.trans hbf))
  clear h3 hfin hbf sep2 o2 l2 kb kS kH d1 e1 c1 f1 c2
  go_wp2
  go_ret
  exact ⟨rfl, ⟨gS, cS, gH, cH, _, HF.out.1⟩, HF.out.2⟩
/-- what shows: the writes, one behind the other -/
def shows (S : List ByteArray) (C : List (Nat × ByteArray)) : List ByteArray := C.foldl (fun H x => H.set x.1 x.2) S
theorem shows_length (S : List ByteArray) (C : List (Nat × ByteArray)) : (shows S C).length = S.length := by
  unfold shows
  induction C generalizing S with
  | nil => rfl
  | cons x C ih => rw [List.foldl_cons, ih]; simp
theorem shows_take (S : List ByteArray) (C : List (Nat × ByteArray)) (k : Nat) (h : k < C.length) (x : Nat × ByteArray) (hx : C.getD k (0, ByteArray.empty) = x) : shows S (C.take (k + 1)) = (shows S (C.take k)).set x.1 x.2 := by
  unfold shows
  rw [List.take_succ_eq_append_getElem h, List.foldl_append]
  rw [List.getD_eq_getElem?_getD, List.getElem?_eq_getElem h] at hx
  simp at hx
  rw [hx]
  rfl
theorem wv_get (C : List (Nat × ByteArray)) : ∀ (k : Nat), k < C.length → (wv C)[2 * k]? = some (.int .i64 ((C.getD k (0, ByteArray.empty)).1 : Nat)) ∧ (wv C)[2 * k + 1]? = some (.string (C.getD k (0, ByteArray.empty)).2) := by
  induction C with
  | nil => intro k h; simp at h
  | cons x C ih =>
    intro k h
    have e : wv (x :: C) = [.int .i64 (x.1 : Nat), .string x.2] ++ wv C := by simp [wv]
    cases k with
    | zero => rw [e]; simp
    | succ k =>
      have := ih k (by simp at h; omega)
      rw [e, show 2 * (k + 1) = 2 * k + 2 by omega]
      simpa using this
/-- a disk's cells, whatever it shows -/
def dV' (gS cS : Nat) (vC vH : Value) (d : Dk) : Array Value := #[.slice (some ⟨gS, 0, none⟩) d.S.length cS, vC, vH, .int .i64 (d.armed : Nat), .bool d.down, .int .i64 (d.ops : Nat)]
/-- a disk ahead of show -/
structure DPre (base : Nat → Prop) (b gS cS : Nat) (vC vH : Value) (d : Dk) (w : World) : Prop where
  heap : w.heap[b]? = some (.cells (dV' gS cS vC vH d) 84)
  rowS : RowS w gS cS d.S
  rowC : w.ownsRow 0 89 2 vC d.C.length (wv d.C)
  sep : Nf base b ∧ Nf base gS ∧ gS ≠ b
  sepC : ∀ k, vC.ownBlock = some k → k ≠ b ∧ k ≠ gS
  nfC : ∀ k, vC.ownBlock = some k → Nf base k
  pos : 16 ≤ d.S.length
  most : d.S.length ≤ 4096
  few : d.C.length ≤ 100000
  ats : ∀ x ∈ d.C, x.1 < d.S.length
  low : d.armed ≤ 9223372036854775807 ∧ d.ops ≤ 1000000000000
theorem DPre.lt {base : Nat → Prop} {b gS cS : Nat} {vC vH : Value} {d : Dk} {w : World} (h : DPre base b gS cS vC vH d w) : b < w.heap.size := (Array.getElem?_eq_some_iff.1 h.heap).1
theorem DAt.pre {base : Nat → Prop} {b gS cS gH cH : Nat} {vC : Value} {d : Dk} {w : World} (h : DAt base b gS cS gH cH vC d w) : DPre base b gS cS vC (.slice (some ⟨gH, 0, none⟩) d.S.length cH) d w :=
  ⟨h.heap, h.rowS, h.rowC, ⟨h.sep.1, h.sep.2.1, h.sep.2.2.2.1⟩, fun k hk => ⟨(h.sepC k hk).1, (h.sepC k hk).2.1⟩, h.nfC, h.pos, h.most, h.few, h.ats, h.low⟩
/-- behind the clone the disk has what it shows -/
theorem DPre.cloned {base : Nat → Prop} {b gS cS g' c' : Nat} {vC vH : Value} {d : Dk} {w w1 : World} (h : DPre base b gS cS vC vH d w) (k : Below w.heap.size w w1) (r : RowS w1 g' c' d.S) (hg : w.heap.size ≤ g') (hb : Top base w.heap.size) :
    DAt base b gS cS g' c' vC { d with H := shows d.S [] } (w1.setCell ⟨b, 2, none⟩ (.slice (some ⟨g', 0, none⟩) d.S.length c')) := by
  have hlt := h.lt
  have hlS := h.rowS.lt
  have hlC := fun k hk => (h.rowC.lt k hk).2
  exact { heap := by rw [Joins.block_setCell ((k.block b hlt).trans h.heap)]; simp [dV', dV], rowS := (h.rowS.below k hlS).other _ _ h.sep.2.2, rowH := r.other _ _ (by show g' ≠ b; omega), rowC := own_other (own_below h.rowC k hlC) _ _ (fun k hk => (h.sepC k hk).1), sep := ⟨h.sep.1, h.sep.2.1, hb.nf hg, h.sep.2.2, by omega, by omega⟩, sepC := fun j hj => ⟨(h.sepC j hj).1, (h.sepC j hj).2, by have := hlC j hj; omega⟩, nfC := h.nfC, len := rfl, pos := h.pos, most := h.most, few := h.few, ats := h.ats, low := h.low }
end Go.Proofs.YtfbakelpplpomaaGreatDoor.Disk
