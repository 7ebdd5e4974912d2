/-
  Rows of bytes: slices that lie in a block from some place on; append onto them, conversion to a string, slices of them.
-/
import Derived.Test.YtfnjcobgbdioeaaDoorProg
import Derived.WalkKit
import Derived.KernelRfl
import Derived.OwnWalk
import Derived.ArgAppend
import Derived.Maps.AppendAt
import Derived.Lib.AppendStr
import Derived.Laws.BytesArg
import Derived.Laws.Rows
import Derived.Deep.WholeRow
import Derived.Deep.QuietTactic
import Derived.Deep.RegionLaw
namespace Go.Proofs.YtfnjcobgbdioeaaDoor.BytesRow
open Go.RowKit
set_option linter.unusedVariables false
set_option linter.unusedSimpArgs false
set_option maxRecDepth 100000

/-- bytes as cells -/
def bc (l : List UInt8) : List Value := l.map fun b => Value.int .u8 (b.toNat : Nat)
theorem bc_length (l : List UInt8) : (bc l).length = l.length := by simp [bc]
theorem bc_append (a b : List UInt8) : bc (a ++ b) = bc a ++ bc b := by simp [bc]
theorem bc_take (l : List UInt8) (n : Nat) : bc (l.take n) = (bc l).take n := by simp [bc, List.map_take]
theorem bc_drop (l : List UInt8) (n : Nat) : bc (l.drop n) = (bc l).drop n := by simp [bc, List.map_drop]
theorem bc_str (s : ByteArray) : Lib.strCells s = bc s.data.toList := rfl
theorem bc_get (l : List UInt8) (i : Nat) (h : i < l.length) : (bc l)[i]? = some (.int .u8 ((l.getD i 0).toNat : Nat)) := by
  simp [bc, List.getD_eq_getElem?_getD, List.getElem?_eq_getElem h]
theorem bc_one (l : List UInt8) : ∀ u ∈ bc l, u.oneCell' = true := by
  intro u hu
  simp only [bc, List.mem_map] at hu
  obtain ⟨b, _, rfl⟩ := hu
  rfl
theorem info_u8 : (Tryd.prog.info? 5).map (fun i => (i.zero, i.size, i.bytes)) = some (some (.int .u8 0), 1, 1) := by kernel_rfl
theorem nums_bs (l : List UInt8) : strOfNums (l.map fun b => (b.toNat : Int)) = ⟨l.toArray⟩ := by
  unfold strOfNums
  simp [Function.comp_def]
theorem cells_new (w : World) (C : List Value) (t : TypeId) (j : Nat) (u : Value) (h : C[j]? = some u) : (w.alloc (.cells C.toArray t)).cell? ((⟨w.heap.size, 0, none⟩ : Addr).add j) = some u := by
  rw [Addr.add_lit, Nat.zero_add, cell_of_row _ _ _ _ _ _ (heap_alloc_last w (.cells C.toArray t))]
  simpa using h

/-- v is a slice with the bytes l, in a block at or above base -/
def Sl (w : World) (base : Nat) (v : Value) (l : List UInt8) : Prop :=
  (v = .slice none 0 0 ∧ l = []) ∨
  ∃ g off cap cur, v = .slice (some ⟨g, off, none⟩) l.length cap ∧ base ≤ g ∧ w.heap[g]? = some (.cells cur 5 (0, 0)) ∧ l.length ≤ cap ∧ cap ≤ maxLen ∧ off + cap ≤ cur.size ∧ (cur.toList.drop off).take l.length = bc l
theorem Sl.nil (w : World) (base : Nat) : Sl w base (.slice none 0 0) [] := .inl ⟨rfl, rfl⟩
theorem Sl.of_own {w : World} {base n : Nat} {v : Value} {l : List UInt8} (h : w.ownsRow base 5 1 v n (bc l)) : Sl w base v l := by
  obtain ⟨h1, h2⟩ := h
  rw [bc_length, Nat.mul_one] at h1
  subst h1
  rcases h2 with ⟨rfl, h⟩ | ⟨g, cap, cur, rfl, hb, hg, hn, hm, hs, ht⟩
  · exact .inl ⟨rfl, List.eq_nil_of_length_eq_zero h⟩
  · exact .inr ⟨g, 0, cap, cur, rfl, hb, hg, hn, hm, by omega, by simpa using ht⟩
theorem Sl.below {w w' : World} {base B : Nat} {v : Value} {l : List UInt8} (h : Sl w base v l) (b : Below B w w') (hB : ∀ g off n c, v = .slice (some ⟨g, off, none⟩) n c → g < B) : Sl w' base v l := by
  rcases h with ⟨rfl, h⟩ | ⟨g, off, cap, cur, rfl, hb, hg, hn, hm, hs, ht⟩
  · exact .inl ⟨rfl, h⟩
  · exact .inr ⟨g, off, cap, cur, rfl, hb, by rw [b.block g (hB _ _ _ _ rfl)]; exact hg, hn, hm, hs, ht⟩
theorem Sl.lt {w : World} {base : Nat} {v : Value} {l : List UInt8} (h : Sl w base v l) (g off n c : Nat) (e : v = .slice (some ⟨g, off, none⟩) n c) : g < w.heap.size := by
  rcases h with ⟨rfl, h⟩ | ⟨g', off', cap, cur, rfl, hb, hg, hn, hm, hs, ht⟩
  · simp at e
  · simp at e
    obtain ⟨⟨rfl, rfl⟩, rfl, rfl⟩ := e
    exact (Array.getElem?_eq_some_iff.1 hg).1
theorem Sl.at {w : World} {base : Nat} {v : Value} {l : List UInt8} (h : Sl w base v l) (g off n c : Nat) (e : v = .slice (some ⟨g, off, none⟩) n c) : base ≤ g := by
  rcases h with ⟨rfl, h⟩ | ⟨g', off', cap, cur, rfl, hb, hg, hn, hm, hs, ht⟩
  · simp at e
  · simp at e
    obtain ⟨⟨rfl, rfl⟩, rfl, rfl⟩ := e
    exact hb
theorem Sl.mono {w : World} {base base' : Nat} {v : Value} {l : List UInt8} (h : Sl w base v l) (hb : base' ≤ base) : Sl w base' v l := by
  rcases h with ⟨rfl, h⟩ | ⟨g, off, cap, cur, rfl, hb', hg, hn, hm, hs, ht⟩
  · exact .inl ⟨rfl, h⟩
  · exact .inr ⟨g, off, cap, cur, rfl, by omega, hg, hn, hm, hs, ht⟩
theorem Sl.drew {w : World} {base : Nat} {v : Value} {l : List UInt8} (h : Sl w base v l) : Sl w.drew base v l := h
theorem Sl.drewN {w : World} {base n : Nat} {v : Value} {l : List UInt8} (h : Sl w base v l) : Sl (w.drewN n) base v l := h
theorem Sl.alloc {w : World} {base : Nat} {v : Value} {l : List UInt8} (h : Sl w base v l) (o : Obj) : Sl (w.alloc o) base v l :=
  h.below (B := w.heap.size) ((Below.refl _ w).alloc (Nat.le_refl _) o) (fun g off n c e => h.lt g off n c e)
/-- another block is written -/
theorem Sl.set {w : World} {base : Nat} {v : Value} {l : List UInt8} (h : Sl w base v l) (b o : Nat) (u : Value) (hb : b < base) : Sl (w.setCell ⟨b, o, none⟩ u) base v l := by
  rcases h with ⟨rfl, h⟩ | ⟨g, off, cap, cur, rfl, hb', hg, hn, hm, hs, ht⟩
  · exact .inl ⟨rfl, h⟩
  · exact .inr ⟨g, off, cap, cur, rfl, hb', by rw [Below.heap_setCell _ _ _ _ (by show g ≠ b; omega)]; exact hg, hn, hm, hs, ht⟩
theorem Sl.cell {w : World} {base g off n c : Nat} {l : List UInt8} (h : Sl w base (.slice (some ⟨g, off, none⟩) n c) l) (i : Nat) (hi : i < l.length) : w.cell? ⟨g, off + i, none⟩ = some (.int .u8 ((l.getD i 0).toNat : Nat)) := by
  rcases h with ⟨h, _⟩ | ⟨g', off', cap, cur, e, hb, hg, hn, hm, hs, ht⟩
  · simp at h
  · simp at e
    obtain ⟨⟨rfl, rfl⟩, rfl, rfl⟩ := e
    rw [cell_of_row w g (off + i) cur _ _ hg, ← bc_get l i hi, ← ht, List.getElem?_take, if_pos hi, List.getElem?_drop]
    simp
theorem Sl.len {w : World} {base n c : Nat} {a : Option Addr} {l : List UInt8} (h : Sl w base (.slice a n c) l) : n = l.length ∧ n ≤ c ∧ c ≤ maxLen := by
  rcases h with ⟨h, rfl⟩ | ⟨g', off', cap, cur, e, hb, hg, hn, hm, hs, ht⟩
  · simp at h; obtain ⟨_, rfl, rfl⟩ := h; simp
  · simp at e; obtain ⟨_, rfl, rfl⟩ := e; exact ⟨rfl, hn, hm⟩
/-- v is none, or a slice with an address -/
theorem Sl.form {w : World} {base : Nat} {v : Value} {l : List UInt8} (h : Sl w base v l) : (v = .slice none 0 0 ∧ l = []) ∨ ∃ g off cap, v = .slice (some ⟨g, off, none⟩) l.length cap ∧ base ≤ g ∧ g < w.heap.size ∧ l.length ≤ cap ∧ cap ≤ maxLen := by
  have hlt := h.lt
  rcases h with h | ⟨g, off, cap, cur, rfl, hb, hg, hn, hm, hs, ht⟩
  · exact .inl h
  · exact .inr ⟨g, off, cap, rfl, hb, hlt _ _ _ _ rfl, hn, hm⟩
/-- x[n:] with something behind it -/
theorem Sl.drop {w : World} {base g off n c : Nat} {l : List UInt8} (h : Sl w base (.slice (some ⟨g, off, none⟩) n c) l) (k : Nat) (hk : k ≤ l.length) : Sl w base (.slice (some ⟨g, off + k, none⟩) (n - k) (c - k)) (l.drop k) := by
  rcases h with ⟨h, _⟩ | ⟨g', off', cap, cur, e, hb, hg, hn, hm, hs, ht⟩
  · simp at h
  · simp at e
    obtain ⟨⟨rfl, rfl⟩, rfl, rfl⟩ := e
    refine .inr ⟨g, off + k, c - k, cur, by simp, hb, hg, by simp; omega, by omega, by omega, ?_⟩
    rw [bc_drop, ← ht, List.length_drop, List.drop_take, List.drop_drop]
/-- x[n:] with nothing behind it keeps the address -/
theorem Sl.empty {w : World} {base g off n c k : Nat} {l : List UInt8} (h : Sl w base (.slice (some ⟨g, off, none⟩) n c) l) (hk : k = 0) : Sl w base (.slice (some ⟨g, off, none⟩) 0 k) [] := by
  subst hk
  rcases h with ⟨h, _⟩ | ⟨g', off', cap, cur, e, hb, hg, hn, hm, hs, ht⟩
  · simp at h
  · simp at e
    obtain ⟨⟨rfl, rfl⟩, rfl, rfl⟩ := e
    exact .inr ⟨g, off, 0, cur, rfl, hb, hg, by simp, by simp [maxLen], by omega, by simp [bc]⟩

theorem conv_sl (w : World) (base : Nat) (v : Value) (l : List UInt8) (h : Sl w base v l) : (convert 37 9 v).run Tryd.prog w = .ok (.string ⟨l.toArray⟩) w := by
  have h' := h
  rcases h with ⟨rfl, rfl⟩ | ⟨g, off, cap, cur, rfl, hb, hg, hn, hm, hs, ht⟩
  · rw [run_convert_bytes_string w 37 9 5 none 0 0 Tryd.underlying37 Tryd.underlying5 Tryd.underlying9]
    rfl
  · rw [← nums_bs]
    refine run_convert_bytes_arg w 37 5 Tryd.underlying37 Tryd.underlying5 g off l.length cap (l.map fun b => (b.toNat : Int)) (by simp) (fun j hj => ?_) _ Tryd.underlying9
    rw [h'.cell j hj]
    simp [List.getD_eq_getElem?_getD, List.getElem?_eq_getElem hj]

/-- append(x, y...): x is the call's own, y any bytes -/
theorem run_append_own_sl (w : World) (base base' n : Nat) (t : TypeId) (v y : Value) (a l : List UInt8) (hown : w.ownsRow base 5 1 v n (bc a)) (hy : Sl w base' y l)
    (hb : n + l.length ≤ 140737488355328) (hbase : base ≤ w.heap.size) :
    ∃ v' w', (Builtin.append_ #[37, 37] t #[v, y]).run Tryd.prog w = .ok v' w' ∧ w'.ownsRow base 5 1 v' (n + l.length) (bc (a ++ l)) ∧ w.grownBy w' v.ownBlock ∧ (v'.ownBlock = v.ownBlock ∨ v'.ownBlock = some w.heap.size) := by
  obtain ⟨i0, hi, hz0, hz1, hz2⟩ := info_parts info_u8
  have hsub := hy
  rcases hy with ⟨rfl, rfl⟩ | ⟨g, off, cap, cur, rfl, hbb, hg, hn, hm, hs, ht⟩
  · refine ⟨v, w, ?_, by simpa using hown, ⟨rfl, rfl, rfl, Nat.le_refl _, fun _ _ _ => rfl⟩, .inl rfl⟩
    rcases hown.2 with ⟨rfl, rfl⟩ | ⟨g, cap, cur, rfl, hbg, hg, hnc, hcm, hcs, htake⟩
    · simp [Builtin.append_, run_underlying Tryd.underlying37, sizeOf, typeInfo, hi, Builtin.lenOf, Builtin.firstCells, loadCells, loadCellsFrom]
    · simp [Builtin.append_, run_underlying Tryd.underlying37, sizeOf, typeInfo, hi, Builtin.lenOf, Builtin.firstCells, hnc, storeCells]
  · obtain ⟨v', w', h1, h2, h3, _, h5⟩ := run_append_own_at (P := Tryd.prog) w base 37 t 5 i0 (.int .u8 0) 1 1 Tryd.underlying37 hi hz0 hz1 hz2 rfl (by decide) v n (bc a) hown
      ⟨g, off, none⟩ l.length cap (bc l) (by rw [bc_length]; omega) (fun j u hj => by
        rw [Addr.add_lit]
        have hjl : j < l.length := by rw [← bc_length l]; exact (List.getElem?_eq_some_iff.1 hj).1
        rw [hsub.cell j hjl, ← bc_get l j hjl, hj]) (bc_one l) (by unfold maxLen; omega) (by omega) hbase
    exact ⟨v', w', h1, by rw [bc_append]; exact h2, h3, h5⟩

/-- append(x, s...): x lies in a block at or above base, s is a string -/
theorem run_append_sl_string (w : World) (base : Nat) (t : TypeId) (v : Value) (a : List UInt8) (s : ByteArray) (hv : Sl w base v a)
    (hb : a.length + s.size ≤ 140737488355328) (hbase : base ≤ w.heap.size) :
    ∃ v' w', (Builtin.append_ #[37, 9] t #[v, .string s]).run Tryd.prog w = .ok v' w' ∧ Sl w' base v' (a ++ s.data.toList) ∧ w.grownBy w' v.ownBlock := by
  obtain ⟨i0, hi, hz0, hz1, hz2⟩ := info_parts info_u8
  rcases hv with ⟨rfl, rfl⟩ | ⟨g, off, cap, cur, rfl, hbb, hg, hn, hm, hs, ht⟩
  · obtain ⟨v', w', h1, h2, h3, _⟩ := Lib.run_append_own_string (P := Tryd.prog) w base 37 9 t 5 i0 Tryd.underlying37 Tryd.underlying9 hi hz0 hz1 hz2 (.slice none 0 0) 0 [] (World.ownsRow_nil w base _ _) s (by unfold maxLen; omega) (by simpa using hb) hbase
    refine ⟨v', w', h1, ?_, h3⟩
    rw [List.nil_append] at h2 ⊢
    exact Sl.of_own h2
  · have hsz : s.data.toList.length = s.size := by simp
    by_cases hroom : a.length + s.size ≤ cap
    · refine ⟨.slice (some ⟨g, off, none⟩) (a.length + s.size) cap, w.setRow g (cur.toList.take (off + a.length) ++ Lib.strCells s ++ cur.toList.drop (off + a.length + (Lib.strCells s).length)).toArray, ?_, ?_, ?_⟩
      · have hf := Lib.run_firstCells_string (P := Tryd.prog) w 1 s
        have hst := run_storeCells_at Tryd.prog g (off + a.length) 5 (Lib.strCells s) 0 cur w hg (by rw [Lib.strCells_length]; omega) (Lib.strCells_oneCell s)
        simp only [Nat.add_zero] at hst
        simp [Builtin.append_, run_underlying Tryd.underlying37, run_underlying Tryd.underlying9, sizeOf, typeInfo, hi, hz1, Builtin.lenOf, hroom, hf, Addr.add_lit, hst]
      · refine .inr ⟨g, off, cap, _, by rw [List.length_append, hsz], hbb, setRow_heap w g cur _ _ _ hg, by rw [List.length_append, hsz]; exact hroom, hm, ?_, ?_⟩
        · simp only [List.size_toArray, List.length_append, List.length_take, List.length_drop, Array.length_toList, Lib.strCells_length]
          omega
        · have hcl : cur.toList.length = cur.size := by simp
          have e1 : (cur.toList.take (off + a.length)).drop off = bc a := by
            rw [List.drop_take, Nat.add_sub_cancel_left]; exact ht
          have e2 : (cur.toList.take (off + a.length) ++ Lib.strCells s ++ cur.toList.drop (off + a.length + (Lib.strCells s).length)).drop off = bc a ++ Lib.strCells s ++ cur.toList.drop (off + a.length + (Lib.strCells s).length) := by
            rw [List.append_assoc, List.drop_append_of_le_length (by rw [List.length_take]; omega), e1, List.append_assoc]
          rw [List.length_append, hsz]
          simp only []
          rw [e2, bc_append, ← bc_str]
          have e3 : (bc a ++ Lib.strCells s).length = a.length + s.size := by rw [List.length_append, bc_length, Lib.strCells_length]
          rw [← e3]
          exact List.take_left
      · exact ⟨rfl, rfl, rfl, by simp, fun k _ hk => setRow_other w g k _ (fun e => hk (by simp [Value.ownBlock, e]))⟩
    · have hr := Lib.run_append_grow_string (P := Tryd.prog) w 37 9 t 5 i0 (.int .u8 0) Tryd.underlying37 Tryd.underlying9 hi hz0 ⟨g, off, none⟩ a.length cap (bc a) (by rw [hz1, bc_length]; omega)
        (fun j u hj => by
          rw [Addr.add_lit]
          have hjl : j < a.length := by rw [← bc_length a]; exact (List.getElem?_eq_some_iff.1 hj).1
          have hS : Sl w base (.slice (some ⟨g, off, none⟩) a.length cap) a := .inr ⟨g, off, cap, cur, rfl, hbb, hg, hn, hm, hs, ht⟩
          rw [hS.cell j hjl, ← bc_get a j hjl, hj]) s (by omega) (by omega) (by rw [hz2]; exact growslice_fits (by omega) (by omega))
      have hge := grownCap_ge w (a.length + s.size) cap 5
      have hcm : grownCap w (a.length + s.size) cap 5 ≤ maxLen := grownCap_le_maxLen w (a.length + s.size) cap 5 (by unfold maxLen; omega)
      have hlen : (bc a ++ Lib.strCells s).length = a.length + s.size := by rw [List.length_append, bc_length, Lib.strCells_length]
      refine ⟨_, _, hr, .inr ⟨w.heap.size, 0, grownCap w (a.length + s.size) cap 5, _, by rw [List.length_append, hsz], hbase, heap_alloc_new w.drew _, by rw [List.length_append, hsz]; exact hge, hcm, ?_, ?_⟩, ⟨rfl, rfl, rfl, by simp, fun k hk _ => Below.heap_alloc w.drew _ k hk⟩⟩
      · have hz1 : (Value.int IntKind.u8 0).cells.size = 1 := rfl
        simp only [Array.size_append, List.size_toArray, size_zeroCells, hz1, bc_length, Lib.strCells_length]
        omega
      · simp only [Array.toList_append, List.append_assoc, List.drop_zero]
        rw [List.length_append, hsz, bc_append, ← bc_str, ← hlen, ← List.append_assoc]
        exact List.take_left

section
variable {ops : Array Oper} {rest : List Oper} {o : Oper} {a : Act} {w : World} {Q : Exit → Act → World → Prop}
theorem wpList_append_sl_string (hgd : o.guard = none) (sl x : Operand) (ho : o.op = .call { callee := .builtin .append, args := #[sl, x], argTypes := #[37, 9] })
    (base : Nat) (v : Value) (l : List UInt8) (s : ByteArray) (hs : a.eval sl = v) (hx : a.eval x = .string s) (hv : Sl w base v l) (hb : l.length + s.size ≤ 140737488355328) (hbase : base ≤ w.heap.size)
    (h : ∀ v' w', Sl w' base v' (l ++ s.data.toList) → w.grownBy w' v.ownBlock → wpList Tryd.prog ops Q rest (a.put o.dst v') w') : wpList Tryd.prog ops Q (o :: rest) a w := by
  refine wpList_plain hgd fun K hK => ?_
  obtain ⟨v', w', hr, h2, h3⟩ := run_append_sl_string w base o.type v l s hv hb hbase
  unfold Oper.wp execOp
  simp only [ho, resolve, invoke, builtin, Sem.run_bind, Sem.run_pure, Result.andThen_ok, List.map_toArray, List.map_cons, List.map_nil, hs, hx, hr]
  exact hK _ _ (h v' w' h2 h3)
theorem wpList_append_own_sl (hgd : o.guard = none) (sl x : Operand) (ho : o.op = .call { callee := .builtin .append, args := #[sl, x], argTypes := #[37, 37] })
    (base base' n : Nat) (v y : Value) (c l : List UInt8) (hs : a.eval sl = v) (hx : a.eval x = y) (hown : w.ownsRow base 5 1 v n (bc c)) (hy : Sl w base' y l) (hb : n + l.length ≤ 140737488355328) (hbase : base ≤ w.heap.size)
    (h : ∀ v' w', w'.ownsRow base 5 1 v' (n + l.length) (bc (c ++ l)) → w.grownBy w' v.ownBlock → wpList Tryd.prog ops Q rest (a.put o.dst v') w') : wpList Tryd.prog ops Q (o :: rest) a w := by
  refine wpList_plain hgd fun K hK => ?_
  obtain ⟨v', w', hr, h2, h3, _⟩ := run_append_own_sl w base base' n o.type v y c l hown hy hb hbase
  unfold Oper.wp execOp
  simp only [ho, resolve, invoke, builtin, Sem.run_bind, Sem.run_pure, Result.andThen_ok, List.map_toArray, List.map_cons, List.map_nil, hs, hx, hr]
  exact hK _ _ (h v' w' h2 h3)
theorem wp_append_own_sl {K : Act → World → Prop} (sl x : Operand) (ho : o.op = .call { callee := .builtin .append, args := #[sl, x], argTypes := #[37, 37] })
    (base base' n : Nat) (v y : Value) (c l : List UInt8) (hs : a.eval sl = v) (hx : a.eval x = y) (hown : w.ownsRow base 5 1 v n (bc c)) (hy : Sl w base' y l) (hb : n + l.length ≤ 140737488355328) (hbase : base ≤ w.heap.size)
    (h : ∀ v' w', w'.ownsRow base 5 1 v' (n + l.length) (bc (c ++ l)) → w.grownBy w' v.ownBlock → K (a.put o.dst v') w') : o.wp Tryd.prog a w K Q := by
  obtain ⟨v', w', hr, h2, h3, _⟩ := run_append_own_sl w base base' n o.type v y c l hown hy hb hbase
  unfold Oper.wp execOp
  simp only [ho, resolve, invoke, builtin, Sem.run_bind, Sem.run_pure, Result.andThen_ok, List.map_toArray, List.map_cons, List.map_nil, hs, hx, hr]
  exact h v' w' h2 h3
theorem step_append_own_sl {K : Act → World → Prop} {E : Prop} (hg : o.guard = none) (sl x : Operand) (ho : o.op = .call { callee := .builtin .append, args := #[sl, x], argTypes := #[37, 37] })
    (base base' n : Nat) (v y : Value) (c l : List UInt8) (hs : a.eval sl = v) (hx : a.eval x = y) (hown : w.ownsRow base 5 1 v n (bc c)) (hy : Sl w base' y l) (hb : n + l.length ≤ 140737488355328) (hbase : base ≤ w.heap.size)
    (h : ∀ v' w', w'.ownsRow base 5 1 v' (n + l.length) (bc (c ++ l)) → w.grownBy w' v.ownBlock → K (a.put o.dst v') w') : if Region.wanted o (yielded ops a.tmps) = true then Oper.wp Tryd.prog o a w K Q else E := by
  have hw : Region.wanted o (yielded ops a.tmps) = true := by simp [Region.wanted, hg]
  rw [if_pos hw]
  exact wp_append_own_sl sl x ho base base' n v y c l hs hx hown hy hb hbase h
end
end Go.Proofs.YtfnjcobgbdioeaaDoor.BytesRow
