/-
  container/heap over dag's queue: the queue's Push, heap.Push, heap.Pop.
-/
import Derived.Test.YtpaegpbabfohcaaHeapF
import Derived.Maps.AppendAt
namespace Go.Proofs.Ytpaegpbabfohcaa.HeapA
open Go.RowKit Go.Proofs.Ytpaegpbabfohcaa.HeapPure
set_option linter.unusedVariables false
set_option linter.unusedSimpArgs false
set_option maxRecDepth 100000

/-- from w to w' only cell 2 of block b, and blocks that are none of F, were written -/
structure Ps (F : Nat → Prop) (b : Nat) (w w' : World) : Prop where
  os : w'.os = w.os
  tape : w'.tape = w.tape
  output : w'.output = w.output
  size : w.heap.size ≤ w'.heap.size
  block : ∀ k, k < w.heap.size → F k → w'.heap[k]? = w.heap[k]?
  cell : ∀ o, o ≠ 2 → w'.cell? ⟨b, o, none⟩ = w.cell? ⟨b, o, none⟩
  fz : ∀ o, w'.frozen? ⟨b, o, none⟩ = w.frozen? ⟨b, o, none⟩
theorem Ps.refl (F : Nat → Prop) (b : Nat) (w : World) : Ps F b w w := ⟨rfl, rfl, rfl, Nat.le_refl _, fun _ _ _ => rfl, fun _ _ => rfl, fun _ => rfl⟩
theorem Ps.trans {F : Nat → Prop} {b : Nat} {w w' w'' : World} (h : Ps F b w w') (k : Ps F b w' w'') : Ps F b w w'' :=
  ⟨k.os.trans h.os, k.tape.trans h.tape, k.output.trans h.output, Nat.le_trans h.size k.size, fun i hi hb => (k.block i (Nat.lt_of_lt_of_le hi h.size) hb).trans (h.block i hi hb), fun o ho => (k.cell o ho).trans (h.cell o ho), fun o => (k.fz o).trans (h.fz o)⟩
theorem Ps.drewN {F : Nat → Prop} {b : Nat} {w w' : World} (h : Ps F b w w') (n : Nat) : Ps F b w (w'.drewN n) := h.trans ⟨rfl, rfl, rfl, Nat.le_refl _, fun _ _ _ => rfl, fun _ _ => rfl, fun _ => rfl⟩
theorem Ps.drew {F : Nat → Prop} {b : Nat} {w w' : World} (h : Ps F b w w') : Ps F b w w'.drew := h.drewN 1
theorem Ps.wr {F : Nat → Prop} {b g : Nat} {w a w' : World} (h : Ps F b w a) (k : Wr g a w') (hg : ¬ F g) (hb : b ≠ g) : Ps F b w w' :=
  h.trans ⟨k.os, k.tape, k.output, by rw [k.size]; exact Nat.le_refl _, fun i _ hi => k.block i (fun e => hg (e ▸ hi)), fun o _ => k.cell hb, fun o => k.frozen hb⟩
theorem Ps.header {F : Nat → Prop} {b : Nat} {w w' : World} (h : Ps F b w w') (hb : ¬ F b) (v : Value) : Ps F b w (w'.setCell ⟨b, 2, none⟩ v) :=
  h.trans ⟨rfl, rfl, rfl, by simp [World.setCell], fun k _ hk => Below.heap_setCell _ _ _ _ (fun e => hb (by have e : k = b := e; subst e; exact hk)), fun o ho => World.cell?_setCell_other _ _ _ _ (by intro e; injection e with _ e _; exact ho e.symm), fun o => World.frozen?_setCell _ _ _ _⟩
theorem Ps.grown {F : Nat → Prop} {b : Nat} {w a w' : World} {row : Option Nat} (h : Ps F b w a) (hg : a.grownBy w' row) (hb : b < a.heap.size) (hr : ∀ k, row = some k → ¬ F k ∧ k ≠ b) : Ps F b w w' := by
  have blk : w'.heap[b]? = a.heap[b]? := hg.block b hb (fun e => (hr b e.symm).2 rfl)
  exact h.trans ⟨hg.os, hg.tape, hg.output, hg.size, fun k hk hF => hg.block k hk (fun e => (hr k e.symm).1 hF), fun o _ => World.cell?_of_block (a := ⟨b, o, none⟩) blk, fun o => World.frozen?_of_block (a := ⟨b, o, none⟩) blk⟩
theorem Ps.alloc {F : Nat → Prop} {b : Nat} {w a : World} (h : Ps F b w a) (hb : b < a.heap.size) (o : Obj) : Ps F b w (a.alloc o) := by
  have blk : ∀ k, k < a.heap.size → (a.alloc o).heap[k]? = a.heap[k]? := fun k hk => Below.heap_alloc a o k hk
  exact h.trans ⟨rfl, rfl, rfl, by simp, fun k hk _ => blk k hk, fun o' _ => World.cell?_of_block (a := ⟨b, o', none⟩) (blk b hb), fun o' => World.frozen?_of_block (a := ⟨b, o', none⟩) (blk b hb)⟩

/-- the queue whose header lies in cell 2 of block b holds q; what is in F is none of its own -/
structure QAt (F : Nat → Prop) (b : Nat) (q : List Int) (w : World) : Prop where
  val : ∃ V, w.cell? ⟨b, 2, none⟩ = some V ∧ w.ownsRow 0 3 1 V q.length (iv q) ∧ ∀ g, V.ownBlock = some g → ¬ F g ∧ g ≠ b
  fz : w.frozen? ⟨b, 2, none⟩ = false
  nf : ¬ F b
  top : ∀ k, F k → k < w.heap.size
  lt : b < w.heap.size
theorem QAt.drewN {F : Nat → Prop} {b : Nat} {q : List Int} {w : World} (h : QAt F b q w) (n : Nat) : QAt F b q (w.drewN n) := ⟨h.val, h.fz, h.nf, h.top, h.lt⟩
theorem own_other {w : World} {base e size n : Nat} {v : Value} {xs : List Value} (h : w.ownsRow base e size v n xs) (a : Addr) (u : Value) (hne : ∀ k, v.ownBlock = some k → k ≠ a.block) : (w.setCell a u).ownsRow base e size v n xs := by
  refine ⟨h.1, ?_⟩
  rcases h.2 with h | ⟨g, cap, cur, rfl, hb, hg, hn, hm, hs, ht⟩
  · exact .inl h
  · exact .inr ⟨g, cap, cur, rfl, hb, by rw [Below.heap_setCell _ _ _ _ (hne g rfl)]; exact hg, hn, hm, hs, ht⟩
theorem QRow.of_own {w : World} {B g n cap : Nat} {q : List Int} (h : w.ownsRow B 3 1 (.slice (some ⟨g, 0, none⟩) n cap) q.length (iv q)) : QRow w g cap q ∧ B ≤ g ∧ n = q.length := by
  obtain ⟨h1, h2⟩ := h
  rcases h2 with ⟨h, _⟩ | ⟨g', cap', cur, e, hb, hg, hn, hm, hs, ht⟩
  · simp at h
  · simp at e
    obtain ⟨rfl, rfl, rfl⟩ := e
    exact ⟨⟨⟨cur, hg, by omega, by simpa using ht⟩, hn, hm⟩, hb, rfl⟩
theorem QRow.own {w : World} {B g cap : Nat} {q : List Int} (h : QRow w g cap q) (hB : B ≤ g) : w.ownsRow B 3 1 (.slice (some ⟨g, 0, none⟩) q.length cap) q.length (iv q) := by
  obtain ⟨cur, hc, hs, ht⟩ := h.row
  exact ⟨by rw [iv_length, Nat.mul_one], .inr ⟨g, cap, cur, rfl, hB, hc, h.le, h.max, by omega, by simpa using ht⟩⟩
theorem info_int : (Try.prog.info? 3).map (fun i => (i.zero, i.size, i.bytes)) = some (some (.int .i64 0), 1, 8) := by kernel_rfl
theorem own_shapeQ {w : World} {base e size n : Nat} {v : Value} {xs : List Value} (h : w.ownsRow base e size v n xs) : ∃ a m c, v = .slice a m c := by
  rcases h.2 with ⟨rfl, rfl⟩ | ⟨g, cap, cur, rfl, _⟩
  · exact ⟨_, _, _, rfl⟩
  · exact ⟨_, _, _, rfl⟩
section
variable {ops : Array Oper} {rest : List Oper} {o : Oper} {a : Act} {w : World} {Q : Exit → Act → World → Prop}
/-- append of one number onto a row of its own, and where the row lies then -/
theorem wpList_append_q (t : TypeId) (ht : Try.prog.underlying t = some (.slice 3)) (hgd : o.guard = none) (sl x : Operand) (ho : o.op = .call { callee := .builtin .append, args := #[sl, x], argTypes := #[t, t] })
    (base : Nat) (v : Value) (q : List Int) (z : Int) (hs : a.eval sl = v) (hown : w.ownsRow base 3 1 v q.length (iv q)) (g c : Nat) (hx : a.eval x = .slice (some ⟨g, 0, none⟩) 1 c)
    (hc : w.cell? ⟨g, 0, none⟩ = some (.int .i64 z)) (hb : q.length ≤ 1000000) (hbase : base ≤ w.heap.size)
    (h : ∀ v' w', w'.ownsRow base 3 1 v' (q ++ [z]).length (iv (q ++ [z])) → w.grownBy w' v.ownBlock → (v'.ownBlock = v.ownBlock ∨ v'.ownBlock = some w.heap.size) → wpList Try.prog ops Q rest (a.put o.dst v') w') : wpList Try.prog ops Q (o :: rest) a w := by
  obtain ⟨i0, hi, hz0, hz1, hz2⟩ := info_parts info_int
  refine wpList_plain hgd fun K hK => ?_
  obtain ⟨v', w', hr, h2, h3, _, h5⟩ := run_append_own_at (P := Try.prog) w base t o.type 3 i0 (.int .i64 0) 1 8 ht hi hz0 hz1 hz2 rfl (by decide) v q.length (iv q) hown
    ⟨g, 0, none⟩ 1 c [.int .i64 z] rfl (fun j u hj => by
      have hj2 := (List.getElem?_eq_some_iff.1 hj).1
      have : j = 0 := by simp at hj2; omega
      subst this
      simp at hj; subst hj; rw [Addr.add_zero']; exact hc) (by intro u hu; simp at hu; subst hu; rfl) (by unfold maxLen; omega) (by omega) hbase
  unfold Oper.wp execOp
  simp only [ho, resolve, invoke, builtin, Sem.run_bind, Sem.run_pure, Result.andThen_ok, List.map_toArray, List.map_cons, List.map_nil, hs, hx, hr]
  exact hK _ _ (h v' w' (by rw [List.length_append]; simpa [iv] using h2) h3 h5)
end
theorem grown_block {w w' : World} {o : Obj} {row : Option Nat} (g : (w.alloc o).grownBy w' row) (k : Nat) (hk : k < w.heap.size) (hne : ∀ j, row = some j → j ≠ k) : w'.heap[k]? = w.heap[k]? := by
  rw [g.block k (Nat.lt_of_lt_of_le hk (by simp)) (fun e => hne k e.symm rfl), Below.heap_alloc w o k hk]
theorem as_int (W : World) (v : Value) : (Instr.typeAssert (.iface 3 v) 20 3 true).run Try.prog W = .ok (.tuple #[v, .bool true]) W := by kernel_rfl

set_option maxHeartbeats 800000 in
theorem qpush_any (F : Nat → Prop) (b : Nat) (q : List Int) (x : Int) (w : World) (h : QAt F b q w) (hm : q.length ≤ 1000000) :
    Calls Try.prog 129 #[.pointer (some ⟨b, 2, none⟩), .iface 3 (.int .i64 x)] w fun e w' => e = .returned (.tuple #[]) ∧ QAt F b (q ++ [x]) w' ∧ Ps F b w w' := by
  obtain ⟨⟨V, hV, hown, hsep⟩, hfz, hnf, htop, hb⟩ := h
  have hta := as_int
  have HS := Lib.hid hsep
  clear hsep
  have HT := Lib.hid htop
  clear htop
  have QW1 : ∀ (g' : Option Nat) (w1 : World), (w.alloc (.cells #[.int .i64 x] 3)).grownBy w1 V.ownBlock → (g' = V.ownBlock ∨ g' = some (w.alloc (.cells #[.int .i64 x] 3)).heap.size) → w1.cell? ⟨b, 2, none⟩ = some V ∧ w1.frozen? ⟨b, 2, none⟩ = false ∧ Ps F b w w1 ∧ (∀ g, g' = some g → ¬ F g ∧ g ≠ b) := fun g' w1 hg ho => by
    have p1 := (Ps.refl F b w).alloc hb (.cells #[.int .i64 x] 3)
    have p2 := p1.grown hg (by simp; omega) (fun k hk => HS.out k hk)
    have blk : w1.heap[b]? = w.heap[b]? := grown_block hg b hb (fun j hj => (HS.out j hj).2)
    refine ⟨(World.cell?_of_block (a := ⟨b, 2, none⟩) blk).trans hV, (World.frozen?_of_block (a := ⟨b, 2, none⟩) blk).trans hfz, p2, fun g hg' => ?_⟩
    rcases ho with e | e
    · exact HS.out g (e ▸ hg')
    · rw [e] at hg'
      simp at hg'
      subst hg'
      exact ⟨fun hF => by have := HT.out _ hF; omega, by omega⟩
  have HW := Lib.hid QW1
  clear QW1
  go_enter Try.func129, Try.ntmps129
  go_wp2_with (at_builtin; go_must (refine wpList_append_q 88 Try.underlying88 rfl _ _ rfl 0 V q x rfl (hown.alloc _) w.heap.size 1 rfl ((cell_of_row _ _ 0 _ _ _ (heap_alloc_last _ _)).trans rfl) hm (Nat.zero_le _) ?_); intro v' w1 hown3 hgrow hor; obtain ⟨A3, n3, c3, rfl⟩ := own_shapeQ hown3; have hps := HW.out _ w1 hgrow hor; clear hgrow hor; have hc1 := hps.1; have hf1 := hps.2.1; have HP := Lib.hid hps.2.2.1; have HQ := Lib.hid hps.2.2.2; clear hps)
  go_end0
  refine ⟨rfl, ⟨⟨_, World.cell?_setCell_same w1 _ _ hc1, own_other hown3 _ _ (fun k hk => (HQ.out k hk).2), HQ.out⟩, by rw [World.frozen?_setCell]; exact hf1, hnf, fun k hk => ?_, ?_⟩, HP.out.header hnf _⟩
  · have := HP.out.size
    have := HT.out k hk
    simp [World.setCell]; omega
  · have := HP.out.size
    simp [World.setCell]; omega
end Go.Proofs.Ytpaegpbabfohcaa.HeapA
