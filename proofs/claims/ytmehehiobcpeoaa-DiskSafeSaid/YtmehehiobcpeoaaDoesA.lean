/-
  A disk and the document's one, side by side; the blocks of pleachlaw07's does.
-/
import Derived.Test.YtmehehiobcpeoaaRefSame
import Derived.Test.YtmehehiobcpeoaaDiskOpen
namespace Go.Proofs.Ytmehehiobcpeoaa.Disk
open Go.RowKit Go.Proofs.Ytmehehiobcpeoaa.DiskRows
set_option linter.unusedVariables false
set_option linter.unusedSimpArgs false
set_option maxRecDepth 100000

/-- a row lies in one of these blocks -/
def RIn (F : Nat → Prop) (A : Option Addr) (n : Nat) : Prop := n = 0 ∨ ∃ g off, A = some ⟨g, off, none⟩ ∧ F g
theorem Txs.keep {w w' : World} {A : Option Addr} {l : List ByteArray} (h : Txs w A l) (hs : w.heap.size ≤ w'.heap.size) (k : ∀ g off, A = some ⟨g, off, none⟩ → l.length ≠ 0 → w'.heap[g]? = w.heap[g]?) : Txs w' A l := by
  rcases h with rfl | ⟨g, off, rfl, hg, hc⟩
  · exact .inl rfl
  · rcases Nat.eq_zero_or_pos l.length with h0 | h0
    · exact .inl (List.eq_nil_of_length_eq_zero h0)
    · exact .inr ⟨g, off, rfl, by omega, fun i hi => by rw [World.cell?_of_block (w := w) (a := ⟨g, off + i, none⟩) (k g off rfl (by omega))]; exact hc i hi⟩
theorem Wrs.keep {w w' : World} {A : Option Addr} {C : List (Int × ByteArray)} (h : Wrs w A C) (hs : w.heap.size ≤ w'.heap.size) (k : ∀ g off, A = some ⟨g, off, none⟩ → C.length ≠ 0 → w'.heap[g]? = w.heap[g]?) : Wrs w' A C := by
  rcases h with rfl | ⟨g, off, rfl, hg, hc⟩
  · exact .inl rfl
  · rcases Nat.eq_zero_or_pos C.length with h0 | h0
    · exact .inl (List.eq_nil_of_length_eq_zero h0)
    · exact .inr ⟨g, off, rfl, by omega, fun i hi => by rw [World.cell?_of_block (w := w) (a := ⟨g, off + i * 2, none⟩) (k g off rfl (by omega)), World.cell?_of_block (w := w) (a := ⟨g, off + i * 2 + 1, none⟩) (k g off rfl (by omega))]; exact hc i hi⟩
theorem Txs.lt {w : World} {l : List ByteArray} {g off : Nat} (h : Txs w (some ⟨g, off, none⟩) l) (hn : l.length ≠ 0) : g < w.heap.size := by
  rcases h with rfl | ⟨g', off', e, hg, _⟩
  · simp at hn
  · simp at e; omega
theorem Wrs.lt {w : World} {C : List (Int × ByteArray)} {g off : Nat} (h : Wrs w (some ⟨g, off, none⟩) C) (hn : C.length ≠ 0) : g < w.heap.size := by
  rcases h with rfl | ⟨g', off', e, hg, _⟩
  · simp at hn
  · simp at e; omega
/-- the document's rows, in such blocks -/
structure RQ (Q : Nat → Prop) (w : World) (A A' : Option Addr) (d : Dk) : Prop where
  rows : RAt w A A' d
  one : RIn Q A d.S.length
  two : RIn Q A' d.C.length
theorem RQ.keep {Q : Nat → Prop} {w w' : World} {A A' : Option Addr} {d : Dk} (h : RQ Q w A A' d) (hs : w.heap.size ≤ w'.heap.size) (k : ∀ g, Q g → g < w.heap.size → w'.heap[g]? = w.heap[g]?) : RQ Q w' A A' d := by
  refine ⟨⟨h.rows.1.keep hs (fun g off e hn => ?_), h.rows.2.keep hs (fun g off e hn => ?_)⟩, h.one, h.two⟩
  · subst e
    rcases h.one with h1 | ⟨g', off', e, h1⟩
    · exact absurd h1 hn
    · simp at e
      obtain ⟨rfl, rfl⟩ := e
      exact k g h1 (h.rows.1.lt hn)
  · subst e
    rw [ints_length] at hn
    rcases h.two with h1 | ⟨g', off', e, h1⟩
    · exact absurd h1 hn
    · simp at e
      obtain ⟨rfl, rfl⟩ := e
      exact k g h1 (h.rows.2.lt (by rw [ints_length]; exact hn))
theorem RQ.later {Q : Nat → Prop} {w w' : World} {A A' : Option Addr} {d : Dk} (h : RQ Q w A A' d) (k : Below w.heap.size w w') : RQ Q w' A A' d := h.keep k.size (fun g _ hg => k.block g hg)
theorem RQ.set {Q : Nat → Prop} {w : World} {A A' : Option Addr} {d : Dk} (h : RQ Q w A A' d) (p : Addr) (u : Value) (hp : ¬ Q p.block) : RQ Q (w.setCell p u) A A' d := h.keep (by simp [World.setCell]) (fun g hg _ => Below.heap_setCell _ _ _ _ (fun e => hp (e ▸ hg)))
theorem RQ.kp {Q F : Nat → Prop} {w w' : World} {A A' : Option Addr} {d : Dk} (h : RQ Q w A A' d) (k : Kp F w w') (hq : ∀ g, Q g → g < w.heap.size → F g) : RQ Q w' A A' d := h.keep k.size (fun g hg hl => k.block g hl (hq g hg hl))
theorem RQ.sub {Q Q' : Nat → Prop} {w : World} {A A' : Option Addr} {d : Dk} (h : RQ Q w A A' d) (k : ∀ g, Q g → g < w.heap.size → Q' g) : RQ Q' w A A' d := by
  refine ⟨h.rows, ?_, ?_⟩
  · rcases h.one with h1 | ⟨g, off, rfl, h1⟩
    · exact .inl h1
    · rcases Nat.eq_zero_or_pos d.S.length with h0 | h0
      · exact .inl h0
      · exact .inr ⟨g, off, rfl, k g h1 (h.rows.1.lt (by omega))⟩
  · rcases h.two with h1 | ⟨g, off, rfl, h1⟩
    · exact .inl h1
    · rcases Nat.eq_zero_or_pos d.C.length with h0 | h0
      · exact .inl h0
      · exact .inr ⟨g, off, rfl, k g h1 (h.rows.2.lt (by rw [ints_length]; omega))⟩
theorem RNew.rq {Q : Nat → Prop} {w w' : World} {A A' A1 A2 : Option Addr} {d d1 : Dk} (h : RNew w w' A A' A1 A2 d d1) (hr : RQ Q w A A' d) (hq : ∀ g, w.heap.size ≤ g → Q g) : RQ Q w' A1 A2 d1 := by
  refine ⟨h.rows, ?_, ?_⟩
  · rcases h.one with h1 | ⟨rfl, e⟩ | ⟨g, rfl, h1⟩
    · exact .inl h1
    · rw [e]; exact hr.one
    · exact .inr ⟨g, 0, rfl, hq g h1⟩
  · rcases h.two with h1 | ⟨rfl, e⟩ | ⟨g, rfl, h1⟩
    · exact .inl h1
    · rw [e]; exact hr.two
    · exact .inr ⟨g, 0, rfl, hq g h1⟩
/-- other blocks are written -/
theorem DiskAt.set {F : Nat → Prop} {b : Nat} {d : Dk} {w : World} (h : DiskAt F b d w) (p : Addr) (u : Value) (hp : F p.block) : DiskAt F b d (w.setCell p u) := by
  obtain ⟨gS, cS, gH, cH, vC, h⟩ := h
  have hn : ∀ k, Nf F k → k ≠ p.block := fun k hk e => hk (e ▸ hp)
  exact ⟨gS, cS, gH, cH, vC, { h with heap := by rw [Below.heap_setCell _ _ _ _ (hn _ h.sep.1)]; exact h.heap, rowS := h.rowS.other _ _ (hn _ h.sep.2.1), rowH := h.rowH.other _ _ (hn _ h.sep.2.2.1), rowC := own_other h.rowC _ _ (fun k hk => hn _ (h.nfC k hk)) }⟩
/-- these blocks, and those that were made since -/
def Plus (F : Nat → Prop) (n m : Nat) : Nat → Prop := fun k => F k ∨ (n ≤ k ∧ k < m)
theorem DiskAt.grow {F : Nat → Prop} {b : Nat} {d : Dk} {w w' : World} (h : DiskAt F b d w) (k : Below w.heap.size w w') : DiskAt (Plus F w.heap.size w'.heap.size) b d w' := by
  obtain ⟨gS, cS, gH, cH, vC, h⟩ := h
  have hn : ∀ j, Nf F j → j < w.heap.size → Nf (Plus F w.heap.size w'.heap.size) j := fun j hj hl q => by
    rcases q with q | q
    · exact hj q
    · omega
  have hl := h.later k
  exact ⟨gS, cS, gH, cH, vC, { hl with sep := ⟨hn _ h.sep.1 h.lt, hn _ h.sep.2.1 h.rowS.lt, hn _ h.sep.2.2.1 h.rowH.lt, h.sep.2.2.2⟩, nfC := fun j hj => hn _ (h.nfC j hj) (h.rowC.lt j hj).2 }⟩
theorem Plus.top {F : Nat → Prop} {n m : Nat} (h : Top F n) (k : n ≤ m) : Top (Plus F n m) m := fun j hj => by
  rcases hj with q | q
  · have := h j q; omega
  · exact q.2
/-- a disk and the document's one -/
structure Both (F Q : Nat → Prop) (b : Nat) (d : Dk) (A A' : Option Addr) (w : World) : Prop where
  disk : DiskAt F b d w
  rows : RQ Q w A A' d
  sub : ∀ k, Q k → F k
  shown : d.H = shows d.S d.C
  top : Top F w.heap.size

/-- the blocks of does: the document's disk, the call, the result -/
structure Dz (w : World) (b0 b1 b2 b3 b4 : Value) (ac : List Value) (W : World) : Prop where
  box : W.heap[w.heap.size]? = some (.cells #[b0, b1, b2, b3, b4] 35 (0, 0))
  act : W.heap[w.heap.size + 1]? = some (.cells ac.toArray 39 (0, 0))
  res : W.heap[w.heap.size + 2]? = some (.cells #[.slice none 0 0, .slice none 0 0, .int .i64 0, .bool false, .int .i64 0] 35 (0, 0))
theorem Dz.start (w : World) (b0 b1 b2 b3 b4 : Value) (ac : List Value) : Dz w b0 b1 b2 b3 b4 ac (((w.alloc (.cells #[b0, b1, b2, b3, b4] 35)).alloc (.cells ac.toArray 39)).alloc (.cells #[.slice none 0 0, .slice none 0 0, .int .i64 0, .bool false, .int .i64 0] 35)) := by
  have e1 : (w.alloc (.cells #[b0, b1, b2, b3, b4] 35)).heap.size = w.heap.size + 1 := by simp
  have e2 : ((w.alloc (.cells #[b0, b1, b2, b3, b4] 35)).alloc (.cells ac.toArray 39)).heap.size = w.heap.size + 2 := by simp
  refine ⟨?_, ?_, ?_⟩
  · rw [Below.heap_alloc _ _ _ (by simp; omega), Below.heap_alloc _ _ _ (by simp)]; exact heap_alloc_last _ _
  · rw [Below.heap_alloc _ _ _ (by simp), ← e1]; exact heap_alloc_last _ _
  · rw [← e2]; exact heap_alloc_last _ _
theorem dz_below (w : World) (o1 o2 o3 : Obj) : Below w.heap.size w (((w.alloc o1).alloc o2).alloc o3) := (((Below.refl _ _).alloc (Nat.le_refl _) _).alloc (by simp) _).alloc (by simp; omega) _
theorem Dz.lt {w W : World} {b0 b1 b2 b3 b4 : Value} {ac : List Value} (h : Dz w b0 b1 b2 b3 b4 ac W) : w.heap.size + 3 ≤ W.heap.size := (Array.getElem?_eq_some_iff.1 h.res).1
theorem Dz.keep {w W W' : World} {b0 b1 b2 b3 b4 : Value} {ac : List Value} (h : Dz w b0 b1 b2 b3 b4 ac W) (k : ∀ j, w.heap.size ≤ j → j < w.heap.size + 3 → W'.heap[j]? = W.heap[j]?) : Dz w b0 b1 b2 b3 b4 ac W' :=
  ⟨by rw [k _ (by omega) (by omega)]; exact h.box, by rw [k _ (by omega) (by omega)]; exact h.act, by rw [k _ (by omega) (by omega)]; exact h.res⟩
theorem Dz.later {w W W' : World} {b0 b1 b2 b3 b4 : Value} {ac : List Value} (h : Dz w b0 b1 b2 b3 b4 ac W) (k : Below W.heap.size W W') : Dz w b0 b1 b2 b3 b4 ac W' := h.keep (fun j _ hj => k.block j (by have := h.lt; omega))
theorem Dz.drew {w W : World} {b0 b1 b2 b3 b4 : Value} {ac : List Value} (h : Dz w b0 b1 b2 b3 b4 ac W) : Dz w b0 b1 b2 b3 b4 ac W.drew := h.later (Below.refl _ _).drew
theorem Dz.kp {w W W' : World} {b0 b1 b2 b3 b4 : Value} {ac : List Value} {F : Nat → Prop} {m : Nat} (h : Dz w b0 b1 b2 b3 b4 ac W) (k : Kp (Plus F w.heap.size m) W W') (hm : w.heap.size + 3 ≤ m) : Dz w b0 b1 b2 b3 b4 ac W' := h.keep (fun j hl hj => k.block j (by have := h.lt; omega) (.inr ⟨hl, by omega⟩))
theorem Dz.put0 {w W : World} {b0 b1 b2 b3 b4 : Value} {ac : List Value} (h : Dz w b0 b1 b2 b3 b4 ac W) (u : Value) : Dz w u b1 b2 b3 b4 ac (W.setCell ⟨w.heap.size, 0, none⟩ u) :=
  ⟨by rw [Joins.block_setCell (i := 0) h.box]; rfl, by rw [Below.heap_setCell _ _ _ _ (by simp)]; exact h.act, by rw [Below.heap_setCell _ _ _ _ (by simp)]; exact h.res⟩
theorem Dz.put1 {w W : World} {b0 b1 b2 b3 b4 : Value} {ac : List Value} (h : Dz w b0 b1 b2 b3 b4 ac W) (u : Value) : Dz w b0 u b2 b3 b4 ac (W.setCell ⟨w.heap.size, 1, none⟩ u) :=
  ⟨by rw [Joins.block_setCell (i := 1) h.box]; rfl, by rw [Below.heap_setCell _ _ _ _ (by simp)]; exact h.act, by rw [Below.heap_setCell _ _ _ _ (by simp)]; exact h.res⟩
theorem Dz.put2 {w W : World} {b0 b1 b2 b3 b4 : Value} {ac : List Value} (h : Dz w b0 b1 b2 b3 b4 ac W) (u : Value) : Dz w b0 b1 u b3 b4 ac (W.setCell ⟨w.heap.size, 2, none⟩ u) :=
  ⟨by rw [Joins.block_setCell (i := 2) h.box]; rfl, by rw [Below.heap_setCell _ _ _ _ (by simp)]; exact h.act, by rw [Below.heap_setCell _ _ _ _ (by simp)]; exact h.res⟩
theorem Dz.put3 {w W : World} {b0 b1 b2 b3 b4 : Value} {ac : List Value} (h : Dz w b0 b1 b2 b3 b4 ac W) (u : Value) : Dz w b0 b1 b2 u b4 ac (W.setCell ⟨w.heap.size, 3, none⟩ u) :=
  ⟨by rw [Joins.block_setCell (i := 3) h.box]; rfl, by rw [Below.heap_setCell _ _ _ _ (by simp)]; exact h.act, by rw [Below.heap_setCell _ _ _ _ (by simp)]; exact h.res⟩
theorem Dz.put4 {w W : World} {b0 b1 b2 b3 b4 : Value} {ac : List Value} (h : Dz w b0 b1 b2 b3 b4 ac W) (u : Value) : Dz w b0 b1 b2 b3 u ac (W.setCell ⟨w.heap.size, 4, none⟩ u) :=
  ⟨by rw [Joins.block_setCell (i := 4) h.box]; rfl, by rw [Below.heap_setCell _ _ _ _ (by simp)]; exact h.act, by rw [Below.heap_setCell _ _ _ _ (by simp)]; exact h.res⟩
theorem Dz.cells {w W : World} {b0 b1 b2 b3 b4 : Value} {ac : List Value} (h : Dz w b0 b1 b2 b3 b4 ac W) : W.cell? ⟨w.heap.size, 0, none⟩ = some b0 ∧ W.cell? ⟨w.heap.size, 1, none⟩ = some b1 ∧ W.cell? ⟨w.heap.size, 2, none⟩ = some b2 ∧ W.cell? ⟨w.heap.size, 3, none⟩ = some b3 ∧ W.cell? ⟨w.heap.size, 4, none⟩ = some b4 ∧ W.cell? ⟨w.heap.size + 1 + 1, 0, none⟩ = some (.slice none 0 0) ∧ W.cell? ⟨w.heap.size + 1 + 1, 1, none⟩ = some (.slice none 0 0) ∧ W.cell? ⟨w.heap.size + 1 + 1, 2, none⟩ = some (.int .i64 0) ∧ W.cell? ⟨w.heap.size + 1 + 1, 3, none⟩ = some (.bool false) ∧ W.cell? ⟨w.heap.size + 1 + 1, 4, none⟩ = some (.int .i64 0) ∧ (∀ i, W.frozen? ⟨w.heap.size, i, none⟩ = false) ∧ ∀ i, W.frozen? ⟨w.heap.size + 1 + 1, i, none⟩ = false :=
  ⟨(cell_of_row W _ 0 _ _ _ h.box).trans rfl, (cell_of_row W _ 1 _ _ _ h.box).trans rfl, (cell_of_row W _ 2 _ _ _ h.box).trans rfl, (cell_of_row W _ 3 _ _ _ h.box).trans rfl, (cell_of_row W _ 4 _ _ _ h.box).trans rfl, (cell_of_row W _ 0 _ _ _ h.res).trans rfl, (cell_of_row W _ 1 _ _ _ h.res).trans rfl, (cell_of_row W _ 2 _ _ _ h.res).trans rfl, (cell_of_row W _ 3 _ _ _ h.res).trans rfl, (cell_of_row W _ 4 _ _ _ h.res).trans rfl, fun i => frozen_of_row W _ i _ _ h.box, fun i => frozen_of_row W _ i _ _ h.res⟩
/-- the call's cells -/
abbrev ActS (w : World) (k p n : Int) (t : ByteArray) (raw : Bool) (kA : Option Addr) (kl kc : Nat) (W : World) : Prop :=
  W.cell? ⟨w.heap.size + 1, 0, none⟩ = some (.int .i64 k) ∧ W.cell? ⟨w.heap.size + 1, 1, none⟩ = some (.int .i64 p) ∧ W.cell? ⟨w.heap.size + 1, 2, none⟩ = some (.int .i64 n) ∧ W.cell? ⟨w.heap.size + 1, 3, none⟩ = some (.string t) ∧ W.cell? ⟨w.heap.size + 1, 4, none⟩ = some (.bool raw) ∧ W.cell? ⟨w.heap.size + 1, 5, none⟩ = some (.slice kA kl kc)
theorem Dz.acts {w W : World} {b0 b1 b2 b3 b4 : Value} {k p n : Int} {t : ByteArray} {raw : Bool} {kA : Option Addr} {kl kc : Nat} (h : Dz w b0 b1 b2 b3 b4 [.int .i64 k, .int .i64 p, .int .i64 n, .string t, .bool raw, .slice kA kl kc] W) : ActS w k p n t raw kA kl kc W :=
  ⟨(cell_of_row W _ 0 _ _ _ h.act).trans rfl, (cell_of_row W _ 1 _ _ _ h.act).trans rfl, (cell_of_row W _ 2 _ _ _ h.act).trans rfl, (cell_of_row W _ 3 _ _ _ h.act).trans rfl, (cell_of_row W _ 4 _ _ _ h.act).trans rfl, (cell_of_row W _ 5 _ _ _ h.act).trans rfl⟩
theorem fin_aux {u0 u1 u2 u3 u4 b0 b1 b2 b3 b4 : Value} (t1 t2 : TypeId) (n m : Nat) (X : World) (hc : X.heap[m]? = some (.cells #[u0, u1, u2, u3, u4] t1 (0, 0))) (hb : X.heap[n]? = some (.cells #[b0, b1, b2, b3, b4] t2 (0, 0))) :
    (X.drew.cell? ⟨m, 0, none⟩ = some u0 ∧ X.drew.cell? ⟨m, 1, none⟩ = some u1 ∧ X.drew.cell? ⟨m, 2, none⟩ = some u2 ∧ X.drew.cell? ⟨m, 3, none⟩ = some u3 ∧ X.drew.cell? ⟨m, 4, none⟩ = some u4) ∧ X.drew.cell? ⟨n, 0, none⟩ = some b0 ∧ X.drew.cell? ⟨n, 1, none⟩ = some b1 ∧ X.drew.cell? ⟨n, 2, none⟩ = some b2 ∧ X.drew.cell? ⟨n, 3, none⟩ = some b3 ∧ X.drew.cell? ⟨n, 4, none⟩ = some b4 := by
  have hc' : X.drew.heap[m]? = some (.cells #[u0, u1, u2, u3, u4] t1 (0, 0)) := hc
  have hb' : X.drew.heap[n]? = some (.cells #[b0, b1, b2, b3, b4] t2 (0, 0)) := hb
  exact ⟨⟨(cell_of_row _ _ 0 _ _ _ hc').trans rfl, (cell_of_row _ _ 1 _ _ _ hc').trans rfl, (cell_of_row _ _ 2 _ _ _ hc').trans rfl, (cell_of_row _ _ 3 _ _ _ hc').trans rfl, (cell_of_row _ _ 4 _ _ _ hc').trans rfl⟩, (cell_of_row _ _ 0 _ _ _ hb').trans rfl, (cell_of_row _ _ 1 _ _ _ hb').trans rfl, (cell_of_row _ _ 2 _ _ _ hb').trans rfl, (cell_of_row _ _ 3 _ _ _ hb').trans rfl, (cell_of_row _ _ 4 _ _ _ hb').trans rfl⟩
theorem both_drew {F Q G : Nat → Prop} {b : Nat} {d : Dk} {A A' : Option Addr} {w X : World} (h : Both F Q b d A A' X ∧ Kp G w X) : Both F Q b d A A' X.drew ∧ Kp G w X.drew :=
  ⟨⟨h.1.disk.later (Below.refl _ _).drew, h.1.rows.later (Below.refl _ _).drew, h.1.sub, h.1.shown, h.1.top⟩, h.2.drew⟩
/-- the result is laid -/
theorem Dz.fin {w W : World} {b0 b1 b2 b3 b4 : Value} {ac : List Value} (h : Dz w b0 b1 b2 b3 b4 ac W) (u0 u1 u2 u3 u4 : Value) :
    (((((((W.setCell ⟨w.heap.size + 1 + 1, 0, none⟩ u0).setCell ⟨w.heap.size + 1 + 1, 1, none⟩ u1).setCell ⟨w.heap.size + 1 + 1, 2, none⟩ u2).setCell ⟨w.heap.size + 1 + 1, 3, none⟩ u3).setCell ⟨w.heap.size + 1 + 1, 4, none⟩ u4)).drew.cell? ⟨w.heap.size + 1 + 1, 0, none⟩ = some u0 ∧ ((((((W.setCell ⟨w.heap.size + 1 + 1, 0, none⟩ u0).setCell ⟨w.heap.size + 1 + 1, 1, none⟩ u1).setCell ⟨w.heap.size + 1 + 1, 2, none⟩ u2).setCell ⟨w.heap.size + 1 + 1, 3, none⟩ u3).setCell ⟨w.heap.size + 1 + 1, 4, none⟩ u4)).drew.cell? ⟨w.heap.size + 1 + 1, 1, none⟩ = some u1 ∧ ((((((W.setCell ⟨w.heap.size + 1 + 1, 0, none⟩ u0).setCell ⟨w.heap.size + 1 + 1, 1, none⟩ u1).setCell ⟨w.heap.size + 1 + 1, 2, none⟩ u2).setCell ⟨w.heap.size + 1 + 1, 3, none⟩ u3).setCell ⟨w.heap.size + 1 + 1, 4, none⟩ u4)).drew.cell? ⟨w.heap.size + 1 + 1, 2, none⟩ = some u2 ∧ ((((((W.setCell ⟨w.heap.size + 1 + 1, 0, none⟩ u0).setCell ⟨w.heap.size + 1 + 1, 1, none⟩ u1).setCell ⟨w.heap.size + 1 + 1, 2, none⟩ u2).setCell ⟨w.heap.size + 1 + 1, 3, none⟩ u3).setCell ⟨w.heap.size + 1 + 1, 4, none⟩ u4)).drew.cell? ⟨w.heap.size + 1 + 1, 3, none⟩ = some u3 ∧ ((((((W.setCell ⟨w.heap.size + 1 + 1, 0, none⟩ u0).setCell ⟨w.heap.size + 1 + 1, 1, none⟩ u1).setCell ⟨w.heap.size + 1 + 1, 2, none⟩ u2).setCell ⟨w.heap.size + 1 + 1, 3, none⟩ u3).setCell ⟨w.heap.size + 1 + 1, 4, none⟩ u4)).drew.cell? ⟨w.heap.size + 1 + 1, 4, none⟩ = some u4) ∧ ((((((W.setCell ⟨w.heap.size + 1 + 1, 0, none⟩ u0).setCell ⟨w.heap.size + 1 + 1, 1, none⟩ u1).setCell ⟨w.heap.size + 1 + 1, 2, none⟩ u2).setCell ⟨w.heap.size + 1 + 1, 3, none⟩ u3).setCell ⟨w.heap.size + 1 + 1, 4, none⟩ u4)).drew.cell? ⟨w.heap.size, 0, none⟩ = some b0 ∧ ((((((W.setCell ⟨w.heap.size + 1 + 1, 0, none⟩ u0).setCell ⟨w.heap.size + 1 + 1, 1, none⟩ u1).setCell ⟨w.heap.size + 1 + 1, 2, none⟩ u2).setCell ⟨w.heap.size + 1 + 1, 3, none⟩ u3).setCell ⟨w.heap.size + 1 + 1, 4, none⟩ u4)).drew.cell? ⟨w.heap.size, 1, none⟩ = some b1 ∧ ((((((W.setCell ⟨w.heap.size + 1 + 1, 0, none⟩ u0).setCell ⟨w.heap.size + 1 + 1, 1, none⟩ u1).setCell ⟨w.heap.size + 1 + 1, 2, none⟩ u2).setCell ⟨w.heap.size + 1 + 1, 3, none⟩ u3).setCell ⟨w.heap.size + 1 + 1, 4, none⟩ u4)).drew.cell? ⟨w.heap.size, 2, none⟩ = some b2 ∧ ((((((W.setCell ⟨w.heap.size + 1 + 1, 0, none⟩ u0).setCell ⟨w.heap.size + 1 + 1, 1, none⟩ u1).setCell ⟨w.heap.size + 1 + 1, 2, none⟩ u2).setCell ⟨w.heap.size + 1 + 1, 3, none⟩ u3).setCell ⟨w.heap.size + 1 + 1, 4, none⟩ u4)).drew.cell? ⟨w.heap.size, 3, none⟩ = some b3 ∧ ((((((W.setCell ⟨w.heap.size + 1 + 1, 0, none⟩ u0).setCell ⟨w.heap.size + 1 + 1, 1, none⟩ u1).setCell ⟨w.heap.size + 1 + 1, 2, none⟩ u2).setCell ⟨w.heap.size + 1 + 1, 3, none⟩ u3).setCell ⟨w.heap.size + 1 + 1, 4, none⟩ u4)).drew.cell? ⟨w.heap.size, 4, none⟩ = some b4 := by
  have hb : (((((W.setCell ⟨w.heap.size + 1 + 1, 0, none⟩ u0).setCell ⟨w.heap.size + 1 + 1, 1, none⟩ u1).setCell ⟨w.heap.size + 1 + 1, 2, none⟩ u2).setCell ⟨w.heap.size + 1 + 1, 3, none⟩ u3).setCell ⟨w.heap.size + 1 + 1, 4, none⟩ u4).heap[w.heap.size]? = some (.cells #[b0, b1, b2, b3, b4] 35 (0, 0)) := by
    rw [Below.heap_setCell _ _ _ _ (by simp; omega), Below.heap_setCell _ _ _ _ (by simp; omega), Below.heap_setCell _ _ _ _ (by simp; omega), Below.heap_setCell _ _ _ _ (by simp; omega), Below.heap_setCell _ _ _ _ (by simp; omega)]; exact h.box
  have hc := Joins.block_setCell (i := 4) (Joins.block_setCell (i := 3) (Joins.block_setCell (i := 2) (Joins.block_setCell (i := 1) (Joins.block_setCell (i := 0) h.res u0) u1) u2) u3) u4
  exact fin_aux _ _ _ _ _ hc hb
/-- the blocks of rows while does runs -/
def Qd (F : Nat → Prop) (n : Nat) : Nat → Prop := fun k => F k ∨ n + 3 ≤ k
theorem Qd.off {F : Nat → Prop} {n k : Nat} (h : Top F n) (h1 : n ≤ k) (h2 : k < n + 3) : ¬ Qd F n k := fun q => by
  rcases q with q | q
  · have := h k q; omega
  · omega
/-- its rows' blocks, below m -/
def Pl3 (F : Nat → Prop) (n m : Nat) : Nat → Prop := fun k => F k ∨ (n + 3 ≤ k ∧ k < m)
theorem does_mid {F Q : Nat → Prop} {d' : Dk} {A1 A2 : Option Addr} {n : Nat} {w9 w10 : World} (hs : ∀ k, Q k → F k) (hR : RQ (Qd Q n) w9 A1 A2 d') (k : Kp (Plus F n w9.heap.size) w9 w10) : RQ (Pl3 Q n w9.heap.size) w10 A1 A2 d' :=
  (hR.sub (Q' := Pl3 Q n w9.heap.size) (fun g hg hl => by
    rcases hg with q | q
    · exact .inl q
    · exact .inr ⟨q, hl⟩)).kp k (fun g hg hl => by
    rcases hg with q | q
    · exact .inl (hs g q)
    · exact .inr ⟨by omega, hl⟩)
theorem does_end {F Q : Nat → Prop} {b m : Nat} {d' : Dk} {A1 A2 : Option Addr} {w W : World} (hT : Top F w.heap.size) (hs : ∀ k, Q k → F k) (hm : w.heap.size + 3 ≤ m) (hmW : m ≤ W.heap.size) (hk : Kp F w W) (hD : DiskAt (Plus F w.heap.size m) b d' W) (hR : RQ (Pl3 Q w.heap.size m) W A1 A2 d') (hH : d'.H = shows d'.S d'.C) (u0 u1 u2 u3 u4 : Value) :
    Both (Plus F w.heap.size m) (Pl3 Q w.heap.size m) b d' A1 A2 ((((((W.setCell ⟨w.heap.size + 1 + 1, 0, none⟩ u0).setCell ⟨w.heap.size + 1 + 1, 1, none⟩ u1).setCell ⟨w.heap.size + 1 + 1, 2, none⟩ u2).setCell ⟨w.heap.size + 1 + 1, 3, none⟩ u3).setCell ⟨w.heap.size + 1 + 1, 4, none⟩ u4)).drew ∧ Kp F w ((((((W.setCell ⟨w.heap.size + 1 + 1, 0, none⟩ u0).setCell ⟨w.heap.size + 1 + 1, 1, none⟩ u1).setCell ⟨w.heap.size + 1 + 1, 2, none⟩ u2).setCell ⟨w.heap.size + 1 + 1, 3, none⟩ u3).setCell ⟨w.heap.size + 1 + 1, 4, none⟩ u4)).drew := by
  refine both_drew ?_
  have hp : Plus F w.heap.size m (w.heap.size + 2) := .inr ⟨by omega, by omega⟩
  have hq : ¬ Pl3 Q w.heap.size m (w.heap.size + 2) := fun q => by
    rcases q with q | q
    · have := hT _ (hs _ q); omega
    · omega
  have hn : Nf F (w.heap.size + 2) := hT.nf (by omega)
  refine ⟨⟨((((hD.set _ _ hp).set _ _ hp).set _ _ hp).set _ _ hp).set _ _ hp, ((((hR.set _ _ hq).set _ _ hq).set _ _ hq).set _ _ hq).set _ _ hq, fun k hk => ?_, hH, ?_⟩, ((((hk.setCell (p := ⟨w.heap.size + 2, 0, none⟩) hn _).setCell (p := ⟨w.heap.size + 2, 1, none⟩) hn _).setCell (p := ⟨w.heap.size + 2, 2, none⟩) hn _).setCell (p := ⟨w.heap.size + 2, 3, none⟩) hn _).setCell (p := ⟨w.heap.size + 2, 4, none⟩) hn _⟩
  · rcases hk with q | q
    · exact .inl (hs k q)
    · exact .inr ⟨by omega, q.2⟩
  · have := Plus.top hT (show w.heap.size ≤ m by omega)
    exact this.trans (by simpa [World.setCell] using hmW)
end Go.Proofs.Ytmehehiobcpeoaa.Disk
