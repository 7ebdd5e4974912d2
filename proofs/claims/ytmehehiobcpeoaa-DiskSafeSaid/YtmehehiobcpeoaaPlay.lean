/-
  A play: a disk and the document's one, call by call.
-/
import Derived.Test.YtmehehiobcpeoaaDoesZ
namespace Go.Proofs.Ytmehehiobcpeoaa.Disk
open Go.RowKit Go.Proofs.Ytmehehiobcpeoaa.DiskRows
set_option linter.unusedVariables false
set_option linter.unusedSimpArgs false
set_option maxRecDepth 100000

theorem Nums.keep {w w' : World} {A : Option Addr} {l : List Int} (h : Nums w A l) (k : Below w.heap.size w w') : Nums w' A l := h.later k
theorem AcOk.later {w w' : World} {a : Ac} (h : AcOk w a) (k : Below w.heap.size w w') : AcOk w' a := by
  obtain ⟨K, h1, h2, h3⟩ := h.keep
  exact ⟨h.text, h.kind, h.place, h.n, h.kl, K, h1, h2.later k, h3⟩
theorem Both.later {F Q : Nat → Prop} {b : Nat} {d : Dk} {A A' : Option Addr} {w w' : World} (h : Both F Q b d A A' w) (k : Below w.heap.size w w') : Both F Q b d A A' w' :=
  ⟨h.disk.later k, h.rows.later k, h.sub, h.shown, h.top.trans k.size⟩
/-- where a play stands: the document's disk lies in block gr; the blocks P stay -/
structure PlaySt (P : Nat → Prop) (w0 : World) (b gr m k : Nat) (A1 A2 : Option Addr) (c1 c2 : Nat) (d : Dk) (wr : World) : Prop where
  ex : ∃ F Q, Both F Q b d A1 A2 wr ∧ F gr ∧ ¬ Q gr ∧ ∀ j, P j → F j
  ops : d.ops ≤ k
  few : d.C.length ≤ m + k
  box : wr.heap[gr]? = some (.cells #[.slice A1 d.S.length c1, .slice A2 d.C.length c2, .int .i64 (d.armed : Nat), .bool d.down, .int .i64 (d.ops : Nat)] 35 (0, 0))
  kp : Kp P w0 wr
theorem PlaySt.later {P : Nat → Prop} {w0 : World} {b gr m k : Nat} {A1 A2 : Option Addr} {c1 c2 : Nat} {d : Dk} {wr w' : World} (h : PlaySt P w0 b gr m k A1 A2 c1 c2 d wr) (q : Below wr.heap.size wr w') : PlaySt P w0 b gr m k A1 A2 c1 c2 d w' := by
  obtain ⟨F, Q, h1, h2⟩ := h.ex
  exact ⟨⟨F, Q, h1.later q, h2⟩, h.ops, h.few, by rw [q.block _ (Array.getElem?_eq_some_iff.1 h.box).1]; exact h.box, h.kp.trans q.kp⟩
theorem PlaySt.cells {P : Nat → Prop} {w0 : World} {b gr m k : Nat} {A1 A2 : Option Addr} {c1 c2 : Nat} {d : Dk} {wr : World} (h : PlaySt P w0 b gr m k A1 A2 c1 c2 d wr) :
    wr.cell? ⟨gr, 0, none⟩ = some (.slice A1 d.S.length c1) ∧ wr.cell? ⟨gr, 1, none⟩ = some (.slice A2 d.C.length c2) ∧ wr.cell? ⟨gr, 2, none⟩ = some (.int .i64 (d.armed : Nat)) ∧ wr.cell? ⟨gr, 3, none⟩ = some (.bool d.down) ∧ wr.cell? ⟨gr, 4, none⟩ = some (.int .i64 (d.ops : Nat)) :=
  ⟨(cell_of_row wr _ 0 _ _ _ h.box).trans rfl, (cell_of_row wr _ 1 _ _ _ h.box).trans rfl, (cell_of_row wr _ 2 _ _ _ h.box).trans rfl, (cell_of_row wr _ 3 _ _ _ h.box).trans rfl, (cell_of_row wr _ 4 _ _ _ h.box).trans rfl⟩
theorem does_play {P : Nat → Prop} {w0 : World} {b gr m k : Nat} {A1 A2 : Option Addr} {c1 c2 : Nat} {d : Dk} {wr : World} (h : PlaySt P w0 b gr m k A1 A2 c1 c2 d wr) (hgr : w0.heap.size ≤ gr) (hk : k ≤ 1000) (hm : m ≤ 1000) (a : Ac) (ha : AcOk wr a) :
    Calls Try.prog 12 #[.pointer (some ⟨b, 0, none⟩), .agg #[.slice A1 d.S.length c1, .slice A2 d.C.length c2, .int .i64 (d.armed : Nat), .bool d.down, .int .i64 (d.ops : Nat)], .agg a.cells.toArray] wr fun x w' =>
      ∃ A3 c3 A4 c4 d', x = .returned (.tuple #[.agg #[.slice A3 d'.S.length c3, .slice A4 d'.C.length c4, .int .i64 (d'.armed : Nat), .bool d'.down, .int .i64 (d'.ops : Nat)], .bool true]) ∧
        w'.heap[gr]? = some (.cells #[.slice A1 d.S.length c1, .slice A2 d.C.length c2, .int .i64 (d.armed : Nat), .bool d.down, .int .i64 (d.ops : Nat)] 35 (0, 0)) ∧ d'.S.length = d.S.length ∧
        PlaySt P w0 b gr m (k + 1) A3 A4 c3 c4 d' (((((w'.setCell ⟨gr, 0, none⟩ (.slice A3 d'.S.length c3)).setCell ⟨gr, 1, none⟩ (.slice A4 d'.C.length c4)).setCell ⟨gr, 2, none⟩ (.int .i64 (d'.armed : Nat))).setCell ⟨gr, 3, none⟩ (.bool d'.down)).setCell ⟨gr, 4, none⟩ (.int .i64 (d'.ops : Nat))) := by
  obtain ⟨F, Q, h1, hF, hQ, hPF⟩ := h.ex
  have hops := h.ops
  have hfew := h.few
  have hgl := (Array.getElem?_eq_some_iff.1 h.box).1
  refine (does_any F Q b d A1 A2 c1 c2 a wr h1 (by omega) (by omega) ha).mono ?_
  rintro x w' ⟨F', Q', d', A3, c3, A4, c4, rfl, ⟨hB, hK⟩, ⟨hF', hQ'⟩, hS, ho, hC⟩
  have hbox := (hK.block gr hgl hF).trans h.box
  have hq : ¬ Q' gr := fun q => by
    rcases hQ' gr q with q | q
    · exact hQ q
    · omega
  refine ⟨A3, c3, A4, c4, d', rfl, hbox, hS, ⟨⟨F', Q', ⟨((((hB.disk.set _ _ (hF' _ hF)).set _ _ (hF' _ hF)).set _ _ (hF' _ hF)).set _ _ (hF' _ hF)).set _ _ (hF' _ hF), ((((hB.rows.set _ _ hq).set _ _ hq).set _ _ hq).set _ _ hq).set _ _ hq, hB.sub, hB.shown, ?_⟩, hF' _ hF, hq, fun j hj => hF' j (hPF j hj)⟩, by omega, by omega, ?_, ?_⟩⟩
  · exact hB.top.trans (by simp [World.setCell])
  · rw [Joins.block_setCell (i := 4) (Joins.block_setCell (i := 3) (Joins.block_setCell (i := 2) (Joins.block_setCell (i := 1) (Joins.block_setCell (i := 0) hbox _) _) _) _) _]; rfl
  · have hk0 := h.kp.trans (hK.sub hPF)
    have hset : ∀ (X : World) (i : Nat) (u : Value), Kp P w0 X → Kp P w0 (X.setCell ⟨gr, i, none⟩ u) := fun X i u hX => ⟨hX.os, hX.tape, hX.output, by simpa [World.setCell] using hX.size, fun j hj hPj => (Below.heap_setCell _ _ _ _ (fun e => by have e' : j = gr := e; omega)).trans (hX.block j hj hPj)⟩
    exact hset _ _ _ (hset _ _ _ (hset _ _ _ (hset _ _ _ (hset _ _ _ hk0))))
theorem play_start {F Q P : Nat → Prop} {b m : Nat} {A1 A2 : Option Addr} {c1 c2 : Nat} {d : Dk} {w3 : World} (hD : DiskAt F b d w3) (hT : Top F w3.heap.size) (hR : RQ Q w3 A1 A2 d) (hQ : ∀ k, Q k → F k) (hP : ∀ k, P k → F k) (hH : d.H = shows d.S d.C) (ho : d.ops = 0) (hC : d.C.length ≤ m) :
    PlaySt P w3 b w3.heap.size m 0 A1 A2 c1 c2 d (w3.alloc (.cells #[.slice A1 d.S.length c1, .slice A2 d.C.length c2, .int .i64 (d.armed : Nat), .bool d.down, .int .i64 (d.ops : Nat)] 35)) := by
  have k := Joins.below_alloc1 w3 (.cells #[.slice A1 d.S.length c1, .slice A2 d.C.length c2, .int .i64 (d.armed : Nat), .bool d.down, .int .i64 (d.ops : Nat)] 35)
  have hs : (w3.alloc (.cells #[.slice A1 d.S.length c1, .slice A2 d.C.length c2, .int .i64 (d.armed : Nat), .bool d.down, .int .i64 (d.ops : Nat)] 35)).heap.size = w3.heap.size + 1 := by simp
  exact ⟨⟨_, Q, ⟨hD.grow k, hR.later k, fun j hj => .inl (hQ j hj), hH, Plus.top hT k.size⟩, .inr ⟨Nat.le_refl _, by omega⟩, fun q => by have := hT _ (hQ _ q); omega, fun j hj => .inl (hP j hj)⟩, by omega, by omega, heap_alloc_last _ _, k.kp⟩
end Go.Proofs.Ytmehehiobcpeoaa.Disk
