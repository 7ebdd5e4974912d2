/-
  The walk of the log's Open, whatever the tail.
-/
import Derived.Test.YtgdedimoblpgbaaBuilder
namespace Go.Proofs.Ytgdedimoblpgbaa.Disk
open Go.RowKit Go.Proofs.Ytgdedimoblpgbaa.DiskRows
set_option linter.unusedVariables false
set_option linter.unusedSimpArgs false
set_option maxRecDepth 100000

/-- what a sector shows; no block is made -/
theorem read_sz (base : Nat → Prop) (b : Nat) (d : Dk) (w : World) (h : DiskAt base b d w) (hd : d.down = false) (i : Nat) (hi : i < d.S.length) (ho : d.ops < 1000000000000) (s : ByteArray) (hs : d.H.getD i ByteArray.empty = s) :
    Calls Try.prog 23 #[.pointer (some ⟨b, 0, none⟩), .int .i64 i] w fun x w' => x = .returned (.tuple #[.string s, .int .i64 0]) ∧ DiskAt base b { d with ops := d.ops + 1 } w' ∧ Kp base w w' ∧ w'.heap.size = w.heap.size := by
  obtain ⟨gS, cS, gH, cH, vC, h⟩ := h
  have h5 : w.cell? ⟨b, 5, none⟩ = some (.int .i64 (d.ops : Nat)) := by rw [cell_of_row w b 5 _ _ _ h.heap]; rfl
  have h2 : w.cell? ⟨b, 2, none⟩ = some (.slice (some ⟨gH, 0, none⟩) d.S.length cH) := by rw [cell_of_row w b 2 _ _ _ h.heap]; rfl
  have f5 := frozen_of_row w b 5 _ _ h.heap
  have hc := h.rowH.cell (by rw [h.len]; exact hi : i < d.H.length)
  have hgb : gH ≠ b := h.sep.2.2.2.2.1
  have hr := ready_ok base b gS cS gH cH vC d w h 0 (by rw [hd]; rfl)
  have hw := within_any base b gS cS gH cH vC d w h i
  rw [decide_eq_true (And.intro (Int.natCast_nonneg i) (by omega : (i : Int) < (d.S.length : Int)))] at hw
  have hb : (d.ops : Int) < 1000000000000 := by omega
  have hli : (i : Int) < (d.S.length : Int) := by omega
  have hn := h.setOps (d.ops + 1) ho
  have hsb := below_set1 (w := w) h.sep.1 5 (.int .i64 ((d.ops + 1 : Nat) : Int))
  have HN := Lib.hid (And.intro hn hsb)
  have HR := Lib.hid hr
  have HW := Lib.hid hw
  rw [hs] at hc
  clear h hn hsb hr hw hd hs
  go_enter Try.func23, Try.ntmps23
  go_wp2_with fail
  refine HR.out.mono ?_
  rintro e w1 ⟨rfl, rfl⟩
  go_wp2_with fail
  refine HW.out.mono ?_
  rintro e w1 ⟨rfl, rfl⟩
  go_wp2
  go_ret2
  exact ⟨rfl, ⟨gS, cS, gH, cH, vC, HN.out.1⟩, HN.out.2, by simp [World.setCell]⟩
/-- blocks made since are foreign; what is written among them leaves the disk -/
theorem DiskAt.on {F : Nat → Prop} {n B b : Nat} {d : Dk} {w w' : World} (h : DiskAt (Plus F n w.heap.size) b d w) (k : Below B w w') (hB : n ≤ B) : DiskAt (Plus F n w'.heap.size) b d w' := by
  obtain ⟨gS, cS, gH, cH, vC, h⟩ := h
  have hlt : ∀ j, Nf (Plus F n w.heap.size) j → j < w.heap.size → j < n := fun j hj hl => by
    rcases Nat.lt_or_ge j n with q | q
    · exact q
    · exact absurd (.inr ⟨q, hl⟩) hj
  have hn : ∀ j, Nf (Plus F n w.heap.size) j → j < w.heap.size → Nf (Plus F n w'.heap.size) j := fun j hj hl q => by
    rcases q with q | q
    · exact hj (.inl q)
    · have := hlt j hj hl
      omega
  have hS := hlt _ h.sep.2.1 h.rowS.lt
  have hH := hlt _ h.sep.2.2.1 h.rowH.lt
  have hb := hlt _ h.sep.1 h.lt
  exact ⟨gS, cS, gH, cH, vC, { h with heap := by rw [k.block b (by omega)]; exact h.heap, rowS := h.rowS.below k (by omega), rowH := h.rowH.below k (by omega), rowC := own_below h.rowC k (fun g hg => by have := hlt g (h.nfC g hg) (h.rowC.lt g hg).2; omega), sep := ⟨hn _ h.sep.1 h.lt, hn _ h.sep.2.1 h.rowS.lt, hn _ h.sep.2.2.1 h.rowH.lt, h.sep.2.2.2⟩, nfC := fun j hj => hn _ (h.nfC j hj) (h.rowC.lt j hj).2 }⟩
theorem DiskAt.sub {F G : Nat → Prop} {b : Nat} {d : Dk} {w : World} (h : DiskAt F b d w) (hs : ∀ k, G k → F k) : DiskAt G b d w := by
  obtain ⟨gS, cS, gH, cH, vC, h⟩ := h
  have hn : ∀ j, Nf F j → Nf G j := fun j hj q => hj (hs j q)
  exact ⟨gS, cS, gH, cH, vC, { h with sep := ⟨hn _ h.sep.1, hn _ h.sep.2.1, hn _ h.sep.2.2.1, h.sep.2.2.2⟩, nfC := fun j hj => hn _ (h.nfC j hj) }⟩
theorem builder_kp {T e : TypeId} {G : Nat → Prop} {B b : Nat} {l : List Value} {w w' : World} (h : Lib.IsBuilderF T e B b l w) (k : Kp G w w') (hG : ∀ j, B ≤ j → j < w.heap.size → G j) : Lib.IsBuilderF T e B b l w' := by
  have one : ∀ p, Lib.BuilderAtF T e B b p l w → Lib.BuilderAtF T e B b p l w' := by
    rintro p ⟨hB, v, hb, hown, hne⟩
    have hlt : b < w.heap.size := (Array.getElem?_eq_some_iff.1 hb).1
    refine ⟨hB, v, by rw [k.block b hlt (hG b hB hlt)]; exact hb, ⟨hown.1, ?_⟩, hne⟩
    rcases hown.2 with q | ⟨g, cap, cur, fz, hv, hg, hh, q⟩
    · exact .inl q
    · have hgl : g < w.heap.size := (Array.getElem?_eq_some_iff.1 hh).1
      exact .inr ⟨g, cap, cur, fz, hv, hg, by rw [k.block g hgl (hG g hg hgl)]; exact hh, q⟩
  rcases h with h | h
  · exact .inl (one _ h)
  · exact .inr (one _ h)
/-- the builder's bytes -/
def cellsOf (s : ByteArray) : List Value := Lib.byteCells s.data.toList
theorem cellsOf_append (a s : ByteArray) : cellsOf a ++ Lib.strCells s = cellsOf (a ++ s) := by
  unfold cellsOf
  rw [Lib.strCells_eq, ← Lib.byteCells_append, ByteArray.data_append, Array.toList_append]
theorem cellsOf_length (a : ByteArray) : (cellsOf a).length = a.size := by
  unfold cellsOf
  rw [Lib.byteCells_length, Array.length_toList]
  rfl
/-- a builder, written -/
theorem bwrite_any (B b : Nat) (t s u : ByteArray) (w : World) (h : Lib.IsBuilderF 52 5 B b (cellsOf t) w) (hl : t.size + s.size ≤ 140737488355328) (hB : B ≤ w.heap.size) (hu : t ++ s = u) :
    Calls Try.prog 24 #[.pointer (some ⟨b, 0, none⟩), .string s] w fun e w' => e = .returned (.tuple #[.int .i64 s.size, .nilIface]) ∧ Lib.IsBuilderF 52 5 B b (cellsOf u) w' ∧ Below B w w' := by
  subst hu
  refine (bwrite_ok B b (cellsOf t) s w h (by rw [cellsOf_length]; exact hl) hB).mono ?_
  rintro e w' ⟨rfl, h1, h2⟩
  rw [cellsOf_append] at h1
  exact ⟨rfl, .inr h1, h2⟩
theorem bstring_any (B b : Nat) (t : ByteArray) (w : World) (h : Lib.IsBuilderF 52 5 B b (cellsOf t) w) (hB : B ≤ w.heap.size) :
    Calls Try.prog 25 #[.pointer (some ⟨b, 0, none⟩)] w fun e w' => e = .returned (.string t) ∧ Below B w w' := by
  refine (Try.Builder_String_any_f B b t.data.toList w h hB).mono ?_
  rintro e w' ⟨rfl, h1, h2⟩
  exact ⟨rfl, h2⟩
end Go.Proofs.Ytgdedimoblpgbaa.Disk
