/-
  Blocks made since are foreign; a read makes no block.
-/
import Derived.Test.YtfbakelpplpomaaGreatDoorWalkDiskK
namespace Go.Proofs.YtfbakelpplpomaaGreatDoor.Disk
open Go.RowKit Go.Proofs.YtfbakelpplpomaaGreatDoor.DiskRows
set_option linter.unusedVariables false
set_option linter.unusedSimpArgs false
set_option maxRecDepth 100000

/-- these blocks, and those that were made since -/
def Plus (F : Nat → Prop) (n m : Nat) : Nat → Prop := fun k => F k ∨ (n ≤ k ∧ k < m)
theorem DiskAt.grow {F : Nat → Prop} {b : Nat} {d : Dk} {w w' : World} (h : DiskAt F b d w) (k : Below w.heap.size w w') : DiskAt (Plus F w.heap.size w'.heap.size) b d w' := by
  obtain ⟨gS, cS, gH, cH, vC, h⟩ := h
  have hn : ∀ j, Nf F j → j < w.heap.size → Nf (Plus F w.heap.size w'.heap.size) j := fun j hj hl q => by
    rcases q with q | q
    · exact hj q
    · omega
  have hl := h.later k
  exact ⟨gS, cS, gH, cH, vC, { hl with sep := ⟨hn _ h.sep.1 h.lt, hn _ h.sep.2.1 h.rowS.lt, hn _ h.sep.2.2.1 h.rowH.lt, h.sep.2.2.2⟩, nfC := fun j hj => hn _ (h.nfC j hj) (h.rowC.lt j hj).2 }⟩
theorem Plus.top {F : Nat → Prop} {n m : Nat} (h : Top F n) (k : n ≤ m) : Top (Plus F n m) m := fun j hj => by
  rcases hj with q | q
  · have := h j q; omega
  · exact q.2
theorem DiskAt.on {F : Nat → Prop} {n B b : Nat} {d : Dk} {w w' : World} (h : DiskAt (Plus F n w.heap.size) b d w) (k : Below B w w') (hB : n ≤ B) : DiskAt (Plus F n w'.heap.size) b d w' := by
  obtain ⟨gS, cS, gH, cH, vC, h⟩ := h
  have hlt : ∀ j, Nf (Plus F n w.heap.size) j → j < w.heap.size → j < n := fun j hj hl => by
    rcases Nat.lt_or_ge j n with q | q
    · exact q
    · exact absurd (.inr ⟨q, hl⟩) hj
  have hn : ∀ j, Nf (Plus F n w.heap.size) j → j < w.heap.size → Nf (Plus F n w'.heap.size) j := fun j hj hl q => by
    rcases q with q | q
    · exact hj (.inl q)
    · have := hlt j hj hl
      omega
  have hS := hlt _ h.sep.2.1 h.rowS.lt
  have hH := hlt _ h.sep.2.2.1 h.rowH.lt
  have hb := hlt _ h.sep.1 h.lt
  exact ⟨gS, cS, gH, cH, vC, { h with heap := by rw [k.block b (by omega)]; exact h.heap, rowS := h.rowS.below k (by omega), rowH := h.rowH.below k (by omega), rowC := own_below h.rowC k (fun g hg => by have := hlt g (h.nfC g hg) (h.rowC.lt g hg).2; omega), sep := ⟨hn _ h.sep.1 h.lt, hn _ h.sep.2.1 h.rowS.lt, hn _ h.sep.2.2.1 h.rowH.lt, h.sep.2.2.2⟩, nfC := fun j hj => hn _ (h.nfC j hj) (h.rowC.lt j hj).2 }⟩
theorem DiskAt.sub {F G : Nat → Prop} {b : Nat} {d : Dk} {w : World} (h : DiskAt F b d w) (hs : ∀ k, G k → F k) : DiskAt G b d w := by
  obtain ⟨gS, cS, gH, cH, vC, h⟩ := h
  have hn : ∀ j, Nf F j → Nf G j := fun j hj q => hj (hs j q)
  exact ⟨gS, cS, gH, cH, vC, { h with sep := ⟨hn _ h.sep.1, hn _ h.sep.2.1, hn _ h.sep.2.2.1, h.sep.2.2.2⟩, nfC := fun j hj => hn _ (h.nfC j hj) }⟩
theorem DiskAt.put {F : Nat → Prop} {b : Nat} {d : Dk} {w : World} (h : DiskAt F b d w) (p : Addr) (u : Value) (hp : F p.block) : DiskAt F b d (w.setCell p u) := by
  obtain ⟨gS, cS, gH, cH, vC, h⟩ := h
  have hn : ∀ k, Nf F k → k ≠ p.block := fun k hk e => hk (e ▸ hp)
  exact ⟨gS, cS, gH, cH, vC, { h with heap := by rw [Below.heap_setCell _ _ _ _ (hn _ h.sep.1)]; exact h.heap, rowS := h.rowS.other _ _ (hn _ h.sep.2.1), rowH := h.rowH.other _ _ (hn _ h.sep.2.2.1), rowC := own_other h.rowC _ _ (fun k hk => hn _ (h.nfC k hk)) }⟩
theorem Kp.bel0 {F : Nat → Prop} {w0 w w' : World} (h : Kp F w w') (b : Below w0.heap.size w0 w) (hF : ∀ k, k < w0.heap.size → F k) : Below w0.heap.size w0 w' :=
  b.trans ⟨h.os, h.tape, h.output, h.size, fun k hk => h.block k (Nat.lt_of_lt_of_le hk b.size) (hF k hk)⟩
theorem own_kp {w w' : World} {G : Nat → Prop} {base e size n : Nat} {v : Value} {xs : List Value} (h : w.ownsRow base e size v n xs) (k : Kp G w w') (hG : ∀ j, base ≤ j → j < w.heap.size → G j) : w'.ownsRow base e size v n xs := by
  refine ⟨h.1, ?_⟩
  rcases h.2 with h | ⟨g, cap, cur, rfl, hb, hg, hn, hm, hs, ht⟩
  · exact .inl h
  · have hgl : g < w.heap.size := (Array.getElem?_eq_some_iff.1 hg).1
    exact .inr ⟨g, cap, cur, rfl, hb, by rw [k.block g hgl (hG g hb hgl)]; exact hg, hn, hm, hs, ht⟩
/-- what a sector shows; no block is made -/
theorem read_sz (base : Nat → Prop) (b : Nat) (d : Dk) (w : World) (h : DiskAt base b d w) (hd : d.down = false) (i : Nat) (hi : i < d.S.length) (ho : d.ops < 1000000000000) (s : ByteArray) (hs : d.H.getD i ByteArray.empty = s) :
    Calls Tryz.prog 33 #[.pointer (some ⟨b, 0, none⟩), .int .i64 i] w fun x w' => x = .returned (.tuple #[.string s, .int .i64 0]) ∧ DiskAt base b { d with ops := d.ops + 1 } w' ∧ Kp base w w' ∧ w'.heap.size = w.heap.size := by
  obtain ⟨gS, cS, gH, cH, vC, h⟩ := h
  have h5 : w.cell? ⟨b, 5, none⟩ = some (.int .i64 (d.ops : Nat)) := by rw [cell_of_row w b 5 _ _ _ h.heap]; rfl
  have h2 : w.cell? ⟨b, 2, none⟩ = some (.slice (some ⟨gH, 0, none⟩) d.S.length cH) := by rw [cell_of_row w b 2 _ _ _ h.heap]; rfl
  have f5 := frozen_of_row w b 5 _ _ h.heap
  have hc := h.rowH.cell (by rw [h.len]; exact hi : i < d.H.length)
  have hgb : gH ≠ b := h.sep.2.2.2.2.1
  have hr := ready_ok base b gS cS gH cH vC d w h 0 (by rw [hd]; rfl)
  have hw := within_any base b gS cS gH cH vC d w h i
  rw [decide_eq_true (And.intro (Int.natCast_nonneg i) (by omega : (i : Int) < (d.S.length : Int)))] at hw
  have hb : (d.ops : Int) < 1000000000000 := by omega
  have hli : (i : Int) < (d.S.length : Int) := by omega
  have hn := h.setOps (d.ops + 1) ho
  have hsb := below_set1 (w := w) h.sep.1 5 (.int .i64 ((d.ops + 1 : Nat) : Int))
  have HN := Lib.hid (And.intro hn hsb)
  have HR := Lib.hid hr
  have HW := Lib.hid hw
  rw [hs] at hc
  clear h hn hsb hr hw hd hs
  go_enter Tryz.func33, Tryz.ntmps33
  go_wp2_with fail
  refine HR.out.mono ?_
  rintro e w1 ⟨rfl, rfl⟩
  go_wp2_with fail
  refine HW.out.mono ?_
  rintro e w1 ⟨rfl, rfl⟩
  go_wp2
  go_ret2
  exact ⟨rfl, ⟨gS, cS, gH, cH, vC, HN.out.1⟩, HN.out.2, by simp [World.setCell]⟩
/-- how many blocks the disk's own blocks are below: with none made since -/
theorem Kp.drewN {F : Nat → Prop} {a w : World} (h : Kp F a w) (n : Nat) : Kp F a (w.drewN n) := ⟨h.os, h.tape, h.output, h.size, h.block⟩
end Go.Proofs.YtfbakelpplpomaaGreatDoor.Disk
