/-
  graph.Copy of one edge.
-/
import Derived.Test.YtpaegpbabfohcaaPathCopy
import Derived.Deep.DeepCutAuto
import Derived.Deep.CutBlock
import Derived.Deep.RegionWith
import Derived.Deep.RegionHeld3
import Derived.LoopN
namespace Go.Proofs.Ytpaegpbabfohcaa.Paths
open Go.RowKit Go.Proofs.Ytpaegpbabfohcaa.WalkBytes
set_option linter.unusedVariables false
set_option linter.unusedSimpArgs false
set_option maxRecDepth 100000

/-- an edge's id, and whence and whither -/
structure Tri where
  a : ByteArray
  b : ByteArray
  c : ByteArray
structure HdE (w : World) (g : Nat) (id : Tri) : Prop where
  a : w.cell? ⟨g, 0, none⟩ = some (.string id.a)
  b : w.cell? ⟨g, 1, none⟩ = some (.string id.b)
  c : w.cell? ⟨g, 2, none⟩ = some (.string id.c)
theorem HdE.kept {w w' : World} {g : Nat} {id : Tri} (h : HdE w g id) (e : w'.heap[g]? = w.heap[g]?) : HdE w' g id := ⟨(World.cell?_of_block (a := ⟨g, 0, none⟩) e).trans h.a, (World.cell?_of_block (a := ⟨g, 1, none⟩) e).trans h.b, (World.cell?_of_block (a := ⟨g, 2, none⟩) e).trans h.c⟩
theorem HdE.put {w : World} {g : Nat} {id : Tri} (h : HdE w g id) (u v : Value) : HdE ((w.setCell ⟨g, 3, none⟩ u).setCell ⟨g, 4, none⟩ v) g id :=
  ⟨(World.cell?_setCell_other _ ⟨g, 4, none⟩ ⟨g, 0, none⟩ _ (by simp)).trans ((World.cell?_setCell_other _ ⟨g, 3, none⟩ ⟨g, 0, none⟩ _ (by simp)).trans h.a),
   (World.cell?_setCell_other _ ⟨g, 4, none⟩ ⟨g, 1, none⟩ _ (by simp)).trans ((World.cell?_setCell_other _ ⟨g, 3, none⟩ ⟨g, 1, none⟩ _ (by simp)).trans h.b),
   (World.cell?_setCell_other _ ⟨g, 4, none⟩ ⟨g, 2, none⟩ _ (by simp)).trans ((World.cell?_setCell_other _ ⟨g, 3, none⟩ ⟨g, 2, none⟩ _ (by simp)).trans h.c)⟩
theorem below2e {B : Nat} {X Y : World} {g : Nat} (h : Below B X Y) (hg : B ≤ g) (u0 u1 : Value) : Below B X ((Y.setCell ⟨g, 3, none⟩ u0).setCell ⟨g, 4, none⟩ u1) :=
  (h.setCell (p := ⟨g, 3, none⟩) hg _).setCell (p := ⟨g, 4, none⟩) hg _
/-- a copy of one edge -/
structure EdgeC (w : World) (g : Nat) (id : Tri) : Prop where
  c0 : HdE w g id
  c1 : ∃ a n c, w.cell? ⟨g, 3, none⟩ = some (.slice a n c)
  c2 : ∃ a n c, w.cell? ⟨g, 4, none⟩ = some (.slice a n c)
theorem EdgeC.kept {w w' : World} {g : Nat} {id : Tri} (h : EdgeC w g id) (e : w'.heap[g]? = w.heap[g]?) : EdgeC w' g id := by
  obtain ⟨h3, ⟨a, n, c, h4⟩, ⟨a', n', c', h5⟩⟩ := h
  exact ⟨h3.kept e, ⟨a, n, c, (World.cell?_of_block (a := ⟨g, 3, none⟩) e).trans h4⟩, ⟨a', n', c', (World.cell?_of_block (a := ⟨g, 4, none⟩) e).trans h5⟩⟩
theorem edge_row {w : World} {base : Nat} {v l p : Value} {id : Tri} (h : w.ownsRow base 74 5 v 1 ([.string id.a, .string id.b, .string id.c] ++ [l, p])) : ∃ g cap, v = .slice (some ⟨g, 0, none⟩) 1 cap ∧ base ≤ g ∧ g < w.heap.size ∧ HdE w g id ∧ w.cell? ⟨g, 3, none⟩ = some l ∧ w.cell? ⟨g, 4, none⟩ = some p ∧ w.frozen? ⟨g, 3, none⟩ = false ∧ w.frozen? ⟨g, 4, none⟩ = false := by
  rcases h.2 with ⟨_, h⟩ | ⟨g, cap, cur, rfl, hb, hg, hn, hm, hs, ht⟩
  · cases h
  · have hx : ∀ j (u : Value), ([.string id.a, .string id.b, .string id.c] ++ [l, p])[j]? = some u → w.cell? ⟨g, j, none⟩ = some u := fun j u hj => by
      rw [← ht, List.getElem?_take] at hj
      split at hj
      · simp [World.cell?, hg]
        simpa using hj
      · cases hj
    exact ⟨g, cap, rfl, hb, (Array.getElem?_eq_some_iff.1 hg).1, ⟨hx 0 _ rfl, hx 1 _ rfl, hx 2 _ rfl⟩, hx 3 _ rfl, hx 4 _ rfl, frozen_of_row _ _ 3 _ _ hg, frozen_of_row _ _ 4 _ _ hg⟩
/-- the copy as it is first made -/
def CpE (W wx : World) (s3 : Value) (id : Tri) (u1 u2 : Value) : Prop := ∃ g3 g2 cap, s3 = .pointer (some ⟨g3, 0, none⟩) ∧ wx.heap[g3]? = some (.cells #[.slice none 0 0, .slice (some ⟨g2, 0, none⟩) 1 cap] 45 (0, 0)) ∧ g2 ≠ g3 ∧ W.heap.size ≤ g2 ∧ W.heap.size ≤ g3 ∧ g2 < wx.heap.size ∧ HdE wx g2 id ∧ wx.cell? ⟨g2, 3, none⟩ = some u1 ∧ wx.cell? ⟨g2, 4, none⟩ = some u2 ∧ wx.frozen? ⟨g2, 3, none⟩ = false ∧ wx.frozen? ⟨g2, 4, none⟩ = false ∧ Below W.heap.size W wx
theorem cpE_alloc {W w1 : World} {g2 cap : Nat} {id : Tri} {u1 u2 : Value} (b : Below W.heap.size W w1) (k1 : W.drew.heap.size ≤ g2) (k2 : g2 < w1.heap.size) (k3 : HdE w1 g2 id) (k4 : w1.cell? ⟨g2, 3, none⟩ = some u1) (k5 : w1.cell? ⟨g2, 4, none⟩ = some u2) (k6 : w1.frozen? ⟨g2, 3, none⟩ = false) (k7 : w1.frozen? ⟨g2, 4, none⟩ = false) :
    CpE W (w1.alloc (.cells #[.slice none 0 0, .slice (some ⟨g2, 0, none⟩) 1 cap] 45)) (.pointer (some ⟨w1.heap.size, 0, none⟩)) id u1 u2 := by
  have hk : (w1.alloc (.cells #[.slice none 0 0, .slice (some ⟨g2, 0, none⟩) 1 cap] 45)).heap[g2]? = w1.heap[g2]? := (Joins.below_alloc1 w1 _).block g2 k2
  refine ⟨_, g2, cap, rfl, heap_new w1 _, by omega, k1, b.size, by simp; omega, ?_, ?_, ?_, ?_, ?_, ba b b.size _⟩
  · exact k3.kept hk
  · rw [World.cell?_of_block (w := w1) (a := ⟨g2, 3, none⟩) hk]; exact k4
  · rw [World.cell?_of_block (w := w1) (a := ⟨g2, 4, none⟩) hk]; exact k5
  · rw [World.frozen?_of_block (w := w1) (a := ⟨g2, 3, none⟩) hk]; exact k6
  · rw [World.frozen?_of_block (w := w1) (a := ⟨g2, 4, none⟩) hk]; exact k7
theorem cpE_put {W w1 : World} {g2 cap : Nat} {id : Tri} {u1 u2 z0 z1 : Value} {o : Obj} (b : Below W.heap.size W w1) (q : w1.heap[W.heap.size]? = some (.cells #[z0, z1] 45 (0, 0))) (k1 : (W.alloc o).drew.heap.size ≤ g2) (k2 : g2 < w1.heap.size) (k3 : HdE w1 g2 id) (k4 : w1.cell? ⟨g2, 3, none⟩ = some u1) (k5 : w1.cell? ⟨g2, 4, none⟩ = some u2) (k6 : w1.frozen? ⟨g2, 3, none⟩ = false) (k7 : w1.frozen? ⟨g2, 4, none⟩ = false) :
    CpE W ((w1.setCell ⟨W.heap.size, 0, none⟩ (.slice none 0 0)).setCell ⟨W.heap.size, 1, none⟩ (.slice (some ⟨g2, 0, none⟩) 1 cap)) (.pointer (some ⟨W.heap.size, 0, none⟩)) id u1 u2 := by
  have k1 : W.heap.size + 1 ≤ g2 := by simpa using k1
  have hk : ((w1.setCell ⟨W.heap.size, 0, none⟩ (.slice none 0 0)).setCell ⟨W.heap.size, 1, none⟩ (.slice (some ⟨g2, 0, none⟩) 1 cap)).heap[g2]? = w1.heap[g2]? := (Below.heap_setCell _ _ _ _ (by show g2 ≠ W.heap.size; omega)).trans (Below.heap_setCell _ _ _ _ (by show g2 ≠ W.heap.size; omega))
  refine ⟨_, g2, cap, rfl, box2 q _ _, by omega, by omega, Nat.le_refl _, by simpa [World.setCell] using k2, ?_, ?_, ?_, ?_, ?_, below2 b (Nat.le_refl _) _ _⟩
  · exact k3.kept hk
  · rw [World.cell?_of_block (w := w1) (a := ⟨g2, 3, none⟩) hk]; exact k4
  · rw [World.cell?_of_block (w := w1) (a := ⟨g2, 4, none⟩) hk]; exact k5
  · rw [World.frozen?_of_block (w := w1) (a := ⟨g2, 3, none⟩) hk]; exact k6
  · rw [World.frozen?_of_block (w := w1) (a := ⟨g2, 4, none⟩) hk]; exact k7

/-- the copy between its rounds -/
structure Ce (W : World) (g2 g3 cap : Nat) (id : Tri) (wr : World) : Prop where
  x30 : wr.cell? ⟨g3, 0, none⟩ = some (.slice none 0 0)
  x31 : wr.cell? ⟨g3, 1, none⟩ = some (.slice (some ⟨g2, 0, none⟩) 1 cap)
  nc : EdgeC wr g2 id
  b : Below W.heap.size W wr
  l2 : g2 < wr.heap.size
  l3 : g3 < wr.heap.size
theorem Ce.later {W : World} {g2 g3 cap : Nat} {id : Tri} {wr w' : World} (h : Ce W g2 g3 cap id wr) (k : Below wr.heap.size wr w') : Ce W g2 g3 cap id w' := by
  obtain ⟨h1, h2, ⟨h3, ⟨a, n, c, h4⟩, ⟨a', n', c', h5⟩⟩, h6, h7, h8⟩ := h
  exact ⟨(k.cell (p := ⟨g3, 0, none⟩) h8).trans h1, (k.cell (p := ⟨g3, 1, none⟩) h8).trans h2, ⟨h3.kept (k.block g2 h7), ⟨a, n, c, (k.cell (p := ⟨g2, 3, none⟩) h7).trans h4⟩, ⟨a', n', c', (k.cell (p := ⟨g2, 4, none⟩) h7).trans h5⟩⟩, h6.trans (k.mono h6.size), Nat.lt_of_lt_of_le h7 k.size, Nat.lt_of_lt_of_le h8 k.size⟩
theorem Ce.put {W : World} {g2 g3 cap : Nat} {id : Tri} {wr : World} (h : Ce W g2 g3 cap id wr) (hne : g2 ≠ g3) (hg : W.heap.size ≤ g2) (a : Option Addr) (n c : Nat) (a' : Option Addr) (n' c' : Nat) : Ce W g2 g3 cap id ((wr.setCell ⟨g2, 3, none⟩ (.slice a n c)).setCell ⟨g2, 4, none⟩ (.slice a' n' c')) := by
  obtain ⟨h1, h2, ⟨h3, ⟨b1, m1, d1, h4⟩, ⟨b2, m2, d2, h5⟩⟩, h6, h7, h8⟩ := h
  have e3 : ((wr.setCell ⟨g2, 3, none⟩ (.slice a n c)).setCell ⟨g2, 4, none⟩ (.slice a' n' c')).heap[g3]? = wr.heap[g3]? := (Below.heap_setCell _ _ _ _ (by show g3 ≠ g2; omega)).trans (Below.heap_setCell _ _ _ _ (by show g3 ≠ g2; omega))
  refine ⟨(World.cell?_of_block (a := ⟨g3, 0, none⟩) e3).trans h1, (World.cell?_of_block (a := ⟨g3, 1, none⟩) e3).trans h2, ⟨?_, ⟨a, n, c, ?_⟩, ⟨a', n', c', ?_⟩⟩, below2e h6 hg _ _, by simpa [World.setCell] using h7, by simpa [World.setCell] using h8⟩
  · exact h3.put _ _
  · exact (World.cell?_setCell_other _ ⟨g2, 4, none⟩ ⟨g2, 3, none⟩ _ (by simp)).trans (World.cell?_setCell_same _ _ _ h4)
  · exact World.cell?_setCell_same _ _ _ ((World.cell?_setCell_other _ ⟨g2, 3, none⟩ ⟨g2, 4, none⟩ _ (by simp)).trans h5)
theorem kp_cellsE {wr w5 : World} {g2 : Nat} {u1 u2 : Value} (b : Below wr.heap.size wr w5) (hg : g2 < wr.heap.size) (x1 : wr.cell? ⟨g2, 3, none⟩ = some u1) (x2 : wr.cell? ⟨g2, 4, none⟩ = some u2) (f1 : wr.frozen? ⟨g2, 3, none⟩ = false) (f2 : wr.frozen? ⟨g2, 4, none⟩ = false) : w5.cell? ⟨g2, 3, none⟩ = some u1 ∧ w5.cell? ⟨g2, 4, none⟩ = some u2 ∧ w5.frozen? ⟨g2, 3, none⟩ = false ∧ w5.frozen? ⟨g2, 4, none⟩ = false :=
  ⟨(b.cell (p := ⟨g2, 3, none⟩) hg).trans x1, (b.cell (p := ⟨g2, 4, none⟩) hg).trans x2, (World.frozen?_of_block (a := ⟨g2, 3, none⟩) (b.block g2 hg)).trans f1, (World.frozen?_of_block (a := ⟨g2, 4, none⟩) (b.block g2 hg)).trans f2⟩
set_option maxHeartbeats 6400000 in
theorem copyEdge_any (g off c : Nat) (id : Tri) (x : Lp) (vl vp : Value) (hvl : vl = x.l) (hvp : vp = x.p) (w : World) (h0 : w.cell? ⟨g, off, none⟩ = some (.string id.a)) (h0b : w.cell? ⟨g, off + 1, none⟩ = some (.string id.b)) (h0c : w.cell? ⟨g, off + 2, none⟩ = some (.string id.c)) (h1 : w.cell? ⟨g, off + 3, none⟩ = some vl) (h2 : w.cell? ⟨g, off + 4, none⟩ = some vp) (hx : LpAt w.heap.size w x) (hl : x.L.length ≤ 8) (hp : x.P.length ≤ 8) (hg : g < w.heap.size) :
    Calls Try.prog 89 #[.agg #[.slice none 0 0, .slice (some ⟨g, off, none⟩) 1 c]] w fun e w' => (∃ g2 cap, e = .returned (.agg #[.slice none 0 0, .slice (some ⟨g2, 0, none⟩) 1 cap]) ∧ EdgeC w' g2 id) ∧ Below w.heap.size w w' := by
  obtain ⟨W, hW⟩ : ∃ W, W = (w.alloc (.cells #[.slice none 0 0, .slice (some ⟨g, off, none⟩) 1 c] 45)).alloc (.cells #[.slice none 0 0, .slice none 0 0] 45) := ⟨_, rfl⟩
  obtain ⟨bx, hbx⟩ : ∃ bx, bx = w.heap.size := ⟨_, rfl⟩
  have hB : Below bx w W := by rw [hW, hbx]; exact (Joins.below_alloc1 w _).trans ((Joins.below_alloc1 _ _).mono (by simp))
  have hsz : W.heap.size = bx + 2 := by rw [hW, hbx]; simp
  have hblk : W.heap[bx]? = some (.cells #[.slice none 0 0, .slice (some ⟨g, off, none⟩) 1 c] 45) := by
    rw [hW, hbx]
    exact ((Joins.below_alloc1 _ _).block _ (by simp)).trans (heap_new w _)
  have hblk1 : W.heap[bx + 1]? = some (.cells #[.slice none 0 0, .slice none 0 0] 45) := by
    have := heap_new (w.alloc (.cells #[.slice none 0 0, .slice (some ⟨g, off, none⟩) 1 c] 45)) (.cells #[.slice none 0 0, .slice none 0 0] 45)
    rw [show (w.alloc (.cells #[.slice none 0 0, .slice (some ⟨g, off, none⟩) 1 c] 45)).heap.size = w.heap.size + 1 from by simp] at this
    rw [hW, hbx]; exact this
  have y0 : W.cell? ⟨bx, 0, none⟩ = some (.slice none 0 0) := by rw [cell_of_row _ _ 0 _ _ _ hblk]; rfl
  have y1 : W.cell? ⟨bx, 1, none⟩ = some (.slice (some ⟨g, off, none⟩) 1 c) := by rw [cell_of_row _ _ 1 _ _ _ hblk]; rfl
  have HB := Lib.hid hB
  have HBB : Hid (∀ w', Below bx w w' → Below w.heap.size w w') := fun w' k => by rw [← hbx]; exact k
  obtain ⟨a1, n1, c1, hv1⟩ : ∃ a n c, vl = .slice a n c := ⟨_, _, _, hvl⟩
  obtain ⟨a2, n2, c2, hv2⟩ : ∃ a n c, vp = .slice a n c := ⟨_, _, _, hvp⟩
  subst hv1 hv2
  have HVL := Lib.hid hvl
  have HVP := Lib.hid hvp
  have HC : Hid (Cells w (some ⟨g, off, none⟩) [.string id.a, .string id.b, .string id.c, .slice a1 n1 c1, .slice a2 n2 c2]) := fun ad hd j u hj => by
    obtain rfl := (Option.some.inj hd).symm
    rw [Addr.add_lit]
    match j, hj with
    | 0, hj => obtain rfl := Option.some.inj hj; exact h0
    | 1, hj => obtain rfl := Option.some.inj hj; exact h0b
    | 2, hj => obtain rfl := Option.some.inj hj; exact h0c
    | 3, hj => obtain rfl := Option.some.inj hj; exact h1
    | 4, hj => obtain rfl := Option.some.inj hj; exact h2
    | j + 5, hj => simp at hj
  have HCB : Hid (∀ w', Below bx w w' → Cells w' (some ⟨g, off, none⟩) [.string id.a, .string id.b, .string id.c, .slice a1 n1 c1, .slice a2 n2 c2]) := fun w' k ad hd j u hj => by
    have := HC.out ad hd j u hj
    obtain rfl := (Option.some.inj hd).symm
    rw [Addr.add_lit] at this ⊢
    rw [k.cell (p := ⟨g, off + j, none⟩) (by rw [hbx]; exact hg)]
    exact this
  have HX : Hid (∀ w', Below bx w w' → w.heap.size ≤ w'.heap.size → LpAt w'.heap.size w' x) := fun w' k hs => (hx.below (HBB.out _ k)).mono hs
  have HSZ : Hid (w.heap.size ≤ bx) := by show _ ≤ _; omega
  clear hvl hvp h0 h0b h0c h1 h2 hx hblk HC
  go_enter Try.func89, Try.ntmps89
  go_upto_region 1 with (fail)
  rw [← hW, ← hbx]
  clear hW hbx
  go_cut [3] from 8 to 14 (fun s3 wx => CpE W wx s3 id (.slice a1 n1 c1) (.slice a2 n2 c2))
  · have hS : ∀ W', Below W.heap.size W W' → (W'.cell? ⟨bx, 0, none⟩ = some (.slice none 0 0) ∧ W'.cell? ⟨bx, 1, none⟩ = some (.slice (some ⟨g, off, none⟩) 1 c)) := fun W' q => ⟨(q.cell (p := ⟨bx, 0, none⟩) (by show bx < W.heap.size; omega)).trans y0, (q.cell (p := ⟨bx, 1, none⟩) (by show bx < W.heap.size; omega)).trans y1⟩
    have HS := Lib.hid hS
    have hS0 := hS W.drew (Below.refl _ _).drew
    have HN1 := Lib.hid (clone_edge (some ⟨g, off, none⟩) 1 c [.string id.a, .string id.b, .string id.c, .slice a1 n1 c1, .slice a2 n2 c2] W.drew (by simp) (HCB.out _ HB.out.drew) rfl (by simp [Value.oneCell']) (by omega))
    have HN2 := Lib.hid (fun o => clone_edge (some ⟨g, off, none⟩) 1 c [.string id.a, .string id.b, .string id.c, .slice a1 n1 c1, .slice a2 n2 c2] ((W.alloc o).drew) (by simp) (HCB.out _ (HB.out.alloc (by omega) o).drew) rfl (by simp [Value.oneCell']) (by omega))
    clear hS y0 y1 hB hblk1 hsz
    go_region_held3 (fun W' => W'.cell? ⟨bx, 0, none⟩ = some (.slice none 0 0) ∧ W'.cell? ⟨bx, 1, none⟩ = some (.slice (some ⟨g, off, none⟩) 1 c))
      (first | with_reducible exact hS0 | with_reducible assumption | with_reducible exact HS.out _ (bd _ _) | with_reducible exact HS.out _ B5.out | with_reducible exact HS.out _ (ba B5.out B5.out.size _) | with_reducible exact HS.out _ (below2 B5.out (Nat.le_refl _) _ _))
      (first
        | (go_at_call 101; (with_reducible show Calls _ _ _ (World.drew W) _); refine HN1.out.mono ?_; rintro e w1 ⟨⟨v', rfl, hown⟩, hB1⟩; obtain ⟨g2, cap, rfl, k1, k2, k3, k4, k5, k6, k7⟩ := edge_row hown; have B5 := Lib.hid (Below.trans (Below.refl W.heap.size W).drew hB1))
        | (go_at_call 101; (with_reducible show Calls _ _ _ (World.drew (World.alloc W _)) _); refine (HN2.out _).mono ?_; rintro e w1 ⟨⟨v', rfl, hown⟩, hB1⟩; obtain ⟨g2, cap, rfl, k1, k2, k3, k4, k5, k6, k7⟩ := edge_row hown; have B5 := Lib.hid (bt (bd W _) hB1); obtain ⟨q0, q1, qf0, qf1, qb⟩ := kept_2 hB1; have QB := Lib.hid qb; clear qb)
        | (go_at_call 100; refine (clone_nil_node _).mono ?_; rintro e w3 ⟨rfl, rfl⟩))
    all_goals go_wp2_with fail
    all_goals go_meet
    all_goals (first
      | with_reducible exact cpE_alloc B5.out k1 k2 k3 k4 k5 k6 k7
      | with_reducible exact cpE_put B5.out QB.out k1 k2 k3 k4 k5 k6 k7)
  · obtain ⟨g3, g2, cap, rfl, hb3, hne, hg2, hg3, hg2x, x0, x1, x2, f1, f2, hBx⟩ := hcut
    have x30 : wc.cell? ⟨g3, 0, none⟩ = some (.slice none 0 0) := (cell_of_row _ _ 0 _ _ _ hb3).trans rfl
    have x31 : wc.cell? ⟨g3, 1, none⟩ = some (.slice (some ⟨g2, 0, none⟩) 1 cap) := (cell_of_row _ _ 1 _ _ _ hb3).trans rfl
    have hg3x : g3 < wc.heap.size := (Array.getElem?_eq_some_iff.1 hb3).1
    clear y0 y1 hb3
    go_wp2_with fail
    have hq : Ce W g2 g3 cap id wc := ⟨x30, x31, ⟨x0, ⟨_, _, _, x1⟩, ⟨_, _, _, x2⟩⟩, hBx, hg2x, hg3x⟩
    refine wp_loop_rounds 1 ?_
    rw [rounds_succ]
    go_wp2_with fail
    refine wp_loop_rounds 2 ?_
    rw [rounds_succ]
    have HQ := Lib.hid hq
    have HL : Hid (∀ W', Below wc.heap.size wc W' → Calls Try.prog 102 #[.slice a1 n1 c1] W' fun e w' => (∃ a n c, e = .returned (.slice a n c)) ∧ Below W'.heap.size W' w') := fun W' k => by
      rw [HVL.out]
      exact cloneL (HX.out W' (HB.out.trans ((hq.b.trans (k.mono hq.b.size)).mono (by omega))) (by have := k.size; have := hq.b.size; have := HSZ.out; omega)) hl
    have HP : Hid (∀ W', Below wc.heap.size wc W' → Calls Try.prog 103 #[.slice a2 n2 c2] W' fun e w' => (∃ a n c, e = .returned (.slice a n c)) ∧ Below W'.heap.size W' w') := fun W' k => by
      rw [HVP.out]
      exact cloneP (HX.out W' (HB.out.trans ((hq.b.trans (k.mono hq.b.size)).mono (by omega))) (by have := k.size; have := hq.b.size; have := HSZ.out; omega)) hp
    have HSZ2 : Hid (W.heap.size = bx + 2) := hsz
    have HBLK := Lib.hid hblk1
    clear hq hsz hblk1 hB hBx hg3x x0
    go_upto_block 3 with (fail)
    go_cut [6, 7] from 47 to 67 (fun s4 s5 wx => Ce W g2 g3 cap id wx)
    case first =>
      go_upto_region 12 with (fail)
      go_region_with (first
        | (go_at_call 102; (with_reducible show Calls _ _ _ (World.drew wc) _); refine (HL.out _ (Below.refl _ _).drew).mono ?_; rintro e w5 ⟨⟨ta, tn, tc, rfl⟩, b5⟩; have B5 := Lib.hid (Below.trans (Below.refl wc.heap.size wc).drew b5); obtain ⟨y1, y2, yf1, yf2⟩ := kp_cellsE B5.out hg2x x1 x2 f1 f2)
        | (go_at_call 103; (with_reducible show Calls _ _ _ (World.drew wc) _); refine (HP.out _ (Below.refl _ _).drew).mono ?_; rintro e w6 ⟨⟨pa, pn, pc, rfl⟩, b6⟩; have B6 := Lib.hid (Below.trans (Below.refl wc.heap.size wc).drew b6); obtain ⟨y1, y2, yf1, yf2⟩ := kp_cellsE B6.out hg2x x1 x2 f1 f2)
        | (go_at_call 103; (with_reducible show Calls _ _ _ w5 _); refine (HP.out _ B5.out).mono ?_; rintro e w7 ⟨⟨pa, pn, pc, rfl⟩, b7⟩; have B7 := Lib.hid (B5.out.trans (b7.mono B5.out.size)); obtain ⟨v1, v2, vf1, vf2⟩ := kp_cellsE B7.out hg2x x1 x2 f1 f2)
        | (go_at_call 102; (with_reducible show Calls _ _ _ w6 _); refine (HL.out _ B6.out).mono ?_; rintro e w7 ⟨⟨ta, tn, tc, rfl⟩, b7⟩; have B7 := Lib.hid (B6.out.trans (b7.mono B6.out.size)); obtain ⟨v1, v2, vf1, vf2⟩ := kp_cellsE B7.out hg2x x1 x2 f1 f2))
      all_goals go_wp2_with fail
      all_goals go_meet
      all_goals with_reducible exact (HQ.out.later B7.out).put hne hg2 _ _ _ _ _ _
    case rest =>
      clear x30 x31 x1 x2 f1 f2 hg2x HL HP HQ
      have x30 := hcut.x30
      have x31 := hcut.x31
      have hb1 : wc.heap[bx + 1]? = some (.cells #[.slice none 0 0, .slice none 0 0] 45 (0, 0)) := (hcut.b.block (bx + 1) (by have := HSZ2.out; omega)).trans HBLK.out
      have r0 : wc.cell? ⟨bx + 1, 0, none⟩ = some (.slice none 0 0) := (cell_of_row _ _ 0 _ _ _ hb1).trans rfl
      have r1 : wc.cell? ⟨bx + 1, 1, none⟩ = some (.slice none 0 0) := (cell_of_row _ _ 1 _ _ _ hb1).trans rfl
      have rf0 : wc.frozen? ⟨bx + 1, 0, none⟩ = false := frozen_of_row _ _ 0 _ _ hb1
      have rf1 : wc.frozen? ⟨bx + 1, 1, none⟩ = false := frozen_of_row _ _ 1 _ _ hb1
      have n2 : Hid (g2 ≠ bx + 1) := by have := HSZ2.out; show _ ≠ _; omega
      have HQ := Lib.hid hcut
      clear hb1 hcut
      go_wp2_with fail
      rw [rounds_succ]
      go_wp2_with fail
      have e0 : ((wc.setCell ⟨bx + 1, 0, none⟩ (.slice none 0 0)).setCell ⟨bx + 1, 1, none⟩ (.slice (some ⟨g2, 0, none⟩) 1 cap)).cell? ⟨bx + 1, 0, none⟩ = some (.slice none 0 0) := (World.cell?_setCell_other _ ⟨bx + 1, 1, none⟩ ⟨bx + 1, 0, none⟩ _ (by simp)).trans (World.cell?_setCell_same _ _ _ r0)
      have e1 : ((wc.setCell ⟨bx + 1, 0, none⟩ (.slice none 0 0)).setCell ⟨bx + 1, 1, none⟩ (.slice (some ⟨g2, 0, none⟩) 1 cap)).cell? ⟨bx + 1, 1, none⟩ = some (.slice (some ⟨g2, 0, none⟩) 1 cap) := World.cell?_setCell_same _ _ _ ((World.cell?_setCell_other _ ⟨bx + 1, 0, none⟩ ⟨bx + 1, 1, none⟩ _ (by simp)).trans r1)
      have HNC : Hid (EdgeC ((wc.setCell ⟨bx + 1, 0, none⟩ (.slice none 0 0)).setCell ⟨bx + 1, 1, none⟩ (.slice (some ⟨g2, 0, none⟩) 1 cap)) g2 id) := HQ.out.nc.kept ((Below.heap_setCell _ _ _ _ (by show g2 ≠ bx + 1; exact n2.out)).trans (Below.heap_setCell _ _ _ _ (by show g2 ≠ bx + 1; exact n2.out)))
      have HBF : Hid (Below w.heap.size w ((wc.setCell ⟨bx + 1, 0, none⟩ (.slice none 0 0)).setCell ⟨bx + 1, 1, none⟩ (.slice (some ⟨g2, 0, none⟩) 1 cap))) := HBB.out _ (below2 (HB.out.trans (HQ.out.b.mono (by have := HSZ2.out; omega))) (by omega) _ _)
      generalize World.setCell (World.setCell wc _ _) _ _ = wf at *
      refine bodyPost_ret (by simp [results, Try.results89, go_sem, e0, e1]; try rfl) rfl ?_
      exact ⟨⟨g2, cap, rfl, HNC.out⟩, HBF.out⟩
end Go.Proofs.Ytpaegpbabfohcaa.Paths
