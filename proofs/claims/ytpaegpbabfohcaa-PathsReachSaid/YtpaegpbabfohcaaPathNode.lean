/-
  graph.Node, graph.Edge of a graph that may be.
-/
import Derived.Test.YtpaegpbabfohcaaPathCopyE
namespace Go.Proofs.Ytpaegpbabfohcaa.Paths
open Go.RowKit Go.Proofs.Ytpaegpbabfohcaa.WalkBytes
set_option linter.unusedVariables false
set_option linter.unusedSimpArgs false
set_option maxRecDepth 100000

/-- a graph that may be -/
structure GrOk (g : Gr) : Prop where
  n : g.N.length ≤ 500
  e : g.E.length ≤ 1000
  rn : Rise (fun i => (nd g.N i).id) g.N.length
  re : Rise (fun i => (ed g.E i).id) g.E.length
  ln : ∀ i, i < g.N.length → (nd g.N i).x.L.length ≤ 8 ∧ (nd g.N i).x.P.length ≤ 8
  le : ∀ i, i < g.E.length → (ed g.E i).x.L.length ≤ 8 ∧ (ed g.E i).x.P.length ≤ 8
  ends : ∀ i, i < g.E.length → HasN g.N (ed g.E i).fr ∧ HasN g.N (ed g.E i).tt
theorem lp_ok {x : Lp} (h : lpWhy x = 0) : x.L.length ≤ 8 ∧ x.P.length ≤ 8 := by
  unfold lpWhy restWhy at h
  split at h
  · cases h
  · rename_i h8
    split at h
    · rename_i hn; exact absurd h hn
    · unfold propsWhy at h
      split at h
      · cases h
      · omega
theorem node_ok {id : ByteArray} {x : Lp} (h : nodeWhy id x = 0) : x.L.length ≤ 8 ∧ x.P.length ≤ 8 := by
  unfold nodeWhy at h
  split at h
  · cases h
  · exact lp_ok h
theorem edge_ok {id fr tt : ByteArray} {x : Lp} (h : edgeWhy id fr tt x = 0) : x.L.length ≤ 8 ∧ x.P.length ≤ 8 := by
  unfold edgeWhy at h
  split at h
  · cases h
  · exact lp_ok h
theorem nodeBad_ok {N : List Nd} {i : Nat} (h : nodeBad N i = 0) : nodeWhy (nd N i).id (nd N i).x = 0 := by
  unfold nodeBad at h
  split at h
  · rename_i q; exact absurd h q
  · rename_i q; simpa using q
theorem edgeBad_ok {N : List Nd} {E : List Ed} {i : Nat} (h : edgeBad N E i = 0) : edgeWhy (ed E i).id (ed E i).fr (ed E i).tt (ed E i).x = 0 ∧ HasN N (ed E i).fr ∧ HasN N (ed E i).tt := by
  unfold edgeBad at h
  split at h
  · rename_i q; exact absurd h q
  · rename_i q
    split at h
    · cases h
    · refine ⟨by simpa using q, ?_⟩
      refine Classical.byContradiction fun hn => ?_
      rw [has2_no hn] at h
      cases h
theorem gr_ok {g : Gr} (h : graphWhy g = 0) : GrOk g := by
  unfold graphWhy at h
  split at h
  · cases h
  · rename_i hb
    split at h
    · rename_i q; exact absurd h q
    · rename_i q
      have q : fb (nodeBad g.N) g.N.length = 0 := by simpa using q
      have hn := fb_none q
      have he := fb_none h
      exact ⟨by omega, by omega, nodes_rise hn, edges_rise he, fun i hi => node_ok (nodeBad_ok (hn i hi)), fun i hi => edge_ok (edgeBad_ok (he i hi)).1, fun i hi => (edgeBad_ok (he i hi)).2⟩
theorem rise_inj {f : Nat → ByteArray} {n : Nat} (h : Rise f n) {i j : Nat} (hi : i < n) (hj : j < n) (e : f i = f j) : i = j := by
  rcases Nat.lt_trichotomy i j with q | q | q
  · have := h i j q hj; rw [e, lt_irrefl] at this; cases this
  · exact q
  · have := h j i q hi; rw [e, lt_irrefl] at this; cases this

theorem box3 {Y : World} {g : Nat} {z0 z1 z2 : Value} {T : TypeId} (h : Y.heap[g]? = some (.cells #[z0, z1, z2] T (0, 0))) (u0 u1 u2 : Value) :
    (((Y.setCell ⟨g, 0, none⟩ u0).setCell ⟨g, 1, none⟩ u1).setCell ⟨g, 2, none⟩ u2).heap[g]? = some (.cells #[u0, u1, u2] T (0, 0)) := by
  rw [Joins.block_setCell (i := 2) (Joins.block_setCell (i := 1) (Joins.block_setCell (i := 0) h _) _) _]; rfl
theorem below3 {B : Nat} {X Y : World} {g : Nat} (h : Below B X Y) (hg : B ≤ g) (u0 u1 u2 : Value) : Below B X (((Y.setCell ⟨g, 0, none⟩ u0).setCell ⟨g, 1, none⟩ u1).setCell ⟨g, 2, none⟩ u2) :=
  ((h.setCell (p := ⟨g, 0, none⟩) hg _).setCell (p := ⟨g, 1, none⟩) hg _).setCell (p := ⟨g, 2, none⟩) hg _
theorem box5 {Y : World} {g : Nat} {z0 z1 z2 z3 z4 : Value} {T : TypeId} (h : Y.heap[g]? = some (.cells #[z0, z1, z2, z3, z4] T (0, 0))) (u0 u1 u2 u3 u4 : Value) :
    (((((Y.setCell ⟨g, 0, none⟩ u0).setCell ⟨g, 1, none⟩ u1).setCell ⟨g, 2, none⟩ u2).setCell ⟨g, 3, none⟩ u3).setCell ⟨g, 4, none⟩ u4).heap[g]? = some (.cells #[u0, u1, u2, u3, u4] T (0, 0)) := by
  rw [Joins.block_setCell (i := 4) (Joins.block_setCell (i := 3) (Joins.block_setCell (i := 2) (Joins.block_setCell (i := 1) (Joins.block_setCell (i := 0) h _) _) _) _) _]; rfl
theorem below5 {B : Nat} {X Y : World} {g : Nat} (h : Below B X Y) (hg : B ≤ g) (u0 u1 u2 u3 u4 : Value) :
    Below B X (((((Y.setCell ⟨g, 0, none⟩ u0).setCell ⟨g, 1, none⟩ u1).setCell ⟨g, 2, none⟩ u2).setCell ⟨g, 3, none⟩ u3).setCell ⟨g, 4, none⟩ u4) :=
  ((((h.setCell (p := ⟨g, 0, none⟩) hg _).setCell (p := ⟨g, 1, none⟩) hg _).setCell (p := ⟨g, 2, none⟩) hg _).setCell (p := ⟨g, 3, none⟩) hg _).setCell (p := ⟨g, 4, none⟩) hg _
theorem field_n (u v : Value) (W : World) : (Instr.field 45 (.agg #[u, v]) 0).run Try.prog W = .ok u W := by kernel_rfl
theorem field_e (u v : Value) (W : World) : (Instr.field 45 (.agg #[u, v]) 1).run Try.prog W = .ok v W := by kernel_rfl
set_option maxHeartbeats 6400000 in
theorem getNode_any (g : Gr) (gn ge : Value) (hgn : gn = g.n) (hge : ge = g.e) (s : ByteArray) (w : World) (h : GrAt w.heap.size w g) (ok : GrOk g) (hcap : g.N.length ≤ g.a) :
    Calls Try.prog 85 #[.agg #[gn, ge], .string s] w fun e w' => (∃ id a n c a' n' c' b, e = .returned (.tuple #[.agg #[.string id, .slice a n c, .slice a' n' c'], .bool b]) ∧ (b = true ↔ HasN g.N s)) ∧ Below w.heap.size w w' := by
  obtain ⟨A, N, a, B, M, b⟩ := g
  subst hgn hge
  obtain ⟨n, hn⟩ : ∃ n, n = N.length := ⟨_, rfl⟩
  obtain ⟨m, hm⟩ : ∃ m, m = M.length := ⟨_, rfl⟩
  obtain ⟨W, hW⟩ : ∃ W, W = (w.alloc (.cells #[.slice A n a, .slice B m b] 45)).alloc (.cells #[.string ⟨#[]⟩, .slice none 0 0, .slice none 0 0] 59) := ⟨_, rfl⟩
  obtain ⟨bx, hbx⟩ : ∃ bx, bx = w.heap.size := ⟨_, rfl⟩
  have hB : Below bx w W := by rw [hW, hbx]; exact (Joins.below_alloc1 w _).trans ((Joins.below_alloc1 _ _).mono (by simp))
  have hsz : W.heap.size = bx + 2 := by rw [hW, hbx]; simp
  have hblk : W.heap[bx]? = some (.cells #[.slice A n a, .slice B m b] 45) := by
    rw [hW, hbx]
    exact ((Joins.below_alloc1 _ _).block _ (by simp)).trans (heap_new w _)
  have hblk1 : W.heap[bx + 1]? = some (.cells #[.string ⟨#[]⟩, .slice none 0 0, .slice none 0 0] 59) := by
    have := heap_new (w.alloc (.cells #[.slice A n a, .slice B m b] 45)) (.cells #[.string ⟨#[]⟩, .slice none 0 0, .slice none 0 0] 59)
    rw [show (w.alloc (.cells #[.slice A n a, .slice B m b] 45)).heap.size = w.heap.size + 1 from by simp] at this
    rw [hW, hbx]; exact this
  have z0 : W.cell? ⟨bx, 0, none⟩ = some (.slice A n a) := by rw [cell_of_row _ _ 0 _ _ _ hblk]; rfl
  have z1 : W.cell? ⟨bx, 1, none⟩ = some (.slice B m b) := by rw [cell_of_row _ _ 1 _ _ _ hblk]; rfl
  have HB := Lib.hid hB
  have HBB : Hid (∀ w', Below bx w w' → Below w.heap.size w w') := fun w' k => by rw [← hbx]; exact k
  have HG : Hid (∀ w', Below bx w w' → w.heap.size ≤ w'.heap.size → GrAt w'.heap.size w' ⟨A, N, a, B, M, b⟩) := fun w' k hs => (h.below (HBB.out _ k)).mono hs
  have HOK := Lib.hid ok
  have HBLK := Lib.hid hblk1
  have HSZ : Hid (w.heap.size ≤ bx ∧ bx + 2 = W.heap.size) := by constructor <;> omega
  have HROW : Hid (Nds bx W A N) := by
    have := (HG.out W hB (by omega)).n
    have k := h.n.below (HBB.out _ hB)
    rw [← hbx] at k; exact k
  have hca : n ≤ a := by rw [hn]; exact hcap
  have e1 : (⟨A, N, a, B, M, b⟩ : Gr).n = .slice A n a := by rw [hn]; rfl
  have e2 : (⟨A, N, a, B, M, b⟩ : Gr).e = .slice B m b := by rw [hm]; rfl
  have E1 : Hid (.slice A n a = (⟨A, N, a, B, M, b⟩ : Gr).n) := e1.symm
  have E2 : Hid (.slice B m b = (⟨A, N, a, B, M, b⟩ : Gr).e) := e2.symm
  have HN := Lib.hid hn
  have hn5 : n ≤ 500 := by rw [hn]; exact ok.n
  rw [e1, e2]
  clear e1 e2 hn hm hcap hblk hblk1 h ok hB
  go_enter Try.func85, Try.ntmps85
  go_upto_region 1 with (fail)
  rw [← hW, ← hbx]
  clear hW hbx
  go_wp2_with fail
  refine (node_any ⟨A, N, a, B, M, b⟩ _ _ E1.out E2.out s W (HG.out W HB.out (by have := HSZ.out; omega)) (by have := HOK.out.n; omega) HOK.out.rn).mono ?_
  rintro e w5 ⟨⟨p, q, rfl, hf⟩, hB5⟩
  have HF := Lib.hid hf
  have hx0 : w5.cell? ⟨bx, 0, none⟩ = some (.slice A n a) := (hB5.cell (p := ⟨bx, 0, none⟩) (by show bx < W.heap.size; omega)).trans z0
  have hb5 : w5.heap[bx + 1]? = some (.cells #[.string ⟨#[]⟩, .slice none 0 0, .slice none 0 0] 59 (0, 0)) := (hB5.block (bx + 1) (by omega)).trans HBLK.out
  have HB5 : Hid (Below bx w w5) := HB.out.trans (hB5.mono (by omega))
  have HB5W := Lib.hid hB5
  have HBB5 := Lib.hid hb5
  have hs5 : Hid (bx + 2 ≤ w5.heap.size ∧ w.heap.size ≤ w5.heap.size) := by have := hB5.size; have := HSZ.out; constructor <;> omega
  clear hf hB5 z0 z1 hsz
  cases q with
  | false =>
    have r0 : w5.cell? ⟨bx + 1, 0, none⟩ = some (.string ⟨#[]⟩) := (cell_of_row _ _ 0 _ _ _ hb5).trans rfl
    have r1 : w5.cell? ⟨bx + 1, 1, none⟩ = some (.slice none 0 0) := (cell_of_row _ _ 1 _ _ _ hb5).trans rfl
    have r2 : w5.cell? ⟨bx + 1, 2, none⟩ = some (.slice none 0 0) := (cell_of_row _ _ 2 _ _ _ hb5).trans rfl
    have rf0 : w5.frozen? ⟨bx + 1, 0, none⟩ = false := frozen_of_row _ _ 0 _ _ hb5
    have rf1 : w5.frozen? ⟨bx + 1, 1, none⟩ = false := frozen_of_row _ _ 1 _ _ hb5
    have rf2 : w5.frozen? ⟨bx + 1, 2, none⟩ = false := frozen_of_row _ _ 2 _ _ hb5
    clear hb5
    go_wp2_with fail
    have HBX := Lib.hid (box3 HBB5.out (.string ⟨#[]⟩) (.slice none 0 0) (.slice none 0 0))
    have HBF : Hid (Below w.heap.size w (((w5.setCell ⟨bx + 1, 0, none⟩ (.string ⟨#[]⟩)).setCell ⟨bx + 1, 1, none⟩ (.slice none 0 0)).setCell ⟨bx + 1, 2, none⟩ (.slice none 0 0))) := HBB.out _ (below3 HB5.out (by omega) _ _ _)
    generalize World.setCell (World.setCell (World.setCell w5 _ _) _ _) _ _ = wf at *
    have e0 : wf.cell? ⟨bx + 1, 0, none⟩ = some (.string ⟨#[]⟩) := (cell_of_row _ _ 0 _ _ _ HBX.out).trans rfl
    have e1 : wf.cell? ⟨bx + 1, 1, none⟩ = some (.slice none 0 0) := (cell_of_row _ _ 1 _ _ _ HBX.out).trans rfl
    have e2 : wf.cell? ⟨bx + 1, 2, none⟩ = some (.slice none 0 0) := (cell_of_row _ _ 2 _ _ _ HBX.out).trans rfl
    refine bodyPost_ret (by simp [results, Try.results85, go_sem, e0, e1, e2]; try rfl) rfl ?_
    exact ⟨⟨_, _, _, _, _, _, _, false, rfl, found_has HF.out⟩, HBF.out⟩
  | true =>
    obtain ⟨hpn, hps⟩ := HF.out.2.1 rfl
    rcases HROW.out with hnil | ⟨g, off, hA, hg, hc⟩
    · rw [hnil] at hpn; exact absurd hpn (by simp)
    subst hA
    obtain ⟨c0, c1, c2, c3, c4⟩ := hc p hpn
    have cl : ∀ o, w5.cell? ⟨g, o, none⟩ = W.cell? ⟨g, o, none⟩ := fun o => HB5W.out.cell (p := ⟨g, o, none⟩) (by show g < _; have := HSZ.out; omega)
    rw [← cl] at c0 c1 c2
    have hpn' : p < n := by rw [HN.out]; exact hpn
    have hlp := HOK.out.ln p hpn
    have hgt : a - p ≠ 0 := by omega
    go_upto_region 4 with (fail)
    go_wp2_with fail
    have hcopy := copyNode_any g (off + p * 3) (a - p) (nd N p).id (nd N p).x (nd N p).x.l (nd N p).x.p rfl rfl w5 c0 c1 c2 ((c3.below (HB5W.out.mono (by have := HSZ.out; omega))).mono (by have := hs5.out; omega)) hlp.1 hlp.2 (by have := hs5.out; omega)
    refine hcopy.mono ?_
    rintro e w7 ⟨⟨g2, cap, rfl, hnc⟩, hB7⟩
    have hb7 : w7.heap[bx + 1]? = some (.cells #[.string ⟨#[]⟩, .slice none 0 0, .slice none 0 0] 59 (0, 0)) := (hB7.block (bx + 1) (by have := hs5.out; omega)).trans HBB5.out
    obtain ⟨⟨x0⟩, ⟨a1, n1, d1, x1⟩, ⟨a2, n2, d2, x2⟩⟩ := hnc
    have HB7 : Hid (Below bx w w7) := HB5.out.trans (hB7.mono (by have := hs5.out; omega))
    have r0 : w7.cell? ⟨bx + 1, 0, none⟩ = some (.string ⟨#[]⟩) := (cell_of_row _ _ 0 _ _ _ hb7).trans rfl
    have r1 : w7.cell? ⟨bx + 1, 1, none⟩ = some (.slice none 0 0) := (cell_of_row _ _ 1 _ _ _ hb7).trans rfl
    have r2 : w7.cell? ⟨bx + 1, 2, none⟩ = some (.slice none 0 0) := (cell_of_row _ _ 2 _ _ _ hb7).trans rfl
    have rf0 : w7.frozen? ⟨bx + 1, 0, none⟩ = false := frozen_of_row _ _ 0 _ _ hb7
    have rf1 : w7.frozen? ⟨bx + 1, 1, none⟩ = false := frozen_of_row _ _ 1 _ _ hb7
    have rf2 : w7.frozen? ⟨bx + 1, 2, none⟩ = false := frozen_of_row _ _ 2 _ _ hb7
    have HBB7 := Lib.hid hb7
    generalize (nd N p).id = id at x0 hcopy
    have fN := fun W => field_n (.slice (some ⟨g2, 0, none⟩) 1 cap) (.slice none 0 0) W
    clear hcopy hb7 hB7 c0 c1 c2 c3 c4 cl hc hlp
    go_wp2_with fail
    have HBX := Lib.hid (box3 HBB7.out (.string id) (.slice a1 n1 d1) (.slice a2 n2 d2))
    have HBF : Hid (Below w.heap.size w (((w7.setCell ⟨bx + 1, 0, none⟩ (.string id)).setCell ⟨bx + 1, 1, none⟩ (.slice a1 n1 d1)).setCell ⟨bx + 1, 2, none⟩ (.slice a2 n2 d2))) := HBB.out _ (below3 HB7.out (by omega) _ _ _)
    generalize World.setCell (World.setCell (World.setCell w7 _ _) _ _) _ _ = wf at *
    have e0 : wf.cell? ⟨bx + 1, 0, none⟩ = some (.string id) := (cell_of_row _ _ 0 _ _ _ HBX.out).trans rfl
    have e1 : wf.cell? ⟨bx + 1, 1, none⟩ = some (.slice a1 n1 d1) := (cell_of_row _ _ 1 _ _ _ HBX.out).trans rfl
    have e2 : wf.cell? ⟨bx + 1, 2, none⟩ = some (.slice a2 n2 d2) := (cell_of_row _ _ 2 _ _ _ HBX.out).trans rfl
    refine bodyPost_ret (by simp [results, Try.results85, go_sem, e0, e1, e2]; try rfl) rfl ?_
    exact ⟨⟨_, _, _, _, _, _, _, true, rfl, found_has HF.out⟩, HBF.out⟩
/-! ## the edge -/
/-- what graph.Edge tells -/
structure EdgeR (E : List Ed) (s : ByteArray) (r : Tri) (b : Bool) : Prop where
  yes : b = true → ∃ k, k < E.length ∧ (ed E k).id = s ∧ r = ⟨(ed E k).id, (ed E k).fr, (ed E k).tt⟩
  no : b = false → ∀ k, k < E.length → (ed E k).id ≠ s
set_option maxHeartbeats 6400000 in
theorem getEdge_any (g : Gr) (gn ge : Value) (hgn : gn = g.n) (hge : ge = g.e) (s : ByteArray) (w : World) (h : GrAt w.heap.size w g) (ok : GrOk g) (hcap : g.E.length ≤ g.b) :
    Calls Try.prog 72 #[.agg #[gn, ge], .string s] w fun e w' => (∃ (r : Tri) (a : Option Addr) (n c : Nat) (a' : Option Addr) (n' c' : Nat) (b : Bool), e = .returned (.tuple #[.agg #[.string r.a, .string r.b, .string r.c, .slice a n c, .slice a' n' c'], .bool b]) ∧ EdgeR g.E s r b) ∧ Below w.heap.size w w' := by
  obtain ⟨A, N, a, B, M, b⟩ := g
  subst hgn hge
  obtain ⟨n, hn⟩ : ∃ n, n = N.length := ⟨_, rfl⟩
  obtain ⟨m, hm⟩ : ∃ m, m = M.length := ⟨_, rfl⟩
  obtain ⟨W, hW⟩ : ∃ W, W = (w.alloc (.cells #[.slice A n a, .slice B m b] 45)).alloc (.cells #[.string ⟨#[]⟩, .string ⟨#[]⟩, .string ⟨#[]⟩, .slice none 0 0, .slice none 0 0] 74) := ⟨_, rfl⟩
  obtain ⟨bx, hbx⟩ : ∃ bx, bx = w.heap.size := ⟨_, rfl⟩
  have hB : Below bx w W := by rw [hW, hbx]; exact (Joins.below_alloc1 w _).trans ((Joins.below_alloc1 _ _).mono (by simp))
  have hsz : W.heap.size = bx + 2 := by rw [hW, hbx]; simp
  have hblk : W.heap[bx]? = some (.cells #[.slice A n a, .slice B m b] 45) := by
    rw [hW, hbx]
    exact ((Joins.below_alloc1 _ _).block _ (by simp)).trans (heap_new w _)
  have hblk1 : W.heap[bx + 1]? = some (.cells #[.string ⟨#[]⟩, .string ⟨#[]⟩, .string ⟨#[]⟩, .slice none 0 0, .slice none 0 0] 74) := by
    have := heap_new (w.alloc (.cells #[.slice A n a, .slice B m b] 45)) (.cells #[.string ⟨#[]⟩, .string ⟨#[]⟩, .string ⟨#[]⟩, .slice none 0 0, .slice none 0 0] 74)
    rw [show (w.alloc (.cells #[.slice A n a, .slice B m b] 45)).heap.size = w.heap.size + 1 from by simp] at this
    rw [hW, hbx]; exact this
  have z0 : W.cell? ⟨bx, 0, none⟩ = some (.slice A n a) := by rw [cell_of_row _ _ 0 _ _ _ hblk]; rfl
  have z1 : W.cell? ⟨bx, 1, none⟩ = some (.slice B m b) := by rw [cell_of_row _ _ 1 _ _ _ hblk]; rfl
  have HB := Lib.hid hB
  have HBB : Hid (∀ w', Below bx w w' → Below w.heap.size w w') := fun w' k => by rw [← hbx]; exact k
  have HG : Hid (∀ w', Below bx w w' → w.heap.size ≤ w'.heap.size → GrAt w'.heap.size w' ⟨A, N, a, B, M, b⟩) := fun w' k hs => (h.below (HBB.out _ k)).mono hs
  have HOK := Lib.hid ok
  have HBLK := Lib.hid hblk1
  have HSZ : Hid (w.heap.size ≤ bx ∧ bx + 2 = W.heap.size) := by constructor <;> omega
  have HROW : Hid (Eds bx W B M) := by
    have := (HG.out W hB (by omega)).e
    have k := h.e.below (HBB.out _ hB)
    rw [← hbx] at k; exact k
  have hca : m ≤ b := by rw [hm]; exact hcap
  have e1 : (⟨A, N, a, B, M, b⟩ : Gr).n = .slice A n a := by rw [hn]; rfl
  have e2 : (⟨A, N, a, B, M, b⟩ : Gr).e = .slice B m b := by rw [hm]; rfl
  have E1 : Hid (.slice A n a = (⟨A, N, a, B, M, b⟩ : Gr).n) := e1.symm
  have E2 : Hid (.slice B m b = (⟨A, N, a, B, M, b⟩ : Gr).e) := e2.symm
  have HM := Lib.hid hm
  have hm5 : m ≤ 1000 := by rw [hm]; exact ok.e
  rw [e1, e2]
  clear e1 e2 hn hm hcap hblk hblk1 h ok hB
  go_enter Try.func72, Try.ntmps72
  go_upto_region 1 with (fail)
  rw [← hW, ← hbx]
  clear hW hbx
  go_wp2_with fail
  refine (edge_any ⟨A, N, a, B, M, b⟩ _ _ E1.out E2.out s W (HG.out W HB.out (by have := HSZ.out; omega)) HOK.out.e HOK.out.re).mono ?_
  rintro e w5 ⟨⟨p, q, rfl, hf⟩, hB5⟩
  have HF := Lib.hid hf
  have hx0 : w5.cell? ⟨bx, 1, none⟩ = some (.slice B m b) := (hB5.cell (p := ⟨bx, 1, none⟩) (by show bx < W.heap.size; omega)).trans z1
  have hb5 : w5.heap[bx + 1]? = some (.cells #[.string ⟨#[]⟩, .string ⟨#[]⟩, .string ⟨#[]⟩, .slice none 0 0, .slice none 0 0] 74 (0, 0)) := (hB5.block (bx + 1) (by omega)).trans HBLK.out
  have HB5 : Hid (Below bx w w5) := HB.out.trans (hB5.mono (by omega))
  have HB5W := Lib.hid hB5
  have HBB5 := Lib.hid hb5
  have hs5 : Hid (bx + 2 ≤ w5.heap.size ∧ w.heap.size ≤ w5.heap.size) := by have := hB5.size; have := HSZ.out; constructor <;> omega
  clear hf hB5 z0 z1 hsz
  cases q with
  | false =>
    have r0 : w5.cell? ⟨bx + 1, 0, none⟩ = some (.string ⟨#[]⟩) := (cell_of_row _ _ 0 _ _ _ hb5).trans rfl
    have r1 : w5.cell? ⟨bx + 1, 1, none⟩ = some (.string ⟨#[]⟩) := (cell_of_row _ _ 1 _ _ _ hb5).trans rfl
    have r2 : w5.cell? ⟨bx + 1, 2, none⟩ = some (.string ⟨#[]⟩) := (cell_of_row _ _ 2 _ _ _ hb5).trans rfl
    have r3 : w5.cell? ⟨bx + 1, 3, none⟩ = some (.slice none 0 0) := (cell_of_row _ _ 3 _ _ _ hb5).trans rfl
    have r4 : w5.cell? ⟨bx + 1, 4, none⟩ = some (.slice none 0 0) := (cell_of_row _ _ 4 _ _ _ hb5).trans rfl
    have rf0 : w5.frozen? ⟨bx + 1, 0, none⟩ = false := frozen_of_row _ _ 0 _ _ hb5
    have rf1 : w5.frozen? ⟨bx + 1, 1, none⟩ = false := frozen_of_row _ _ 1 _ _ hb5
    have rf2 : w5.frozen? ⟨bx + 1, 2, none⟩ = false := frozen_of_row _ _ 2 _ _ hb5
    have rf3 : w5.frozen? ⟨bx + 1, 3, none⟩ = false := frozen_of_row _ _ 3 _ _ hb5
    have rf4 : w5.frozen? ⟨bx + 1, 4, none⟩ = false := frozen_of_row _ _ 4 _ _ hb5
    clear hb5
    go_wp2_with fail
    have HBX := Lib.hid (box5 HBB5.out (.string ⟨#[]⟩) (.string ⟨#[]⟩) (.string ⟨#[]⟩) (.slice none 0 0) (.slice none 0 0))
    have HBF : Hid (Below w.heap.size w (((((w5.setCell ⟨bx + 1, 0, none⟩ (.string ⟨#[]⟩)).setCell ⟨bx + 1, 1, none⟩ (.string ⟨#[]⟩)).setCell ⟨bx + 1, 2, none⟩ (.string ⟨#[]⟩)).setCell ⟨bx + 1, 3, none⟩ (.slice none 0 0)).setCell ⟨bx + 1, 4, none⟩ (.slice none 0 0))) := HBB.out _ (below5 HB5.out (by omega) _ _ _ _ _)
    generalize World.setCell (World.setCell (World.setCell (World.setCell (World.setCell w5 _ _) _ _) _ _) _ _) _ _ = wf at *
    have e0 : wf.cell? ⟨bx + 1, 0, none⟩ = some (.string ⟨#[]⟩) := (cell_of_row _ _ 0 _ _ _ HBX.out).trans rfl
    have e1 : wf.cell? ⟨bx + 1, 1, none⟩ = some (.string ⟨#[]⟩) := (cell_of_row _ _ 1 _ _ _ HBX.out).trans rfl
    have e2 : wf.cell? ⟨bx + 1, 2, none⟩ = some (.string ⟨#[]⟩) := (cell_of_row _ _ 2 _ _ _ HBX.out).trans rfl
    have e3 : wf.cell? ⟨bx + 1, 3, none⟩ = some (.slice none 0 0) := (cell_of_row _ _ 3 _ _ _ HBX.out).trans rfl
    have e4 : wf.cell? ⟨bx + 1, 4, none⟩ = some (.slice none 0 0) := (cell_of_row _ _ 4 _ _ _ HBX.out).trans rfl
    refine bodyPost_ret (by simp [results, Try.results72, go_sem, e0, e1, e2, e3, e4]; try rfl) rfl ?_
    exact ⟨⟨⟨⟨#[]⟩, ⟨#[]⟩, ⟨#[]⟩⟩, _, _, _, _, _, _, false, rfl, ⟨fun q => (by cases q), fun _ => HF.out.2.2 rfl⟩⟩, HBF.out⟩
  | true =>
    obtain ⟨hpn, hps⟩ := HF.out.2.1 rfl
    rcases HROW.out with hnil | ⟨g, off, hA, hg, hc⟩
    · rw [hnil] at hpn; exact absurd hpn (by simp)
    subst hA
    obtain ⟨c0, c1, c2, c3, c4, c5, c6⟩ := hc p hpn
    have cl : ∀ o, w5.cell? ⟨g, o, none⟩ = W.cell? ⟨g, o, none⟩ := fun o => HB5W.out.cell (p := ⟨g, o, none⟩) (by show g < _; have := HSZ.out; omega)
    rw [← cl] at c0 c1 c2 c3 c4
    have hpn' : p < m := by rw [HM.out]; exact hpn
    have hlp := HOK.out.le p hpn
    have hgt : b - p ≠ 0 := by omega
    go_upto_region 4 with (fail)
    go_wp2_with fail
    have hcopy := copyEdge_any g (off + p * 5) (b - p) ⟨(ed M p).id, (ed M p).fr, (ed M p).tt⟩ (ed M p).x (ed M p).x.l (ed M p).x.p rfl rfl w5 c0 c1 c2 c3 c4 ((c5.below (HB5W.out.mono (by have := HSZ.out; omega))).mono (by have := hs5.out; omega)) hlp.1 hlp.2 (by have := hs5.out; omega)
    refine hcopy.mono ?_
    rintro e w7 ⟨⟨g2, cap, rfl, hnc⟩, hB7⟩
    have hb7 : w7.heap[bx + 1]? = some (.cells #[.string ⟨#[]⟩, .string ⟨#[]⟩, .string ⟨#[]⟩, .slice none 0 0, .slice none 0 0] 74 (0, 0)) := (hB7.block (bx + 1) (by have := hs5.out; omega)).trans HBB5.out
    obtain ⟨⟨x0, x1, x2⟩, ⟨a1, n1, d1, x3⟩, ⟨a2, n2, d2, x4⟩⟩ := hnc
    have HB7 : Hid (Below bx w w7) := HB5.out.trans (hB7.mono (by have := hs5.out; omega))
    have r0 : w7.cell? ⟨bx + 1, 0, none⟩ = some (.string ⟨#[]⟩) := (cell_of_row _ _ 0 _ _ _ hb7).trans rfl
    have r1 : w7.cell? ⟨bx + 1, 1, none⟩ = some (.string ⟨#[]⟩) := (cell_of_row _ _ 1 _ _ _ hb7).trans rfl
    have r2 : w7.cell? ⟨bx + 1, 2, none⟩ = some (.string ⟨#[]⟩) := (cell_of_row _ _ 2 _ _ _ hb7).trans rfl
    have r3 : w7.cell? ⟨bx + 1, 3, none⟩ = some (.slice none 0 0) := (cell_of_row _ _ 3 _ _ _ hb7).trans rfl
    have r4 : w7.cell? ⟨bx + 1, 4, none⟩ = some (.slice none 0 0) := (cell_of_row _ _ 4 _ _ _ hb7).trans rfl
    have rf0 : w7.frozen? ⟨bx + 1, 0, none⟩ = false := frozen_of_row _ _ 0 _ _ hb7
    have rf1 : w7.frozen? ⟨bx + 1, 1, none⟩ = false := frozen_of_row _ _ 1 _ _ hb7
    have rf2 : w7.frozen? ⟨bx + 1, 2, none⟩ = false := frozen_of_row _ _ 2 _ _ hb7
    have rf3 : w7.frozen? ⟨bx + 1, 3, none⟩ = false := frozen_of_row _ _ 3 _ _ hb7
    have rf4 : w7.frozen? ⟨bx + 1, 4, none⟩ = false := frozen_of_row _ _ 4 _ _ hb7
    have HBB7 := Lib.hid hb7
    have HRES : Hid (EdgeR M s ⟨(ed M p).id, (ed M p).fr, (ed M p).tt⟩ true) := ⟨fun _ => ⟨p, hpn, hps, rfl⟩, fun q => by cases q⟩
    generalize (⟨(ed M p).id, (ed M p).fr, (ed M p).tt⟩ : Tri) = r at x0 x1 x2 hcopy HRES
    have fN := fun W => field_e (.slice none 0 0) (.slice (some ⟨g2, 0, none⟩) 1 cap) W
    clear hcopy hb7 hB7 c0 c1 c2 c3 c4 c5 c6 cl hc hlp
    go_wp2_with fail
    have HBX := Lib.hid (box5 HBB7.out (.string r.a) (.string r.b) (.string r.c) (.slice a1 n1 d1) (.slice a2 n2 d2))
    have HBF : Hid (Below w.heap.size w (((((w7.setCell ⟨bx + 1, 0, none⟩ (.string r.a)).setCell ⟨bx + 1, 1, none⟩ (.string r.b)).setCell ⟨bx + 1, 2, none⟩ (.string r.c)).setCell ⟨bx + 1, 3, none⟩ (.slice a1 n1 d1)).setCell ⟨bx + 1, 4, none⟩ (.slice a2 n2 d2))) := HBB.out _ (below5 HB7.out (by omega) _ _ _ _ _)
    generalize World.setCell (World.setCell (World.setCell (World.setCell (World.setCell w7 _ _) _ _) _ _) _ _) _ _ = wf at *
    have e0 : wf.cell? ⟨bx + 1, 0, none⟩ = some (.string r.a) := (cell_of_row _ _ 0 _ _ _ HBX.out).trans rfl
    have e1 : wf.cell? ⟨bx + 1, 1, none⟩ = some (.string r.b) := (cell_of_row _ _ 1 _ _ _ HBX.out).trans rfl
    have e2 : wf.cell? ⟨bx + 1, 2, none⟩ = some (.string r.c) := (cell_of_row _ _ 2 _ _ _ HBX.out).trans rfl
    have e3 : wf.cell? ⟨bx + 1, 3, none⟩ = some (.slice a1 n1 d1) := (cell_of_row _ _ 3 _ _ _ HBX.out).trans rfl
    have e4 : wf.cell? ⟨bx + 1, 4, none⟩ = some (.slice a2 n2 d2) := (cell_of_row _ _ 4 _ _ _ HBX.out).trans rfl
    refine bodyPost_ret (by simp [results, Try.results72, go_sem, e0, e1, e2, e3, e4]; try rfl) rfl ?_
    exact ⟨⟨r, _, _, _, _, _, _, true, rfl, HRES.out⟩, HBF.out⟩
end Go.Proofs.Ytpaegpbabfohcaa.Paths
