/-
  A walk through a graph: paths.on.
-/
import Derived.Test.YtpaegpbabfohcaaPathWalk
namespace Go.Proofs.Ytpaegpbabfohcaa.Paths
open Go.RowKit Go.Proofs.Ytpaegpbabfohcaa.WalkBytes Go.Proofs.Ytpaegpbabfohcaa.PathPure Go.Proofs.Ytpaegpbabfohcaa.MapAt
set_option linter.unusedVariables false
set_option linter.unusedSimpArgs false
set_option maxRecDepth 100000

def Ed.eg (x : Ed) : Eg ByteArray := ⟨x.id, x.fr, x.tt⟩
def egs (E : List Ed) : List (Eg ByteArray) := E.map Ed.eg
theorem egs_len (E : List Ed) : (egs E).length = E.length := by simp [egs]
theorem onE_take {h : Hop} {E : List Ed} {L : List Hop} {k : Nat} (hk : k < E.length) : onE h ((egs E).take (k + 1)) L = PathPure.one h (onE h ((egs E).take k) L) (ed E k).eg := by
  unfold onE
  rw [List.take_succ_eq_append_getElem (by rw [egs_len]; exact hk), List.foldl_append]
  simp [egs, ed, hk]
theorem onE_all (h : Hop) (E : List Ed) (L : List Hop) : onE h ((egs E).take E.length) L = onE h (egs E) L := by
  rw [List.take_of_length_le (by rw [egs_len]; exact Nat.le_refl _)]
theorem Wk2.kept {F : Nat → Prop} {b bm : Nat} {gn ge : Value} {L M : List Hop} {w w' : World} (h : Wk2 F b bm gn ge L M w) (k : Below w.heap.size w w') : Wk2 F b bm gn ge L M w' := h.same k
set_option maxHeartbeats 3200000 in
theorem on_any (F : Nat → Prop) (b bm : Nat) (g : Gr) (gn ge : Value) (hge : ge = g.e) (L : List Hop) (h : Hop) (w : World) (hw : Wk F b bm gn ge L w) (H : Nat) (hF : ∀ k, k < H → F k) (hg : GrAt H w g) (he : g.E.length ≤ 1000) (hl : ∀ k, k ≤ g.E.length → (onE h ((egs g.E).take k) L).length ≤ 1000) (hfar : h.far ≤ 1000) :
    Calls Try.prog 87 #[.pointer (some ⟨b, 0, none⟩), .agg #[.string h.id, .string h.edge, .int .i64 h.far]] w fun e w' => e = .returned (.tuple #[]) ∧ Wk F b bm gn ge (onE h (egs g.E) L) w' ∧ Kp F w w' := by
  obtain ⟨A, N, a, B, M, b2⟩ := g
  subst hge
  obtain ⟨m, hm⟩ : ∃ m, m = M.length := ⟨_, rfl⟩
  have e2 : (⟨A, N, a, B, M, b2⟩ : Gr).e = .slice B m b2 := by rw [hm]; rfl
  rw [e2] at hw ⊢
  have hrow : Eds H w B M := hg.e
  have hm1 : m ≤ 1000 := by rw [hm]; exact he
  obtain ⟨id, edg, far⟩ := h
  have HL : Hid (∀ k, k ≤ m → (onE ⟨id, edg, far⟩ ((egs M).take k) L).length ≤ 1000) := by rw [hm]; exact hl
  have hfar : far ≤ 1000 := hfar
  have HM := Lib.hid hm
  have HROW := Lib.hid hrow
  obtain ⟨W, hW⟩ : ∃ W, W = w.alloc (.cells #[.string id, .string edg, .int .i64 far] 113) := ⟨_, rfl⟩
  obtain ⟨bx, hbx⟩ : ∃ bx, bx = w.heap.size := ⟨_, rfl⟩
  have hB : Below w.heap.size w W := by rw [hW]; exact Joins.below_alloc1 w _
  have hsz : W.heap.size = bx + 1 := by rw [hW, hbx]; simp
  have hxb : W.heap[bx]? = some (.cells #[.string id, .string edg, .int .i64 far] 113 (0, 0)) := by rw [hW, hbx]; exact heap_new w _
  have hW1 : Wk (And1 F bx) b bm gn (.slice B m b2) L W := hw.add hB (by omega) (by omega)
  have HKW : Hid (Kp F w W) := kp_below hB
  have FIN : Hid (∀ L' wf, Wk (And1 F bx) b bm gn (.slice B m b2) L' wf → Kp (And1 F bx) W wf → Wk F b bm gn (.slice B m b2) L' wf ∧ Kp F w wf) := fun L' wf k1 k2 => ⟨k1.less fun k q => .inl q, HKW.out.trans (k2.sub fun k q => .inl q)⟩
  have HF : Hid (∀ k, k < H → And1 F bx k ∧ k < w.heap.size) := fun k hk => ⟨.inl (hF k hk), hw.top k (hF k hk)⟩
  have HBB : Hid (∀ k, k < w.heap.size → W.heap[k]? = w.heap[k]?) := fun k hk => hB.block k hk
  have c1 := hW1.c1
  have H1 := Lib.hid hW1
  have HXB : Hid (bx < W.heap.size ∧ w.heap.size ≤ W.heap.size ∧ W.heap[bx]? = some (.cells #[.string id, .string edg, .int .i64 far] 113 (0, 0))) := ⟨by omega, by omega, hxb⟩
  clear hw hg he hl hm hB hW1 hsz hxb hrow e2 hF
  go_enter Try.func87, Try.ntmps87
  go_upto_region 1 with (fail)
  rw [← hW, ← hbx]
  clear hW hbx
  go_wp2_with fail
  go_loopw [12] (fun v wr => ∃ i : Nat, v = .int .i64 i ∧ i ≤ m ∧ Wk (And1 F bx) b bm gn (.slice B m b2) (onE ⟨id, edg, far⟩ ((egs M).take i) L) wr ∧ Kp (And1 F bx) W wr) (fun v _ => m - (intOf v).toNat)
  case atStart => exact ⟨0, rfl, Nat.zero_le _, by rw [List.take_zero]; exact H1.out, Kp.refl _ _⟩
  case round =>
    obtain ⟨i, rfl, hi, hwr, hk⟩ := hrel
    clear c1
    by_cases hin : i < m
    · rcases HROW.out with hnil | ⟨g, off, hA, hg, hc⟩
      · exact absurd (show m = 0 by rw [HM.out, hnil]; rfl) (by omega)
      subst hA
      obtain ⟨c0, c1, c2, c3, c4, c5, c6⟩ := hc i (by rw [← HM.out]; exact hin)
      have hgF := HF.out g hg
      have cl : ∀ o, wr.cell? ⟨g, o, none⟩ = w.cell? ⟨g, o, none⟩ := fun o => (hk.cell (Nat.lt_of_lt_of_le hgF.2 HXB.out.2.1) hgF.1 o).trans (World.cell?_of_block (a := ⟨g, o, none⟩) (HBB.out g hgF.2))
      rw [← cl] at c0 c1 c2 c3 c4
      have hxr : wr.heap[bx]? = some (.cells #[.string id, .string edg, .int .i64 far] 113 (0, 0)) := (hk.block bx HXB.out.1 (.inr rfl)).trans HXB.out.2.2
      have hstep := onE_take (h := ⟨id, edg, far⟩) (L := L) (show i < M.length by rw [← HM.out]; exact hin)
      have hlen := HL.out i hi
      obtain ⟨Li, hLi⟩ : ∃ Li, Li = onE ⟨id, edg, far⟩ ((egs M).take i) L := ⟨_, rfl⟩
      rw [← hLi] at hstep hlen hwr
      obtain ⟨vl, hvl⟩ : ∃ vl, vl = (ed M i).x.l := ⟨_, rfl⟩
      obtain ⟨vp, hvp⟩ : ∃ vp, vp = (ed M i).x.p := ⟨_, rfl⟩
      rw [← hvl] at c3
      rw [← hvp] at c4
      have svl : ∃ a n c, vl = .slice a n c := ⟨_, _, _, hvl⟩
      have svp : ∃ a n c, vp = .slice a n c := ⟨_, _, _, hvp⟩
      obtain ⟨a1, n1, d1, rfl⟩ := svl
      obtain ⟨a2, n2, d2, rfl⟩ := svp
      obtain ⟨xi, hxi⟩ : ∃ xi, xi = (ed M i).id := ⟨_, rfl⟩
      obtain ⟨xf, hxf⟩ : ∃ xf, xf = (ed M i).fr := ⟨_, rfl⟩
      obtain ⟨xt, hxt⟩ : ∃ xt, xt = (ed M i).tt := ⟨_, rfl⟩
      rw [← hxi] at c0
      rw [← hxf] at c1
      rw [← hxt] at c2
      have hstep : onE ⟨id, edg, far⟩ ((egs M).take (i + 1)) L = PathPure.one ⟨id, edg, far⟩ Li ⟨xi, xf, xt⟩ := by rw [hstep, hxi, hxf, hxt]; rfl
      have HSTEP := Lib.hid hstep
      obtain ⟨W2, hW2⟩ : ∃ W2, W2 = wr.alloc (.cells #[.string xi, .string xf, .string xt, .slice a1 n1 d1, .slice a2 n2 d2] 74) := ⟨_, rfl⟩
      obtain ⟨kb, hkb⟩ : ∃ kb, kb = wr.heap.size := ⟨_, rfl⟩
      have hB2 : Below wr.heap.size wr W2 := by rw [hW2]; exact Joins.below_alloc1 wr _
      have x0 : W2.cell? ⟨kb, 0, none⟩ = some (.string xi) := by rw [hW2, hkb, cell_of_row _ _ 0 _ _ _ (heap_new wr _)]; rfl
      have x1 : W2.cell? ⟨kb, 1, none⟩ = some (.string xf) := by rw [hW2, hkb, cell_of_row _ _ 1 _ _ _ (heap_new wr _)]; rfl
      have x2 : W2.cell? ⟨kb, 2, none⟩ = some (.string xt) := by rw [hW2, hkb, cell_of_row _ _ 2 _ _ _ (heap_new wr _)]; rfl
      have hxr2 : W2.heap[bx]? = some (.cells #[.string id, .string edg, .int .i64 far] 113 (0, 0)) := (hB2.block bx (Array.getElem?_eq_some_iff.1 hxr).1).trans hxr
      have b0 : W2.cell? ⟨bx, 0, none⟩ = some (.string id) := (cell_of_row _ _ 0 _ _ _ hxr2).trans rfl
      have b2' : W2.cell? ⟨bx, 2, none⟩ = some (.int .i64 far) := (cell_of_row _ _ 2 _ _ _ hxr2).trans rfl
      have HW2 : Hid (Wk (And1 F bx) b bm gn (.slice (some ⟨g, off, none⟩) m b2) Li W2 ∧ Kp (And1 F bx) W W2) := ⟨hwr.same hB2, hk.trans (kp_below hB2)⟩
      clear hc cl hvl hvp hxi hxf hxt hstep hwr hk hB2 hxr hxr2 c5 c6 hLi
      by_cases hfr : xf = id
      · have hbe : (xf.toList == id.toList) = true := by rw [hfr]; simp
        have HFR := Lib.hid hfr
        clear hfr
        go_upto_region 4 with (fail)
        rw [← hW2, ← hkb]
        clear hW2 hkb c0 c1 c2 c3 c4
        go_wp2_with fail
        refine (arrive_any (And1 F bx) b bm gn _ Li ⟨xt, xi, far + 1⟩ W2 HW2.out.1 hlen).mono ?_
        rintro e w7 ⟨rfl, k7, q7⟩
        have K7 : Hid (Wk (And1 F bx) b bm gn (.slice (some ⟨g, off, none⟩) m b2) (onE ⟨id, edg, far⟩ ((egs M).take (i + 1)) L) w7 ∧ Kp (And1 F bx) W w7) := by
          refine ⟨?_, HW2.out.2.trans q7⟩
          rw [HSTEP.out]
          unfold PathPure.one
          rw [if_pos HFR.out]
          exact k7
        clear k7 q7 x0 x1 x2 b0 b2'
        go_wp2_with fail
        go_roundw
        case rel => exact ⟨i + 1, by go_num, by omega, K7.out.1, K7.out.2⟩
        case measure => simp [intOf]; omega
      · have hbe : (xf.toList == id.toList) = false := beq_eq_false_iff_ne.2 (fun q => hfr (toList_inj q))
        have K7 : Hid (Wk (And1 F bx) b bm gn (.slice (some ⟨g, off, none⟩) m b2) (onE ⟨id, edg, far⟩ ((egs M).take (i + 1)) L) W2 ∧ Kp (And1 F bx) W W2) := by
          refine ⟨?_, HW2.out.2⟩
          rw [HSTEP.out]
          unfold PathPure.one
          rw [if_neg hfr]
          exact HW2.out.1
        clear hfr
        go_upto_region 4 with (fail)
        rw [← hW2, ← hkb]
        clear hW2 hkb c0 c1 c2 c3 c4
        go_wp2_with fail
        go_roundw
        case rel => exact ⟨i + 1, by go_num, by omega, K7.out.1, K7.out.2⟩
        case measure => simp [intOf]; omega
    · have hie : i = m := by omega
      have HIE : Hid (Wk F b bm gn (.slice B m b2) (onE ⟨id, edg, far⟩ (egs M) L) wr ∧ Kp F w wr) := by
        have := hwr
        rw [hie, HM.out, onE_all] at this
        rw [← HM.out] at this
        exact FIN.out _ _ this hk
      have hge : decide (i < m) = false := by simp; omega
      clear hie hin hwr hk
      go_wp2_with fail
      go_end0
      exact ⟨rfl, HIE.out.1, HIE.out.2⟩
end Go.Proofs.Ytpaegpbabfohcaa.Paths
