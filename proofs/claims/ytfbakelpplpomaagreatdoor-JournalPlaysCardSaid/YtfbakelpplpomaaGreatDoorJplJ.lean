/-
  JournalPlays: how a play stands between calls, and within one.
-/
import Derived.Test.YtfbakelpplpomaaGreatDoorJplG
import Derived.Test.YtfbakelpplpomaaGreatDoorJplH
import Derived.Test.YtfbakelpplpomaaGreatDoorJplN
import Derived.Deep.RegionHeld
import Derived.Deep.CutRange
namespace Go.Proofs.YtfbakelpplpomaaGreatDoor.Disk
open Go.RowKit Go.Proofs.YtfbakelpplpomaaGreatDoor.DiskRows Go.Proofs.YtfbakelpplpomaaGreatDoor.WalkCrc
open Go.Proofs.YtfbakelpplpomaaGreatDoor.WalkSeat (putRV)
open Pl.Seat (Rec isR)
set_option linter.unusedVariables false
set_option linter.unusedSimpArgs false
set_option maxRecDepth 100000

theorem jput_inv (d : Dk) (p0 p1 : Nat) (z s : ByteArray) (h : Inv d) : Inv (jput d p0 p1 z s).1 ∧ (jput d p0 p1 z s).1.S.length = d.S.length ∧ (jput d p0 p1 z s).1.ops ≤ d.ops + 4 ∧ (jput d p0 p1 z s).1.C.length ≤ d.C.length + 2 := by
  have i1 := h.write p0 z
  have i2 := i1.flush
  have i3 := i2.write p1 s
  have i4 := i3.flush
  have l1 := (inv_write d p0 z h.shown).2.1
  have l2 := (inv_flush _ i1.shown).2.1
  have l3 := (inv_write _ p1 s i2.shown).2.1
  have l4 := (inv_flush _ i3.shown).2.1
  have g1 := jwrite_grows d p0 z
  have g2 := jflush_grows (d.write p0 z).1
  have g3 := jwrite_grows (d.write p0 z).1.flush.1 p1 s
  have g4 := jflush_grows ((d.write p0 z).1.flush.1.write p1 s).1
  unfold jput
  split
  · exact ⟨i1, l1, by omega, by omega⟩
  · split
    · exact ⟨i2, by omega, by omega, by omega⟩
    · split
      · exact ⟨i3, by omega, by omega, by omega⟩
      · exact ⟨i4, by omega, by omega, by omega⟩
theorem appV_inv (d : Dk) (half epoch count : Nat) (x : Rec) (h : Inv d) : Inv (appV d half epoch count x).1 ∧ (appV d half epoch count x).1.S.length = d.S.length ∧ (appV d half epoch count x).1.ops ≤ d.ops + 4 ∧ (appV d half epoch count x).1.C.length ≤ d.C.length + 2 := by
  unfold appV
  split
  · exact ⟨h, rfl, by simp, by simp⟩
  · split
    · exact ⟨h, rfl, by simp, by simp⟩
    · exact jput_inv d _ _ _ _ h
theorem appV_room (d : Dk) (half epoch count : Nat) (x : Rec) (h : (appV d half epoch count x).2 = 0) : count + 1 < halfV d.S.length := by
  unfold appV at h
  split at h
  · simp at h
  · split at h
    · simp at h
    · omega
theorem refAppend_any (A A' : Option Addr) (c c' : Nat) (d : Dk) (half epoch count : Nat) (e q k : Int) (N O M : ByteArray) (t u : Int) (w : World) (hA : RAt w A A' d) (hk : d.Ok) (hh : half ≤ 1) (hc : count ≤ halfV d.S.length) (ho : d.ops ≤ 800000) (hC : d.C.length ≤ 30000) (hN : N.size ≤ 1048576) (Q : Dk × Int) (hQ : appV d half epoch count (WalkSeat.rc e q k N O M t u) = Q) :
    Calls Tryz.prog 50 #[.agg #[.slice A d.S.length c, .slice A' d.C.length c', .int .i64 (d.armed : Nat), .bool d.down, .int .i64 (d.ops : Nat)], .int .i64 half, .int .i64 epoch, .int .i64 count, .agg #[.int .i64 e, .int .i64 q, .int .i64 k, .string N, .string O, .string M, .int .i64 t, .int .i64 u]] w (ARes w A A' d Q.1 Q.2) := by
  have er : ({ WalkSeat.rc e q k N O M t u with epoch := (epoch : Int), seq := (count : Int) } : Rec) = WalkSeat.rc epoch count k N O M t u := rfl
  unfold appV at hQ
  rw [er] at hQ
  by_cases h1 : isR (WalkSeat.rc epoch count k N O M t u) = false
  · rw [if_pos h1] at hQ
    subst hQ
    exact refAppend_bad A A' c c' d half epoch count e q k N O M t u w hA hk hh hc ho hC hN h1
  · have h1' : isR (WalkSeat.rc epoch count k N O M t u) = true := by simpa using h1
    rw [if_neg h1] at hQ
    by_cases h2 : halfV d.S.length ≤ count + 1
    · rw [if_pos h2] at hQ
      subst hQ
      exact refAppend_full A A' c c' d half epoch count e q k N O M t u w hA hk hh hc ho hC hN h1' h2
    · rw [if_neg h2] at hQ
      exact refAppend_go A A' c c' d half epoch count e q k N O M t u w hA hk hh hc ho hC hN h1' (by omega) Q hQ
/-- how a play stands within a call: the disk d, the document's r, the journal's count cj, the play's own cw, the call a in block ga -/
structure DJ (w0 : World) (F Q : Nat → Prop) (b gw bj ga : Nat) (d r : Dk) (A1 A2 : Option Addr) (c1 c2 half epoch cj cw : Nat) (a : Jc) (w : World) : Prop where
  jx : JX F Q b gw d r A1 A2 c1 c2 (.pointer (some ⟨bj, 0, none⟩)) half epoch cw w
  jj : JJ F Q gw bj b half epoch cj w
  act : w.heap[ga]? = some (.cells a.cells.toArray 59 (0, 0))
  gaF : F ga
  ne : ga ≠ gw ∧ ga ≠ bj
  kp : Below w0.heap.size w0 w
  sub : ∀ j, j < w0.heap.size → F j ∧ j ≠ gw ∧ j ≠ bj
section
variable {w0 : World} {F Q : Nat → Prop} {b gw bj ga : Nat} {d r d' r' : Dk} {A1 A2 A3 A4 : Option Addr} {c1 c2 c3 c4 half epoch cj cw : Nat} {a : Jc} {w w' : World}
theorem DJ.later (h : DJ w0 F Q b gw bj ga d r A1 A2 c1 c2 half epoch cj cw a w) (k : Below w.heap.size w w') : DJ w0 F Q b gw bj ga d r A1 A2 c1 c2 half epoch cj cw a w' :=
  ⟨h.jx.later k, h.jj.later k, by rw [k.block _ (Array.getElem?_eq_some_iff.1 h.act).1]; exact h.act, h.gaF, h.ne, h.kp.trans (k.mono h.kp.size), h.sub⟩
theorem DJ.gw0 (h : DJ w0 F Q b gw bj ga d r A1 A2 c1 c2 half epoch cj cw a w) : w0.heap.size ≤ gw := by
  rcases Nat.lt_or_ge gw w0.heap.size with q | q
  · exact absurd rfl (h.sub _ q).2.1
  · exact q
theorem DJ.ref (h : DJ w0 F Q b gw bj ga d r A1 A2 c1 c2 half epoch cj cw a w) (k : Below w.heap.size w w') (hn : RNew w w' A1 A2 A3 A4 r r') :
    DJ w0 (Plus F w.heap.size w'.heap.size) (Plus Q w.heap.size w'.heap.size) b gw bj ga d r' A3 A4 c3 c4 half epoch cj cw a (set5 w' gw A3 A4 c3 c4 r') :=
  have hg := h.gw0
  ⟨h.jx.ref k hn, h.jj.ref k, (set5_other h.ne.1).trans (by rw [k.block _ (Array.getElem?_eq_some_iff.1 h.act).1]; exact h.act), .inl h.gaF, h.ne,
    ((((((h.kp.trans (k.mono h.kp.size)).setCell (p := ⟨gw, 2, none⟩) hg _).setCell (p := ⟨gw, 3, none⟩) hg _).setCell (p := ⟨gw, 4, none⟩) hg _).setCell (p := ⟨gw, 5, none⟩) hg _).setCell (p := ⟨gw, 6, none⟩) hg _), fun j hj => ⟨.inl (h.sub j hj).1, (h.sub j hj).2⟩⟩
theorem kp_low {G : Nat → Prop} (h : Below w0.heap.size w0 w) (k : Kp G w w') (hG : ∀ j, j < w0.heap.size → G j) : Below w0.heap.size w0 w' := k.bel0 h hG
theorem DJ.go (h : DJ w0 F Q b gw bj ga d r A1 A2 c1 c2 half epoch cj cw a w) (hd : DiskAt F b d' w') (k : Kp F w w') : DJ w0 F Q b gw bj ga d' r A1 A2 c1 c2 half epoch cj cw a w' :=
  ⟨h.jx.go hd k, h.jj.kp k, by rw [k.block _ (Array.getElem?_eq_some_iff.1 h.act).1 h.gaF]; exact h.act, h.gaF, h.ne, kp_low h.kp k (fun j hj => (h.sub j hj).1), h.sub⟩
theorem DJ.append {cj' : Nat} (h : DJ w0 F Q b gw bj ga d r A1 A2 c1 c2 half epoch cj cw a w) (hd : DiskAt F b d' w') (hj : JnAt bj b half epoch cj' w') (k : Kp (fun j => F j ∧ j ≠ bj) w w') : DJ w0 F Q b gw bj ga d' r A1 A2 c1 c2 half epoch cj' cw a w' :=
  ⟨⟨hd, h.jx.rows.kp k (fun g hg _ => ⟨h.jx.sub g hg, fun e => h.jj.outQ (e ▸ hg)⟩), h.jx.sub, h.jx.top.trans k.size, h.jx.gwF, h.jx.gwQ, h.jx.gwT, by rw [k.block _ h.jx.lt ⟨h.jx.gwF, fun e => h.jj.ne e.symm⟩]; exact h.jx.box, tab_kp h.jx.tab k ⟨h.jx.tabF, fun e => h.jj.neT e.symm⟩, h.jx.tabF⟩, ⟨hj, h.jj.inF, h.jj.outQ, h.jj.ne, h.jj.neT⟩, by rw [k.block _ (Array.getElem?_eq_some_iff.1 h.act).1 ⟨h.gaF, h.ne.2⟩]; exact h.act, h.gaF, h.ne, kp_low h.kp k (fun j hj => ⟨(h.sub j hj).1, (h.sub j hj).2.2⟩), h.sub⟩
theorem DJ.counts (h : DJ w0 F Q b gw bj ga d r A1 A2 c1 c2 half epoch cj cw a w) (c : Nat) : DJ w0 F Q b gw bj ga d r A1 A2 c1 c2 half epoch cj c a (w.setCell ⟨gw, 9, none⟩ (.int .i64 (c : Nat))) :=
  ⟨h.jx.counts c, h.jj.counts _, (set_other h.ne.1).trans h.act, h.gaF, h.ne, h.kp.setCell (p := ⟨gw, 9, none⟩) h.gw0 _, h.sub⟩
end
/-- how a play stands between calls -/
structure PJ (w0 : World) (b gw n K : Nat) (F Q : Nat → Prop) (d : Dk) (A1 A2 : Option Addr) (c1 c2 bj half epoch count : Nat) (w : World) : Prop where
  jx : JX F Q b gw d d A1 A2 c1 c2 (.pointer (some ⟨bj, 0, none⟩)) half epoch count w
  jj : JJ F Q gw bj b half epoch count w
  inv : Inv d
  len : d.S.length = n
  h1 : half ≤ 1
  h2 : 1 ≤ epoch
  h3 : epoch ≤ 4294967295
  h4 : count ≤ halfV n
  ops : d.ops ≤ 25 * K
  few : d.C.length ≤ 4 * K
  kp : Below w0.heap.size w0 w
  sub : ∀ j, j < w0.heap.size → F j ∧ j ≠ gw ∧ j ≠ bj
def PS (w0 : World) (b gw n K : Nat) (w : World) : Prop := ∃ F Q d A1 A2 c1 c2 bj half epoch count, PJ w0 b gw n K F Q d A1 A2 c1 c2 bj half epoch count w
section
variable {w0 : World} {F Q : Nat → Prop} {b gw bj ga n K : Nat} {d r d' : Dk} {A1 A2 : Option Addr} {c1 c2 half epoch count : Nat} {a : Jc} {w w' : World}
theorem PJ.later (h : PJ w0 b gw n K F Q d A1 A2 c1 c2 bj half epoch count w) (k : Below w.heap.size w w') : PJ w0 b gw n K F Q d A1 A2 c1 c2 bj half epoch count w' :=
  { h with jx := h.jx.later k, jj := h.jj.later k, kp := h.kp.trans (k.mono h.kp.size) }
theorem PJ.start (h : PJ w0 b gw n K F Q d A1 A2 c1 c2 bj half epoch count w) (a : Jc) : DJ w0 (Plus F w.heap.size (w.heap.size + 1)) Q b gw bj w.heap.size d d A1 A2 c1 c2 half epoch count count a (w.alloc (.cells a.cells.toArray 59)) := by
  have k := Joins.below_alloc1 w (.cells a.cells.toArray 59)
  have hz : (w.alloc (.cells a.cells.toArray 59)).heap.size = w.heap.size + 1 := by simp
  have hx := h.jx.grow k
  rw [hz] at hx
  have l1 := h.jx.lt
  have l2 := h.jj.jn.lt
  exact ⟨hx, (h.jj.later k).mv rfl (.inl h.jj.inF) h.jj.outQ, heap_alloc_last _ _, .inr ⟨Nat.le_refl _, Nat.lt_succ_self _⟩, ⟨by omega, by omega⟩, h.kp.trans (k.mono h.kp.size), fun j hj => ⟨.inl (h.sub j hj).1, (h.sub j hj).2⟩⟩
theorem PJ.done (h : PJ w0 b gw n K F Q d A1 A2 c1 c2 bj half epoch count w) {F' Q' : Nat → Prop} {A3 A4 : Option Addr} {c3 c4 count' : Nat} (q : DJ w0 F' Q' b gw bj ga d' d' A3 A4 c3 c4 half epoch count' count' a w') (hI : Inv d') (hl : d'.S.length = d.S.length) (ho : d'.ops ≤ d.ops + 25) (hC : d'.C.length ≤ d.C.length + 4) (hc : count' ≤ halfV n) : PS w0 b gw n (K + 1) w' :=
  ⟨F', Q', d', A3, A4, c3, c4, bj, half, epoch, count', ⟨q.jx, q.jj, hI, hl.trans h.len, h.h1, h.h2, h.h3, hc, by have := h.ops; omega, by have := h.few; omega, q.kp, q.sub⟩⟩
theorem DJ.same (h : DJ w0 F Q b gw bj ga d d A1 A2 c1 c2 half epoch count count a w) (q : WP F Q b gw d' (.pointer (some ⟨bj, 0, none⟩)) half epoch count w w') (hn : d.S.length = n) (hI : Inv d') (hl : d'.S.length = d.S.length) (h1 : half ≤ 1) (h2 : 1 ≤ epoch) (h3 : epoch ≤ 4294967295) (h4 : count ≤ halfV n) (ho : d'.ops ≤ 25 * (K + 1)) (hC : d'.C.length ≤ 4 * (K + 1)) : PS w0 b gw n (K + 1) w' := by
  obtain ⟨F', Q', A3, A4, c3, c4, hx, hF, hQ, hk⟩ := q
  have l2 := h.jj.jn.lt
  refine ⟨F', Q', d', A3, A4, c3, c4, bj, half, epoch, count, ⟨hx, h.jj.mv (hk.block _ l2 ⟨h.jj.inF, h.jj.ne⟩) (hF _ h.jj.inF) (fun z => ?_), hI, hl.trans hn, h1, h2, h3, h4, ho, hC, kp_low h.kp hk (fun j hj => ⟨(h.sub j hj).1, (h.sub j hj).2.1⟩), fun j hj => ⟨hF _ (h.sub j hj).1, (h.sub j hj).2⟩⟩⟩
  rcases hQ _ z with z | z
  · exact h.jj.outQ z
  · omega
theorem DJ.new {half' epoch' count' : Nat} (h : DJ w0 F Q b gw bj ga d d A1 A2 c1 c2 half epoch count count a w) (q : WN F Q b gw d' half' epoch' count' w w') (hn : d.S.length = n) (hI : Inv d') (hl : d'.S.length = d.S.length) (h1 : half' ≤ 1) (h2 : 1 ≤ epoch') (h3 : epoch' ≤ 4294967295) (h4 : count' ≤ halfV n) (ho : d'.ops ≤ 25 * (K + 1)) (hC : d'.C.length ≤ 4 * (K + 1)) : PS w0 b gw n (K + 1) w' := by
  obtain ⟨F', Q', A3, A4, c3, c4, hx, hF, hQ, hk, hF2, hQ2, hj⟩ := q
  have lw := h.jx.lt
  have lt := h.jx.tab.lt
  have ls := h.kp.size
  exact ⟨F', Q', d', A3, A4, c3, c4, w.heap.size, half', epoch', count', ⟨hx, ⟨hj, hF2, hQ2, by omega, by omega⟩, hI, hl.trans hn, h1, h2, h3, h4, ho, hC, kp_low h.kp hk (fun j hj => ⟨(h.sub j hj).1, (h.sub j hj).2.1⟩), fun j hj => ⟨hF _ (h.sub j hj).1, (h.sub j hj).2.1, by omega⟩⟩⟩
end
end Go.Proofs.YtfbakelpplpomaaGreatDoor.Disk
/-
  JournalPlays: the cells of a call.
-/
namespace Go.Proofs.YtfbakelpplpomaaGreatDoor.Disk
open Go.RowKit Go.Proofs.YtfbakelpplpomaaGreatDoor.DiskRows Go.Proofs.YtfbakelpplpomaaGreatDoor.WalkCrc
open Pl.Seat (Rec isR)
set_option linter.unusedVariables false
set_option linter.unusedSimpArgs false
set_option maxRecDepth 100000

section
variable {w0 : World} {F Q : Nat → Prop} {b gw bj ga : Nat} {d r : Dk} {A1 A2 : Option Addr} {c1 c2 half epoch cj cw : Nat} {kd nn hf ep re rq rk : Int} {rN rO rM : ByteArray} {rt ru : Int} {txt : ByteArray} {ka : Option Addr} {kl kc : Nat} {w : World}
theorem DJ.acts (h : DJ w0 F Q b gw bj ga d r A1 A2 c1 c2 half epoch cj cw ⟨kd, nn, hf, ep, ⟨re, rq, rk, rN, rO, rM, rt, ru⟩, txt, ka, kl, kc⟩ w) : w.cell? ⟨ga, 0, none⟩ = some (.int .i64 kd) ∧ w.cell? ⟨ga, 1, none⟩ = some (.int .i64 nn) ∧ w.cell? ⟨ga, 2, none⟩ = some (.int .i64 hf) ∧ w.cell? ⟨ga, 3, none⟩ = some (.int .i64 ep) ∧ w.cell? ⟨ga, 4, none⟩ = some (.int .i64 re) ∧ w.cell? ⟨ga, 5, none⟩ = some (.int .i64 rq) ∧ w.cell? ⟨ga, 6, none⟩ = some (.int .i64 rk) ∧ w.cell? ⟨ga, 7, none⟩ = some (.string rN) ∧ w.cell? ⟨ga, 8, none⟩ = some (.string rO) ∧ w.cell? ⟨ga, 9, none⟩ = some (.string rM) ∧ w.cell? ⟨ga, 10, none⟩ = some (.int .i64 rt) ∧ w.cell? ⟨ga, 11, none⟩ = some (.int .i64 ru) ∧ w.cell? ⟨ga, 12, none⟩ = some (.string txt) ∧ w.cell? ⟨ga, 13, none⟩ = some (.slice ka kl kc) :=
  ⟨(cell_of_row w _ 0 _ _ _ h.act).trans rfl, (cell_of_row w _ 1 _ _ _ h.act).trans rfl, (cell_of_row w _ 2 _ _ _ h.act).trans rfl, (cell_of_row w _ 3 _ _ _ h.act).trans rfl, (cell_of_row w _ 4 _ _ _ h.act).trans rfl, (cell_of_row w _ 5 _ _ _ h.act).trans rfl, (cell_of_row w _ 6 _ _ _ h.act).trans rfl, (cell_of_row w _ 7 _ _ _ h.act).trans rfl, (cell_of_row w _ 8 _ _ _ h.act).trans rfl, (cell_of_row w _ 9 _ _ _ h.act).trans rfl, (cell_of_row w _ 10 _ _ _ h.act).trans rfl, (cell_of_row w _ 11 _ _ _ h.act).trans rfl, (cell_of_row w _ 12 _ _ _ h.act).trans rfl, (cell_of_row w _ 13 _ _ _ h.act).trans rfl⟩
theorem DJ.s1 (h : DJ w0 F Q b gw bj ga d r A1 A2 c1 c2 half epoch cj cw ⟨kd, nn, hf, ep, ⟨re, rq, rk, rN, rO, rM, rt, ru⟩, txt, ka, kl, kc⟩ w) : w.cell? ⟨gw, 7, none⟩ = some (.int .i64 (half : Nat)) ∧ w.cell? ⟨gw, 8, none⟩ = some (.int .i64 (epoch : Nat)) ∧ w.cell? ⟨gw, 9, none⟩ = some (.int .i64 (cw : Nat)) ∧ w.cell? ⟨ga, 4, none⟩ = some (.int .i64 re) ∧ w.cell? ⟨ga, 5, none⟩ = some (.int .i64 rq) ∧ w.cell? ⟨ga, 6, none⟩ = some (.int .i64 rk) ∧ w.cell? ⟨ga, 7, none⟩ = some (.string rN) ∧ w.cell? ⟨ga, 8, none⟩ = some (.string rO) ∧ w.cell? ⟨ga, 9, none⟩ = some (.string rM) ∧ w.cell? ⟨ga, 10, none⟩ = some (.int .i64 rt) ∧ w.cell? ⟨ga, 11, none⟩ = some (.int .i64 ru) := by
  obtain ⟨⟨x0, x1, x2, x3, x4, x5, x6, x7, x8, x9⟩, -⟩ := h.jx.cells
  obtain ⟨y0, y1, y2, y3, y4, y5, y6, y7, y8, y9, y10, y11, y12, y13⟩ := h.acts
  exact ⟨x7, x8, x9, y4, y5, y6, y7, y8, y9, y10, y11⟩
theorem DJ.s1b (h : DJ w0 F Q b gw bj ga d r A1 A2 c1 c2 half epoch cj cw ⟨kd, nn, hf, ep, ⟨re, rq, rk, rN, rO, rM, rt, ru⟩, txt, ka, kl, kc⟩ w) : w.cell? ⟨gw, 1, none⟩ = some (.pointer (some ⟨bj, 0, none⟩)) ∧ w.cell? ⟨ga, 4, none⟩ = some (.int .i64 re) ∧ w.cell? ⟨ga, 5, none⟩ = some (.int .i64 rq) ∧ w.cell? ⟨ga, 6, none⟩ = some (.int .i64 rk) ∧ w.cell? ⟨ga, 7, none⟩ = some (.string rN) ∧ w.cell? ⟨ga, 8, none⟩ = some (.string rO) ∧ w.cell? ⟨ga, 9, none⟩ = some (.string rM) ∧ w.cell? ⟨ga, 10, none⟩ = some (.int .i64 rt) ∧ w.cell? ⟨ga, 11, none⟩ = some (.int .i64 ru) := by
  obtain ⟨⟨x0, x1, x2, x3, x4, x5, x6, x7, x8, x9⟩, -⟩ := h.jx.cells
  obtain ⟨y0, y1, y2, y3, y4, y5, y6, y7, y8, y9, y10, y11, y12, y13⟩ := h.acts
  exact ⟨x1, y4, y5, y6, y7, y8, y9, y10, y11⟩
theorem DJ.s2 (h : DJ w0 F Q b gw bj ga d r A1 A2 c1 c2 half epoch cj cw ⟨kd, nn, hf, ep, ⟨re, rq, rk, rN, rO, rM, rt, ru⟩, txt, ka, kl, kc⟩ w) : w.cell? ⟨ga, 1, none⟩ = some (.int .i64 nn) := by
  obtain ⟨⟨x0, x1, x2, x3, x4, x5, x6, x7, x8, x9⟩, -⟩ := h.jx.cells
  obtain ⟨y0, y1, y2, y3, y4, y5, y6, y7, y8, y9, y10, y11, y12, y13⟩ := h.acts
  exact y1
theorem DJ.s2b (h : DJ w0 F Q b gw bj ga d r A1 A2 c1 c2 half epoch cj cw ⟨kd, nn, hf, ep, ⟨re, rq, rk, rN, rO, rM, rt, ru⟩, txt, ka, kl, kc⟩ w) : w.cell? ⟨gw, 0, none⟩ = some (.pointer (some ⟨b, 0, none⟩)) ∧ w.cell? ⟨ga, 1, none⟩ = some (.int .i64 nn) := by
  obtain ⟨⟨x0, x1, x2, x3, x4, x5, x6, x7, x8, x9⟩, -⟩ := h.jx.cells
  obtain ⟨y0, y1, y2, y3, y4, y5, y6, y7, y8, y9, y10, y11, y12, y13⟩ := h.acts
  exact ⟨x0, y1⟩
theorem DJ.s3 (h : DJ w0 F Q b gw bj ga d r A1 A2 c1 c2 half epoch cj cw ⟨kd, nn, hf, ep, ⟨re, rq, rk, rN, rO, rM, rt, ru⟩, txt, ka, kl, kc⟩ w) : w.cell? ⟨ga, 13, none⟩ = some (.slice ka kl kc) := by
  obtain ⟨⟨x0, x1, x2, x3, x4, x5, x6, x7, x8, x9⟩, -⟩ := h.jx.cells
  obtain ⟨y0, y1, y2, y3, y4, y5, y6, y7, y8, y9, y10, y11, y12, y13⟩ := h.acts
  exact y13
theorem DJ.s3b (h : DJ w0 F Q b gw bj ga d r A1 A2 c1 c2 half epoch cj cw ⟨kd, nn, hf, ep, ⟨re, rq, rk, rN, rO, rM, rt, ru⟩, txt, ka, kl, kc⟩ w) : w.cell? ⟨gw, 0, none⟩ = some (.pointer (some ⟨b, 0, none⟩)) ∧ w.cell? ⟨ga, 13, none⟩ = some (.slice ka kl kc) := by
  obtain ⟨⟨x0, x1, x2, x3, x4, x5, x6, x7, x8, x9⟩, -⟩ := h.jx.cells
  obtain ⟨y0, y1, y2, y3, y4, y5, y6, y7, y8, y9, y10, y11, y12, y13⟩ := h.acts
  exact ⟨x0, y13⟩
theorem DJ.s3c (h : DJ w0 F Q b gw bj ga d r A1 A2 c1 c2 half epoch cj cw ⟨kd, nn, hf, ep, ⟨re, rq, rk, rN, rO, rM, rt, ru⟩, txt, ka, kl, kc⟩ w) : w.cell? ⟨gw, 7, none⟩ = some (.int .i64 (half : Nat)) ∧ w.cell? ⟨gw, 8, none⟩ = some (.int .i64 (epoch : Nat)) := by
  obtain ⟨⟨x0, x1, x2, x3, x4, x5, x6, x7, x8, x9⟩, -⟩ := h.jx.cells
  obtain ⟨y0, y1, y2, y3, y4, y5, y6, y7, y8, y9, y10, y11, y12, y13⟩ := h.acts
  exact ⟨x7, x8⟩
theorem DJ.s4 (h : DJ w0 F Q b gw bj ga d r A1 A2 c1 c2 half epoch cj cw ⟨kd, nn, hf, ep, ⟨re, rq, rk, rN, rO, rM, rt, ru⟩, txt, ka, kl, kc⟩ w) : w.cell? ⟨ga, 1, none⟩ = some (.int .i64 nn) ∧ w.cell? ⟨ga, 12, none⟩ = some (.string txt) := by
  obtain ⟨⟨x0, x1, x2, x3, x4, x5, x6, x7, x8, x9⟩, -⟩ := h.jx.cells
  obtain ⟨y0, y1, y2, y3, y4, y5, y6, y7, y8, y9, y10, y11, y12, y13⟩ := h.acts
  exact ⟨y1, y12⟩
theorem DJ.s4b (h : DJ w0 F Q b gw bj ga d r A1 A2 c1 c2 half epoch cj cw ⟨kd, nn, hf, ep, ⟨re, rq, rk, rN, rO, rM, rt, ru⟩, txt, ka, kl, kc⟩ w) : w.cell? ⟨gw, 0, none⟩ = some (.pointer (some ⟨b, 0, none⟩)) ∧ w.cell? ⟨ga, 1, none⟩ = some (.int .i64 nn) ∧ w.cell? ⟨ga, 12, none⟩ = some (.string txt) := by
  obtain ⟨⟨x0, x1, x2, x3, x4, x5, x6, x7, x8, x9⟩, -⟩ := h.jx.cells
  obtain ⟨y0, y1, y2, y3, y4, y5, y6, y7, y8, y9, y10, y11, y12, y13⟩ := h.acts
  exact ⟨x0, y1, y12⟩
end
/-- the load of the document's disk, under a name of its own: a drawn region is not to take it first -/
def qL (n : Nat) : Op := Op.load 54 (Operand.tmp n)
attribute [go_sem] qL
end Go.Proofs.YtfbakelpplpomaaGreatDoor.Disk
