/-
  JournalPlays: the walk of the document's Append.
-/
import Derived.Test.YtfbakelpplpomaaGreatDoorJplH
namespace Go.Proofs.YtfbakelpplpomaaGreatDoor.Disk
open Go.RowKit Go.Proofs.YtfbakelpplpomaaGreatDoor.DiskRows Go.Proofs.YtfbakelpplpomaaGreatDoor.WalkCrc
open Go.Proofs.YtfbakelpplpomaaGreatDoor.WalkSeat (putRV isRB isRV takeRB takeRV)
open Pl.Seat (Rec isR)
set_option linter.unusedVariables false
set_option linter.unusedSimpArgs false
set_option maxRecDepth 100000

/-- how Append stands: the document's disk d1 in its block, its rows in A1, A2 -/
structure As (w : World) (A A' : Option Addr) (d0 : Dk) (e q k : Int) (N O M : ByteArray) (t u : Int) (d1 : Dk) (A1 A2 : Option Addr) (c1 c2 : Nat) (W : World) : Prop where
  ax : Ax w (.slice A1 d1.S.length c1) (.slice A2 d1.C.length c2) (.int .i64 (d1.armed : Nat)) (.bool d1.down) (.int .i64 (d1.ops : Nat)) e q k N O M t u W
  new : RNew w W A A' A1 A2 d0 d1
  away : Away w A1 A2 d1
section
variable {w W W' W'' : World} {A A' A1 A2 A3 A4 : Option Addr} {d0 d1 d2 : Dk} {c1 c2 c3 c4 : Nat} {e q k : Int} {N O M : ByteArray} {t u : Int}
theorem As.later (h : As w A A' d0 e q k N O M t u d1 A1 A2 c1 c2 W) (b : Below W.heap.size W W') : As w A A' d0 e q k N O M t u d1 A1 A2 c1 c2 W' := ⟨h.ax.later b, h.new.later b, h.away⟩
theorem As.rat (h : As w A A' d0 e q k N O M t u d1 A1 A2 c1 c2 W) : RAt W A1 A2 d1 := h.new.rows
theorem As.step (h : As w A A' d0 e q k N O M t u d1 A1 A2 c1 c2 W) (n : RNew W W' A1 A2 A3 A4 d1 d2) (b : Below W.heap.size W W') : As w A A' d0 e q k N O M t u d2 A3 A4 c3 c4 (put5 w W' (.slice A3 d2.S.length c3) (.slice A4 d2.C.length c4) (.int .i64 (d2.armed : Nat)) (.bool d2.down) (.int .i64 (d2.ops : Nat))) := by
  have hl := h.ax.lt
  have ha := h.away.new hl n
  exact ⟨(h.ax.later b).put _ _ _ _ _, (h.new.trans n h.ax.bel.size).of (n.rows.mv ha w.heap.size ⟨Nat.le_refl _, by omega⟩ (Nat.le_of_eq put5_size.symm) (fun g hg => put5_other hg)), ha⟩
theorem As.rec0 (h : As w A A' d0 e q k N O M t u d1 A1 A2 c1 c2 W) (v : Int) : As w A A' d0 v q k N O M t u d1 A1 A2 c1 c2 (W.setCell ⟨w.heap.size + 1, 0, none⟩ (.int .i64 v)) :=
  ⟨h.ax.rec0 v, h.new.of (h.rat.mv h.away (w.heap.size + 1) ⟨by omega, by omega⟩ (by simp [World.setCell]) (fun g hg => Below.heap_setCell _ _ _ _ hg)), h.away⟩
theorem As.rec1 (h : As w A A' d0 e q k N O M t u d1 A1 A2 c1 c2 W) (v : Int) : As w A A' d0 e v k N O M t u d1 A1 A2 c1 c2 (W.setCell ⟨w.heap.size + 1, 1, none⟩ (.int .i64 v)) :=
  ⟨h.ax.rec1 v, h.new.of (h.rat.mv h.away (w.heap.size + 1) ⟨by omega, by omega⟩ (by simp [World.setCell]) (fun g hg => Below.heap_setCell _ _ _ _ hg)), h.away⟩
theorem As.start (h : RAt w A A' d0) (c c' : Nat) (e q k : Int) (N O M : ByteArray) (t u : Int) : As w A A' d0 e q k N O M t u d0 A A' c c' (((w.alloc (.cells #[.slice A d0.S.length c, .slice A' d0.C.length c', .int .i64 (d0.armed : Nat), .bool d0.down, .int .i64 (d0.ops : Nat)] 54)).alloc (.cells #[.int .i64 e, .int .i64 q, .int .i64 k, .string N, .string O, .string M, .int .i64 t, .int .i64 u] 24)).alloc (.cells #[.slice none 0 0, .slice none 0 0, .int .i64 0, .bool false, .int .i64 0] 54)) :=
  have hx := Ax.start w (.slice A d0.S.length c) (.slice A' d0.C.length c') (.int .i64 (d0.armed : Nat)) (.bool d0.down) (.int .i64 (d0.ops : Nat)) e q k N O M t u
  ⟨hx, RNew.refl h hx.bel, Away.start h⟩
end
/-- what Append answers -/
def ARes (w : World) (A A' : Option Addr) (d d1 : Dk) (e : Int) (x : Ending) (w' : World) : Prop := (∃ A1 c1 A2 c2, x = .returned (.tuple #[.agg #[.slice A1 d1.S.length c1, .slice A2 d1.C.length c2, .int .i64 (d1.armed : Nat), .bool d1.down, .int .i64 (d1.ops : Nat)], .int .i64 e]) ∧ RNew w w' A A' A1 A2 d d1) ∧ Below w.heap.size w w'
theorem ARes.mk {w : World} {A A' A1 A2 : Option Addr} {c1 c2 : Nat} {d d1 : Dk} {e : Int} {x : Ending} {w' : World} (h : x = .returned (.tuple #[.agg #[.slice A1 d1.S.length c1, .slice A2 d1.C.length c2, .int .i64 (d1.armed : Nat), .bool d1.down, .int .i64 (d1.ops : Nat)], .int .i64 e])) (n : RNew w w' A A' A1 A2 d d1) (b : Below w.heap.size w w') : ARes w A A' d d1 e x w' := ⟨⟨A1, c1, A2, c2, h, n⟩, b⟩
theorem refWrite_at (A A' : Option Addr) (c c' : Nat) (d d1 : Dk) (i : Int) (s : ByteArray) (e1 : Int) (W : World) (v0 v1 v2 v3 v4 : Value) (h0 : v0 = .slice A d.S.length c) (h1 : v1 = .slice A' d.C.length c') (h2 : v2 = .int .i64 (d.armed : Nat)) (h3 : v3 = .bool d.down) (h4 : v4 = .int .i64 (d.ops : Nat)) (hA : RAt W A A' d) (hk : d.Ok) (ho : d.ops < 1000000000000) (hsz : (s.size : Int) ≤ 9223372036854775807) (hr : d.write i s = (d1, e1)) :
    Calls Tryz.prog 76 #[.agg #[v0, v1, v2, v3, v4], .int .i64 i, .string s] W fun x w' =>
      (∃ A1 c1 A2 c2, x = .returned (.tuple #[.agg #[.slice A1 d1.S.length c1, .slice A2 d1.C.length c2, .int .i64 (d1.armed : Nat), .bool d1.down, .int .i64 (d1.ops : Nat)], .int .i64 e1]) ∧ RNew W w' A A' A1 A2 d d1) ∧ Below W.heap.size W w' := by
  subst h0 h1 h2 h3 h4
  have := refWrite_any A A' c c' d i s W hA hk ho hsz
  rw [hr] at this
  exact this
theorem refFlush_at (A A' : Option Addr) (c c' : Nat) (d d1 : Dk) (e1 : Int) (W : World) (hA : RAt W A A' d) (hk : d.Ok) (ho : d.ops < 1000000000000) (hr : d.flush = (d1, e1)) :
    Calls Tryz.prog 78 #[.agg #[.slice A d.S.length c, .slice A' d.C.length c', .int .i64 (d.armed : Nat), .bool d.down, .int .i64 (d.ops : Nat)]] W fun x w' =>
      (∃ A1 c1 A2 c2, x = .returned (.tuple #[.agg #[.slice A1 d1.S.length c1, .slice A2 d1.C.length c2, .int .i64 (d1.armed : Nat), .bool d1.down, .int .i64 (d1.ops : Nat)], .int .i64 e1]) ∧ RNew W w' A A' A1 A2 d d1) ∧ Below W.heap.size W w' := by
  have := refFlush_any A A' c c' d W hA hk ho
  rw [hr] at this
  exact this
theorem As.fin {w W : World} {A A' A1 A2 : Option Addr} {d0 d1 : Dk} {c1 c2 : Nat} {e q k : Int} {N O M : ByteArray} {t u : Int} (h : As w A A' d0 e q k N O M t u d1 A1 A2 c1 c2 W) (u0 u1 u2 u3 u4 : Value) :
    RNew w (((((W.setCell ⟨w.heap.size + 2, 0, none⟩ u0).setCell ⟨w.heap.size + 2, 1, none⟩ u1).setCell ⟨w.heap.size + 2, 2, none⟩ u2).setCell ⟨w.heap.size + 2, 3, none⟩ u3).setCell ⟨w.heap.size + 2, 4, none⟩ u4) A A' A1 A2 d0 d1 := by
  obtain ⟨-, hk, hs, -⟩ := h.ax.fin u0 u1 u2 u3 u4
  exact h.new.of (h.rat.mv h.away (w.heap.size + 2) ⟨by omega, by omega⟩ hs hk)
theorem As.last {w W W' : World} {A A' A1 A2 A3 A4 : Option Addr} {d0 d1 d2 : Dk} {c1 c2 : Nat} {e q k : Int} {N O M : ByteArray} {t u : Int} (h : As w A A' d0 e q k N O M t u d1 A1 A2 c1 c2 W) (n : RNew W W' A1 A2 A3 A4 d1 d2) (b : Below W.heap.size W W') (u0 u1 u2 u3 u4 : Value) :
    RNew w (((((W'.setCell ⟨w.heap.size + 2, 0, none⟩ u0).setCell ⟨w.heap.size + 2, 1, none⟩ u1).setCell ⟨w.heap.size + 2, 2, none⟩ u2).setCell ⟨w.heap.size + 2, 3, none⟩ u3).setCell ⟨w.heap.size + 2, 4, none⟩ u4) A A' A3 A4 d0 d2 := by
  obtain ⟨-, hk, hs, -⟩ := (h.ax.later b).fin u0 u1 u2 u3 u4
  have ha := h.away.new h.ax.lt n
  exact (h.new.trans n h.ax.bel.size).of (n.rows.mv ha (w.heap.size + 2) ⟨by omega, by omega⟩ hs hk)
theorem refAppend_bad (A A' : Option Addr) (c c' : Nat) (d : Dk) (half epoch count : Nat) (e q k : Int) (N O M : ByteArray) (t u : Int) (w : World) (hA : RAt w A A' d) (hk : d.Ok) (hh : half ≤ 1) (hc : count ≤ halfV d.S.length) (ho : d.ops ≤ 800000) (hC : d.C.length ≤ 30000) (hN : N.size ≤ 1048576) (hI : isR (WalkSeat.rc epoch count k N O M t u) = false) :
    Calls Tryz.prog 50 #[.agg (rc (.slice A d.S.length c) (.slice A' d.C.length c') d).toArray, .int .i64 half, .int .i64 epoch, .int .i64 count, .agg #[.int .i64 e, .int .i64 q, .int .i64 k, .string N, .string O, .string M, .int .i64 t, .int .i64 u]] w (ARes w A A' d d 2) := by
  have hs := As.start hA c c' e q k N O M t u
  obtain ⟨h, hh'⟩ : ∃ h, halfV d.S.length = h := ⟨_, rfl⟩
  have hn16 : 16 ≤ d.S.length ∧ d.S.length ≤ 4096 := ⟨hk.pos, hk.most⟩
  have hhb : h ≤ 4096 ∧ 7 ≤ h := by rw [← hh']; unfold halfV; omega
  rw [hh'] at hc
  have HI := Lib.hid (fun W => WalkSeat.refRec_at epoch count k N O M t u false W hN hI)
  have HH := Lib.hid (fun W => refHalf_ok d.S.length h W hn16 hh')
  have HS := Lib.hid hs
  have hhi : (h : Int) ≤ 4096 := by omega
  have hci : (count : Int) ≤ 4096 := by omega
  have hni : (d.S.length : Int) ≤ 4096 := by omega
  clear hA hk hh hc ho hC hN hh' hn16 hhb hI HH
  dsimp only [rc]
  go_enter Tryz.func50, Tryz.ntmps50
  go_upto_region 1 with fail
  generalize World.alloc (World.alloc (World.alloc w _) _) _ = W at *
  obtain ⟨⟨x0, x1, x2, x3, x4⟩, f⟩ := HS.out.ax.cells
  have f0 := f 0
  have f1 := f 1
  have f2 := f 2
  have f3 := f 3
  have f4 := f 4
  clear f
  obtain ⟨⟨y0, y1, y2, y3, y4, y5, y6, y7⟩, f⟩ := HS.out.ax.recs
  have g0 := f 0
  have g1 := f 1
  clear f
  clear hs
  go_upto_region 4 with fail
  have H4 := Lib.hid ((HS.out.rec0 epoch).rec1 count)
  clear x0 x1 x2 x3 x4 f0 f1 f2 f3 f4 y0 y1 y2 y3 y4 y5 y6 y7 g0 g1
  generalize World.setCell (World.setCell W _ _) _ _ = W4 at *
  obtain ⟨⟨x0, x1, x2, x3, x4⟩, f⟩ := H4.out.ax.cells
  have f0 := f 0
  have f1 := f 1
  have f2 := f 2
  have f3 := f 3
  have f4 := f 4
  clear f
  obtain ⟨⟨y0, y1, y2, y3, y4, y5, y6, y7⟩, f⟩ := H4.out.ax.recs
  have g0 := f 0
  have g1 := f 1
  clear f
  go_wp2_with fail
  refine (HI.out _).mono ?_
  rintro x w5 ⟨rfl, b5⟩
  have H5 := Lib.hid (H4.out.later b5)
  clear x0 x1 x2 x3 x4 f0 f1 f2 f3 f4 y0 y1 y2 y3 y4 y5 y6 y7 g0 g1
  go_upto_region 5 with fail
  obtain ⟨⟨x0, x1, x2, x3, x4⟩, f⟩ := H5.out.ax.cells
  have f0 := f 0
  have f1 := f 1
  have f2 := f 2
  have f3 := f 3
  have f4 := f 4
  clear f
  obtain ⟨⟨z0, z1, z2, z3, z4⟩, f⟩ := H5.out.ax.ress
  have h0 := f 0
  have h1 := f 1
  have h2 := f 2
  have h3 := f 3
  have h4 := f 4
  clear f
  go_wp2
  obtain ⟨⟨e0, e1', e2', e3', e4'⟩, -, -, b9⟩ := H5.out.ax.fin (.slice A d.S.length c) (.slice A' d.C.length c') (.int .i64 (d.armed : Nat)) (.bool d.down) (.int .i64 (d.ops : Nat))
  have hf := H5.out.fin (.slice A d.S.length c) (.slice A' d.C.length c') (.int .i64 (d.armed : Nat)) (.bool d.down) (.int .i64 (d.ops : Nat))
  refine bodyPost_ret (by simp [results, Tryz.results50, go_sem, e0, e1', e2', e3', e4']; try rfl) rfl ?_
  exact ARes.mk rfl hf b9
theorem refAppend_full (A A' : Option Addr) (c c' : Nat) (d : Dk) (half epoch count : Nat) (e q k : Int) (N O M : ByteArray) (t u : Int) (w : World) (hA : RAt w A A' d) (hk : d.Ok) (hh : half ≤ 1) (hc : count ≤ halfV d.S.length) (ho : d.ops ≤ 800000) (hC : d.C.length ≤ 30000) (hN : N.size ≤ 1048576) (hI : isR (WalkSeat.rc epoch count k N O M t u) = true) (hfl : halfV d.S.length ≤ count + 1) :
    Calls Tryz.prog 50 #[.agg (rc (.slice A d.S.length c) (.slice A' d.C.length c') d).toArray, .int .i64 half, .int .i64 epoch, .int .i64 count, .agg #[.int .i64 e, .int .i64 q, .int .i64 k, .string N, .string O, .string M, .int .i64 t, .int .i64 u]] w (ARes w A A' d d 6) := by
  have hs := As.start hA c c' e q k N O M t u
  obtain ⟨h, hh'⟩ : ∃ h, halfV d.S.length = h := ⟨_, rfl⟩
  have hn16 : 16 ≤ d.S.length ∧ d.S.length ≤ 4096 := ⟨hk.pos, hk.most⟩
  have hhb : h ≤ 4096 ∧ 7 ≤ h := by rw [← hh']; unfold halfV; omega
  rw [hh'] at hc
  have HI := Lib.hid (fun W => WalkSeat.refRec_at epoch count k N O M t u true W hN hI)
  have HH := Lib.hid (fun W => refHalf_ok d.S.length h W hn16 hh')
  have HS := Lib.hid hs
  have hhi : (h : Int) ≤ 4096 := by omega
  have hci : (count : Int) ≤ 4096 := by omega
  have hni : (d.S.length : Int) ≤ 4096 := by omega
  rw [hh'] at hfl
  have hge : (h : Int) ≤ (count : Int) + 1 := by omega
  have hw : IntKind.i64.wrap ((count : Int) + 1) = (count : Int) + 1 := by rw [IntKind.wrap_i64]; omega
  clear hA hk hh hc ho hC hN hh' hn16 hhb hI hfl
  dsimp only [rc]
  go_enter Tryz.func50, Tryz.ntmps50
  go_upto_region 1 with fail
  generalize World.alloc (World.alloc (World.alloc w _) _) _ = W at *
  obtain ⟨⟨x0, x1, x2, x3, x4⟩, f⟩ := HS.out.ax.cells
  have f0 := f 0
  have f1 := f 1
  have f2 := f 2
  have f3 := f 3
  have f4 := f 4
  clear f
  obtain ⟨⟨y0, y1, y2, y3, y4, y5, y6, y7⟩, f⟩ := HS.out.ax.recs
  have g0 := f 0
  have g1 := f 1
  clear f
  clear hs
  go_upto_region 4 with fail
  have H4 := Lib.hid ((HS.out.rec0 epoch).rec1 count)
  clear x0 x1 x2 x3 x4 f0 f1 f2 f3 f4 y0 y1 y2 y3 y4 y5 y6 y7 g0 g1
  generalize World.setCell (World.setCell W _ _) _ _ = W4 at *
  obtain ⟨⟨x0, x1, x2, x3, x4⟩, f⟩ := H4.out.ax.cells
  have f0 := f 0
  have f1 := f 1
  have f2 := f 2
  have f3 := f 3
  have f4 := f 4
  clear f
  obtain ⟨⟨y0, y1, y2, y3, y4, y5, y6, y7⟩, f⟩ := H4.out.ax.recs
  have g0 := f 0
  have g1 := f 1
  clear f
  go_wp2_with fail
  refine (HI.out _).mono ?_
  rintro x w5 ⟨rfl, b5⟩
  have H5 := Lib.hid (H4.out.later b5)
  clear x0 x1 x2 x3 x4 f0 f1 f2 f3 f4 y0 y1 y2 y3 y4 y5 y6 y7 g0 g1
  go_upto_region 6 with fail
  go_wp2_with fail
  refine (HH.out _).mono ?_
  rintro x w6 ⟨rfl, rfl⟩
  go_upto_region 7 with fail
  obtain ⟨⟨x0, x1, x2, x3, x4⟩, f⟩ := H5.out.ax.cells
  have f0 := f 0
  have f1 := f 1
  have f2 := f 2
  have f3 := f 3
  have f4 := f 4
  clear f
  obtain ⟨⟨z0, z1, z2, z3, z4⟩, f⟩ := H5.out.ax.ress
  have h0 := f 0
  have h1 := f 1
  have h2 := f 2
  have h3 := f 3
  have h4 := f 4
  clear f
  go_wp2
  obtain ⟨⟨e0, e1', e2', e3', e4'⟩, -, -, b9⟩ := H5.out.ax.fin (.slice A d.S.length c) (.slice A' d.C.length c') (.int .i64 (d.armed : Nat)) (.bool d.down) (.int .i64 (d.ops : Nat))
  have hf := H5.out.fin (.slice A d.S.length c) (.slice A' d.C.length c') (.int .i64 (d.armed : Nat)) (.bool d.down) (.int .i64 (d.ops : Nat))
  refine bodyPost_ret (by simp [results, Tryz.results50, go_sem, e0, e1', e2', e3', e4']; try rfl) rfl ?_
  exact ARes.mk rfl hf b9
set_option maxHeartbeats 32000000 in
theorem refAppend_go (A A' : Option Addr) (c c' : Nat) (d : Dk) (half epoch count : Nat) (e q k : Int) (N O M : ByteArray) (t u : Int) (w : World) (hA : RAt w A A' d) (hk : d.Ok) (hh : half ≤ 1) (hc : count ≤ halfV d.S.length) (ho : d.ops ≤ 800000) (hC : d.C.length ≤ 30000) (hN : N.size ≤ 1048576) (hI : isR (WalkSeat.rc epoch count k N O M t u) = true) (hlt : count + 1 < halfV d.S.length) (Q : Dk × Int) (hQ : jput d (placeV d.S.length half (count + 1)) (placeV d.S.length half count) (bs (zeros 128)) (WalkVar.bs (putRV (WalkSeat.rc epoch count k N O M t u))) = Q) :
    Calls Tryz.prog 50 #[.agg (rc (.slice A d.S.length c) (.slice A' d.C.length c') d).toArray, .int .i64 half, .int .i64 epoch, .int .i64 count, .agg #[.int .i64 e, .int .i64 q, .int .i64 k, .string N, .string O, .string M, .int .i64 t, .int .i64 u]] w (ARes w A A' d Q.1 Q.2) := by
  have hs := As.start hA c c' e q k N O M t u
  obtain ⟨h, hh'⟩ : ∃ h, halfV d.S.length = h := ⟨_, rfl⟩
  have hn16 : 16 ≤ d.S.length ∧ d.S.length ≤ 4096 := ⟨hk.pos, hk.most⟩
  have hhb : h ≤ 4096 ∧ 7 ≤ h := by rw [← hh']; unfold halfV; omega
  rw [hh'] at hc
  have HI := Lib.hid (fun W => WalkSeat.refRec_at epoch count k N O M t u true W hN hI)
  have HH := Lib.hid (fun W => refHalf_ok d.S.length h W hn16 hh')
  have HS := Lib.hid hs
  have hhi : (h : Int) ≤ 4096 := by omega
  have hci : (count : Int) ≤ 4096 := by omega
  have hni : (d.S.length : Int) ≤ 4096 := by omega
  obtain ⟨p0, hp0⟩ : ∃ p, placeV d.S.length half (count + 1) = p := ⟨_, rfl⟩
  obtain ⟨p1, hp1⟩ : ∃ p, placeV d.S.length half count = p := ⟨_, rfl⟩
  obtain ⟨z, hz⟩ : ∃ z, bs (zeros 128) = z := ⟨_, rfl⟩
  obtain ⟨P, hP⟩ : ∃ P, putRV (WalkSeat.rc epoch count k N O M t u) = P := ⟨_, rfl⟩
  obtain ⟨s, hs'⟩ : ∃ s, WalkVar.bs P = s := ⟨_, rfl⟩
  have hz128 : z.size = 128 := by rw [← hz, bs_size]; simp [zeros]
  have hs128 : s.size = 128 := by rw [← hs', ← hP]; exact putRV_size _ hI
  rw [hp0, hp1, hz, hP, hs'] at hQ
  obtain ⟨⟨d1, e1⟩, hr1⟩ : ∃ R, d.write p0 z = R := ⟨_, rfl⟩
  obtain ⟨⟨d2, e2⟩, hr2⟩ : ∃ R, d1.flush = R := ⟨_, rfl⟩
  obtain ⟨⟨d3, e3⟩, hr3⟩ : ∃ R, d2.write p1 s = R := ⟨_, rfl⟩
  obtain ⟨⟨d4, e4⟩, hr4⟩ : ∃ R, d3.flush = R := ⟨_, rfl⟩
  have g1 := jwrite_grows d p0 z
  have k1 := hk.write (by omega) (by omega) p0 z
  rw [hr1] at g1 k1
  dsimp only at g1 k1
  have g2 := jflush_grows d1
  have k2 := k1.flush (by omega)
  rw [hr2] at g2 k2
  dsimp only at g2 k2
  have g3 := jwrite_grows d2 p1 s
  have k3 := k2.write (by omega) (by omega) p1 s
  rw [hr3] at g3 k3
  dsimp only at g3 k3
  have g4 := jflush_grows d3
  rw [hr4] at g4
  dsimp only at g4
  unfold jput at hQ
  rw [hr1] at hQ
  dsimp only at hQ
  rw [hr2] at hQ
  dsimp only at hQ
  rw [hr3] at hQ
  dsimp only at hQ
  rw [hr4] at hQ
  have HPl0 := Lib.hid (fun W => refPlace_ok d.S.length half (count + 1) p0 W hn16 hh hlt hp0)
  have HPl1 := Lib.hid (fun W => refPlace_ok d.S.length half count p1 W hn16 hh (by omega) hp1)
  have HFu := Lib.hid (fun W => hz ▸ refFull0 W)
  have HPu := Lib.hid (fun W => hs' ▸ WalkSeat.refRecPut_at epoch count k N O M t u P W hN hP)
  have HWr1 := Lib.hid (fun W X X' cc cc' v0 v1 v2 v3 v4 h0 h1 h2 h3 h4 hR => refWrite_at X X' cc cc' d d1 p0 z e1 W v0 v1 v2 v3 v4 h0 h1 h2 h3 h4 hR hk (by omega) (by omega) hr1)
  have HFl1 := Lib.hid (fun W X X' cc cc' hR => refFlush_at X X' cc cc' d1 d2 e2 W hR k1 (by omega) hr2)
  have HWr2 := Lib.hid (fun W X X' cc cc' v0 v1 v2 v3 v4 h0 h1 h2 h3 h4 hR => refWrite_at X X' cc cc' d2 d3 p1 s e3 W v0 v1 v2 v3 v4 h0 h1 h2 h3 h4 hR k2 (by omega) (by omega) hr3)
  have HFl2 := Lib.hid (fun W X X' cc cc' hR => refFlush_at X X' cc cc' d3 d4 e4 W hR k3 (by omega) hr4)
  have HQ := Lib.hid hQ
  have hge : (count : Int) + 1 < (h : Int) := by omega
  have hw : IntKind.i64.wrap ((count : Int) + 1) = ((count + 1 : Nat) : Int) := by rw [IntKind.wrap_i64]; omega
  have hge2 : ((count + 1 : Nat) : Int) < (h : Int) := by omega
  clear hA hk hh hc ho hC hN hh' hn16 hhb hI hlt hp0 hp1 hz hP hs' hz128 hs128 hQ hr1 hr2 hr3 hr4 g1 g2 g3 g4 k1 k2 k3 hge
  dsimp only [rc]
  go_enter Tryz.func50, Tryz.ntmps50
  go_upto_region 1 with fail
  generalize World.alloc (World.alloc (World.alloc w _) _) _ = W at *
  obtain ⟨⟨x0, x1, x2, x3, x4⟩, f⟩ := HS.out.ax.cells
  have f0 := f 0
  have f1 := f 1
  have f2 := f 2
  have f3 := f 3
  have f4 := f 4
  clear f
  obtain ⟨⟨y0, y1, y2, y3, y4, y5, y6, y7⟩, f⟩ := HS.out.ax.recs
  have g0 := f 0
  have g1 := f 1
  clear f
  clear hs
  go_upto_region 4 with fail
  have H4 := Lib.hid ((HS.out.rec0 epoch).rec1 count)
  clear x0 x1 x2 x3 x4 f0 f1 f2 f3 f4 y0 y1 y2 y3 y4 y5 y6 y7 g0 g1
  generalize World.setCell (World.setCell W _ _) _ _ = W4 at *
  obtain ⟨⟨x0, x1, x2, x3, x4⟩, f⟩ := H4.out.ax.cells
  have f0 := f 0
  have f1 := f 1
  have f2 := f 2
  have f3 := f 3
  have f4 := f 4
  clear f
  obtain ⟨⟨y0, y1, y2, y3, y4, y5, y6, y7⟩, f⟩ := H4.out.ax.recs
  have g0 := f 0
  have g1 := f 1
  clear f
  go_wp2_with fail
  refine (HI.out _).mono ?_
  rintro x w5 ⟨rfl, b5⟩
  have H5 := Lib.hid (H4.out.later b5)
  clear x0 x1 x2 x3 x4 f0 f1 f2 f3 f4 y0 y1 y2 y3 y4 y5 y6 y7 g0 g1
  go_upto_region 6 with fail
  go_wp2_with fail
  refine (HH.out _).mono ?_
  rintro x w6 ⟨rfl, rfl⟩
  go_upto_region 8 with fail
  go_cut [13] from 14 (fun s13 wx => s13 = .int .i64 e1 ∧ ∃ A1 c1 A2 c2, As w A A' d epoch count k N O M t u d1 A1 A2 c1 c2 wx)
  case first =>
    have HD := Lib.hid (H5.out.later (Below.refl _ _).drew)
    obtain ⟨⟨x0, x1, x2, x3, x4⟩, f⟩ := H5.out.ax.cells
    have f0 := f 0
    have f1 := f 1
    have f2 := f 2
    have f3 := f 3
    have f4 := f 4
    clear f
    clear f0 f1 f2 f3 f4
    clear HI HH HS H4 HQ HFl1 HFl2 HPl1 HPu HWr2 H5 hhi hci hni hge2
    go_region_with (first | (go_at_call 12; go_must (refine (HPl0.out _).mono ?_; rintro x w9 ⟨rfl, rfl⟩)) | (go_at_call 77; go_must (refine (HFu.out _).mono ?_; rintro x w9 ⟨rfl, rfl⟩)) | (go_at_call 76; go_must (refine (HWr1.out _ A A' c c' _ _ _ _ _ rfl rfl rfl rfl rfl HD.out.rat).mono ?_; rintro x w7 ⟨⟨A1, c1, A2, c2, rfl, n7⟩, b7⟩; have D7 := Lib.hid (HD.out.later b7); have D8 := Lib.hid (HD.out.step (c3 := c1) (c4 := c2) n7 b7); clear x0 x1 x2 x3 x4; obtain ⟨⟨x0, x1, x2, x3, x4⟩, f⟩ := D7.out.ax.cells; have f0 := f 0; have f1 := f 1; have f2 := f 2; have f3 := f 3; have f4 := f 4; clear f)))
    all_goals (go_wp2_with fail; go_meet; exact ⟨rfl, A1, c1, A2, c2, D8.out⟩)
  case rest =>
    obtain ⟨rfl, A1, c1, A2, c2, h8⟩ := hcut
    have H8 := Lib.hid h8
    clear h8
    by_cases q1 : e1 = 0
    rotate_left
    · have q1b : (e1 != 0) = true := by simpa using q1
      have q1c : (e1 == 0) = false := by simpa using q1
      have hq : (d1, e1) = Q := by rw [← HQ.out, if_pos q1]
      subst hq
      clear q1 HQ
      obtain ⟨⟨x0, x1, x2, x3, x4⟩, f⟩ := H8.out.ax.cells
      have f0 := f 0
      have f1 := f 1
      have f2 := f 2
      have f3 := f 3
      have f4 := f 4
      clear f
      obtain ⟨⟨z0, z1, z2, z3, z4⟩, f⟩ := H8.out.ax.ress
      have h0 := f 0
      have h1 := f 1
      have h2 := f 2
      have h3 := f 3
      have h4 := f 4
      clear f
      go_wp2
      obtain ⟨⟨e0, e1', e2', e3', e4'⟩, -, -, b9⟩ := H8.out.ax.fin (.slice A1 d1.S.length c1) (.slice A2 d1.C.length c2) (.int .i64 (d1.armed : Nat)) (.bool d1.down) (.int .i64 (d1.ops : Nat))
      have hf := H8.out.fin (.slice A1 d1.S.length c1) (.slice A2 d1.C.length c2) (.int .i64 (d1.armed : Nat)) (.bool d1.down) (.int .i64 (d1.ops : Nat))
      refine bodyPost_ret (by simp [results, Tryz.results50, go_sem, e0, e1', e2', e3', e4']; try rfl) rfl ?_
      exact ARes.mk rfl hf b9
    subst q1
    obtain ⟨⟨x0, x1, x2, x3, x4⟩, f⟩ := H8.out.ax.cells
    have f0 := f 0
    have f1 := f 1
    have f2 := f 2
    have f3 := f 3
    have f4 := f 4
    clear f
    go_wp2_with fail
    refine (HFl1.out _ A1 A2 c1 c2 H8.out.rat).mono ?_
    rintro x w9 ⟨⟨A3, c3, A4, c4, rfl, n9⟩, b9⟩
    have H9 := Lib.hid (H8.out.later b9)
    have h10 := H8.out.step (c3 := c3) (c4 := c4) n9 b9
    unfold put5 at h10
    have H10 := Lib.hid h10
    clear h10
    clear x0 x1 x2 x3 x4 f0 f1 f2 f3 f4
    obtain ⟨⟨x0, x1, x2, x3, x4⟩, f⟩ := H9.out.ax.cells
    have f0 := f 0
    have f1 := f 1
    have f2 := f 2
    have f3 := f 3
    have f4 := f 4
    clear f
    go_upto_region 12 with fail
    clear x0 x1 x2 x3 x4 f0 f1 f2 f3 f4
    generalize World.setCell _ _ _ = w10 at *
    by_cases q2 : e2 = 0
    rotate_left
    · have q2b : (e2 != 0) = true := by simpa using q2
      have q2c : (e2 == 0) = false := by simpa using q2
      have hq : (d2, e2) = Q := by rw [← HQ.out, if_neg (by simp), if_pos q2]
      subst hq
      clear q2 HQ
      obtain ⟨⟨x0, x1, x2, x3, x4⟩, f⟩ := H10.out.ax.cells
      have f0 := f 0
      have f1 := f 1
      have f2 := f 2
      have f3 := f 3
      have f4 := f 4
      clear f
      obtain ⟨⟨z0, z1, z2, z3, z4⟩, f⟩ := H10.out.ax.ress
      have h0 := f 0
      have h1 := f 1
      have h2 := f 2
      have h3 := f 3
      have h4 := f 4
      clear f
      go_wp2
      obtain ⟨⟨e0, e1', e2', e3', e4'⟩, -, -, b9⟩ := H10.out.ax.fin (.slice A3 d2.S.length c3) (.slice A4 d2.C.length c4) (.int .i64 (d2.armed : Nat)) (.bool d2.down) (.int .i64 (d2.ops : Nat))
      have hf := H10.out.fin (.slice A3 d2.S.length c3) (.slice A4 d2.C.length c4) (.int .i64 (d2.armed : Nat)) (.bool d2.down) (.int .i64 (d2.ops : Nat))
      refine bodyPost_ret (by simp [results, Tryz.results50, go_sem, e0, e1', e2', e3', e4']; try rfl) rfl ?_
      exact ARes.mk rfl hf b9
    subst q2
    go_upto_region 14 with fail
    go_cut [13] from 14 (fun s13 wx => s13 = .int .i64 e3 ∧ ∃ A1 c1 A2 c2, As w A A' d epoch count k N O M t u d3 A1 A2 c1 c2 wx)
    case first =>
      have HD := Lib.hid (H10.out.later (Below.refl _ _).drew)
      obtain ⟨⟨x0, x1, x2, x3, x4⟩, f⟩ := H10.out.ax.cells
      have f0 := f 0
      have f1 := f 1
      have f2 := f 2
      have f3 := f 3
      have f4 := f 4
      clear f
      clear f0 f1 f2 f3 f4
      obtain ⟨⟨y0, y1, y2, y3, y4, y5, y6, y7⟩, -⟩ := H10.out.ax.recs
      clear HI HH HS H4 HQ HFl1 HFl2 HPl0 HFu HWr1 H5 H8 H9 H10 hhi hci hni hge2
      go_region_with (first | (go_at_call 12; go_must (refine (HPl1.out _).mono ?_; rintro x w9 ⟨rfl, rfl⟩)) | (go_at_call 79; go_must (refine (HPu.out _).mono ?_; rintro x w6 ⟨rfl, b6⟩; have D6 := Lib.hid (HD.out.later b6); clear x0 x1 x2 x3 x4 y0 y1 y2 y3 y4 y5 y6 y7; obtain ⟨⟨x0, x1, x2, x3, x4⟩, -⟩ := D6.out.ax.cells; obtain ⟨⟨y0, y1, y2, y3, y4, y5, y6, y7⟩, -⟩ := D6.out.ax.recs)) | (go_at_call 76; go_must (refine (HWr2.out _ A3 A4 c3 c4 _ _ _ _ _ rfl rfl rfl rfl rfl D6.out.rat).mono ?_; rintro x w7 ⟨⟨A1, c1, A2, c2, rfl, n7⟩, b7⟩; have D7 := Lib.hid (D6.out.later b7); have D8 := Lib.hid (D6.out.step (c3 := c1) (c4 := c2) n7 b7); clear x0 x1 x2 x3 x4 y0 y1 y2 y3 y4 y5 y6 y7; obtain ⟨⟨x0, x1, x2, x3, x4⟩, f⟩ := D7.out.ax.cells; have f0 := f 0; have f1 := f 1; have f2 := f 2; have f3 := f 3; have f4 := f 4; clear f)))
      all_goals (go_wp2_with fail; go_meet; exact ⟨rfl, A1, c1, A2, c2, D8.out⟩)
    case rest =>
      obtain ⟨rfl, A5, c5, A6, c6, h12⟩ := hcut
      have H12 := Lib.hid h12
      clear h12
      by_cases q3 : e3 = 0
      rotate_left
      · have q3b : (e3 != 0) = true := by simpa using q3
        have q3c : (e3 == 0) = false := by simpa using q3
        have hq : (d3, e3) = Q := by rw [← HQ.out, if_neg (by simp), if_neg (by simp), if_pos q3]
        subst hq
        clear q3 HQ
        obtain ⟨⟨x0, x1, x2, x3, x4⟩, f⟩ := H12.out.ax.cells
        have f0 := f 0
        have f1 := f 1
        have f2 := f 2
        have f3 := f 3
        have f4 := f 4
        clear f
        obtain ⟨⟨z0, z1, z2, z3, z4⟩, f⟩ := H12.out.ax.ress
        have h0 := f 0
        have h1 := f 1
        have h2 := f 2
        have h3 := f 3
        have h4 := f 4
        clear f
        go_wp2
        obtain ⟨⟨e0, e1', e2', e3', e4'⟩, -, -, b9⟩ := H12.out.ax.fin (.slice A5 d3.S.length c5) (.slice A6 d3.C.length c6) (.int .i64 (d3.armed : Nat)) (.bool d3.down) (.int .i64 (d3.ops : Nat))
        have hf := H12.out.fin (.slice A5 d3.S.length c5) (.slice A6 d3.C.length c6) (.int .i64 (d3.armed : Nat)) (.bool d3.down) (.int .i64 (d3.ops : Nat))
        refine bodyPost_ret (by simp [results, Tryz.results50, go_sem, e0, e1', e2', e3', e4']; try rfl) rfl ?_
        exact ARes.mk rfl hf b9
      subst q3
      have hq : (d4, e4) = Q := by rw [← HQ.out, if_neg (by simp), if_neg (by simp), if_neg (by simp)]
      subst hq
      obtain ⟨⟨x0, x1, x2, x3, x4⟩, f⟩ := H12.out.ax.cells
      have f0 := f 0
      have f1 := f 1
      have f2 := f 2
      have f3 := f 3
      have f4 := f 4
      clear f
      go_wp2_with fail
      refine (HFl2.out _ A5 A6 c5 c6 H12.out.rat).mono ?_
      rintro x w13 ⟨⟨A7, c7, A8, c8, rfl, n13⟩, b13⟩
      have H13 := Lib.hid (H12.out.later b13)
      clear x0 x1 x2 x3 x4 f0 f1 f2 f3 f4
      obtain ⟨⟨z0, z1, z2, z3, z4⟩, f⟩ := H13.out.ax.ress
      have h0 := f 0
      have h1 := f 1
      have h2 := f 2
      have h3 := f 3
      have h4 := f 4
      clear f
      go_wp2
      obtain ⟨⟨e0, e1', e2', e3', e4'⟩, -, -, b9'⟩ := H13.out.ax.fin (.slice A7 d4.S.length c7) (.slice A8 d4.C.length c8) (.int .i64 (d4.armed : Nat)) (.bool d4.down) (.int .i64 (d4.ops : Nat))
      have hf := H12.out.last n13 b13 (.slice A7 d4.S.length c7) (.slice A8 d4.C.length c8) (.int .i64 (d4.armed : Nat)) (.bool d4.down) (.int .i64 (d4.ops : Nat))
      refine bodyPost_ret (by simp [results, Tryz.results50, go_sem, e0, e1', e2', e3', e4']; try rfl) rfl ?_
      exact ARes.mk rfl hf b9'
end Go.Proofs.YtfbakelpplpomaaGreatDoor.Disk
