/-
  JournalPlays: Append and Arm, of both.
-/
import Derived.Test.YtfbakelpplpomaaGreatDoorJplJ
namespace Go.Proofs.YtfbakelpplpomaaGreatDoor.Disk
open Go.RowKit Go.Proofs.YtfbakelpplpomaaGreatDoor.DiskRows Go.Proofs.YtfbakelpplpomaaGreatDoor.WalkCrc
open Pl.Seat (Rec isR)
set_option linter.unusedVariables false
set_option linter.unusedSimpArgs false
set_option maxRecDepth 100000

set_option maxHeartbeats 6400000 in
theorem does1_any {F Q : Nat → Prop} {d : Dk} {A1 A2 : Option Addr} {c1 c2 bj half epoch count : Nat} (w0 : World) (b gw n K : Nat) (w : World) (h : PJ w0 b gw n K F Q d A1 A2 c1 c2 bj half epoch count w) (hK : K ≤ 1000) (a : Jc) (ha : JcOk w0 a) (hk : a.kind = 1) (hN : a.r.N.size ≤ 1048576) :
    Calls Tryz.prog 21 #[.pointer (some ⟨gw, 0, none⟩), .agg a.cells.toArray] w fun x w' => x = .returned (.bool true) ∧ PS w0 b gw n (K + 1) w' := by
  obtain ⟨kd, nn, hf, ep, ⟨re, rq, rk, rN, rO, rM, rt, ru⟩, txt, ka, kl, kc⟩ := a
  dsimp only at *
  have hops := h.ops
  have hfew := h.few
  have hok := h.jx.disk.ok
  subst hk
  obtain ⟨R, hR⟩ : ∃ R, appV d half epoch count (WalkSeat.rc re rq rk rN rO rM rt ru) = R := ⟨_, rfl⟩
  have hi := appV_inv d half epoch count (WalkSeat.rc re rq rk rN rO rM rt ru) h.inv
  have hroom := appV_room d half epoch count (WalkSeat.rc re rq rk rN rO rM rt ru)
  rw [hR] at hi hroom
  obtain ⟨d2, e2⟩ := R
  dsimp only at hi hroom
  have hc := h.h4
  rw [← h.len] at hc
  have HI := Lib.hid (And.intro hi hroom)
  have HRA := Lib.hid (fun W X X' cc cc' (q : RAt W X X' d) => refAppend_any X X' cc cc' d half epoch count re rq rk rN rO rM rt ru W q hok h.h1 hc (by omega) (by omega) hN (d2, e2) hR)
  have HAP := Lib.hid (fun G W (q1 : DiskAt G b d W) (q2 : Top G W.heap.size) (q3 : JnAt bj b half epoch count W) (q4 : G bj) (q5 : Tab W) c' hc' => append_any G bj b half epoch count d re rq rk rN rO rM rt ru W q1 q2 q3 q4 q5 h.h1 hc (by omega) (by omega) (d2, e2) hR c' hc')
  clear hi hroom hc hR hN
  have hs := h.start ⟨1, nn, hf, ep, ⟨re, rq, rk, rN, rO, rM, rt, ru⟩, txt, ka, kl, kc⟩
  have HP := Lib.hid h
  have HA := Lib.hid ha
  simp only [Jc.cells] at *
  clear h hops hfew hok ha
  go_enter Tryz.func21, Tryz.ntmps21
  go_upto_region 2 with fail
  obtain ⟨ga, hga⟩ : ∃ g, w.heap.size = g := ⟨_, rfl⟩
  rw [hga] at hs ⊢
  clear hga
  have H0 := Lib.hid hs
  clear hs
  generalize World.alloc w _ = W at *
  obtain ⟨y0, -⟩ := H0.out.acts
  go_upto_region 4 with fail
  clear y0
  go_cut [5] from 10 (fun s5 wx => s5 = .int .i64 e2 ∧ ∃ F3 Q3 A3 A4 c3 c4, DJ w0 F3 Q3 b gw bj ga d d2 A3 A4 c3 c4 half epoch count count ⟨1, nn, hf, ep, ⟨re, rq, rk, rN, rO, rM, rt, ru⟩, txt, ka, kl, kc⟩ wx)
  case first =>
    have HD := Lib.hid (H0.out.later (Below.refl _ _).drew)
    have hS0 := HD.out.s1
    obtain ⟨⟨x0, x1, x2, x3, x4, x5, x6, x7, x8, x9⟩, f⟩ := H0.out.jx.cells
    clear f
    clear x0 x1 x7 x8 x9
    rw [show Op.load 54 (Operand.tmp 14) = qL 14 from rfl]
    go_region_held (fun W' => W'.cell? ⟨gw, 7, none⟩ = some (.int .i64 (half : Nat)) ∧ W'.cell? ⟨gw, 8, none⟩ = some (.int .i64 (epoch : Nat)) ∧ W'.cell? ⟨gw, 9, none⟩ = some (.int .i64 (count : Nat)) ∧ W'.cell? ⟨ga, 4, none⟩ = some (.int .i64 re) ∧ W'.cell? ⟨ga, 5, none⟩ = some (.int .i64 rq) ∧ W'.cell? ⟨ga, 6, none⟩ = some (.int .i64 rk) ∧ W'.cell? ⟨ga, 7, none⟩ = some (.string rN) ∧ W'.cell? ⟨ga, 8, none⟩ = some (.string rO) ∧ W'.cell? ⟨ga, 9, none⟩ = some (.string rM) ∧ W'.cell? ⟨ga, 10, none⟩ = some (.int .i64 rt) ∧ W'.cell? ⟨ga, 11, none⟩ = some (.int .i64 ru)) (first | with_reducible exact hS0 | with_reducible assumption | with_reducible exact D8.out.s1 | with_reducible exact D7.out.s1 | with_reducible exact HD.out.s1) (first
      | (go_at_call 50; refine (HRA.out _ A1 A2 c1 c2 HD.out.jx.rows.rows).mono ?_; rintro x w7 ⟨⟨A3, c3, A4, c4, rfl, n7⟩, b7⟩; have D7 := Lib.hid (HD.out.later b7); have D8 := Lib.hid (HD.out.ref (c3 := c3) (c4 := c4) b7 n7); clear x2 x3 x4 x5 x6; obtain ⟨⟨-, -, x2, x3, x4, x5, x6, -⟩, f⟩ := D7.out.jx.cells; have f2 := f 2; have f3 := f 3; have f4 := f 4; have f5 := f 5; have f6 := f 6; clear f))
    all_goals (go_wp2_with fail; go_meet; exact ⟨rfl, _, _, A3, A4, c3, c4, D8.out⟩)
  case rest =>
    obtain ⟨rfl, F3, Q3, A3, A4, c3, c4, h8⟩ := hcut
    have H8 := Lib.hid h8
    clear h8
    by_cases q : e2 = 0
    · subst q
      obtain ⟨cw, hcw⟩ : ∃ c, count + 1 = c := ⟨_, rfl⟩
      have hcb : count ≤ 4096 := by
        have e1 := HP.out.h4
        have e2 := HP.out.jx.disk.ok.most
        rw [HP.out.len] at e2
        unfold halfV at e1
        omega
      have hwr : IntKind.i64.wrap ((count : Int) + 1) = (cw : Int) := by rw [IntKind.wrap_i64]; omega
      have HC := Lib.hid (And.intro hcw hcb)
      clear hcw hcb
      obtain ⟨⟨-, -, -, -, -, -, -, -, -, x9⟩, f⟩ := H8.out.jx.cells
      have f9 := f 9
      clear f
      go_upto_region 7 with fail
      have H9 := Lib.hid (H8.out.counts cw)
      clear x9 f9
      generalize World.setCell _ _ _ = w9 at *
      have HD := Lib.hid (H9.out.later (Below.refl _ _).drew)
      obtain ⟨⟨-, x1, -⟩, -⟩ := H9.out.jx.cells
      obtain ⟨-, -, -, -, y4, y5, y6, y7, y8, y9, y10, y11, -⟩ := H9.out.acts
      go_region_with (first
        | (go_at_call 9; go_must (refine (HAP.out _ _ HD.out.jx.disk HD.out.jx.top HD.out.jj.jn HD.out.jj.inF HD.out.jx.tab cw (by rw [if_pos rfl]; exact HC.out.1)).mono ?_; rintro x w10 ⟨rfl, hd10, hj10, k10⟩; have D10 := Lib.hid (HD.out.append hd10 hj10 k10); clear x1 y4 y5 y6 y7 y8 y9 y10 y11)))
      all_goals (go_wp2; go_ret)
      all_goals exact ⟨by first | rfl | simp, HP.out.done D10.out HI.out.1.1 HI.out.1.2.1 (by have := HI.out.1.2.2.1; omega) (by have := HI.out.1.2.2.2; omega) (by have := HI.out.2 (by first | rfl | trivial); rw [HP.out.len] at this; have := HC.out.1; omega)⟩
    · have q1 : (e2 == 0) = false := by simpa using q
      have q2 : (e2 != 0) = true := by simpa using q
      go_upto_region 7 with fail
      have HD := Lib.hid (H8.out.later (Below.refl _ _).drew)
      obtain ⟨⟨-, x1, -⟩, -⟩ := H8.out.jx.cells
      obtain ⟨-, -, -, -, y4, y5, y6, y7, y8, y9, y10, y11, -⟩ := H8.out.acts
      go_region_with (first
        | (go_at_call 9; go_must (refine (HAP.out _ _ HD.out.jx.disk HD.out.jx.top HD.out.jj.jn HD.out.jj.inF HD.out.jx.tab count (by rw [if_neg q])).mono ?_; rintro x w10 ⟨rfl, hd10, hj10, k10⟩; have D10 := Lib.hid (HD.out.append hd10 hj10 k10); clear x1 y4 y5 y6 y7 y8 y9 y10 y11)))
      all_goals (go_wp2; go_ret)
      all_goals exact ⟨by first | rfl | simp, HP.out.done D10.out HI.out.1.1 HI.out.1.2.1 (by have := HI.out.1.2.2.1; omega) (by have := HI.out.1.2.2.2; omega) (HP.out.h4)⟩
set_option maxHeartbeats 6400000 in
theorem does2_any {F Q : Nat → Prop} {d : Dk} {A1 A2 : Option Addr} {c1 c2 bj half epoch count : Nat} (w0 : World) (b gw n K : Nat) (w : World) (h : PJ w0 b gw n K F Q d A1 A2 c1 c2 bj half epoch count w) (hK : K ≤ 1000) (a : Jc) (ha : JcOk w0 a) (hk : a.kind = 2) :
    Calls Tryz.prog 21 #[.pointer (some ⟨gw, 0, none⟩), .agg a.cells.toArray] w fun x w' => x = .returned (.bool true) ∧ PS w0 b gw n (K + 1) w' := by
  obtain ⟨kd, nn, hf, ep, ⟨re, rq, rk, rN, rO, rM, rt, ru⟩, txt, ka, kl, kc⟩ := a
  dsimp only at *
  have hops := h.ops
  have hfew := h.few
  have hok := h.jx.disk.ok
  subst hk
  obtain ⟨R, hR⟩ : ∃ R, d.arm nn = R := ⟨_, rfl⟩
  have hi := inv_arm d nn h.inv.shown
  have hi2 := h.inv.arm nn
  have hsm := arm_same d nn
  rw [hR] at hi hi2 hsm
  obtain ⟨d2, e2⟩ := R
  dsimp only at hi hi2 hsm
  have hn := wf_le ha.n
  dsimp only at hn
  have HI := Lib.hid (And.intro hi2 (And.intro hi.2 hsm))
  have hra : ∀ W X X' cc cc', Calls Tryz.prog 51 #[.agg #[.slice X d.S.length cc, .slice X' d.C.length cc', .int .i64 (d.armed : Nat), .bool d.down, .int .i64 (d.ops : Nat)], .int .i64 nn] W fun x w' => x = .returned (.tuple #[.agg #[.slice X d2.S.length cc, .slice X' d2.C.length cc', .int .i64 (d2.armed : Nat), .bool d2.down, .int .i64 (d2.ops : Nat)], .int .i64 e2]) ∧ Below W.heap.size W w' := fun W X X' cc cc' => by
    have := refArm_any X X' cc cc' d nn W hn
    rw [hR] at this
    rw [hsm.1, hsm.2]
    exact this
  have hap : ∀ (G : Nat → Prop) W (q1 : DiskAt G b d W), Calls Tryz.prog 14 #[.pointer (some ⟨b, 0, none⟩), .int .i64 nn] W fun x w' => x = .returned (.int .i64 e2) ∧ DiskAt G b d2 w' ∧ Kp G W w' := fun G W q1 => by
    have := arm_any G b d W q1 nn hn
    rw [hR] at this
    exact this
  have HRA := Lib.hid hra
  have HAP := Lib.hid hap
  clear hra hap
  clear hi hi2 hsm hn hR
  have hs := h.start ⟨2, nn, hf, ep, ⟨re, rq, rk, rN, rO, rM, rt, ru⟩, txt, ka, kl, kc⟩
  have HP := Lib.hid h
  have HA := Lib.hid ha
  simp only [Jc.cells] at *
  clear h hops hfew hok ha
  go_enter Tryz.func21, Tryz.ntmps21
  go_upto_region 2 with fail
  obtain ⟨ga, hga⟩ : ∃ g, w.heap.size = g := ⟨_, rfl⟩
  rw [hga] at hs ⊢
  clear hga
  have H0 := Lib.hid hs
  clear hs
  generalize World.alloc w _ = W at *
  obtain ⟨y0, -⟩ := H0.out.acts
  go_upto_region 9 with fail
  clear y0
  go_cut [5] from 10 (fun s5 wx => s5 = .int .i64 e2 ∧ ∃ F3 Q3 A3 A4 c3 c4, DJ w0 F3 Q3 b gw bj ga d d2 A3 A4 c3 c4 half epoch count count ⟨2, nn, hf, ep, ⟨re, rq, rk, rN, rO, rM, rt, ru⟩, txt, ka, kl, kc⟩ wx)
  case first =>
    have HD := Lib.hid (H0.out.later (Below.refl _ _).drew)
    obtain ⟨-, y1, -⟩ := H0.out.acts
    obtain ⟨⟨x0, x1, x2, x3, x4, x5, x6, x7, x8, x9⟩, f⟩ := H0.out.jx.cells
    clear f
    clear x0 x1 x7 x8 x9
    go_region_with (first
      | (go_at_call 51; go_must (refine (HRA.out _ A1 A2 c1 c2).mono ?_; rintro x w7 ⟨rfl, b7⟩; have n7 : RNew W.drew w7 A1 A2 A1 A2 d d2 := ⟨⟨by rw [HI.out.2.2.1]; exact (HD.out.jx.rows.rows.later b7).1, by rw [HI.out.2.2.2]; exact (HD.out.jx.rows.rows.later b7).2⟩, .inr (.inl ⟨rfl, by rw [HI.out.2.2.1]⟩), .inr (.inl ⟨rfl, by rw [HI.out.2.2.2]⟩)⟩; have D7 := Lib.hid (HD.out.later b7); have D8 := Lib.hid (HD.out.ref (c3 := c1) (c4 := c2) b7 n7); clear n7 x2 x3 x4 x5 x6 y1; obtain ⟨⟨-, -, x2, x3, x4, x5, x6, -⟩, f⟩ := D7.out.jx.cells; have f2 := f 2; have f3 := f 3; have f4 := f 4; have f5 := f 5; have f6 := f 6; clear f)))
    all_goals (go_wp2_with fail; go_meet; exact ⟨rfl, _, _, A1, A2, c1, c2, D8.out⟩)
  case rest =>
    obtain ⟨rfl, F3, Q3, A3, A4, c3, c4, h8⟩ := hcut
    have H8 := Lib.hid h8
    clear h8
    go_upto_region 10 with fail
    have HD := Lib.hid (H8.out.later (Below.refl _ _).drew)
    obtain ⟨⟨x0, -⟩, -⟩ := H8.out.jx.cells
    obtain ⟨-, y1, -⟩ := H8.out.acts
    go_region_with (first
      | (go_at_call 14; go_must (refine (HAP.out _ _ HD.out.jx.disk).mono ?_; rintro x w10 ⟨rfl, hd10, k10⟩; have D10 := Lib.hid (HD.out.go hd10 k10); clear x0 y1)))
    all_goals (go_wp2; go_ret)
    all_goals exact ⟨by first | rfl | simp, HP.out.done D10.out HI.out.1 HI.out.2.1.1 (by have := HI.out.2.1.2.1; omega) (by have := HI.out.2.1.2.2; omega) HP.out.h4⟩
end Go.Proofs.YtfbakelpplpomaaGreatDoor.Disk
