/-
  JournalPlays: opened, or there, of both.
-/
import Derived.Test.YtfbakelpplpomaaGreatDoorJplJ
import Derived.Test.YtfbakelpplpomaaGreatDoorJplP
namespace Go.Proofs.YtfbakelpplpomaaGreatDoor.Disk
open Go.RowKit Go.Proofs.YtfbakelpplpomaaGreatDoor.DiskRows Go.Proofs.YtfbakelpplpomaaGreatDoor.WalkCrc
open Pl.Seat (Rec isR)
set_option linter.unusedVariables false
set_option linter.unusedSimpArgs false
set_option maxRecDepth 100000

theorem openArgs (n : Nat) (half epoch : Int) (h : ¬ atBad n half epoch 0) : ∃ H E : Nat, half = H ∧ epoch = E ∧ H ≤ 1 ∧ 1 ≤ E ∧ E ≤ 4294967295 := by
  unfold atBad at h
  exact ⟨half.toNat, epoch.toNat, by omega, by omega, by omega, by omega, by omega⟩
theorem atArgs (n : Nat) (half epoch count : Int) (h : ¬ atBad n half epoch count) : ∃ H E C : Nat, half = H ∧ epoch = E ∧ count = C ∧ H ≤ 1 ∧ 1 ≤ E ∧ E ≤ 4294967295 ∧ C ≤ halfV n := by
  unfold atBad at h
  exact ⟨half.toNat, epoch.toNat, count.toNat, by omega, by omega, by omega, by omega, by omega, by omega, by omega⟩
theorem jreads_le (d : Dk) (half epoch : Nat) (h : d.S.length ≤ 40) : jreads d half epoch ≤ 20 ∧ (jrecs d half epoch).length ≤ halfV d.S.length := by
  have h1 := jscan_le (shown d half) epoch (halfV d.S.length) 0
  have h2 : halfV d.S.length ≤ 19 := by unfold halfV; omega
  unfold jreads jrecs
  refine ⟨?_, h1⟩
  split <;> omega
/-- open, whatever is asked -/
theorem wopen_any {F Q : Nat → Prop} {d : Dk} {A1 A2 : Option Addr} {c1 c2 bj ga half epoch count : Nat} {a : Jc} (w0 : World) (b gw n K : Nat) (w : World) (H : DJ w0 F Q b gw bj ga d d A1 A2 c1 c2 half epoch count count a w) (hI : Inv d) (hn : d.S.length = n) (hn40 : n ≤ 40) (h1 : half ≤ 1) (h2 : 1 ≤ epoch) (h3 : epoch ≤ 4294967295) (h4 : count ≤ halfV n) (hK : K ≤ 1000) (ho : d.ops ≤ 25 * K) (hC : d.C.length ≤ 4 * K) (hf ep : Int) :
    Calls Tryz.prog 20 #[.pointer (some ⟨gw, 0, none⟩), .int .i64 hf, .int .i64 ep] w fun x w' => x = .returned (.bool true) ∧ PS w0 b gw n (K + 1) w' := by
  by_cases hb : atBad d.S.length hf ep 0
  · refine (wopen_fail F Q b gw d A1 A2 c1 c2 _ half epoch count w H.jx hf ep 2 (by decide) ((jopen_bad F b d hf ep w H.jx.disk hb).mono ?_) (fun W _ => refOpen_bad A1 A2 c1 c2 d hf ep W H.jx.disk.ok hb)).mono ?_
    · rintro x w' ⟨rfl, rfl⟩
      exact ⟨rfl, H.jx.disk, Kp.refl _ _⟩
    · rintro x w' ⟨rfl, hw⟩
      exact ⟨rfl, H.same hw hn hI rfl h1 h2 h3 h4 (by omega) (by omega)⟩
  · obtain ⟨H', E', rfl, rfl, k1, k2, k3⟩ := openArgs _ _ _ hb
    cases hd : d.down
    · have hr := jreads_le d H' E' (by omega)
      have hlen : (jrecs d H' E').length ≤ 5000 := by
        have : halfV d.S.length ≤ 19 := by unfold halfV; omega
        omega
      refine (wopen_ok F Q b gw d A1 A2 c1 c2 _ half epoch count w H.jx ⟨_, rfl⟩ hI hd H' E' k1 k2 k3 (by omega) _ rfl _ rfl hlen).mono ?_
      rintro x w' ⟨rfl, hw⟩
      exact ⟨rfl, H.new hw hn (hI.ops _) rfl k1 k2 k3 (by rw [← hn]; exact hr.2) (by have := hr.1; dsimp only; omega) (by dsimp only; omega)⟩
    · refine (wopen_fail F Q b gw d A1 A2 c1 c2 _ half epoch count w H.jx H' E' 7 (by decide) ((jopen_down F b d H' E' w H.jx.disk hd k1 k2 k3 (by omega)).mono ?_) (fun W hA => refOpen_down A1 A2 c1 c2 d H' E' W hA H.jx.disk.ok hI hd k1 k2 k3 (by omega))).mono ?_
      · rintro x w' ⟨rfl, hd', hk'⟩
        exact ⟨rfl, hd', hk'⟩
      · rintro x w' ⟨rfl, hw⟩
        exact ⟨rfl, H.same hw hn hI rfl h1 h2 h3 h4 (by omega) (by omega)⟩
theorem does5_any {F Q : Nat → Prop} {d : Dk} {A1 A2 : Option Addr} {c1 c2 bj half epoch count : Nat} (w0 : World) (b gw n K : Nat) (w : World) (h : PJ w0 b gw n K F Q d A1 A2 c1 c2 bj half epoch count w) (hK : K ≤ 1000) (a : Jc) (ha : JcOk w0 a) (hn40 : n ≤ 40) (hk : a.kind = 5) :
    Calls Tryz.prog 21 #[.pointer (some ⟨gw, 0, none⟩), .agg a.cells.toArray] w fun x w' => x = .returned (.bool true) ∧ PS w0 b gw n (K + 1) w' := by
  obtain ⟨kd, nn, hf, ep, ⟨re, rq, rk, rN, rO, rM, rt, ru⟩, txt, ka, kl, kc⟩ := a
  dsimp only at *
  have hops := h.ops
  have hfew := h.few
  have hok := h.jx.disk.ok
  subst hk
  have hs := h.start ⟨5, nn, hf, ep, ⟨re, rq, rk, rN, rO, rM, rt, ru⟩, txt, ka, kl, kc⟩
  have HP := Lib.hid h
  have HA := Lib.hid ha
  simp only [Jc.cells] at *
  clear h hops hfew hok ha
  go_enter Tryz.func21, Tryz.ntmps21
  go_upto_region 2 with fail
  obtain ⟨ga, hga⟩ : ∃ g, w.heap.size = g := ⟨_, rfl⟩
  rw [hga] at hs ⊢
  clear hga
  have H0 := Lib.hid hs
  clear hs
  generalize World.alloc w _ = W at *
  obtain ⟨y0, -, y2, y3, -⟩ := H0.out.acts
  go_upto_region 20 with fail
  go_wp2_with fail
  refine (wopen_any w0 b gw n K W H0.out HP.out.inv HP.out.len hn40 HP.out.h1 HP.out.h2 HP.out.h3 HP.out.h4 hK HP.out.ops HP.out.few hf ep).mono ?_
  rintro x w1 ⟨rfl, hps⟩
  go_wp2
  go_ret
  exact ⟨rfl, hps⟩
theorem does6_any {F Q : Nat → Prop} {d : Dk} {A1 A2 : Option Addr} {c1 c2 bj half epoch count : Nat} (w0 : World) (b gw n K : Nat) (w : World) (h : PJ w0 b gw n K F Q d A1 A2 c1 c2 bj half epoch count w) (hK : K ≤ 1000) (a : Jc) (ha : JcOk w0 a) (hk : ∀ z : Int, 1 ≤ z → z ≤ 5 → a.kind ≠ z) :
    Calls Tryz.prog 21 #[.pointer (some ⟨gw, 0, none⟩), .agg a.cells.toArray] w fun x w' => x = .returned (.bool true) ∧ PS w0 b gw n (K + 1) w' := by
  obtain ⟨kd, nn, hf, ep, ⟨re, rq, rk, rN, rO, rM, rt, ru⟩, txt, ka, kl, kc⟩ := a
  dsimp only at *
  have e1 : (kd == 1) = false := by simpa using hk 1 (by omega) (by omega)
  have e2 : (kd == 2) = false := by simpa using hk 2 (by omega) (by omega)
  have e3 : (kd == 3) = false := by simpa using hk 3 (by omega) (by omega)
  have e4 : (kd == 4) = false := by simpa using hk 4 (by omega) (by omega)
  have e5 : (kd == 5) = false := by simpa using hk 5 (by omega) (by omega)
  clear hk
  have hops := h.ops
  have hfew := h.few
  have hok := h.jx.disk.ok

  have hs := h.start ⟨kd, nn, hf, ep, ⟨re, rq, rk, rN, rO, rM, rt, ru⟩, txt, ka, kl, kc⟩
  have HP := Lib.hid h
  have HA := Lib.hid ha
  simp only [Jc.cells] at *
  clear h hops hfew hok ha
  go_enter Tryz.func21, Tryz.ntmps21
  go_upto_region 2 with fail
  obtain ⟨ga, hga⟩ : ∃ g, w.heap.size = g := ⟨_, rfl⟩
  rw [hga] at hs ⊢
  clear hga
  have H0 := Lib.hid hs
  clear hs
  generalize World.alloc w _ = W at *
  obtain ⟨y0, y1, y2, y3, -⟩ := H0.out.acts
  by_cases hb : atBad d.S.length hf ep nn
  · have HW := Lib.hid (wat_bad _ Q b gw d A1 A2 c1 c2 _ half epoch count W H0.out.jx hf ep nn hb)
    clear hb
    go_upto_region 21 with fail
    go_wp2_with fail
    refine HW.out.mono ?_
    rintro x w1 ⟨rfl, hw⟩
    go_wp2
    go_ret
    exact ⟨rfl, H0.out.same hw HP.out.len HP.out.inv rfl HP.out.h1 HP.out.h2 HP.out.h3 HP.out.h4 (by have := HP.out.ops; omega) (by have := HP.out.few; omega)⟩
  · obtain ⟨H', E', C', rfl, rfl, rfl, k1, k2, k3, k4⟩ := atArgs _ _ _ _ hb
    have HW := Lib.hid (wat_ok _ Q b gw d A1 A2 c1 c2 _ half epoch count W H0.out.jx H' E' C' k1 k2 k3 k4)
    have HKK := Lib.hid (And.intro k1 (And.intro k2 (And.intro k3 k4)))
    clear hb k1 k2 k3 k4
    go_upto_region 21 with fail
    go_wp2_with fail
    refine HW.out.mono ?_
    rintro x w1 ⟨rfl, hw⟩
    go_wp2
    go_ret
    exact ⟨rfl, H0.out.new hw HP.out.len HP.out.inv rfl HKK.out.1 HKK.out.2.1 HKK.out.2.2.1 (by rw [← HP.out.len]; exact HKK.out.2.2.2) (by have := HP.out.ops; omega) (by have := HP.out.few; omega)⟩
end Go.Proofs.YtfbakelpplpomaaGreatDoor.Disk
/-
  JournalPlays: a crash, and a sector written over, of both.
-/
namespace Go.Proofs.YtfbakelpplpomaaGreatDoor.Disk
open Go.RowKit Go.Proofs.YtfbakelpplpomaaGreatDoor.DiskRows Go.Proofs.YtfbakelpplpomaaGreatDoor.WalkCrc
open Pl.Seat (Rec isR)
set_option linter.unusedVariables false
set_option linter.unusedSimpArgs false
set_option maxRecDepth 100000

theorem Dk.Ok.crash {d : Dk} (h : d.Ok) (l : List Int) : (d.crash l).Ok :=
  ⟨by show 16 ≤ (keeps d.S d.C l d.C.length).length; rw [keeps_length]; exact h.pos, by show (keeps d.S d.C l d.C.length).length ≤ 4096; rw [keeps_length]; exact h.most, by simp [Dk.crash], fun x hx => by simp [Dk.crash] at hx, ⟨by simp [Dk.crash], h.low.2⟩⟩
set_option maxHeartbeats 6400000 in
theorem does4_any {F Q : Nat → Prop} {d : Dk} {A1 A2 : Option Addr} {c1 c2 bj half epoch count : Nat} (w0 : World) (b gw n K : Nat) (w : World) (h : PJ w0 b gw n K F Q d A1 A2 c1 c2 bj half epoch count w) (hK : K ≤ 1000) (a : Jc) (ha : JcOk w0 a) (hk : a.kind = 4) (ht : a.text.size ≤ 8000) :
    Calls Tryz.prog 21 #[.pointer (some ⟨gw, 0, none⟩), .agg a.cells.toArray] w fun x w' => x = .returned (.bool true) ∧ PS w0 b gw n (K + 1) w' := by
  obtain ⟨kd, nn, hf, ep, ⟨re, rq, rk, rN, rO, rM, rt, ru⟩, txt, ka, kl, kc⟩ := a
  dsimp only at *
  have hops := h.ops
  have hfew := h.few
  have hok := h.jx.disk.ok
  subst hk
  have hF := fun W => plainFull_any txt W (by omega)
  obtain ⟨s, hs⟩ : ∃ s, full txt = s := ⟨_, rfl⟩
  have hs128 : s.size = 128 := by rw [← hs, full_size]
  simp only [hs] at hF
  obtain ⟨R, hR⟩ : ∃ R, d.over nn s = R := ⟨_, rfl⟩
  have hi := inv_over d nn s h.inv.shown
  have hi2 := h.inv.over nn s
  rw [hR] at hi hi2
  obtain ⟨d2, e2⟩ := R
  dsimp only at hi hi2
  have hra : ∀ W X X' cc cc' (q : RAt W X X' d), Calls Tryz.prog 54 #[.agg #[.slice X d.S.length cc, .slice X' d.C.length cc', .int .i64 (d.armed : Nat), .bool d.down, .int .i64 (d.ops : Nat)], .int .i64 nn, .string s] W fun x w' => (∃ A1 c1 A2 c2, x = .returned (.tuple #[.agg #[.slice A1 d2.S.length c1, .slice A2 d2.C.length c2, .int .i64 (d2.armed : Nat), .bool d2.down, .int .i64 (d2.ops : Nat)], .int .i64 e2]) ∧ RNew W w' X X' A1 A2 d d2) ∧ Below W.heap.size W w' := fun W X X' cc cc' q => by
    have := refOver_any X X' cc cc' d nn s W q hok (by omega)
    rw [hR] at this
    exact this
  have hap : ∀ (G : Nat → Prop) W (q1 : DiskAt G b d W) (q2 : Top G W.heap.size), Calls Tryz.prog 11 #[.pointer (some ⟨b, 0, none⟩), .int .i64 nn, .string s] W fun x w' => x = .returned (.int .i64 e2) ∧ DiskAt G b d2 w' ∧ Kp G W w' := fun G W q1 q2 => by
    have := over_any G b d W q1 nn s q2
    rw [hR] at this
    exact this
  have HI := Lib.hid (And.intro hi2 hi.2)
  have HRA := Lib.hid hra
  have HAP := Lib.hid hap
  have HF := Lib.hid hF
  clear hi hi2 hra hap hR hF hs hs128 ht
  have hs := h.start ⟨4, nn, hf, ep, ⟨re, rq, rk, rN, rO, rM, rt, ru⟩, txt, ka, kl, kc⟩
  have HP := Lib.hid h
  have HA := Lib.hid ha
  simp only [Jc.cells] at *
  clear h hops hfew hok ha
  go_enter Tryz.func21, Tryz.ntmps21
  go_upto_region 2 with fail
  obtain ⟨ga, hga⟩ : ∃ g, w.heap.size = g := ⟨_, rfl⟩
  rw [hga] at hs ⊢
  clear hga
  have H0 := Lib.hid hs
  clear hs
  generalize World.alloc w _ = W at *
  obtain ⟨y0, -⟩ := H0.out.acts
  go_upto_region 17 with fail
  clear y0
  go_cut [5] from 10 (fun s5 wx => s5 = .int .i64 e2 ∧ ∃ F3 Q3 A3 A4 c3 c4, DJ w0 F3 Q3 b gw bj ga d d2 A3 A4 c3 c4 half epoch count count ⟨4, nn, hf, ep, ⟨re, rq, rk, rN, rO, rM, rt, ru⟩, txt, ka, kl, kc⟩ wx)
  case first =>
    have HD := Lib.hid (H0.out.later (Below.refl _ _).drew)
    have hS0 := HD.out.s4
    obtain ⟨⟨x0, x1, x2, x3, x4, x5, x6, x7, x8, x9⟩, f⟩ := H0.out.jx.cells
    clear f
    clear x0 x1 x7 x8 x9
    rw [show Op.load 54 (Operand.tmp 118) = qL 118 from rfl]
    go_region_held (fun W' => W'.cell? ⟨ga, 1, none⟩ = some (.int .i64 nn) ∧ W'.cell? ⟨ga, 12, none⟩ = some (.string txt)) (first | with_reducible exact hS0 | with_reducible assumption | with_reducible exact D8.out.s4 | with_reducible exact D7.out.s4 | with_reducible exact D6.out.s4 | with_reducible exact HD.out.s4) (first
      | (go_at_call 13; refine (HF.out _).mono ?_; rintro x w6 ⟨rfl, b6⟩; have D6 := Lib.hid (HD.out.later b6); clear x2 x3 x4 x5 x6; obtain ⟨⟨-, -, x2, x3, x4, x5, x6, -⟩, -⟩ := D6.out.jx.cells)
      | (go_at_call 54; refine (HRA.out _ A1 A2 c1 c2 D6.out.jx.rows.rows).mono ?_; rintro x w7 ⟨⟨A3, c3, A4, c4, rfl, n7⟩, b7⟩; have D7 := Lib.hid (D6.out.later b7); have D8 := Lib.hid (D6.out.ref (c3 := c3) (c4 := c4) b7 n7); clear n7 x2 x3 x4 x5 x6; obtain ⟨⟨-, -, x2, x3, x4, x5, x6, -⟩, f⟩ := D7.out.jx.cells; have f2 := f 2; have f3 := f 3; have f4 := f 4; have f5 := f 5; have f6 := f 6; clear f))
    all_goals (go_wp2_with fail; go_meet; exact ⟨rfl, _, _, A3, A4, c3, c4, D8.out⟩)
  case rest =>
    obtain ⟨rfl, F3, Q3, A3, A4, c3, c4, h8⟩ := hcut
    have H8 := Lib.hid h8
    clear h8
    go_upto_region 18 with fail
    have HD := Lib.hid (H8.out.later (Below.refl _ _).drew)
    have hS0 := HD.out.s4b
    go_region_held (fun W' => W'.cell? ⟨gw, 0, none⟩ = some (.pointer (some ⟨b, 0, none⟩)) ∧ W'.cell? ⟨ga, 1, none⟩ = some (.int .i64 nn) ∧ W'.cell? ⟨ga, 12, none⟩ = some (.string txt)) (first | with_reducible exact hS0 | with_reducible assumption | with_reducible exact D10.out.s4b | with_reducible exact D9.out.s4b | with_reducible exact HD.out.s4b) (first
      | (go_at_call 13; refine (HF.out _).mono ?_; rintro x w9 ⟨rfl, b9⟩; have D9 := Lib.hid (HD.out.later b9))
      | (go_at_call 11; refine (HAP.out _ _ D9.out.jx.disk D9.out.jx.top).mono ?_; rintro x w10 ⟨rfl, hd10, k10⟩; have D10 := Lib.hid (D9.out.go hd10 k10)))
    all_goals (go_wp2; go_ret)
    all_goals exact ⟨by first | rfl | simp, HP.out.done D10.out HI.out.1 HI.out.2.1 (by have := HI.out.2.2.1; omega) (by have := HI.out.2.2.2; omega) HP.out.h4⟩
set_option maxHeartbeats 6400000 in
theorem does3_any {F Q : Nat → Prop} {d : Dk} {A1 A2 : Option Addr} {c1 c2 bj half epoch count : Nat} (w0 : World) (b gw n K : Nat) (w : World) (h : PJ w0 b gw n K F Q d A1 A2 c1 c2 bj half epoch count w) (hK : K ≤ 1000) (a : Jc) (ha : JcOk w0 a) (hn40 : n ≤ 40) (hk : a.kind = 3) :
    Calls Tryz.prog 21 #[.pointer (some ⟨gw, 0, none⟩), .agg a.cells.toArray] w fun x w' => x = .returned (.bool true) ∧ PS w0 b gw n (K + 1) w' := by
  obtain ⟨kd, nn, hf, ep, ⟨re, rq, rk, rN, rO, rM, rt, ru⟩, txt, ka, kl, kc⟩ := a
  dsimp only at *
  have hops := h.ops
  have hfew := h.few
  have hok := h.jx.disk.ok
  subst hk
  obtain ⟨Kl, hKl, hKn, hKw⟩ := ha.keep
  dsimp only at hKl hKn
  subst hKl
  have hKm := ha.kl
  dsimp only at hKm
  have hKi : (Kl.length : Int) ≤ 9223372036854775807 := by unfold maxLen at hKm; omega
  obtain ⟨d1, hd1⟩ : ∃ d1, d.crash Kl = d1 := ⟨_, rfl⟩
  obtain ⟨d2, hd2⟩ : ∃ d2, d1.boot = d2 := ⟨_, rfl⟩
  have ok1 : d1.Ok := hd1 ▸ hok.crash Kl
  have i2 : Inv d2 := by rw [← hd2, ← hd1]; exact (h.inv.crash Kl).boot
  have l2 : d2.S.length = n ∧ d2.ops = d.ops ∧ d2.C.length = 0 := by rw [← hd2, ← hd1]; exact ⟨(keeps_length _ _ _ _).trans h.len, rfl, rfl⟩
  have hrc : ∀ W X X' cc cc' (q : RAt W X X' d) (qk : Nums W ka Kl), Calls Tryz.prog 53 #[.agg #[.slice X d.S.length cc, .slice X' d.C.length cc', .int .i64 (d.armed : Nat), .bool d.down, .int .i64 (d.ops : Nat)], .slice ka Kl.length kc] W fun x w' => (∃ A1 c1 A2 c2, x = .returned (.agg #[.slice A1 d1.S.length c1, .slice A2 d1.C.length c2, .int .i64 (d1.armed : Nat), .bool d1.down, .int .i64 (d1.ops : Nat)]) ∧ RNew W w' X X' A1 A2 d d1) ∧ Below W.heap.size W w' := fun W X X' cc cc' q qk => by
    have := refCrash_any X X' cc cc' d ka kc Kl W q hok qk hKi
    rw [hd1] at this
    exact this
  have hrb : ∀ W X X' cc cc' (q : RAt W X X' d1), Calls Tryz.prog 52 #[.agg #[.slice X d1.S.length cc, .slice X' d1.C.length cc', .int .i64 (d1.armed : Nat), .bool d1.down, .int .i64 (d1.ops : Nat)]] W fun x w' => (∃ A1 c1 A2 c2, x = .returned (.agg #[.slice A1 d2.S.length c1, .slice A2 d2.C.length c2, .int .i64 (d2.armed : Nat), .bool d2.down, .int .i64 (d2.ops : Nat)]) ∧ RNew W w' X X' A1 A2 d1 d2) ∧ Below W.heap.size W w' := fun W X X' cc cc' q => by
    have := refBoot_any X X' cc cc' d1 W q ok1
    rw [hd2] at this
    exact this
  have hpc : ∀ (G : Nat → Prop) W (q1 : DiskAt G b d W) (q2 : Top G W.heap.size) (qk : Nums W ka Kl), Calls Tryz.prog 15 #[.pointer (some ⟨b, 0, none⟩), .slice ka Kl.length kc] W fun x w' => x = .returned (.int .i64 0) ∧ DiskAt G b d1 w' ∧ Kp G W w' := fun G W q1 q2 qk => by
    rw [← hd1]
    exact crash_ok G b d W q1 q2 ka kc Kl qk hKi hKw
  have hpb : ∀ (G : Nat → Prop) W (q1 : DiskAt G b d1 W) (q2 : Top G W.heap.size), Calls Tryz.prog 16 #[.pointer (some ⟨b, 0, none⟩)] W fun x w' => x = .returned (.int .i64 0) ∧ DiskAt G b d2 w' ∧ Kp G W w' := fun G W q1 q2 => by
    rw [← hd2]
    exact boot_ok G b d1 W q1 q2
  have HI := Lib.hid (And.intro i2 l2)
  have HRC := Lib.hid hrc
  have HRB := Lib.hid hrb
  have HPC := Lib.hid hpc
  have HPB := Lib.hid hpb
  have HKn := Lib.hid hKn
  clear hKm hKi hKw hd1 hd2 ok1 i2 l2 hrc hrb hpc hpb hKn
  have hs := h.start ⟨3, nn, hf, ep, ⟨re, rq, rk, rN, rO, rM, rt, ru⟩, txt, ka, Kl.length, kc⟩
  have HP := Lib.hid h
  have HA := Lib.hid ha
  simp only [Jc.cells] at *
  clear h hops hfew hok ha
  go_enter Tryz.func21, Tryz.ntmps21
  go_upto_region 2 with fail
  obtain ⟨ga, hga⟩ : ∃ g, w.heap.size = g := ⟨_, rfl⟩
  rw [hga] at hs ⊢
  clear hga
  have H0 := Lib.hid hs
  clear hs
  generalize World.alloc w _ = W at *
  obtain ⟨y0, -⟩ := H0.out.acts
  go_upto_region 12 with fail
  clear y0
  go_cut [5] from 10 (fun s5 wx => s5 = .int .i64 0 ∧ ∃ F3 Q3 A3 A4 c3 c4, DJ w0 F3 Q3 b gw bj ga d d2 A3 A4 c3 c4 half epoch count count ⟨3, nn, hf, ep, ⟨re, rq, rk, rN, rO, rM, rt, ru⟩, txt, ka, Kl.length, kc⟩ wx)
  case first =>
    have HD := Lib.hid (H0.out.later (Below.refl _ _).drew)
    have hS0 := HD.out.s3
    obtain ⟨⟨x0, x1, x2, x3, x4, x5, x6, x7, x8, x9⟩, f⟩ := H0.out.jx.cells
    clear f
    clear x0 x1 x7 x8 x9
    rw [show Op.load 54 (Operand.tmp 82) = qL 82 from rfl]
    go_region_held (fun W' => W'.cell? ⟨ga, 13, none⟩ = some (.slice ka Kl.length kc)) (first | with_reducible exact hS0 | with_reducible assumption | with_reducible exact D8.out.s3 | with_reducible exact D7.out.s3 | with_reducible exact D6.out.s3 | with_reducible exact HD.out.s3) (first
      | (go_at_call 53; refine (HRC.out _ A1 A2 c1 c2 HD.out.jx.rows.rows (HKn.out.later (Below.mono (HD.out.kp) (Nat.le_refl _)))).mono ?_; rintro x w6 ⟨⟨B1, e1, B2, e2, rfl, n6⟩, b6⟩; have D6 := Lib.hid (HD.out.later b6); have N6 := Lib.hid n6; have B6 := Lib.hid b6; clear n6 x2 x3 x4 x5 x6)
      | (go_at_call 52; refine (HRB.out _ B1 B2 e1 e2 N6.out.rows).mono ?_; rintro x w7 ⟨⟨A3, c3, A4, c4, rfl, n7⟩, b7⟩; have D7 := Lib.hid (D6.out.later b7); have D8 := Lib.hid (HD.out.ref (c3 := c3) (c4 := c4) (B6.out.trans (b7.mono B6.out.size)) (N6.out.trans n7 B6.out.size)); clear n7; obtain ⟨⟨-, -, x2, x3, x4, x5, x6, -⟩, f⟩ := D7.out.jx.cells; have f2 := f 2; have f3 := f 3; have f4 := f 4; have f5 := f 5; have f6 := f 6; clear f))
    all_goals (go_wp2_with fail; go_meet; exact ⟨rfl, _, _, A3, A4, c3, c4, D8.out⟩)
  case rest =>
    obtain ⟨rfl, F3, Q3, A3, A4, c3, c4, h8⟩ := hcut
    have H8 := Lib.hid h8
    clear h8
    go_upto_region 13 with fail
    have HD := Lib.hid (H8.out.later (Below.refl _ _).drew)
    have hS0 := HD.out.s3b
    go_cut [5] from 10 (fun s5 wx => s5 = .int .i64 0 ∧ DJ w0 F3 Q3 b gw bj ga d1 d2 A3 A4 c3 c4 half epoch count count ⟨3, nn, hf, ep, ⟨re, rq, rk, rN, rO, rM, rt, ru⟩, txt, ka, Kl.length, kc⟩ wx)
    case first =>
      go_region_held (fun W' => W'.cell? ⟨gw, 0, none⟩ = some (.pointer (some ⟨b, 0, none⟩)) ∧ W'.cell? ⟨ga, 13, none⟩ = some (.slice ka Kl.length kc)) (first | with_reducible exact hS0 | with_reducible assumption | with_reducible exact D10.out.s3b | with_reducible exact HD.out.s3b) (first
        | (go_at_call 15; refine (HPC.out _ _ HD.out.jx.disk HD.out.jx.top (HKn.out.later (Below.mono (HD.out.kp) (Nat.le_refl _)))).mono ?_; rintro x w10 ⟨rfl, hd10, k10⟩; have D10 := Lib.hid (HD.out.go hd10 k10)))
      all_goals (go_wp2_with fail; go_meet; exact ⟨rfl, D10.out⟩)
    case rest =>
      obtain ⟨rfl, h10⟩ := hcut
      have H10 := Lib.hid h10
      clear h10
      obtain ⟨⟨x0, -⟩, -⟩ := H10.out.jx.cells
      go_wp2_with fail
      refine (HPB.out _ _ H10.out.jx.disk H10.out.jx.top).mono ?_
      rintro x w11 ⟨rfl, hd11, k11⟩
      have H11 := Lib.hid (H10.out.go hd11 k11)
      clear x0 hd11 k11
      obtain ⟨⟨-, -, -, -, -, -, -, x7, x8, -⟩, -⟩ := H11.out.jx.cells
      go_upto_region 15 with fail
      have HE := Lib.hid (H11.out.later (Below.refl _ _).drew)
      go_region_with (first
        | (go_at_call 20; go_must (refine (wopen_any w0 b gw n K _ HE.out HI.out.1 HI.out.2.1 hn40 HP.out.h1 HP.out.h2 HP.out.h3 HP.out.h4 hK (by rw [HI.out.2.2.1]; exact HP.out.ops) (by rw [HI.out.2.2.2]; omega) half epoch).mono ?_; rintro x w12 ⟨rfl, hps⟩; clear x7 x8)))
      all_goals (go_wp2; go_ret)
      all_goals exact ⟨rfl, hps⟩
end Go.Proofs.YtfbakelpplpomaaGreatDoor.Disk
