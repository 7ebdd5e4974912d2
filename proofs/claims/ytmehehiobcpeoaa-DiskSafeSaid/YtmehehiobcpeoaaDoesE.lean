/-
  The walks of pleachlaw07's does: a crash, what is had.
-/
import Derived.Test.YtmehehiobcpeoaaDoesI
import Derived.Deep.RegionHeld
import Derived.Deep.RegionHeld3
import Derived.Deep.CutRange
import Derived.Deep.CutBlock
namespace Go.Proofs.Ytmehehiobcpeoaa.Disk
open Go.RowKit Go.Proofs.Ytmehehiobcpeoaa.DiskRows
set_option linter.unusedVariables false
set_option linter.unusedSimpArgs false
set_option maxRecDepth 100000

set_option maxHeartbeats 12800000 in
theorem does5_any (F Q : Nat → Prop) (b : Nat) (d : Dk) (A A' : Option Addr) (c c' : Nat) (a : Ac) (w : World) (hB : Both F Q b d A A' w) (ho : d.ops ≤ 1000000) (hC : d.C.length ≤ 90000) (ha : AcOk w a) (hk : a.kind = 5) :
    Calls Try.prog 12 #[.pointer (some ⟨b, 0, none⟩), .agg (rc (.slice A d.S.length c) (.slice A' d.C.length c') d).toArray, .agg a.cells.toArray] w (DoesPost F Q b d w) := by
  have hok := hB.disk.ok
  obtain ⟨k, p, n, t, raw, kA, kl, kc⟩ := a
  obtain ⟨K, hK, hN, hw⟩ := ha.keep
  dsimp only at hK hN
  subst hK
  have hKl : (K.length : Int) ≤ 9223372036854775807 := by have := ha.kl; unfold maxLen at this; dsimp only at this; omega
  obtain ⟨⟨S', H', C', a', dn', o'⟩, hdd⟩ : ∃ dd, d.crash K = dd := ⟨_, rfl⟩
  have HTOP := Lib.hid hB.top
  have HSUB := Lib.hid hB.sub
  have HINV := Lib.hid (hdd ▸ (inv_crash d K))
  have HQ0 : ¬ Qd Q w.heap.size w.heap.size := Qd.off (topQ hB) (Nat.le_refl _) (by omega)
  have HRW := Lib.hid (fun W' (q : Below w.heap.size w W') (hl : w.heap.size + 3 ≤ W'.heap.size) => Calls.mono (refCrash_any A A' c c' d kA kc K W' (hB.rows.rows.later q) hok (hN.later q) hKl) (R' := fun x w' => (∃ A1 c1 A2 c2, x = .returned ((.agg (rc (.slice A1 S'.length c1) (.slice A2 C'.length c2) ⟨S', H', C', a', dn', o'⟩).toArray)) ∧ RQ (Qd Q w.heap.size) w' A1 A2 ⟨S', H', C', a', dn', o'⟩) ∧ Below W'.heap.size W' w') (by
    rintro x w' ⟨⟨A1, c1, A2, c2, rfl, hn⟩, hb⟩
    rw [hdd] at *
    exact ⟨⟨A1, c1, A2, c2, rfl, hn.rq ((hB.rows.later q).sub (fun g hg _ => .inl hg)) (fun g hg => .inr (by omega))⟩, hb⟩))
  have HDW := Lib.hid (fun W' (q : Below w.heap.size w W') => Calls.mono (crash_ok (Plus F w.heap.size W'.heap.size) b d W' (hB.disk.grow q) (Plus.top hB.top q.size) kA kc K (hN.later q) hKl hw) (R' := fun x w' => x = .returned (.int .i64 0) ∧ DiskAt (Plus F w.heap.size W'.heap.size) b ⟨S', H', C', a', dn', o'⟩ w' ∧ Kp (Plus F w.heap.size W'.heap.size) W' w') (by
    rintro x w' ⟨rfl, hd, hb⟩
    have hd : DiskAt _ b (d.crash K) w' := hd
    rw [hdd] at hd
    exact ⟨rfl, hd, hb⟩))
  simp only [Ac.cells]
  dsimp only at hk
  subst hk
  have hD0 := Dz.start w (.slice A d.S.length c) (.slice A' d.C.length c') (.int .i64 (d.armed : Nat)) (.bool d.down) (.int .i64 (d.ops : Nat)) [.int .i64 5, .int .i64 p, .int .i64 n, .string t, .bool raw, .slice kA K.length kc]
  have hW0 := dz_below w (.cells #[.slice A d.S.length c, .slice A' d.C.length c', .int .i64 (d.armed : Nat), .bool d.down, .int .i64 (d.ops : Nat)] 35) (.cells #[.int .i64 5, .int .i64 p, .int .i64 n, .string t, .bool raw, .slice kA K.length kc] 39) (.cells #[.slice none 0 0, .slice none 0 0, .int .i64 0, .bool false, .int .i64 0] 35)
  have HD := Lib.hid hD0
  have HW := Lib.hid hW0
  clear hN hw hKl hB ho hC ha hok hdd hW0
  obtain ⟨S, Hs, C, a, dn, o⟩ := d
  dsimp only [rc] at *
  go_enter Try.func12, Try.ntmps12
  go_upto_region 2 with fail
  have hst2 := hD0.acts
  obtain ⟨x0, x1, x2, x3, x4, z0, z1, z2, z3, z4, f, f'⟩ := hD0.cells
  have f0 := f 0
  have f1 := f 1
  have f2 := f 2
  have f3 := f 3
  have f4 := f 4
  have g0 := f' 0
  have g1 := f' 1
  have g2 := f' 2
  have g3 := f' 3
  have g4 := f' 4
  clear f f'
  obtain ⟨a0, a1, a2, a3, a4, a5⟩ := hst2
  clear hD0
  generalize World.alloc (World.alloc (World.alloc w _) _) _ = W at *
  go_upto_block 0 with fail
  go_cut [8, 9] from 10 (fun s8 s9 wx => s8 = .int .i64 0 ∧ s9 = .int .i64 0 ∧ ∃ A1 c1 A2 c2 m, Dz w (.slice A1 S'.length c1) (.slice A2 C'.length c2) (.int .i64 (a' : Nat)) (.bool dn') (.int .i64 (o' : Nat)) [.int .i64 5, .int .i64 p, .int .i64 n, .string t, .bool raw, .slice kA K.length kc] wx ∧ DiskAt (Plus F w.heap.size m) b ⟨S', H', C', a', dn', o'⟩ wx ∧ RQ (Pl3 Q w.heap.size m) wx A1 A2 ⟨S', H', C', a', dn', o'⟩ ∧ Kp F w wx ∧ w.heap.size + 3 ≤ m ∧ m ≤ wx.heap.size)
  case first =>
    clear f0 f1 f2 f3 f4 g0 g1 g2 g3 g4 z0 z1 z2 z3 z4 a0 a1 a2 a3 a4
    go_upto_region 21 with fail
    go_region_with (first
      | (go_at_call 37; go_must (refine (HRW.out W.drew HW.out.drew HD.out.drew.lt).mono ?_; rintro x w7 ⟨⟨A1, c1, A2, c2, rfl, q7⟩, b7⟩; have D7 := Lib.hid (HD.out.drew.later b7); have B7 := Lib.hid (HW.out.drew.trans (b7.mono HW.out.drew.size)); have Q7 := Lib.hid q7; clear x0 x1 x2 x3 x4 q7 b7; obtain ⟨-, -, -, -, -, y5⟩ := D7.out.acts))
      | (go_at_call 21; go_must (refine (HDW.out w7 B7.out).mono ?_; rintro x w8 ⟨rfl, h8, k8⟩; have D8 := Lib.hid (D7.out.kp k8 D7.out.lt); have DK8 := Lib.hid h8; have R8 := Lib.hid (does_mid HSUB.out Q7.out k8); have K8 := Lib.hid ((B7.out.kp (F := F)).trans (k8.sub (fun k hk => .inl hk))); have HM := Lib.hid k8.size; have HML := Lib.hid D7.out.lt; clear h8 k8; obtain ⟨x0, x1, x2, x3, x4, z0, z1, z2, z3, z4, f, f'⟩ := D8.out.cells; have f0 := f 0; have f1 := f 1; have f2 := f 2; have f3 := f 3; have f4 := f 4; have g0 := f' 0; have g1 := f' 1; have g2 := f' 2; have g3 := f' 3; have g4 := f' 4; clear f f'; clear z0 z1 z2 z3 z4 g0 g1 g2 g3 g4)))
    all_goals
      have HPR := Lib.hid (pl3_off (m := w7.heap.size) (fun k hk => HTOP.out k (HSUB.out k hk)))
      have HNF := Lib.hid (HTOP.out.nf (Nat.le_refl w.heap.size))
      have HPB := Lib.hid (show Plus F w.heap.size w7.heap.size w.heap.size from .inr ⟨Nat.le_refl _, by have := HML.out; omega⟩)
      have D10 := (((((D8.out.put0 (.slice A1 S'.length c1)).put1 (.slice A2 C'.length c2)).put2 (.int .i64 (a' : Nat))).put3 (.bool dn')).put4 (.int .i64 (o' : Nat)))
      have DK10 := (((((DK8.out.set ⟨w.heap.size, 0, none⟩ (.slice A1 S'.length c1) HPB.out).set ⟨w.heap.size, 1, none⟩ (.slice A2 C'.length c2) HPB.out).set ⟨w.heap.size, 2, none⟩ (.int .i64 (a' : Nat)) HPB.out).set ⟨w.heap.size, 3, none⟩ (.bool dn') HPB.out).set ⟨w.heap.size, 4, none⟩ (.int .i64 (o' : Nat)) HPB.out)
      have R10 := (((((R8.out.set ⟨w.heap.size, 0, none⟩ (.slice A1 S'.length c1) HPR.out).set ⟨w.heap.size, 1, none⟩ (.slice A2 C'.length c2) HPR.out).set ⟨w.heap.size, 2, none⟩ (.int .i64 (a' : Nat)) HPR.out).set ⟨w.heap.size, 3, none⟩ (.bool dn') HPR.out).set ⟨w.heap.size, 4, none⟩ (.int .i64 (o' : Nat)) HPR.out)
      have K10 := (((((K8.out.setCell (p := ⟨w.heap.size, 0, none⟩) HNF.out (.slice A1 S'.length c1)).setCell (p := ⟨w.heap.size, 1, none⟩) HNF.out (.slice A2 C'.length c2)).setCell (p := ⟨w.heap.size, 2, none⟩) HNF.out (.int .i64 (a' : Nat))).setCell (p := ⟨w.heap.size, 3, none⟩) HNF.out (.bool dn')).setCell (p := ⟨w.heap.size, 4, none⟩) HNF.out (.int .i64 (o' : Nat)))
      go_wp2_with fail
      go_meet
      exact ⟨rfl, rfl, A1, c1, A2, c2, w7.heap.size, D10, DK10, R10, K10, HML.out, by simpa [World.setCell] using HM.out⟩
  case rest =>
    obtain ⟨rfl, rfl, A1, c1, A2, c2, m, hD10, hDK10, hR10, hK10, hML, hM⟩ := hcut
    clear x0 x1 x2 x3 x4 z0 z1 z2 z3 z4 f0 f1 f2 f3 f4 g0 g1 g2 g3 g4 a0 a1 a2 a3 a4 a5 HRW HDW HD HW
    have D10 := Lib.hid hD10
    have DK10 := Lib.hid hDK10
    have R10 := Lib.hid hR10
    have K10 := Lib.hid hK10
    have HML := Lib.hid hML
    have HM := Lib.hid hM
    clear hD10 hDK10 hR10 hK10 hML hM
    obtain ⟨x0, x1, x2, x3, x4, z0, z1, z2, z3, z4, f, f'⟩ := D10.out.cells
    have f0 := f 0
    have f1 := f 1
    have f2 := f 2
    have f3 := f 3
    have f4 := f 4
    have g0 := f' 0
    have g1 := f' 1
    have g2 := f' 2
    have g3 := f' 3
    have g4 := f' 4
    clear f f'
    go_upto_region 27 with fail
    have DKd := Lib.hid (DK10.out.later (Below.refl _ wc).drew)
    obtain ⟨v0, v1, v2, v3, v4, -⟩ := D10.out.drew.cells
    have hbx := And.intro v0 (And.intro v1 (And.intro v2 (And.intro v3 v4)))
    clear v0 v1 v2 v3 v4
    go_region_held3 (fun W' => W'.cell? ⟨w.heap.size, 0, none⟩ = some (.slice A1 S'.length c1) ∧ W'.cell? ⟨w.heap.size, 1, none⟩ = some (.slice A2 C'.length c2) ∧ W'.cell? ⟨w.heap.size, 2, none⟩ = some (.int .i64 (a' : Nat)) ∧ W'.cell? ⟨w.heap.size, 3, none⟩ = some (.bool dn') ∧ W'.cell? ⟨w.heap.size, 4, none⟩ = some (.int .i64 (o' : Nat))) (first | with_reducible exact hbx | with_reducible exact (D10.out.fin _ _ _ _ _).2) (first | (go_at_call 22; refine (down_any _ b _ _ DKd.out).mono ?_; rintro x W' ⟨rfl, rfl⟩) | (go_at_call 27; refine (ops_any _ b _ _ DKd.out).mono ?_; rintro x W' ⟨rfl, rfl⟩) | (go_at_call 26; refine (size_any _ b _ _ DKd.out).mono ?_; rintro x W' ⟨rfl, rfl⟩))
    go_wp2
    obtain ⟨⟨e0, e1, e2, e3, e4⟩, -⟩ := D10.out.fin (.slice A1 S'.length c1) (.slice A2 C'.length c2) (.int .i64 (a' : Nat)) (.bool dn') (.int .i64 (o' : Nat))
    have hend := does_end HTOP.out HSUB.out HML.out HM.out K10.out DK10.out R10.out HINV.out.1 (.slice A1 S'.length c1) (.slice A2 C'.length c2) (.int .i64 (a' : Nat)) (.bool dn') (.int .i64 (o' : Nat))
    refine bodyPost_ret (by simp [results, Try.results12, go_sem, e0, e1, e2, e3, e4]; try rfl) rfl ?_
    exact ⟨_, _, ⟨S', H', C', a', dn', o'⟩, A1, c1, A2, c2, rfl, hend, ⟨fun k hk => .inl hk, pl3_old⟩, HINV.out.2⟩
set_option maxHeartbeats 12800000 in
theorem does8_any (F Q : Nat → Prop) (b : Nat) (d : Dk) (A A' : Option Addr) (c c' : Nat) (a : Ac) (w : World) (hB : Both F Q b d A A' w) (ho : d.ops ≤ 1000000) (hC : d.C.length ≤ 90000) (ha : AcOk w a) (hk : ∀ z : Int, 1 ≤ z → z ≤ 7 → a.kind ≠ z) :
    Calls Try.prog 12 #[.pointer (some ⟨b, 0, none⟩), .agg (rc (.slice A d.S.length c) (.slice A' d.C.length c') d).toArray, .agg a.cells.toArray] w (DoesPost F Q b d w) := by
  have hok := hB.disk.ok
  obtain ⟨k, p, n, t, raw, kA, kl, kc⟩ := a
  obtain ⟨⟨S', H', C', a', dn', o'⟩, hdd⟩ : ∃ dd, d = dd := ⟨_, rfl⟩
  have HTOP := Lib.hid hB.top
  have HSUB := Lib.hid hB.sub
  have HINV := Lib.hid (show d.H = shows d.S d.C ∧ d.S.length = d.S.length ∧ d.ops ≤ d.ops + 1 ∧ d.C.length ≤ d.C.length + 1 from ⟨hB.shown, rfl, by omega, by omega⟩)
  have hSz := fun W' (q : Below w.heap.size w W') => seize_any F b d W' (hB.disk.later q) (hB.top.trans q.size)
  have hBoth := hB
  have hk1 : (k == 1) = false := by simpa using hk 1 (by decide) (by decide)
  have hk2 : (k == 2) = false := by simpa using hk 2 (by decide) (by decide)
  have hk3 : (k == 3) = false := by simpa using hk 3 (by decide) (by decide)
  have hk4 : (k == 4) = false := by simpa using hk 4 (by decide) (by decide)
  have hk5 : (k == 5) = false := by simpa using hk 5 (by decide) (by decide)
  have hk6 : (k == 6) = false := by simpa using hk 6 (by decide) (by decide)
  have hk7 : (k == 7) = false := by simpa using hk 7 (by decide) (by decide)
  have hl1 : (d.S.length : Int) ≤ 1000000 := by have := hok.most; omega
  have hl2 : ((ints d.C).length : Int) ≤ 1000000 := by have := hok.few; rw [ints_length]; omega
  have HSame := Lib.hid (fun W' (q : Below w.heap.size w W') B B' k k' (h1 : Txs W' B d.S) (h2 : Wrs W' B' (ints d.C)) => same_any B B' A A' k k' c c' d.S (ints d.C) W' h1 h2 (hB.rows.rows.1.later q) (hB.rows.rows.2.later q) hl1 hl2)
  rw [ints_length] at HSame
  have HSz := Lib.hid hSz
  have HBo := Lib.hid hBoth
  subst hdd
  simp only [Ac.cells]
  clear hk
  have hD0 := Dz.start w (.slice A S'.length c) (.slice A' C'.length c') (.int .i64 (a' : Nat)) (.bool dn') (.int .i64 (o' : Nat)) [.int .i64 k, .int .i64 p, .int .i64 n, .string t, .bool raw, .slice kA kl kc]
  have hW0 := dz_below w (.cells #[.slice A S'.length c, .slice A' C'.length c', .int .i64 (a' : Nat), .bool dn', .int .i64 (o' : Nat)] 35) (.cells #[.int .i64 k, .int .i64 p, .int .i64 n, .string t, .bool raw, .slice kA kl kc] 39) (.cells #[.slice none 0 0, .slice none 0 0, .int .i64 0, .bool false, .int .i64 0] 35)
  have HD := Lib.hid hD0
  have HW := Lib.hid hW0
  clear hSz hBoth hl1 hl2 hB ho hC ha hok hW0
  dsimp only [rc] at *
  go_enter Try.func12, Try.ntmps12
  go_upto_region 2 with fail
  have hst2 := hD0.acts
  obtain ⟨x0, x1, x2, x3, x4, z0, z1, z2, z3, z4, f, f'⟩ := hD0.cells
  have f0 := f 0
  have f1 := f 1
  have f2 := f 2
  have f3 := f 3
  have f4 := f 4
  have g0 := f' 0
  have g1 := f' 1
  have g2 := f' 2
  have g3 := f' 3
  have g4 := f' 4
  clear f f'
  obtain ⟨a0, a1, a2, a3, a4, a5⟩ := hst2
  clear hD0
  generalize World.alloc (World.alloc (World.alloc w _) _) _ = W at *
  go_upto_region 3 with fail
  clear a0 a1 a2 a3 a4 a5
  obtain ⟨v0, v1, v2, v3, v4, -⟩ := HD.out.drew.cells
  have hbx := And.intro v0 (And.intro v1 (And.intro v2 (And.intro v3 v4)))
  clear v0 v1 v2 v3 v4 x0 x1 x2 x3 x4 z0 z1 z2 z3 z4 f0 f1 f2 f3 f4 g0 g1 g2 g3 g4
  go_region_held3 (fun W' => W'.cell? ⟨w.heap.size, 0, none⟩ = some (.slice A S'.length c) ∧ W'.cell? ⟨w.heap.size, 1, none⟩ = some (.slice A' C'.length c') ∧ W'.cell? ⟨w.heap.size, 2, none⟩ = some (.int .i64 (a' : Nat)) ∧ W'.cell? ⟨w.heap.size, 3, none⟩ = some (.bool dn') ∧ W'.cell? ⟨w.heap.size, 4, none⟩ = some (.int .i64 (o' : Nat))) (first | with_reducible exact hbx | with_reducible exact hby | with_reducible exact hbz) (first
    | (go_at_call 10; refine (HSz.out _ HW.out.drew).mono ?_; rintro x w6 ⟨⟨g, cg, A6, c6, rfl, hr6, -, hw6⟩, b6⟩; have D6 := Lib.hid (HD.out.drew.later b6); have B6 := Lib.hid (HW.out.drew.trans (b6.mono HW.out.drew.size)); obtain ⟨v0, v1, v2, v3, v4, -⟩ := D6.out.cells; have hby := And.intro v0 (And.intro v1 (And.intro v2 (And.intro v3 v4))); clear v0 v1 v2 v3 v4)
    | (go_at_call 13; refine (HSame.out w6 B6.out (some ⟨g, 0, none⟩) A6 cg c6 hr6.txs hw6).mono ?_; rintro x w10 ⟨rfl, b10⟩; have D10 := Lib.hid (D6.out.later b10); have B10 := Lib.hid (B6.out.trans (b10.mono B6.out.size)); obtain ⟨v0, v1, v2, v3, v4, -⟩ := D10.out.cells; have hbz := And.intro v0 (And.intro v1 (And.intro v2 (And.intro v3 v4))); clear v0 v1 v2 v3 v4))
  have DK10 := Lib.hid (HBo.out.disk.grow B10.out)
  have R10 := Lib.hid ((HBo.out.rows.later B10.out).sub (Q' := Pl3 Q w.heap.size w10.heap.size) (fun g hg _ => .inl hg))
  have K10 := Lib.hid (B10.out.kp (F := F))
  have HML := Lib.hid D10.out.lt
  have HM := Lib.hid (Nat.le_refl w10.heap.size)
  clear hbx hby hbz hr6 hw6 b6 b10 B6 D6
  obtain ⟨x0, x1, x2, x3, x4, z0, z1, z2, z3, z4, f, f'⟩ := D10.out.cells
  have f0 := f 0
  have f1 := f 1
  have f2 := f 2
  have f3 := f 3
  have f4 := f 4
  have g0 := f' 0
  have g1 := f' 1
  have g2 := f' 2
  have g3 := f' 3
  have g4 := f' 4
  clear f f'
  go_upto_region 27 with fail
  have DKd := Lib.hid (DK10.out.later (Below.refl _ w10).drew)
  obtain ⟨v0, v1, v2, v3, v4, -⟩ := D10.out.drew.cells
  have hbx := And.intro v0 (And.intro v1 (And.intro v2 (And.intro v3 v4)))
  clear v0 v1 v2 v3 v4
  go_region_held3 (fun W' => W'.cell? ⟨w.heap.size, 0, none⟩ = some (.slice A S'.length c) ∧ W'.cell? ⟨w.heap.size, 1, none⟩ = some (.slice A' C'.length c') ∧ W'.cell? ⟨w.heap.size, 2, none⟩ = some (.int .i64 (a' : Nat)) ∧ W'.cell? ⟨w.heap.size, 3, none⟩ = some (.bool dn') ∧ W'.cell? ⟨w.heap.size, 4, none⟩ = some (.int .i64 (o' : Nat))) (first | with_reducible exact hbx | with_reducible exact (D10.out.fin _ _ _ _ _).2) (first | (go_at_call 22; refine (down_any _ b _ _ DKd.out).mono ?_; rintro x W' ⟨rfl, rfl⟩) | (go_at_call 27; refine (ops_any _ b _ _ DKd.out).mono ?_; rintro x W' ⟨rfl, rfl⟩) | (go_at_call 26; refine (size_any _ b _ _ DKd.out).mono ?_; rintro x W' ⟨rfl, rfl⟩))
  go_wp2
  obtain ⟨⟨e0, e1, e2, e3, e4⟩, -⟩ := D10.out.fin (.slice A S'.length c) (.slice A' C'.length c') (.int .i64 (a' : Nat)) (.bool dn') (.int .i64 (o' : Nat))
  have hend := does_end HTOP.out HSUB.out HML.out HM.out K10.out DK10.out R10.out HINV.out.1 (.slice A S'.length c) (.slice A' C'.length c') (.int .i64 (a' : Nat)) (.bool dn') (.int .i64 (o' : Nat))
  refine bodyPost_ret (by simp [results, Try.results12, go_sem, e0, e1, e2, e3, e4]; try rfl) rfl ?_
  exact ⟨_, _, ⟨S', H', C', a', dn', o'⟩, A, c, A', c', rfl, hend, ⟨fun k hk => .inl hk, pl3_old⟩, ⟨rfl, Nat.le_succ _, Nat.le_succ _⟩⟩
end Go.Proofs.Ytmehehiobcpeoaa.Disk
