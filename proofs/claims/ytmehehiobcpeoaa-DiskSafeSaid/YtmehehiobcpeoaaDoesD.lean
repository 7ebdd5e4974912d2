/-
  The walks of pleachlaw07's does: the power back, a read.
-/
import Derived.Test.YtmehehiobcpeoaaDoesI
import Derived.Deep.RegionHeld
import Derived.Deep.RegionHeld3
import Derived.Deep.CutRange
import Derived.Deep.CutBlock
namespace Go.Proofs.Ytmehehiobcpeoaa.Disk
open Go.RowKit Go.Proofs.Ytmehehiobcpeoaa.DiskRows
set_option linter.unusedVariables false
set_option linter.unusedSimpArgs false
set_option maxRecDepth 100000

set_option maxHeartbeats 12800000 in
theorem does6_any (F Q : Nat → Prop) (b : Nat) (d : Dk) (A A' : Option Addr) (c c' : Nat) (a : Ac) (w : World) (hB : Both F Q b d A A' w) (ho : d.ops ≤ 1000000) (hC : d.C.length ≤ 90000) (ha : AcOk w a) (hk : a.kind = 6) :
    Calls Try.prog 12 #[.pointer (some ⟨b, 0, none⟩), .agg (rc (.slice A d.S.length c) (.slice A' d.C.length c') d).toArray, .agg a.cells.toArray] w (DoesPost F Q b d w) := by
  have hok := hB.disk.ok
  obtain ⟨k, p, n, t, raw, kA, kl, kc⟩ := a
  obtain ⟨⟨S', H', C', a', dn', o'⟩, hdd⟩ : ∃ dd, d.boot = dd := ⟨_, rfl⟩
  have HTOP := Lib.hid hB.top
  have HSUB := Lib.hid hB.sub
  have HINV := Lib.hid (hdd ▸ inv_boot d)
  have HQ0 : ¬ Qd Q w.heap.size w.heap.size := Qd.off (topQ hB) (Nat.le_refl _) (by omega)
  have HRW := Lib.hid (fun W' (q : Below w.heap.size w W') (hl : w.heap.size + 3 ≤ W'.heap.size) => Calls.mono (refBoot_any A A' c c' d W' (hB.rows.rows.later q) hok) (R' := fun x w' => (∃ A1 c1 A2 c2, x = .returned ((.agg (rc (.slice A1 S'.length c1) (.slice A2 C'.length c2) ⟨S', H', C', a', dn', o'⟩).toArray)) ∧ RQ (Qd Q w.heap.size) w' A1 A2 ⟨S', H', C', a', dn', o'⟩) ∧ Below W'.heap.size W' w') (by
    rintro x w' ⟨⟨A1, c1, A2, c2, rfl, hn⟩, hb⟩
    rw [hdd] at *
    exact ⟨⟨A1, c1, A2, c2, rfl, hn.rq ((hB.rows.later q).sub (fun g hg _ => .inl hg)) (fun g hg => .inr (by omega))⟩, hb⟩))
  have HDW := Lib.hid (fun W' (q : Below w.heap.size w W') => Calls.mono (boot_ok (Plus F w.heap.size W'.heap.size) b d W' (hB.disk.grow q) (Plus.top hB.top q.size)) (R' := fun x w' => x = .returned (.int .i64 0) ∧ DiskAt (Plus F w.heap.size W'.heap.size) b ⟨S', H', C', a', dn', o'⟩ w' ∧ Kp (Plus F w.heap.size W'.heap.size) W' w') (by
    rintro x w' ⟨rfl, hd, hb⟩
    have hd : DiskAt _ b d.boot w' := hd
    rw [hdd] at hd
    exact ⟨rfl, hd, hb⟩))
  simp only [Ac.cells]
  dsimp only at hk
  subst hk
  have hD0 := Dz.start w (.slice A d.S.length c) (.slice A' d.C.length c') (.int .i64 (d.armed : Nat)) (.bool d.down) (.int .i64 (d.ops : Nat)) [.int .i64 6, .int .i64 p, .int .i64 n, .string t, .bool raw, .slice kA kl kc]
  have hW0 := dz_below w (.cells #[.slice A d.S.length c, .slice A' d.C.length c', .int .i64 (d.armed : Nat), .bool d.down, .int .i64 (d.ops : Nat)] 35) (.cells #[.int .i64 6, .int .i64 p, .int .i64 n, .string t, .bool raw, .slice kA kl kc] 39) (.cells #[.slice none 0 0, .slice none 0 0, .int .i64 0, .bool false, .int .i64 0] 35)
  have HD := Lib.hid hD0
  have HW := Lib.hid hW0
  clear  hB ho hC ha hok hdd hW0
  obtain ⟨S, Hs, C, a, dn, o⟩ := d
  dsimp only [rc] at *
  go_enter Try.func12, Try.ntmps12
  go_upto_region 2 with fail
  have hst2 := hD0.acts
  obtain ⟨x0, x1, x2, x3, x4, z0, z1, z2, z3, z4, f, f'⟩ := hD0.cells
  have f0 := f 0
  have f1 := f 1
  have f2 := f 2
  have f3 := f 3
  have f4 := f 4
  have g0 := f' 0
  have g1 := f' 1
  have g2 := f' 2
  have g3 := f' 3
  have g4 := f' 4
  clear f f'
  obtain ⟨a0, a1, a2, a3, a4, a5⟩ := hst2
  clear hD0
  generalize World.alloc (World.alloc (World.alloc w _) _) _ = W at *
  go_wp2_with fail
  refine (HRW.out W HW.out HD.out.lt).mono ?_
  rintro x w7 ⟨⟨A1, c1, A2, c2, rfl, q7⟩, b7⟩
  have D7 := Lib.hid (HD.out.later b7)
  have B7 := Lib.hid (HW.out.trans (b7.mono HW.out.size))
  have Q7 := Lib.hid q7
  clear x0 x1 x2 x3 x4 z0 z1 z2 z3 z4 f0 f1 f2 f3 f4 g0 g1 g2 g3 g4 a0 a1 a2 a3 a4 a5 q7 b7
  go_wp2_with fail
  refine (HDW.out w7 B7.out).mono ?_
  rintro x w8 ⟨rfl, h8, k8⟩
  have D8 := Lib.hid (D7.out.kp k8 D7.out.lt)
  have DK8 := Lib.hid h8
  have R8 := Lib.hid (does_mid HSUB.out Q7.out k8)
  have K8 := Lib.hid ((B7.out.kp (F := F)).trans (k8.sub (fun k hk => .inl hk)))
  have HM := Lib.hid k8.size
  have HML := Lib.hid D7.out.lt
  clear h8 k8
  have HPR := Lib.hid (pl3_off (m := w7.heap.size) (fun k hk => HTOP.out k (HSUB.out k hk)))
  have HNF := Lib.hid (HTOP.out.nf (Nat.le_refl w.heap.size))
  have HPB := Lib.hid (show Plus F w.heap.size w7.heap.size w.heap.size from .inr ⟨Nat.le_refl _, by have := HML.out; omega⟩)
  obtain ⟨x0, x1, x2, x3, x4, z0, z1, z2, z3, z4, f, f'⟩ := D8.out.cells
  have f0 := f 0
  have f1 := f 1
  have f2 := f 2
  have f3 := f 3
  have f4 := f 4
  have g0 := f' 0
  have g1 := f' 1
  have g2 := f' 2
  have g3 := f' 3
  have g4 := f' 4
  clear f f'
  go_upto_region 27 with fail
  have D10 := Lib.hid (((((D8.out.put0 (.slice A1 S'.length c1)).put1 (.slice A2 C'.length c2)).put2 (.int .i64 (a' : Nat))).put3 (.bool dn')).put4 (.int .i64 (o' : Nat)))
  have DK10 := Lib.hid (((((DK8.out.set ⟨w.heap.size, 0, none⟩ (.slice A1 S'.length c1) HPB.out).set ⟨w.heap.size, 1, none⟩ (.slice A2 C'.length c2) HPB.out).set ⟨w.heap.size, 2, none⟩ (.int .i64 (a' : Nat)) HPB.out).set ⟨w.heap.size, 3, none⟩ (.bool dn') HPB.out).set ⟨w.heap.size, 4, none⟩ (.int .i64 (o' : Nat)) HPB.out)
  have R10 := Lib.hid (((((R8.out.set ⟨w.heap.size, 0, none⟩ (.slice A1 S'.length c1) HPR.out).set ⟨w.heap.size, 1, none⟩ (.slice A2 C'.length c2) HPR.out).set ⟨w.heap.size, 2, none⟩ (.int .i64 (a' : Nat)) HPR.out).set ⟨w.heap.size, 3, none⟩ (.bool dn') HPR.out).set ⟨w.heap.size, 4, none⟩ (.int .i64 (o' : Nat)) HPR.out)
  have K10 := Lib.hid (((((K8.out.setCell (p := ⟨w.heap.size, 0, none⟩) HNF.out (.slice A1 S'.length c1)).setCell (p := ⟨w.heap.size, 1, none⟩) HNF.out (.slice A2 C'.length c2)).setCell (p := ⟨w.heap.size, 2, none⟩) HNF.out (.int .i64 (a' : Nat))).setCell (p := ⟨w.heap.size, 3, none⟩) HNF.out (.bool dn')).setCell (p := ⟨w.heap.size, 4, none⟩) HNF.out (.int .i64 (o' : Nat)))
  have HMs : w7.heap.size ≤ ((((((w8.setCell ⟨w.heap.size, 0, none⟩ (.slice A1 S'.length c1)).setCell ⟨w.heap.size, 1, none⟩ (.slice A2 C'.length c2)).setCell ⟨w.heap.size, 2, none⟩ (.int .i64 (a' : Nat))).setCell ⟨w.heap.size, 3, none⟩ (.bool dn')).setCell ⟨w.heap.size, 4, none⟩ (.int .i64 (o' : Nat)))).heap.size := by simpa [World.setCell] using HM.out
  clear x0 x1 x2 x3 x4 z0 z1 z2 z3 z4 f0 f1 f2 f3 f4 g0 g1 g2 g3 g4 HM
  generalize World.setCell _ _ _ = w10 at *
  have HM := Lib.hid HMs
  clear HMs
  obtain ⟨x0, x1, x2, x3, x4, z0, z1, z2, z3, z4, f, f'⟩ := D10.out.cells
  have f0 := f 0
  have f1 := f 1
  have f2 := f 2
  have f3 := f 3
  have f4 := f 4
  have g0 := f' 0
  have g1 := f' 1
  have g2 := f' 2
  have g3 := f' 3
  have g4 := f' 4
  clear f f'
  have DKd := Lib.hid (DK10.out.later (Below.refl _ w10).drew)
  obtain ⟨v0, v1, v2, v3, v4, -⟩ := D10.out.drew.cells
  have hbx := And.intro v0 (And.intro v1 (And.intro v2 (And.intro v3 v4)))
  clear v0 v1 v2 v3 v4
  go_region_held3 (fun W' => W'.cell? ⟨w.heap.size, 0, none⟩ = some (.slice A1 S'.length c1) ∧ W'.cell? ⟨w.heap.size, 1, none⟩ = some (.slice A2 C'.length c2) ∧ W'.cell? ⟨w.heap.size, 2, none⟩ = some (.int .i64 (a' : Nat)) ∧ W'.cell? ⟨w.heap.size, 3, none⟩ = some (.bool dn') ∧ W'.cell? ⟨w.heap.size, 4, none⟩ = some (.int .i64 (o' : Nat))) (first | with_reducible exact hbx | with_reducible exact (D10.out.fin _ _ _ _ _).2) (first | (go_at_call 22; refine (down_any _ b _ _ DKd.out).mono ?_; rintro x W' ⟨rfl, rfl⟩) | (go_at_call 27; refine (ops_any _ b _ _ DKd.out).mono ?_; rintro x W' ⟨rfl, rfl⟩) | (go_at_call 26; refine (size_any _ b _ _ DKd.out).mono ?_; rintro x W' ⟨rfl, rfl⟩))
  go_wp2
  obtain ⟨⟨e0, e1, e2, e3, e4⟩, -⟩ := D10.out.fin (.slice A1 S'.length c1) (.slice A2 C'.length c2) (.int .i64 (a' : Nat)) (.bool dn') (.int .i64 (o' : Nat))
  have hend := does_end HTOP.out HSUB.out HML.out HM.out K10.out DK10.out R10.out HINV.out.1 (.slice A1 S'.length c1) (.slice A2 C'.length c2) (.int .i64 (a' : Nat)) (.bool dn') (.int .i64 (o' : Nat))
  refine bodyPost_ret (by simp [results, Try.results12, go_sem, e0, e1, e2, e3, e4]; try rfl) rfl ?_
  exact ⟨_, _, ⟨S', H', C', a', dn', o'⟩, A1, c1, A2, c2, rfl, hend, ⟨fun k hk => .inl hk, pl3_old⟩, HINV.out.2⟩
set_option maxHeartbeats 12800000 in
theorem does2_any (F Q : Nat → Prop) (b : Nat) (d : Dk) (A A' : Option Addr) (c c' : Nat) (a : Ac) (w : World) (hB : Both F Q b d A A' w) (ho : d.ops ≤ 1000000) (hC : d.C.length ≤ 90000) (ha : AcOk w a) (hk : a.kind = 2) :
    Calls Try.prog 12 #[.pointer (some ⟨b, 0, none⟩), .agg (rc (.slice A d.S.length c) (.slice A' d.C.length c') d).toArray, .agg a.cells.toArray] w (DoesPost F Q b d w) := by
  have hok := hB.disk.ok
  obtain ⟨k, p, n, t, raw, kA, kl, kc⟩ := a
  obtain ⟨⟨S', H', C', a', dn', o'⟩, hdd⟩ : ∃ dd, (d.read p).1 = dd := ⟨_, rfl⟩
  obtain ⟨e, he⟩ : ∃ e, (d.read p).2.2 = e := ⟨_, rfl⟩
  obtain ⟨rs, hrs⟩ : ∃ e, (d.read p).2.1 = e := ⟨_, rfl⟩
  have HTOP := Lib.hid hB.top
  have HSUB := Lib.hid hB.sub
  have HINV := Lib.hid (hdd ▸ (inv_read d p hB.shown))
  have HQ0 : ¬ Qd Q w.heap.size w.heap.size := Qd.off (topQ hB) (Nat.le_refl _) (by omega)
  have hSC : S' = d.S ∧ C' = d.C := by
    have h1 := read_same d p
    rw [hdd] at h1
    exact h1
  have HRW := Lib.hid (fun W' (q : Below w.heap.size w W') (hl : w.heap.size + 3 ≤ W'.heap.size) => Calls.mono (refRead_any A A' c c' d p W' (hB.rows.rows.later q) hok hB.shown (by omega)) (R' := fun x w' => (∃ A1 c1 A2 c2, x = .returned (.tuple #[(.agg (rc (.slice A1 S'.length c1) (.slice A2 C'.length c2) ⟨S', H', C', a', dn', o'⟩).toArray), .string rs, .int .i64 e]) ∧ RQ (Qd Q w.heap.size) w' A1 A2 ⟨S', H', C', a', dn', o'⟩) ∧ Below W'.heap.size W' w') (by
    rintro x w' ⟨rfl, hb⟩
    rw [hdd, he, hrs] at *
    exact ⟨⟨A, c, A', c', by rw [← hSC.1, ← hSC.2], RQ.same (((hB.rows.later q).later hb).sub (fun g hg _ => .inl hg)) hSC.1 hSC.2⟩, hb⟩))
  have HDW := Lib.hid (fun W' (q : Below w.heap.size w W') => Calls.mono (read_any (Plus F w.heap.size W'.heap.size) b d W' (hB.disk.grow q) p (by omega)) (R' := fun x w' => x = .returned (.tuple #[.string rs, .int .i64 e]) ∧ DiskAt (Plus F w.heap.size W'.heap.size) b ⟨S', H', C', a', dn', o'⟩ w' ∧ Kp (Plus F w.heap.size W'.heap.size) W' w') (by
    rintro x w' ⟨rfl, hd, hb⟩
    rw [hdd] at hd
    rw [he, hrs]
    exact ⟨rfl, hd, hb⟩))
  simp only [Ac.cells]
  dsimp only at hk
  subst hk
  have hD0 := Dz.start w (.slice A d.S.length c) (.slice A' d.C.length c') (.int .i64 (d.armed : Nat)) (.bool d.down) (.int .i64 (d.ops : Nat)) [.int .i64 2, .int .i64 p, .int .i64 n, .string t, .bool raw, .slice kA kl kc]
  have hW0 := dz_below w (.cells #[.slice A d.S.length c, .slice A' d.C.length c', .int .i64 (d.armed : Nat), .bool d.down, .int .i64 (d.ops : Nat)] 35) (.cells #[.int .i64 2, .int .i64 p, .int .i64 n, .string t, .bool raw, .slice kA kl kc] 39) (.cells #[.slice none 0 0, .slice none 0 0, .int .i64 0, .bool false, .int .i64 0] 35)
  have HD := Lib.hid hD0
  have HW := Lib.hid hW0
  clear he hrs hSC hB ho hC ha hok hdd hW0
  obtain ⟨S, Hs, C, a, dn, o⟩ := d
  dsimp only [rc] at *
  go_enter Try.func12, Try.ntmps12
  go_upto_region 2 with fail
  have hst2 := hD0.acts
  obtain ⟨x0, x1, x2, x3, x4, z0, z1, z2, z3, z4, f, f'⟩ := hD0.cells
  have f0 := f 0
  have f1 := f 1
  have f2 := f 2
  have f3 := f 3
  have f4 := f 4
  have g0 := f' 0
  have g1 := f' 1
  have g2 := f' 2
  have g3 := f' 3
  have g4 := f' 4
  clear f f'
  obtain ⟨a0, a1, a2, a3, a4, a5⟩ := hst2
  clear hD0
  generalize World.alloc (World.alloc (World.alloc w _) _) _ = W at *
  go_wp2_with fail
  refine (HRW.out W HW.out HD.out.lt).mono ?_
  rintro x w6 ⟨⟨A1, c1, A2, c2, rfl, q6⟩, b6⟩
  have ba := Joins.below_alloc1 w6 (.cells #[.slice A1 S'.length c1, .slice A2 C'.length c2, .int .i64 (a' : Nat), .bool dn', .int .i64 (o' : Nat)] 35)
  have hq := heap_alloc_last w6 (.cells #[.slice A1 S'.length c1, .slice A2 C'.length c2, .int .i64 (a' : Nat), .bool dn', .int .i64 (o' : Nat)] 35)
  have D7 := Lib.hid ((HD.out.later b6).later ba)
  have B7 := Lib.hid ((HW.out.trans (b6.mono HW.out.size)).trans (ba.mono (Nat.le_trans HW.out.size b6.size)))
  have Q7 := Lib.hid (q6.later ba)
  have hql : w6.heap.size < (w6.alloc (.cells #[.slice A1 S'.length c1, .slice A2 C'.length c2, .int .i64 (a' : Nat), .bool dn', .int .i64 (o' : Nat)] 35)).heap.size := by simp
  have hqn : w.heap.size ≤ w6.heap.size := Nat.le_trans HW.out.size b6.size
  have D6 := Lib.hid (HD.out.later b6)
  clear x0 x1 x2 x3 x4 z0 z1 z2 z3 z4 f0 f1 f2 f3 f4 g0 g1 g2 g3 g4 a0 a1 a2 a3 a4 a5 q6 b6 ba
  obtain ⟨a0, a1, a2, a3, a4, a5⟩ := D6.out.acts
  go_upto_region 10 with fail
  obtain ⟨gq, hgq⟩ : ∃ g, w6.heap.size = g := ⟨_, rfl⟩
  rw [hgq] at hq hql hqn ⊢
  clear a0 a1 a2 a3 a4 a5 hgq
  generalize w6.alloc _ = w7 at *
  obtain ⟨a0, a1, a2, a3, a4, a5⟩ := D7.out.acts
  go_wp2_with fail
  refine (HDW.out w7 B7.out).mono ?_
  rintro x w8 ⟨rfl, h8, k8⟩
  have hq8 := (k8.block gq hql (.inr ⟨hqn, hql⟩)).trans hq
  have y0 := (cell_of_row w8 gq 0 _ _ _ hq8).trans rfl
  have y1 := (cell_of_row w8 gq 1 _ _ _ hq8).trans rfl
  have y2 := (cell_of_row w8 gq 2 _ _ _ hq8).trans rfl
  have y3 := (cell_of_row w8 gq 3 _ _ _ hq8).trans rfl
  have y4 := (cell_of_row w8 gq 4 _ _ _ hq8).trans rfl
  have D8 := Lib.hid (D7.out.kp k8 D7.out.lt)
  have DK8 := Lib.hid h8
  have R8 := Lib.hid (does_mid HSUB.out Q7.out k8)
  have K8 := Lib.hid ((B7.out.kp (F := F)).trans (k8.sub (fun k hk => .inl hk)))
  have HM := Lib.hid k8.size
  have HML := Lib.hid D7.out.lt
  clear h8 k8 hq8 hq a0 a1 a2 a3 a4 a5
  have HPR := Lib.hid (pl3_off (m := w7.heap.size) (fun k hk => HTOP.out k (HSUB.out k hk)))
  have HNF := Lib.hid (HTOP.out.nf (Nat.le_refl w.heap.size))
  have HPB := Lib.hid (show Plus F w.heap.size w7.heap.size w.heap.size from .inr ⟨Nat.le_refl _, by have := HML.out; omega⟩)
  obtain ⟨x0, x1, x2, x3, x4, z0, z1, z2, z3, z4, f, f'⟩ := D8.out.cells
  have f0 := f 0
  have f1 := f 1
  have f2 := f 2
  have f3 := f 3
  have f4 := f 4
  have g0 := f' 0
  have g1 := f' 1
  have g2 := f' 2
  have g3 := f' 3
  have g4 := f' 4
  clear f f'
  go_upto_region 27 with fail
  clear y0 y1 y2 y3 y4
  have D10 := Lib.hid (((((D8.out.put0 (.slice A1 S'.length c1)).put1 (.slice A2 C'.length c2)).put2 (.int .i64 (a' : Nat))).put3 (.bool dn')).put4 (.int .i64 (o' : Nat)))
  have DK10 := Lib.hid (((((DK8.out.set ⟨w.heap.size, 0, none⟩ (.slice A1 S'.length c1) HPB.out).set ⟨w.heap.size, 1, none⟩ (.slice A2 C'.length c2) HPB.out).set ⟨w.heap.size, 2, none⟩ (.int .i64 (a' : Nat)) HPB.out).set ⟨w.heap.size, 3, none⟩ (.bool dn') HPB.out).set ⟨w.heap.size, 4, none⟩ (.int .i64 (o' : Nat)) HPB.out)
  have R10 := Lib.hid (((((R8.out.set ⟨w.heap.size, 0, none⟩ (.slice A1 S'.length c1) HPR.out).set ⟨w.heap.size, 1, none⟩ (.slice A2 C'.length c2) HPR.out).set ⟨w.heap.size, 2, none⟩ (.int .i64 (a' : Nat)) HPR.out).set ⟨w.heap.size, 3, none⟩ (.bool dn') HPR.out).set ⟨w.heap.size, 4, none⟩ (.int .i64 (o' : Nat)) HPR.out)
  have K10 := Lib.hid (((((K8.out.setCell (p := ⟨w.heap.size, 0, none⟩) HNF.out (.slice A1 S'.length c1)).setCell (p := ⟨w.heap.size, 1, none⟩) HNF.out (.slice A2 C'.length c2)).setCell (p := ⟨w.heap.size, 2, none⟩) HNF.out (.int .i64 (a' : Nat))).setCell (p := ⟨w.heap.size, 3, none⟩) HNF.out (.bool dn')).setCell (p := ⟨w.heap.size, 4, none⟩) HNF.out (.int .i64 (o' : Nat)))
  have HMs : w7.heap.size ≤ ((((((w8.setCell ⟨w.heap.size, 0, none⟩ (.slice A1 S'.length c1)).setCell ⟨w.heap.size, 1, none⟩ (.slice A2 C'.length c2)).setCell ⟨w.heap.size, 2, none⟩ (.int .i64 (a' : Nat))).setCell ⟨w.heap.size, 3, none⟩ (.bool dn')).setCell ⟨w.heap.size, 4, none⟩ (.int .i64 (o' : Nat)))).heap.size := by simpa [World.setCell] using HM.out
  clear x0 x1 x2 x3 x4 z0 z1 z2 z3 z4 f0 f1 f2 f3 f4 g0 g1 g2 g3 g4 HM
  generalize World.setCell _ _ _ = w10 at *
  have HM := Lib.hid HMs
  clear HMs
  obtain ⟨x0, x1, x2, x3, x4, z0, z1, z2, z3, z4, f, f'⟩ := D10.out.cells
  have f0 := f 0
  have f1 := f 1
  have f2 := f 2
  have f3 := f 3
  have f4 := f 4
  have g0 := f' 0
  have g1 := f' 1
  have g2 := f' 2
  have g3 := f' 3
  have g4 := f' 4
  clear f f'
  have DKd := Lib.hid (DK10.out.later (Below.refl _ w10).drew)
  obtain ⟨v0, v1, v2, v3, v4, -⟩ := D10.out.drew.cells
  have hbx := And.intro v0 (And.intro v1 (And.intro v2 (And.intro v3 v4)))
  clear v0 v1 v2 v3 v4
  go_region_held3 (fun W' => W'.cell? ⟨w.heap.size, 0, none⟩ = some (.slice A1 S'.length c1) ∧ W'.cell? ⟨w.heap.size, 1, none⟩ = some (.slice A2 C'.length c2) ∧ W'.cell? ⟨w.heap.size, 2, none⟩ = some (.int .i64 (a' : Nat)) ∧ W'.cell? ⟨w.heap.size, 3, none⟩ = some (.bool dn') ∧ W'.cell? ⟨w.heap.size, 4, none⟩ = some (.int .i64 (o' : Nat))) (first | with_reducible exact hbx | with_reducible exact (D10.out.fin _ _ _ _ _).2) (first | (go_at_call 22; refine (down_any _ b _ _ DKd.out).mono ?_; rintro x W' ⟨rfl, rfl⟩) | (go_at_call 27; refine (ops_any _ b _ _ DKd.out).mono ?_; rintro x W' ⟨rfl, rfl⟩) | (go_at_call 26; refine (size_any _ b _ _ DKd.out).mono ?_; rintro x W' ⟨rfl, rfl⟩))
  go_wp2
  obtain ⟨⟨e0, e1, e2, e3, e4⟩, -⟩ := D10.out.fin (.slice A1 S'.length c1) (.slice A2 C'.length c2) (.int .i64 (a' : Nat)) (.bool dn') (.int .i64 (o' : Nat))
  have hend := does_end HTOP.out HSUB.out HML.out HM.out K10.out DK10.out R10.out HINV.out.1 (.slice A1 S'.length c1) (.slice A2 C'.length c2) (.int .i64 (a' : Nat)) (.bool dn') (.int .i64 (o' : Nat))
  refine bodyPost_ret (by simp [results, Try.results12, go_sem, e0, e1, e2, e3, e4]; try rfl) rfl ?_
  exact ⟨_, _, ⟨S', H', C', a', dn', o'⟩, A1, c1, A2, c2, rfl, hend, ⟨fun k hk => .inl hk, pl3_old⟩, HINV.out.2⟩
end Go.Proofs.Ytmehehiobcpeoaa.Disk
