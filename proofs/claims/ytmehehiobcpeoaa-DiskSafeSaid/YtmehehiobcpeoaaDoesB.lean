/-
  The walks of pleachlaw07's does: a write.
-/
import Derived.Test.YtmehehiobcpeoaaDoesI
import Derived.Deep.RegionHeld
import Derived.Deep.RegionHeld3
import Derived.Deep.CutRange
import Derived.Deep.CutBlock
namespace Go.Proofs.Ytmehehiobcpeoaa.Disk
open Go.RowKit Go.Proofs.Ytmehehiobcpeoaa.DiskRows
set_option linter.unusedVariables false
set_option linter.unusedSimpArgs false
set_option maxRecDepth 100000

set_option maxHeartbeats 12800000 in
theorem does1_any (F Q : Nat → Prop) (b : Nat) (d : Dk) (A A' : Option Addr) (c c' : Nat) (a : Ac) (w : World) (hB : Both F Q b d A A' w) (ho : d.ops ≤ 1000000) (hC : d.C.length ≤ 90000) (ha : AcOk w a) (hk : a.kind = 1) :
    Calls Try.prog 12 #[.pointer (some ⟨b, 0, none⟩), .agg (rc (.slice A d.S.length c) (.slice A' d.C.length c') d).toArray, .agg a.cells.toArray] w (DoesPost F Q b d w) := by
  have hok := hB.disk.ok
  obtain ⟨k, p, n, t, raw, kA, kl, kc⟩ := a
  obtain ⟨s, hs⟩ : ∃ s, Ac.txt ⟨k, p, n, t, raw, kA, kl, kc⟩ = s := ⟨_, rfl⟩
  have hT : ∀ W, Calls Try.prog 20 #[.agg #[.int .i64 k, .int .i64 p, .int .i64 n, .string t, .bool raw, .slice kA kl kc]] W fun x w' => x = .returned (.string s) ∧ Below W.heap.size W w' := fun W => by
    rw [← hs]; exact text_any ⟨k, p, n, t, raw, kA, kl, kc⟩ W (Nat.le_trans ha.text (by decide))
  have hsz : (s.size : Int) ≤ 9223372036854775807 := by rw [← hs]; exact txt_size _ ha.text
  obtain ⟨⟨S', H', C', a', dn', o'⟩, hdd⟩ : ∃ dd, (d.write p s).1 = dd := ⟨_, rfl⟩
  obtain ⟨e, he⟩ : ∃ e, (d.write p s).2 = e := ⟨_, rfl⟩
  have HTOP := Lib.hid hB.top
  have HQ0 := topQ hB |> fun h => Qd.off (k := w.heap.size) h (Nat.le_refl _) (by omega)
  have HSUB := Lib.hid hB.sub
  have HINV := Lib.hid (hdd ▸ (inv_write d p s hB.shown))
  have HRW := Lib.hid (fun W' (q : Below w.heap.size w W') (hl : w.heap.size + 3 ≤ W'.heap.size) => Calls.mono (refWrite_any A A' c c' d p s W' (hB.rows.rows.later q) hok (by omega) hsz) (R' := fun x w' => (∃ A1 c1 A2 c2, x = .returned (.tuple #[.agg (rc (.slice A1 S'.length c1) (.slice A2 C'.length c2) ⟨S', H', C', a', dn', o'⟩).toArray, .int .i64 e]) ∧ RQ (Qd Q w.heap.size) w' A1 A2 ⟨S', H', C', a', dn', o'⟩) ∧ Below W'.heap.size W' w') (by
    rintro x w' ⟨⟨A1, c1, A2, c2, rfl, hn⟩, hb⟩
    rw [hdd, he] at *
    exact ⟨⟨A1, c1, A2, c2, rfl, hn.rq ((hB.rows.later q).sub (fun g hg _ => .inl hg)) (fun g hg => .inr (by omega))⟩, hb⟩))
  have HDW := Lib.hid (fun W' (q : Below w.heap.size w W') => Calls.mono (write_any (Plus F w.heap.size W'.heap.size) b d W' (hB.disk.grow q) p s (by omega) (by omega) (Plus.top hB.top q.size) hsz) (R' := fun x w' => x = .returned (.int .i64 e) ∧ DiskAt (Plus F w.heap.size W'.heap.size) b ⟨S', H', C', a', dn', o'⟩ w' ∧ Kp (Plus F w.heap.size W'.heap.size) W' w') (by
    rintro x w' ⟨rfl, hd, hb⟩
    rw [hdd] at hd
    rw [he]
    exact ⟨rfl, hd, hb⟩))
  have HT := Lib.hid hT
  simp only [Ac.cells]
  dsimp only at hk
  subst hk
  have hD0 := Dz.start w (.slice A d.S.length c) (.slice A' d.C.length c') (.int .i64 (d.armed : Nat)) (.bool d.down) (.int .i64 (d.ops : Nat)) [.int .i64 1, .int .i64 p, .int .i64 n, .string t, .bool raw, .slice kA kl kc]
  have hW0 := dz_below w (.cells #[.slice A d.S.length c, .slice A' d.C.length c', .int .i64 (d.armed : Nat), .bool d.down, .int .i64 (d.ops : Nat)] 35) (.cells #[.int .i64 1, .int .i64 p, .int .i64 n, .string t, .bool raw, .slice kA kl kc] 39) (.cells #[.slice none 0 0, .slice none 0 0, .int .i64 0, .bool false, .int .i64 0] 35)
  have HD := Lib.hid hD0
  have HW := Lib.hid hW0
  clear hT hs hsz hB ho hC ha hok hdd he hW0
  obtain ⟨S, Hs, C, a, dn, o⟩ := d
  dsimp only [rc] at *
  go_enter Try.func12, Try.ntmps12
  go_upto_region 2 with fail
  have hst := hD0.drew.acts
  have hst2 := hD0.acts
  obtain ⟨x0, x1, x2, x3, x4, z0, z1, z2, z3, z4, f, f'⟩ := hD0.cells
  have f0 := f 0
  have f1 := f 1
  have f2 := f 2
  have f3 := f 3
  have f4 := f 4
  have g0 := f' 0
  have g1 := f' 1
  have g2 := f' 2
  have g3 := f' 3
  have g4 := f' 4
  clear f f'
  obtain ⟨a0, a1, a2, a3, a4, a5⟩ := hst2
  clear hD0
  generalize World.alloc (World.alloc (World.alloc w _) _) _ = W at *
  go_upto_region 6 with fail
  go_cut [9] from 10 (fun s9 wx => s9 = .int .i64 e ∧ ∃ A1 c1 A2 c2, Dz w (.slice A1 S'.length c1) (.slice A2 C'.length c2) (.int .i64 (a' : Nat)) (.bool dn') (.int .i64 (o' : Nat)) [.int .i64 1, .int .i64 p, .int .i64 n, .string t, .bool raw, .slice kA kl kc] wx ∧ Below w.heap.size w wx ∧ RQ (Qd Q w.heap.size) wx A1 A2 ⟨S', H', C', a', dn', o'⟩)
  case first =>
    clear f0 f1 f2 f3 f4 g0 g1 g2 g3 g4 z0 z1 z2 z3 z4 hst
    go_region_with (first
      | (go_at_call 20; go_must (refine (HT.out _).mono ?_; rintro x w6 ⟨rfl, b6⟩; have D6 := Lib.hid (HD.out.drew.later b6); have B6 := Lib.hid (HW.out.drew.trans (b6.mono HW.out.drew.size)); clear x0 x1 x2 x3 x4; obtain ⟨x0, x1, x2, x3, x4, -⟩ := D6.out.cells; obtain ⟨-, y1, -⟩ := D6.out.acts))
      | (go_at_call 33; go_must (refine (HRW.out w6 B6.out D6.out.lt).mono ?_; rintro x w7 ⟨⟨A1, c1, A2, c2, rfl, q7⟩, b7⟩; have D7 := Lib.hid (D6.out.later b7); have B7 := Lib.hid (B6.out.trans (b7.mono B6.out.size)); have Q7 := Lib.hid q7; clear x0 x1 x2 x3 x4 q7; obtain ⟨x0, x1, x2, x3, x4, z0, z1, z2, z3, z4, f, f'⟩ := D7.out.cells; have f0 := f 0; have f1 := f 1; have f2 := f 2; have f3 := f 3; have f4 := f 4; have g0 := f' 0; have g1 := f' 1; have g2 := f' 2; have g3 := f' 3; have g4 := f' 4; clear f f'; clear z0 z1 z2 z3 z4 g0 g1 g2 g3 g4)))
    all_goals
      have D8 := (((((D7.out.put0 (.slice A1 S'.length c1)).put1 (.slice A2 C'.length c2)).put2 (.int .i64 (a' : Nat))).put3 (.bool dn')).put4 (.int .i64 (o' : Nat)))
      have B8 := (((((B7.out.setCell (p := ⟨w.heap.size, 0, none⟩) (Nat.le_refl _) (.slice A1 S'.length c1)).setCell (p := ⟨w.heap.size, 1, none⟩) (Nat.le_refl _) (.slice A2 C'.length c2)).setCell (p := ⟨w.heap.size, 2, none⟩) (Nat.le_refl _) (.int .i64 (a' : Nat))).setCell (p := ⟨w.heap.size, 3, none⟩) (Nat.le_refl _) (.bool dn')).setCell (p := ⟨w.heap.size, 4, none⟩) (Nat.le_refl _) (.int .i64 (o' : Nat)))
      have Q8 := RQ.set (RQ.set (RQ.set (RQ.set (RQ.set Q7.out ⟨w.heap.size, 0, none⟩ (.slice A1 S'.length c1) HQ0) ⟨w.heap.size, 1, none⟩ (.slice A2 C'.length c2) HQ0) ⟨w.heap.size, 2, none⟩ (.int .i64 (a' : Nat)) HQ0) ⟨w.heap.size, 3, none⟩ (.bool dn') HQ0) ⟨w.heap.size, 4, none⟩ (.int .i64 (o' : Nat)) HQ0
      go_wp2_with fail
      go_meet
      exact ⟨rfl, A1, c1, A2, c2, D8, B8, Q8⟩
  case rest =>
    obtain ⟨rfl, A1, c1, A2, c2, D8, B8, Q8⟩ := hcut
    clear x0 x1 x2 x3 x4 z0 z1 z2 z3 z4 f0 f1 f2 f3 f4 g0 g1 g2 g3 g4 a0 a1 a2 a3 a4 a5 hst HRW HD HW
    have HD8 := Lib.hid D8
    have HB8 := Lib.hid B8
    have HQ8 := Lib.hid Q8
    clear D8 B8 Q8
    go_upto_region 7 with fail
    have hst := HD8.out.drew.acts
    go_region_held (fun W' => W'.cell? ⟨w.heap.size + 1, 0, none⟩ = some (.int .i64 1) ∧ W'.cell? ⟨w.heap.size + 1, 1, none⟩ = some (.int .i64 p) ∧ W'.cell? ⟨w.heap.size + 1, 2, none⟩ = some (.int .i64 n) ∧ W'.cell? ⟨w.heap.size + 1, 3, none⟩ = some (.string t) ∧ W'.cell? ⟨w.heap.size + 1, 4, none⟩ = some (.bool raw) ∧ W'.cell? ⟨w.heap.size + 1, 5, none⟩ = some (.slice kA kl kc)) (first | with_reducible exact hst | with_reducible exact D10.out.acts | with_reducible exact D9.out.acts) (first
      | (go_at_call 20; refine (HT.out _).mono ?_; rintro x w9 ⟨rfl, b9⟩; have D9 := Lib.hid (HD8.out.drew.later b9); have B9 := Lib.hid (HB8.out.drew.trans (b9.mono HB8.out.drew.size)); have Q9 := Lib.hid ((HQ8.out.later (Below.refl _ _).drew).later b9))
      | (go_at_call 19; refine (HDW.out w9 B9.out).mono ?_; rintro x w10 ⟨rfl, h10, k10⟩; have D10 := Lib.hid (D9.out.kp k10 D9.out.lt)))
    have DK10 := Lib.hid h10
    have R10 := Lib.hid (does_mid HSUB.out Q9.out k10)
    have K10 := Lib.hid ((B9.out.kp (F := F)).trans (k10.sub (fun k hk => .inl hk)))
    have HM := Lib.hid k10.size
    have HML := Lib.hid D9.out.lt
    clear hst h10 k10 b9
    obtain ⟨x0, x1, x2, x3, x4, z0, z1, z2, z3, z4, f, f'⟩ := D10.out.cells
    have f0 := f 0
    have f1 := f 1
    have f2 := f 2
    have f3 := f 3
    have f4 := f 4
    have g0 := f' 0
    have g1 := f' 1
    have g2 := f' 2
    have g3 := f' 3
    have g4 := f' 4
    clear f f'
    go_upto_region 27 with fail
    have DKd := Lib.hid (DK10.out.later (Below.refl _ w10).drew)
    obtain ⟨v0, v1, v2, v3, v4, -⟩ := D10.out.drew.cells
    have hbx := And.intro v0 (And.intro v1 (And.intro v2 (And.intro v3 v4)))
    clear v0 v1 v2 v3 v4
    go_region_held3 (fun W' => W'.cell? ⟨w.heap.size, 0, none⟩ = some (.slice A1 S'.length c1) ∧ W'.cell? ⟨w.heap.size, 1, none⟩ = some (.slice A2 C'.length c2) ∧ W'.cell? ⟨w.heap.size, 2, none⟩ = some (.int .i64 (a' : Nat)) ∧ W'.cell? ⟨w.heap.size, 3, none⟩ = some (.bool dn') ∧ W'.cell? ⟨w.heap.size, 4, none⟩ = some (.int .i64 (o' : Nat))) (first | with_reducible exact hbx | with_reducible exact (D10.out.fin _ _ _ _ _).2) (first | (go_at_call 22; refine (down_any _ b _ _ DKd.out).mono ?_; rintro x W' ⟨rfl, rfl⟩) | (go_at_call 27; refine (ops_any _ b _ _ DKd.out).mono ?_; rintro x W' ⟨rfl, rfl⟩) | (go_at_call 26; refine (size_any _ b _ _ DKd.out).mono ?_; rintro x W' ⟨rfl, rfl⟩))
    go_wp2
    obtain ⟨⟨e0, e1, e2, e3, e4⟩, -⟩ := D10.out.fin (.slice A1 S'.length c1) (.slice A2 C'.length c2) (.int .i64 (a' : Nat)) (.bool dn') (.int .i64 (o' : Nat))
    have hend := does_end HTOP.out HSUB.out HML.out HM.out K10.out DK10.out R10.out HINV.out.1 (.slice A1 S'.length c1) (.slice A2 C'.length c2) (.int .i64 (a' : Nat)) (.bool dn') (.int .i64 (o' : Nat))
    refine bodyPost_ret (by simp [results, Try.results12, go_sem, e0, e1, e2, e3, e4]; try rfl) rfl ?_
    exact ⟨_, _, ⟨S', H', C', a', dn', o'⟩, A1, c1, A2, c2, rfl, hend, ⟨fun k hk => .inl hk, pl3_old⟩, HINV.out.2⟩
end Go.Proofs.Ytmehehiobcpeoaa.Disk
