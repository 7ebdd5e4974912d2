/-
  The walks of pleachref07: Read, Arm.
-/
import Derived.Test.YtmehehiobcpeoaaRefBx
import Derived.Deep.RegionWith
namespace Go.Proofs.Ytmehehiobcpeoaa.Disk
open Go.RowKit Go.Proofs.Ytmehehiobcpeoaa.DiskRows
set_option linter.unusedVariables false
set_option linter.unusedSimpArgs false
set_option maxRecDepth 100000

theorem in_hid (A : Option Addr) (c : Nat) (vC : Value) (d : Dk) (i : Int) (r : Bool) (hr : decide (d.has i) = r) (w : World) :
    Calls Try.prog 47 #[.agg (rc (.slice A d.S.length c) vC d).toArray, .int .i64 i] w fun x w' => x = .returned (.bool r) ∧ Below w.heap.size w w' := by
  subst hr
  exact in_any A c vC d i w
set_option maxHeartbeats 3200000 in
theorem refRead_any (A A' : Option Addr) (c c' : Nat) (d : Dk) (i : Int) (w : World) (hA : RAt w A A' d) (hk : d.Ok) (hH : d.H = shows d.S d.C) (ho : d.ops < 1000000000000) :
    Calls Try.prog 34 #[.agg (rc (.slice A d.S.length c) (.slice A' d.C.length c') d).toArray, .int .i64 i] w fun x w' =>
      x = .returned (.tuple #[.agg (rc (.slice A d.S.length c) (.slice A' d.C.length c') (d.read i).1).toArray, .string (d.read i).2.1, .int .i64 (d.read i).2.2]) ∧ Below w.heap.size w w' := by
  have hB := Bx.start w (.slice A d.S.length c) (.slice A' d.C.length c') (.int .i64 (d.armed : Nat)) (.bool d.down) (.int .i64 (d.ops : Nat))
  have HS := Lib.hid (fun W (k : Below w.heap.size w W) (hi : i.toNat < d.S.length) (s : ByteArray) (hs : (shows d.S d.C).getD i.toNat ByteArray.empty = s) => shows_one A A' c c' d.S d.C i.toNat W (hA.1.later k) (hA.2.later k) hi hk.most hk.few s hs)
  have hob : (d.ops : Int) < 1000000000000 := by omega
  have HB := Lib.hid hB
  clear hk hA ho
  cases hd : d.down
  · by_cases hi : d.has i
    · have er : d.read i = ({ d with ops := d.ops + 1 }, d.H.getD i.toNat ByteArray.empty, 0) := by simp [Dk.read, hd, hi]
      have HI := Lib.hid (fun W => in_hid A c (.slice A' d.C.length c') d i true (decide_eq_true hi) W)
      rw [er, hH]
      obtain ⟨s, hs⟩ : ∃ s, (shows d.S d.C).getD i.toNat ByteArray.empty = s := ⟨_, rfl⟩
      have hin : (i.toNat : Int) = i := Int.toNat_of_nonneg hi.1
      have HSO := Lib.hid (fun W (k : Below w.heap.size w W) => HS.out W k (by have := hi.2; omega) s hs)
      rw [hin] at HSO
      dsimp only
      rw [hs]
      clear HS hs hin er hi hH
      obtain ⟨S, Hs, C, a, dn, o⟩ := d
      dsimp only [rc] at *
      subst hd
      have hw : IntKind.i64.wrap ((o : Int) + 1) = (o : Int) + 1 := by rw [IntKind.wrap_i64]; omega
      go_enter Try.func34, Try.ntmps34
      go_upto_region 1 with fail
      obtain ⟨x0, x1, x2, x3, x4, z0, z1, z2, z3, z4, f, f'⟩ := hB.cells
      have f0 := f 0
      have f1 := f 1
      have f2 := f 2
      have f3 := f 3
      have f4 := f 4
      have g0 := f' 0
      have g1 := f' 1
      have g2 := f' 2
      have g3 := f' 3
      have g4 := f' 4
      clear f f'
      clear hB
      generalize World.alloc (World.alloc w _) _ = W at *
      go_wp2_with fail
      refine (HI.out _).mono ?_
      rintro x w3 ⟨rfl, b3⟩
      have HB3 := Lib.hid (HB.out.later b3)
      clear x0 x1 x2 x3 x4 z0 z1 z2 z3 z4 f0 f1 f2 f3 f4 g0 g1 g2 g3 g4
      obtain ⟨x0, x1, x2, x3, x4, z0, z1, z2, z3, z4, f, f'⟩ := HB3.out.cells
      have f0 := f 0
      have f1 := f 1
      have f2 := f 2
      have f3 := f 3
      have f4 := f 4
      have g0 := f' 0
      have g1 := f' 1
      have g2 := f' 2
      have g3 := f' 3
      have g4 := f' 4
      clear f f'
      go_upto_region 6 with fail
      have h5 := HB3.out.put4 (.int .i64 ((o : Int) + 1))
      clear x0 x1 x2 x3 x4 z0 z1 z2 z3 z4 f0 f1 f2 f3 f4 g0 g1 g2 g3 g4
      obtain ⟨x0, x1, x2, x3, x4, z0, z1, z2, z3, z4, f, f'⟩ := h5.cells
      have f0 := f 0
      have f1 := f 1
      have f2 := f 2
      have f3 := f 3
      have f4 := f 4
      have g0 := f' 0
      have g1 := f' 1
      have g2 := f' 2
      have g3 := f' 3
      have g4 := f' 4
      clear f f'
      have HB5 := Lib.hid h5
      clear h5
      generalize World.setCell _ _ _ = w5 at *
      go_region_with (first | (go_at_call 49; go_must (refine (HSO.out _ HB5.out.drew.bel).mono ?_; rintro x w6 ⟨rfl, b6⟩; have HB6 := Lib.hid (HB5.out.drew.later b6); clear x0 x1 x2 x3 x4 z0 z1 z2 z3 z4 f0 f1 f2 f3 f4 g0 g1 g2 g3 g4; obtain ⟨x0, x1, x2, x3, x4, z0, z1, z2, z3, z4, f, f'⟩ := HB6.out.cells; have g0 := f' 0; have g1 := f' 1; have g2 := f' 2; have g3 := f' 3; have g4 := f' 4; clear f f')))
      all_goals
        go_wp2
        obtain ⟨⟨e0, e1, e2, e3, e4⟩, eb, eT, eW⟩ := HB6.out.fin (.slice A S.length c) (.slice A' C.length c') (.int .i64 (a : Nat)) (.bool false) (.int .i64 ((o : Int) + 1))
        refine bodyPost_ret (by simp [results, Try.results34, go_sem, e0, e1, e2, e3, e4]; try rfl) rfl ?_
        exact ⟨by simp, eb⟩
    · have er : d.read i = (d, ByteArray.empty, 8) := by simp [Dk.read, hd, hi]
      have HI := Lib.hid (fun W => in_hid A c (.slice A' d.C.length c') d i false (decide_eq_false hi) W)
      rw [er]
      clear HS er hi hH
      obtain ⟨S, Hs, C, a, dn, o⟩ := d
      dsimp only [rc] at *
      subst hd
      go_enter Try.func34, Try.ntmps34
      go_upto_region 1 with fail
      obtain ⟨x0, x1, x2, x3, x4, z0, z1, z2, z3, z4, f, f'⟩ := hB.cells
      have f0 := f 0
      have f1 := f 1
      have f2 := f 2
      have f3 := f 3
      have f4 := f 4
      have g0 := f' 0
      have g1 := f' 1
      have g2 := f' 2
      have g3 := f' 3
      have g4 := f' 4
      clear f f'
      clear hB
      generalize World.alloc (World.alloc w _) _ = W at *
      go_wp2_with fail
      refine (HI.out _).mono ?_
      rintro x w3 ⟨rfl, b3⟩
      have HB3 := Lib.hid (HB.out.later b3)
      clear x0 x1 x2 x3 x4 z0 z1 z2 z3 z4 f0 f1 f2 f3 f4 g0 g1 g2 g3 g4
      obtain ⟨x0, x1, x2, x3, x4, z0, z1, z2, z3, z4, f, f'⟩ := HB3.out.cells
      have f0 := f 0
      have f1 := f 1
      have f2 := f 2
      have f3 := f 3
      have f4 := f 4
      have g0 := f' 0
      have g1 := f' 1
      have g2 := f' 2
      have g3 := f' 3
      have g4 := f' 4
      clear f f'
      go_wp2
      obtain ⟨⟨e0, e1, e2, e3, e4⟩, eb, eT, eW⟩ := (HB3.out).fin (.slice A S.length c) (.slice A' C.length c') (.int .i64 (a : Nat)) (.bool false) (.int .i64 (o : Nat))
      refine bodyPost_ret (by simp [results, Try.results34, go_sem, e0, e1, e2, e3, e4]; try rfl) rfl ?_
      exact ⟨rfl, eb⟩

  · have er : d.read i = (d, ByteArray.empty, 7) := by simp [Dk.read, hd]
    rw [er]
    clear HS er hH
    obtain ⟨S, Hs, C, a, dn, o⟩ := d
    dsimp only [rc] at *
    subst hd
    go_enter Try.func34, Try.ntmps34
    go_upto_region 1 with fail
    obtain ⟨x0, x1, x2, x3, x4, z0, z1, z2, z3, z4, f, f'⟩ := hB.cells
    have f0 := f 0
    have f1 := f 1
    have f2 := f 2
    have f3 := f 3
    have f4 := f 4
    have g0 := f' 0
    have g1 := f' 1
    have g2 := f' 2
    have g3 := f' 3
    have g4 := f' 4
    clear f f'
    clear hB
    generalize World.alloc (World.alloc w _) _ = W at *
    go_wp2
    obtain ⟨⟨e0, e1, e2, e3, e4⟩, eb, eT, eW⟩ := (HB.out).fin (.slice A S.length c) (.slice A' C.length c') (.int .i64 (a : Nat)) (.bool true) (.int .i64 (o : Nat))
    refine bodyPost_ret (by simp [results, Try.results34, go_sem, e0, e1, e2, e3, e4]; try rfl) rfl ?_
    exact ⟨rfl, eb⟩

theorem refArm_any (A A' : Option Addr) (c c' : Nat) (d : Dk) (n : Int) (w : World) (hn : n ≤ 9223372036854775807) :
    Calls Try.prog 36 #[.agg (rc (.slice A d.S.length c) (.slice A' d.C.length c') d).toArray, .int .i64 n] w fun x w' =>
      x = .returned (.tuple #[.agg (rc (.slice A d.S.length c) (.slice A' d.C.length c') (d.arm n).1).toArray, .int .i64 (d.arm n).2]) ∧ Below w.heap.size w w' := by
  have hB := Bx.start w (.slice A d.S.length c) (.slice A' d.C.length c') (.int .i64 (d.armed : Nat)) (.bool d.down) (.int .i64 (d.ops : Nat))
  have HB := Lib.hid hB
  cases hd : d.down
  · by_cases hi : n < 0
    · have er : d.arm n = (d, 2) := by simp [Dk.arm, hd, hi]
      rw [er]
      clear er
      obtain ⟨S, Hs, C, a, dn, o⟩ := d
      dsimp only [rc] at *
      subst hd
      go_enter Try.func36, Try.ntmps36
      go_upto_region 1 with fail
      obtain ⟨x0, x1, x2, x3, x4, z0, z1, z2, z3, z4, f, f'⟩ := hB.cells
      have f0 := f 0
      have f1 := f 1
      have f2 := f 2
      have f3 := f 3
      have f4 := f 4
      have g0 := f' 0
      have g1 := f' 1
      have g2 := f' 2
      have g3 := f' 3
      have g4 := f' 4
      clear f f'
      clear hB
      generalize World.alloc (World.alloc w _) _ = W at *
      go_wp2
      obtain ⟨⟨e0, e1, e2, e3, e4⟩, eb, eT, eW⟩ := (HB.out).fin (.slice A S.length c) (.slice A' C.length c') (.int .i64 (a : Nat)) (.bool false) (.int .i64 (o : Nat))
      refine bodyPost_ret (by simp [results, Try.results36, go_sem, e0, e1, e2, e3, e4]; try rfl) rfl ?_
      exact ⟨rfl, eb⟩

    · have er : d.arm n = ({ d with armed := n.toNat }, 0) := by simp [Dk.arm, hd, hi]
      rw [er]
      have hin : (n.toNat : Int) = n := Int.toNat_of_nonneg (by omega)
      dsimp only
      rw [show rc (.slice A d.S.length c) (.slice A' d.C.length c') { d with armed := n.toNat } = [.slice A d.S.length c, .slice A' d.C.length c', .int .i64 n, .bool d.down, .int .i64 (d.ops : Nat)] by simp [rc, hin]]
      clear er hin
      obtain ⟨S, Hs, C, a, dn, o⟩ := d
      dsimp only [rc] at *
      subst hd
      go_enter Try.func36, Try.ntmps36
      go_upto_region 1 with fail
      obtain ⟨x0, x1, x2, x3, x4, z0, z1, z2, z3, z4, f, f'⟩ := hB.cells
      have f0 := f 0
      have f1 := f 1
      have f2 := f 2
      have f3 := f 3
      have f4 := f 4
      have g0 := f' 0
      have g1 := f' 1
      have g2 := f' 2
      have g3 := f' 3
      have g4 := f' 4
      clear f f'
      clear hB
      generalize World.alloc (World.alloc w _) _ = W at *
      go_wp2
      obtain ⟨⟨e0, e1, e2, e3, e4⟩, eb, eT, eW⟩ := ((HB.out.put2 (.int .i64 n))).fin (.slice A S.length c) (.slice A' C.length c') (.int .i64 n) (.bool false) (.int .i64 (o : Nat))
      refine bodyPost_ret (by simp [results, Try.results36, go_sem, e0, e1, e2, e3, e4]; try rfl) rfl ?_
      exact ⟨rfl, eb⟩

  · have er : d.arm n = (d, 7) := by simp [Dk.arm, hd]
    rw [er]
    clear er
    obtain ⟨S, Hs, C, a, dn, o⟩ := d
    dsimp only [rc] at *
    subst hd
    go_enter Try.func36, Try.ntmps36
    go_upto_region 1 with fail
    obtain ⟨x0, x1, x2, x3, x4, z0, z1, z2, z3, z4, f, f'⟩ := hB.cells
    have f0 := f 0
    have f1 := f 1
    have f2 := f 2
    have f3 := f 3
    have f4 := f 4
    have g0 := f' 0
    have g1 := f' 1
    have g2 := f' 2
    have g3 := f' 3
    have g4 := f' 4
    clear f f'
    clear hB
    generalize World.alloc (World.alloc w _) _ = W at *
    go_wp2
    obtain ⟨⟨e0, e1, e2, e3, e4⟩, eb, eT, eW⟩ := (HB.out).fin (.slice A S.length c) (.slice A' C.length c') (.int .i64 (a : Nat)) (.bool true) (.int .i64 (o : Nat))
    refine bodyPost_ret (by simp [results, Try.results36, go_sem, e0, e1, e2, e3, e4]; try rfl) rfl ?_
    exact ⟨rfl, eb⟩

end Go.Proofs.Ytmehehiobcpeoaa.Disk
