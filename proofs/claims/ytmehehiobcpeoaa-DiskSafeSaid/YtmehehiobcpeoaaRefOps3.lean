/-
  The walks of pleachref07: Over, Flush, Crash, Boot.
-/
import Derived.Test.YtmehehiobcpeoaaRefOps2
import Derived.Deep.RegionWith
namespace Go.Proofs.Ytmehehiobcpeoaa.Disk
open Go.RowKit Go.Proofs.Ytmehehiobcpeoaa.DiskRows
set_option linter.unusedVariables false
set_option linter.unusedSimpArgs false
set_option maxRecDepth 100000

set_option maxHeartbeats 6400000 in
theorem refOver_any (A A' : Option Addr) (c c' : Nat) (d : Dk) (i : Int) (s : ByteArray) (w : World) (hA : RAt w A A' d) (hk : d.Ok) (hsz : (s.size : Int) ≤ 9223372036854775807) :
    Calls Try.prog 39 #[.agg (rc (.slice A d.S.length c) (.slice A' d.C.length c') d).toArray, .int .i64 i, .string s] w fun x w' =>
      (∃ A1 c1 A2 c2, x = .returned (.tuple #[.agg (rc (.slice A1 (d.over i s).1.S.length c1) (.slice A2 (d.over i s).1.C.length c2) (d.over i s).1).toArray, .int .i64 (d.over i s).2]) ∧ RNew w w' A A' A1 A2 d (d.over i s).1) ∧ Below w.heap.size w w' := by
  have hB := Bx.start w (.slice A d.S.length c) (.slice A' d.C.length c') (.int .i64 (d.armed : Nat)) (.bool d.down) (.int .i64 (d.ops : Nat))
  have HA := Lib.hid hA
  have HB := Lib.hid hB
  have HK := Lib.hid hk
  clear hA hk
  by_cases hi : d.has i
  · have HI := Lib.hid (fun W => in_hid A c (.slice A' d.C.length c') d i true (decide_eq_true hi) W)
    by_cases hs : s.size = 128
    · have hsi : (s.size : Int) = 128 := by omega
      have hCp := fun W (k : Below w.heap.size w W) => copy_any A A' c c' d.S (ints d.C) W (HA.out.1.later k) (HA.out.2.later k) (by have := HK.out.most; omega) (by rw [ints_length]; have := HK.out.few; omega)
      rw [ints_length] at hCp
      have HCp := Lib.hid hCp
      clear hCp
      have er : d.over i s = ({ d with S := d.S.set i.toNat s, H := shows (d.S.set i.toNat s) d.C }, 0) := by simp [Dk.over, hi, hs]
      rw [er]
      have hin : (i.toNat : Int) = i := Int.toNat_of_nonneg hi.1
      have hil : i.toNat < d.S.length := by have := hi.2; omega
      have hni : (d.S.length : Int) ≤ 4096 := by have := HK.out.most; omega
      have HES := Lib.hid (And.intro hil (And.intro HK.out.pos HK.out.few))
      have hlen : (d.S.set i.toNat s).length = d.S.length := by simp
      dsimp only
      rw [hlen]
      obtain ⟨j, hj⟩ : ∃ j, i.toNat = j := ⟨_, rfl⟩
      rw [hj] at hin HES ⊢
      subst hin
      have hjn : (j : Int) < (d.S.length : Int) := hi.2
      clear er hil hlen hj hi hs
      obtain ⟨S, Hs, C, a, dn, o⟩ := d
      dsimp only [rc] at *
      go_enter Try.func39, Try.ntmps39
      go_upto_region 1 with fail
      obtain ⟨x0, x1, x2, x3, x4, z0, z1, z2, z3, z4, f, f'⟩ := hB.cells
      have f0 := f 0
      have f1 := f 1
      have f2 := f 2
      have f3 := f 3
      have f4 := f 4
      have g0 := f' 0
      have g1 := f' 1
      have g2 := f' 2
      have g3 := f' 3
      have g4 := f' 4
      clear f f'
      clear hB
      generalize World.alloc (World.alloc w _) _ = W at *
      go_wp2_with fail
      refine (HI.out _).mono ?_
      rintro x w3 ⟨rfl, b3⟩
      have HB3 := Lib.hid (HB.out.later b3)
      clear x0 x1 x2 x3 x4 z0 z1 z2 z3 z4 f0 f1 f2 f3 f4 g0 g1 g2 g3 g4
      obtain ⟨x0, x1, x2, x3, x4, z0, z1, z2, z3, z4, f, f'⟩ := HB3.out.cells
      have f0 := f 0
      have f1 := f 1
      have f2 := f 2
      have f3 := f 3
      have f4 := f 4
      have g0 := f' 0
      have g1 := f' 1
      have g2 := f' 2
      have g3 := f' 3
      have g4 := f' 4
      clear f f'
      go_wp2_with fail
      refine (HCp.out _ HB3.out.bel).mono ?_
      rintro x w6 ⟨⟨A1, c1, A2, c2, rfl, hO1, hO2, hsep⟩, b6⟩
      have HB6 := Lib.hid (HB3.out.later b6)
      have hlt5 := HB3.out.lt
      clear x0 x1 x2 x3 x4 z0 z1 z2 z3 z4 f0 f1 f2 f3 f4 g0 g1 g2 g3 g4
      obtain ⟨x0, x1, x2, x3, x4, z0, z1, z2, z3, z4, f, f'⟩ := HB6.out.cells
      have f0 := f 0
      have f1 := f 1
      have f2 := f 2
      have f3 := f 3
      have f4 := f 4
      have g0 := f' 0
      have g1 := f' 1
      have g2 := f' 2
      have g3 := f' 3
      have g4 := f' 4
      clear f f'
      go_upto_region 6 with fail
      have h7 := (HB6.out.put0 (.slice A1 S.length c1)).put1 (.slice A2 C.length c2)
      have hT7 : OwnT (w.heap.size + 2) ((w6.setCell ⟨w.heap.size, 0, none⟩ (.slice A1 S.length c1)).setCell ⟨w.heap.size, 1, none⟩ (.slice A2 C.length c2)) A1 c1 S := (((hO1.keep (Below.refl _ _) hlt5).store (by simp) _).store (by simp) _)
      have hW7 : OwnW (w.heap.size + 2) ((w6.setCell ⟨w.heap.size, 0, none⟩ (.slice A1 S.length c1)).setCell ⟨w.heap.size, 1, none⟩ (.slice A2 C.length c2)) A2 c2 (ints C) := (((hO2.keep (Below.refl _ _) hlt5).store (by simp) _).store (by simp) _)
      clear x0 x1 x2 x3 x4 z0 z1 z2 z3 z4 f0 f1 f2 f3 f4 g0 g1 g2 g3 g4
      clear hO1 hO2 b6 hlt5
      generalize World.setCell (World.setCell _ _ _) _ _ = w7 at *
      obtain ⟨x0, x1, x2, x3, x4, z0, z1, z2, z3, z4, f, f'⟩ := h7.cells
      have f0 := f 0
      have f1 := f 1
      have f2 := f 2
      have f3 := f 3
      have f4 := f 4
      have g0 := f' 0
      have g1 := f' 1
      have g2 := f' 2
      have g3 := f' 3
      have g4 := f' 4
      clear f f'
      obtain ⟨g, rfl, hg, hr⟩ : ∃ g, A1 = some ⟨g, 0, none⟩ ∧ w.heap.size + 2 ≤ g ∧ RowS w7 g c1 S := by
        rcases hT7 with h0 | h0
        · have q := HES.out.2.1; rw [h0] at q; simp at q
        · exact h0
      have r1 := hr.cell HES.out.1
      have r2 := hr.frozen j
      have h8 : Bx w (.slice (some ⟨g, 0, none⟩) S.length c1) (.slice A2 C.length c2) (.int .i64 (a : Nat)) (.bool dn) (.int .i64 (o : Nat)) (w7.setCell ⟨g, j, none⟩ (.string s)) := ⟨by rw [Below.heap_setCell _ _ _ _ (by show w.heap.size ≠ g; omega)]; exact h7.box, by rw [Below.heap_setCell _ _ _ _ (by show w.heap.size + 1 ≠ g; omega)]; exact h7.res, h7.bel.setCell (p := ⟨g, j, none⟩) (by show w.heap.size ≤ g; omega) _⟩
      have hr8 : OwnT (w.heap.size + 2) (w7.setCell ⟨g, j, none⟩ (.string s)) (some ⟨g, 0, none⟩) c1 (S.set j s) := .inr ⟨g, rfl, hg, hr.set HES.out.1 s⟩
      have hw8 := hW7.other ⟨g, j, none⟩ (.string s) (fun g' e hne => hsep g g' rfl e (by have := HES.out.2.1; omega) (by rw [ints_length] at hne; exact hne))
      have HB8 := Lib.hid (And.intro h8 (And.intro hr8 hw8))
      obtain ⟨u, hu⟩ : ∃ u, S.getD j ByteArray.empty = u := ⟨_, rfl⟩
      rw [hu] at r1
      clear h7 hr hT7 hW7 hsep h8 hr8 hw8 hg hu
      go_upto_region 7 with fail
      clear x0 x1 x2 x3 x4 z0 z1 z2 z3 z4 f0 f1 f2 f3 f4 g0 g1 g2 g3 g4
      clear r1 r2
      generalize World.setCell _ _ _ = w8 at *
      obtain ⟨x0, x1, x2, x3, x4, z0, z1, z2, z3, z4, f, f'⟩ := HB8.out.1.cells
      have f0 := f 0
      have f1 := f 1
      have f2 := f 2
      have f3 := f 3
      have f4 := f 4
      have g0 := f' 0
      have g1 := f' 1
      have g2 := f' 2
      have g3 := f' 3
      have g4 := f' 4
      clear f f'
      go_wp2
      obtain ⟨⟨e0, e1, e2, e3, e4⟩, eb, eT, eW⟩ := (HB8.out.1).fin (.slice (some ⟨g, 0, none⟩) S.length c1) (.slice A2 C.length c2) (.int .i64 (a : Nat)) (.bool dn) (.int .i64 (o : Nat))
      refine bodyPost_ret (by simp [results, Try.results39, go_sem, e0, e1, e2, e3, e4]; try rfl) rfl ?_
      exact ⟨⟨some ⟨g, 0, none⟩, c1, A2, c2, rfl, ⟨⟨(eT _ _ _ HB8.out.2.1).txs, (eW _ _ _ HB8.out.2.2).wrs⟩, HB8.out.2.1.fresh, HB8.out.2.2.fresh (by rw [ints_length])⟩⟩, eb⟩

    · have hsi : ¬ (s.size : Int) = 128 := by omega
      have er : d.over i s = (d, 2) := by simp [Dk.over, hi, hs]
      clear hs hi HK
      rw [er]
      clear er
      obtain ⟨S, Hs, C, a, dn, o⟩ := d
      dsimp only [rc] at *
      go_enter Try.func39, Try.ntmps39
      go_upto_region 1 with fail
      obtain ⟨x0, x1, x2, x3, x4, z0, z1, z2, z3, z4, f, f'⟩ := hB.cells
      have f0 := f 0
      have f1 := f 1
      have f2 := f 2
      have f3 := f 3
      have f4 := f 4
      have g0 := f' 0
      have g1 := f' 1
      have g2 := f' 2
      have g3 := f' 3
      have g4 := f' 4
      clear f f'
      clear hB
      generalize World.alloc (World.alloc w _) _ = W at *
      go_wp2_with fail
      refine (HI.out _).mono ?_
      rintro x w3 ⟨rfl, b3⟩
      have HB3 := Lib.hid (HB.out.later b3)
      clear x0 x1 x2 x3 x4 z0 z1 z2 z3 z4 f0 f1 f2 f3 f4 g0 g1 g2 g3 g4
      obtain ⟨x0, x1, x2, x3, x4, z0, z1, z2, z3, z4, f, f'⟩ := HB3.out.cells
      have f0 := f 0
      have f1 := f 1
      have f2 := f 2
      have f3 := f 3
      have f4 := f 4
      have g0 := f' 0
      have g1 := f' 1
      have g2 := f' 2
      have g3 := f' 3
      have g4 := f' 4
      clear f f'
      go_wp2
      obtain ⟨⟨e0, e1, e2, e3, e4⟩, eb, eT, eW⟩ := (HB3.out).fin (.slice A S.length c) (.slice A' C.length c') (.int .i64 (a : Nat)) (.bool dn) (.int .i64 (o : Nat))
      refine bodyPost_ret (by simp [results, Try.results39, go_sem, e0, e1, e2, e3, e4]; try rfl) rfl ?_
      exact ⟨⟨A, c, A', c', rfl, ⟨HA.out.later eb, .inr (.inl ⟨rfl, rfl⟩), .inr (.inl ⟨rfl, rfl⟩)⟩⟩, eb⟩

  · have HI := Lib.hid (fun W => in_hid A c (.slice A' d.C.length c') d i false (decide_eq_false hi) W)
    have er : d.over i s = (d, 8) := by simp [Dk.over, hi]
    clear hi HK
    rw [er]
    clear er
    obtain ⟨S, Hs, C, a, dn, o⟩ := d
    dsimp only [rc] at *
    go_enter Try.func39, Try.ntmps39
    go_upto_region 1 with fail
    obtain ⟨x0, x1, x2, x3, x4, z0, z1, z2, z3, z4, f, f'⟩ := hB.cells
    have f0 := f 0
    have f1 := f 1
    have f2 := f 2
    have f3 := f 3
    have f4 := f 4
    have g0 := f' 0
    have g1 := f' 1
    have g2 := f' 2
    have g3 := f' 3
    have g4 := f' 4
    clear f f'
    clear hB
    generalize World.alloc (World.alloc w _) _ = W at *
    go_wp2_with fail
    refine (HI.out _).mono ?_
    rintro x w3 ⟨rfl, b3⟩
    have HB3 := Lib.hid (HB.out.later b3)
    clear x0 x1 x2 x3 x4 z0 z1 z2 z3 z4 f0 f1 f2 f3 f4 g0 g1 g2 g3 g4
    obtain ⟨x0, x1, x2, x3, x4, z0, z1, z2, z3, z4, f, f'⟩ := HB3.out.cells
    have f0 := f 0
    have f1 := f 1
    have f2 := f 2
    have f3 := f 3
    have f4 := f 4
    have g0 := f' 0
    have g1 := f' 1
    have g2 := f' 2
    have g3 := f' 3
    have g4 := f' 4
    clear f f'
    go_wp2
    obtain ⟨⟨e0, e1, e2, e3, e4⟩, eb, eT, eW⟩ := (HB3.out).fin (.slice A S.length c) (.slice A' C.length c') (.int .i64 (a : Nat)) (.bool dn) (.int .i64 (o : Nat))
    refine bodyPost_ret (by simp [results, Try.results39, go_sem, e0, e1, e2, e3, e4]; try rfl) rfl ?_
    exact ⟨⟨A, c, A', c', rfl, ⟨HA.out.later eb, .inr (.inl ⟨rfl, rfl⟩), .inr (.inl ⟨rfl, rfl⟩)⟩⟩, eb⟩

set_option maxHeartbeats 6400000 in
theorem refFlush_any (A A' : Option Addr) (c c' : Nat) (d : Dk) (w : World) (hA : RAt w A A' d) (hk : d.Ok) (ho : d.ops < 1000000000000) :
    Calls Try.prog 35 #[.agg (rc (.slice A d.S.length c) (.slice A' d.C.length c') d).toArray] w fun x w' =>
      (∃ A1 c1 A2 c2, x = .returned (.tuple #[.agg (rc (.slice A1 (d.flush).1.S.length c1) (.slice A2 (d.flush).1.C.length c2) (d.flush).1).toArray, .int .i64 (d.flush).2]) ∧ RNew w w' A A' A1 A2 d (d.flush).1) ∧ Below w.heap.size w w' := by
  have hB := Bx.start w (.slice A d.S.length c) (.slice A' d.C.length c') (.int .i64 (d.armed : Nat)) (.bool d.down) (.int .i64 (d.ops : Nat))
  have HA := Lib.hid hA
  have HB := Lib.hid hB
  have HSt := Lib.hid (fun W => refStep_any A A' d.S.length c d.C.length c' d W (by have := hk.low.1; omega) (by omega))
  have HDn := Lib.hid (fun W (k : Below w.heap.size w W) => done_any A A' c c' d.S d.C true none 0 [] W (hA.1.later k) (hA.2.later k) (.inl rfl) (by simp) hk.pos hk.most hk.few hk.ats _ rfl)
  rw [keepsB_shows _ _ _ _ (Nat.le_refl _), List.take_length] at HDn
  clear hA hk ho
  cases hd : d.down
  · obtain ⟨eS, eH, eC⟩ := step_same d
    obtain ⟨dd, hdd⟩ : ∃ dd, d.step.1 = dd := ⟨_, rfl⟩
    rw [hdd] at HSt eS eH eC
    cases h2 : d.step.2
    · have er : d.flush = ({ dd with S := shows d.S d.C, C := [] }, 0) := by simp [Dk.flush, hd, h2, hdd]
      rw [er]
      rw [h2] at HSt
      have hlen := shows_length d.S d.C
      dsimp only
      rw [hlen]
      obtain ⟨R, hR⟩ : ∃ R, shows d.S d.C = R := ⟨_, rfl⟩
      rw [hR] at HDn ⊢
      clear er eS eH eC hdd h2 hlen hR
      obtain ⟨S, Hs, C, a, dn, o⟩ := d
      obtain ⟨S', Hs', C', a', dn', o'⟩ := dd
      dsimp only [rc] at *
      subst hd
      go_enter Try.func35, Try.ntmps35
      go_upto_region 1 with fail
      obtain ⟨x0, x1, x2, x3, x4, z0, z1, z2, z3, z4, f, f'⟩ := hB.cells
      have f0 := f 0
      have f1 := f 1
      have f2 := f 2
      have f3 := f 3
      have f4 := f 4
      have g0 := f' 0
      have g1 := f' 1
      have g2 := f' 2
      have g3 := f' 3
      have g4 := f' 4
      clear f f'
      clear hB
      generalize World.alloc (World.alloc w _) _ = W at *
      go_wp2_with fail
      refine (HSt.out _).mono ?_
      rintro x w4 ⟨rfl, b4⟩
      have HB4 := Lib.hid (HB.out.later b4)
      clear x0 x1 x2 x3 x4 z0 z1 z2 z3 z4 f0 f1 f2 f3 f4 g0 g1 g2 g3 g4
      obtain ⟨x0, x1, x2, x3, x4, z0, z1, z2, z3, z4, f, f'⟩ := HB4.out.cells
      have f0 := f 0
      have f1 := f 1
      have f2 := f 2
      have f3 := f 3
      have f4 := f 4
      have g0 := f' 0
      have g1 := f' 1
      have g2 := f' 2
      have g3 := f' 3
      have g4 := f' 4
      clear f f'
      go_upto_region 6 with fail
      have h5 := ((((HB4.out.put0 (.slice A S.length c)).put1 (.slice A' C.length c')).put2 (.int .i64 (a' : Nat))).put3 (.bool dn')).put4 (.int .i64 (o' : Nat))
      clear x0 x1 x2 x3 x4 z0 z1 z2 z3 z4 f0 f1 f2 f3 f4 g0 g1 g2 g3 g4
      generalize World.setCell _ _ _ = w5 at *
      obtain ⟨x0, x1, x2, x3, x4, z0, z1, z2, z3, z4, f, f'⟩ := h5.cells
      have f0 := f 0
      have f1 := f 1
      have f2 := f 2
      have f3 := f 3
      have f4 := f 4
      have g0 := f' 0
      have g1 := f' 1
      have g2 := f' 2
      have g3 := f' 3
      have g4 := f' 4
      clear f f'
      have HB5 := Lib.hid h5
      clear h5
      go_wp2_with fail
      refine (HDn.out _ HB5.out.bel).mono ?_
      rintro x w6 ⟨⟨g, c1, rfl, hg, hr⟩, b6⟩
      have HB6 := Lib.hid (HB5.out.later b6)
      have hlt5 := HB5.out.lt
      clear x0 x1 x2 x3 x4 z0 z1 z2 z3 z4 f0 f1 f2 f3 f4 g0 g1 g2 g3 g4
      obtain ⟨x0, x1, x2, x3, x4, z0, z1, z2, z3, z4, f, f'⟩ := HB6.out.cells
      have f0 := f 0
      have f1 := f 1
      have f2 := f 2
      have f3 := f 3
      have f4 := f 4
      have g0 := f' 0
      have g1 := f' 1
      have g2 := f' 2
      have g3 := f' 3
      have g4 := f' 4
      clear f f'
      go_upto_region 7 with fail
      have h7 := (HB6.out.put0 (.slice (some ⟨g, 0, none⟩) S.length c1)).put1 (.slice none 0 0)
      have hT7 : OwnT (w.heap.size + 2) ((w6.setCell ⟨w.heap.size, 0, none⟩ (.slice (some ⟨g, 0, none⟩) S.length c1)).setCell ⟨w.heap.size, 1, none⟩ (.slice none 0 0)) (some ⟨g, 0, none⟩) c1 R := ((OwnT.store (.inr ⟨g, rfl, by omega, hr⟩) (by simp) _).store (by simp) _)
      clear x0 x1 x2 x3 x4 z0 z1 z2 z3 z4 f0 f1 f2 f3 f4 g0 g1 g2 g3 g4
      clear hg hr b6 hlt5
      generalize World.setCell (World.setCell _ _ _) _ _ = w7 at *
      obtain ⟨x0, x1, x2, x3, x4, z0, z1, z2, z3, z4, f, f'⟩ := h7.cells
      have f0 := f 0
      have f1 := f 1
      have f2 := f 2
      have f3 := f 3
      have f4 := f 4
      have g0 := f' 0
      have g1 := f' 1
      have g2 := f' 2
      have g3 := f' 3
      have g4 := f' 4
      clear f f'
      have HB7 := Lib.hid (And.intro h7 hT7)
      clear h7 hT7
      go_wp2
      obtain ⟨⟨e0, e1, e2, e3, e4⟩, eb, eT, eW⟩ := (HB7.out.1).fin (.slice (some ⟨g, 0, none⟩) S.length c1) (.slice none 0 0) (.int .i64 (a' : Nat)) (.bool dn') (.int .i64 (o' : Nat))
      refine bodyPost_ret (by simp [results, Try.results35, go_sem, e0, e1, e2, e3, e4]; try rfl) rfl ?_
      exact ⟨⟨some ⟨g, 0, none⟩, c1, none, 0, rfl, ⟨⟨(eT _ _ _ HB7.out.2).txs, .inl rfl⟩, HB7.out.2.fresh, .inl rfl⟩⟩, eb⟩

    · have er : d.flush = (dd, 7) := by simp [Dk.flush, hd, h2, hdd]
      rw [er]
      rw [h2] at HSt
      have HES := Lib.hid (And.intro eS eC)
      dsimp only
      rw [eS, eC]
      clear er eS eH eC hdd h2 HDn
      obtain ⟨S, Hs, C, a, dn, o⟩ := d
      obtain ⟨S', Hs', C', a', dn', o'⟩ := dd
      dsimp only [rc] at *
      subst hd
      go_enter Try.func35, Try.ntmps35
      go_upto_region 1 with fail
      obtain ⟨x0, x1, x2, x3, x4, z0, z1, z2, z3, z4, f, f'⟩ := hB.cells
      have f0 := f 0
      have f1 := f 1
      have f2 := f 2
      have f3 := f 3
      have f4 := f 4
      have g0 := f' 0
      have g1 := f' 1
      have g2 := f' 2
      have g3 := f' 3
      have g4 := f' 4
      clear f f'
      clear hB
      generalize World.alloc (World.alloc w _) _ = W at *
      go_wp2_with fail
      refine (HSt.out _).mono ?_
      rintro x w4 ⟨rfl, b4⟩
      have HB4 := Lib.hid (HB.out.later b4)
      clear x0 x1 x2 x3 x4 z0 z1 z2 z3 z4 f0 f1 f2 f3 f4 g0 g1 g2 g3 g4
      obtain ⟨x0, x1, x2, x3, x4, z0, z1, z2, z3, z4, f, f'⟩ := HB4.out.cells
      have f0 := f 0
      have f1 := f 1
      have f2 := f 2
      have f3 := f 3
      have f4 := f 4
      have g0 := f' 0
      have g1 := f' 1
      have g2 := f' 2
      have g3 := f' 3
      have g4 := f' 4
      clear f f'
      go_upto_region 5 with fail
      have h5 := ((((HB4.out.put0 (.slice A S.length c)).put1 (.slice A' C.length c')).put2 (.int .i64 (a' : Nat))).put3 (.bool dn')).put4 (.int .i64 (o' : Nat))
      clear x0 x1 x2 x3 x4 z0 z1 z2 z3 z4 f0 f1 f2 f3 f4 g0 g1 g2 g3 g4
      generalize World.setCell _ _ _ = w5 at *
      obtain ⟨x0, x1, x2, x3, x4, z0, z1, z2, z3, z4, f, f'⟩ := h5.cells
      have f0 := f 0
      have f1 := f 1
      have f2 := f 2
      have f3 := f 3
      have f4 := f 4
      have g0 := f' 0
      have g1 := f' 1
      have g2 := f' 2
      have g3 := f' 3
      have g4 := f' 4
      clear f f'
      have HB5 := Lib.hid h5
      clear h5
      go_wp2
      obtain ⟨⟨e0, e1, e2, e3, e4⟩, eb, eT, eW⟩ := (HB5.out).fin (.slice A S.length c) (.slice A' C.length c') (.int .i64 (a' : Nat)) (.bool dn') (.int .i64 (o' : Nat))
      refine bodyPost_ret (by simp [results, Try.results35, go_sem, e0, e1, e2, e3, e4]; try rfl) rfl ?_
      exact ⟨⟨A, c, A', c', rfl, ⟨⟨by rw [HES.out.1]; exact HA.out.1.later eb, by rw [HES.out.2]; exact HA.out.2.later eb⟩, .inr (.inl ⟨rfl, by rw [HES.out.1]⟩), .inr (.inl ⟨rfl, by rw [HES.out.2]⟩)⟩⟩, eb⟩

  · have er : d.flush = (d, 7) := by simp [Dk.flush, hd]
    clear HSt HDn
    rw [er]
    clear er
    obtain ⟨S, Hs, C, a, dn, o⟩ := d
    dsimp only [rc] at *
    subst hd
    go_enter Try.func35, Try.ntmps35
    go_upto_region 1 with fail
    obtain ⟨x0, x1, x2, x3, x4, z0, z1, z2, z3, z4, f, f'⟩ := hB.cells
    have f0 := f 0
    have f1 := f 1
    have f2 := f 2
    have f3 := f 3
    have f4 := f 4
    have g0 := f' 0
    have g1 := f' 1
    have g2 := f' 2
    have g3 := f' 3
    have g4 := f' 4
    clear f f'
    clear hB
    generalize World.alloc (World.alloc w _) _ = W at *
    go_wp2
    obtain ⟨⟨e0, e1, e2, e3, e4⟩, eb, eT, eW⟩ := (HB.out).fin (.slice A S.length c) (.slice A' C.length c') (.int .i64 (a : Nat)) (.bool true) (.int .i64 (o : Nat))
    refine bodyPost_ret (by simp [results, Try.results35, go_sem, e0, e1, e2, e3, e4]; try rfl) rfl ?_
    exact ⟨⟨A, c, A', c', rfl, ⟨HA.out.later eb, .inr (.inl ⟨rfl, rfl⟩), .inr (.inl ⟨rfl, rfl⟩)⟩⟩, eb⟩

set_option maxHeartbeats 6400000 in
theorem refCrash_any (A A' : Option Addr) (c c' : Nat) (d : Dk) (B : Option Addr) (cb : Nat) (K : List Int) (w : World) (hA : RAt w A A' d) (hk : d.Ok) (hK : Nums w B K) (hKn : (K.length : Int) ≤ 9223372036854775807) :
    Calls Try.prog 37 #[.agg (rc (.slice A d.S.length c) (.slice A' d.C.length c') d).toArray, .slice B K.length cb] w fun x w' =>
      (∃ A1 c1 A2 c2, x = .returned (.agg (rc (.slice A1 (d.crash K).S.length c1) (.slice A2 (d.crash K).C.length c2) (d.crash K)).toArray) ∧ RNew w w' A A' A1 A2 d (d.crash K)) ∧ Below w.heap.size w w' := by
  have hB := Bx.start w (.slice A d.S.length c) (.slice A' d.C.length c') (.int .i64 (d.armed : Nat)) (.bool d.down) (.int .i64 (d.ops : Nat))
  have HB := Lib.hid hB
  have HDn := Lib.hid (fun W (k : Below w.heap.size w W) => done_any A A' c c' d.S d.C false B cb K W (hA.1.later k) (hA.2.later k) (hK.later k) hKn hk.pos hk.most hk.few hk.ats _ rfl)
  rw [keepsB_keeps] at HDn
  have er : d.crash K = { d with S := keeps d.S d.C K d.C.length, C := [], H := keeps d.S d.C K d.C.length, armed := 0, down := true } := rfl
  rw [er]
  have hlen := keeps_length d.S d.C K d.C.length
  dsimp only
  rw [hlen]
  obtain ⟨R, hR⟩ : ∃ R, keeps d.S d.C K d.C.length = R := ⟨_, rfl⟩
  rw [hR] at HDn ⊢
  clear hA hk hK hKn er hlen hR
  obtain ⟨S, Hs, C, a, dn, o⟩ := d
  dsimp only [rc] at *
  go_enter Try.func37, Try.ntmps37
  go_upto_region 1 with fail
  obtain ⟨x0, x1, x2, x3, x4, z0, z1, z2, z3, z4, f, f'⟩ := hB.cells
  have f0 := f 0
  have f1 := f 1
  have f2 := f 2
  have f3 := f 3
  have f4 := f 4
  have g0 := f' 0
  have g1 := f' 1
  have g2 := f' 2
  have g3 := f' 3
  have g4 := f' 4
  clear f f'
  clear hB
  generalize World.alloc (World.alloc w _) _ = W at *
  go_wp2_with fail
  refine (HDn.out _ HB.out.bel).mono ?_
  rintro x w6 ⟨⟨g, c1, rfl, hg, hr⟩, b6⟩
  have HB6 := Lib.hid (HB.out.later b6)
  have hlt5 := HB.out.lt
  clear x0 x1 x2 x3 x4 z0 z1 z2 z3 z4 f0 f1 f2 f3 f4 g0 g1 g2 g3 g4
  obtain ⟨x0, x1, x2, x3, x4, z0, z1, z2, z3, z4, f, f'⟩ := HB6.out.cells
  have f0 := f 0
  have f1 := f 1
  have f2 := f 2
  have f3 := f 3
  have f4 := f 4
  have g0 := f' 0
  have g1 := f' 1
  have g2 := f' 2
  have g3 := f' 3
  have g4 := f' 4
  clear f f'
  go_upto_region 4 with fail
  have h7 := (((HB6.out.put0 (.slice (some ⟨g, 0, none⟩) S.length c1)).put1 (.slice none 0 0)).put3 (.bool true)).put2 (.int .i64 0)
  have hT7 : OwnT (w.heap.size + 2) ((((w6.setCell ⟨w.heap.size, 0, none⟩ (.slice (some ⟨g, 0, none⟩) S.length c1)).setCell ⟨w.heap.size, 1, none⟩ (.slice none 0 0)).setCell ⟨w.heap.size, 3, none⟩ (.bool true)).setCell ⟨w.heap.size, 2, none⟩ (.int .i64 0)) (some ⟨g, 0, none⟩) c1 R := ((((OwnT.store (.inr ⟨g, rfl, by omega, hr⟩) (by simp) _).store (by simp) _).store (by simp) _).store (by simp) _)
  clear x0 x1 x2 x3 x4 z0 z1 z2 z3 z4 f0 f1 f2 f3 f4 g0 g1 g2 g3 g4
  clear hg hr b6 hlt5
  generalize World.setCell (World.setCell _ _ _) _ _ = w7 at *
  obtain ⟨x0, x1, x2, x3, x4, z0, z1, z2, z3, z4, f, f'⟩ := h7.cells
  have f0 := f 0
  have f1 := f 1
  have f2 := f 2
  have f3 := f 3
  have f4 := f 4
  have g0 := f' 0
  have g1 := f' 1
  have g2 := f' 2
  have g3 := f' 3
  have g4 := f' 4
  clear f f'
  have HB7 := Lib.hid (And.intro h7 hT7)
  clear h7 hT7
  go_wp2
  obtain ⟨⟨e0, e1, e2, e3, e4⟩, eb, eT, eW⟩ := (HB7.out.1).fin (.slice (some ⟨g, 0, none⟩) S.length c1) (.slice none 0 0) (.int .i64 0) (.bool true) (.int .i64 (o : Nat))
  refine bodyPost_ret (by simp [results, Try.results37, go_sem, e0, e1, e2, e3, e4]; try rfl) rfl ?_
  exact ⟨⟨some ⟨g, 0, none⟩, c1, none, 0, rfl, ⟨⟨(eT _ _ _ HB7.out.2).txs, .inl rfl⟩, HB7.out.2.fresh, .inl rfl⟩⟩, eb⟩

theorem keeps_none (S : List ByteArray) (C : List (Nat × ByteArray)) (n : Nat) : keeps S C [] n = S := by
  induction n with
  | zero => rfl
  | succ n ih => rw [keeps, ih]; simp
set_option maxHeartbeats 6400000 in
theorem refBoot_any (A A' : Option Addr) (c c' : Nat) (d : Dk) (w : World) (hA : RAt w A A' d) (hk : d.Ok) :
    Calls Try.prog 38 #[.agg (rc (.slice A d.S.length c) (.slice A' d.C.length c') d).toArray] w fun x w' =>
      (∃ A1 c1 A2 c2, x = .returned (.agg (rc (.slice A1 (d.boot).S.length c1) (.slice A2 (d.boot).C.length c2) (d.boot)).toArray) ∧ RNew w w' A A' A1 A2 d (d.boot)) ∧ Below w.heap.size w w' := by
  have hB := Bx.start w (.slice A d.S.length c) (.slice A' d.C.length c') (.int .i64 (d.armed : Nat)) (.bool d.down) (.int .i64 (d.ops : Nat))
  have HB := Lib.hid hB
  have HDn := Lib.hid (fun W (k : Below w.heap.size w W) => done_any A A' c c' d.S d.C false none 0 [] W (hA.1.later k) (hA.2.later k) (.inl rfl) (by simp) hk.pos hk.most hk.few hk.ats _ rfl)
  rw [keepsB_keeps, keeps_none] at HDn
  have er : d.boot = { d with C := [], H := d.S, armed := 0, down := false } := rfl
  rw [er]
  dsimp only
  clear hA hk er
  obtain ⟨S, Hs, C, a, dn, o⟩ := d
  dsimp only [rc] at *
  go_enter Try.func38, Try.ntmps38
  go_upto_region 1 with fail
  obtain ⟨x0, x1, x2, x3, x4, z0, z1, z2, z3, z4, f, f'⟩ := hB.cells
  have f0 := f 0
  have f1 := f 1
  have f2 := f 2
  have f3 := f 3
  have f4 := f 4
  have g0 := f' 0
  have g1 := f' 1
  have g2 := f' 2
  have g3 := f' 3
  have g4 := f' 4
  clear f f'
  clear hB
  generalize World.alloc (World.alloc w _) _ = W at *
  go_wp2_with fail
  refine (HDn.out _ HB.out.bel).mono ?_
  rintro x w6 ⟨⟨g, c1, rfl, hg, hr⟩, b6⟩
  have HB6 := Lib.hid (HB.out.later b6)
  have hlt5 := HB.out.lt
  clear x0 x1 x2 x3 x4 z0 z1 z2 z3 z4 f0 f1 f2 f3 f4 g0 g1 g2 g3 g4
  obtain ⟨x0, x1, x2, x3, x4, z0, z1, z2, z3, z4, f, f'⟩ := HB6.out.cells
  have f0 := f 0
  have f1 := f 1
  have f2 := f 2
  have f3 := f 3
  have f4 := f 4
  have g0 := f' 0
  have g1 := f' 1
  have g2 := f' 2
  have g3 := f' 3
  have g4 := f' 4
  clear f f'
  go_upto_region 4 with fail
  have h7 := (((HB6.out.put0 (.slice (some ⟨g, 0, none⟩) S.length c1)).put1 (.slice none 0 0)).put3 (.bool false)).put2 (.int .i64 0)
  have hT7 : OwnT (w.heap.size + 2) ((((w6.setCell ⟨w.heap.size, 0, none⟩ (.slice (some ⟨g, 0, none⟩) S.length c1)).setCell ⟨w.heap.size, 1, none⟩ (.slice none 0 0)).setCell ⟨w.heap.size, 3, none⟩ (.bool false)).setCell ⟨w.heap.size, 2, none⟩ (.int .i64 0)) (some ⟨g, 0, none⟩) c1 S := ((((OwnT.store (.inr ⟨g, rfl, by omega, hr⟩) (by simp) _).store (by simp) _).store (by simp) _).store (by simp) _)
  clear x0 x1 x2 x3 x4 z0 z1 z2 z3 z4 f0 f1 f2 f3 f4 g0 g1 g2 g3 g4
  clear hg hr b6 hlt5
  generalize World.setCell (World.setCell _ _ _) _ _ = w7 at *
  obtain ⟨x0, x1, x2, x3, x4, z0, z1, z2, z3, z4, f, f'⟩ := h7.cells
  have f0 := f 0
  have f1 := f 1
  have f2 := f 2
  have f3 := f 3
  have f4 := f 4
  have g0 := f' 0
  have g1 := f' 1
  have g2 := f' 2
  have g3 := f' 3
  have g4 := f' 4
  clear f f'
  have HB7 := Lib.hid (And.intro h7 hT7)
  clear h7 hT7
  go_wp2
  obtain ⟨⟨e0, e1, e2, e3, e4⟩, eb, eT, eW⟩ := (HB7.out.1).fin (.slice (some ⟨g, 0, none⟩) S.length c1) (.slice none 0 0) (.int .i64 0) (.bool false) (.int .i64 (o : Nat))
  refine bodyPost_ret (by simp [results, Try.results38, go_sem, e0, e1, e2, e3, e4]; try rfl) rfl ?_
  exact ⟨⟨some ⟨g, 0, none⟩, c1, none, 0, rfl, ⟨⟨(eT _ _ _ HB7.out.2).txs, .inl rfl⟩, HB7.out.2.fresh, .inl rfl⟩⟩, eb⟩

end Go.Proofs.Ytmehehiobcpeoaa.Disk
