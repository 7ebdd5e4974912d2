/-
  JournalPlays: where there may be no journal; the document's Wrong, and its Open where none is read.
-/
import Derived.Test.YtfbakelpplpomaaGreatDoorJplC
import Derived.Test.YtfbakelpplpomaaGreatDoorWalkRefRecTake
namespace Go.Proofs.YtfbakelpplpomaaGreatDoor.Disk
open Go.RowKit Go.Proofs.YtfbakelpplpomaaGreatDoor.DiskRows Go.Proofs.YtfbakelpplpomaaGreatDoor.WalkCrc
open Go.Proofs.YtfbakelpplpomaaGreatDoor.WalkSeat (putRV isRB isRV takeRB takeRV)
open Pl.Seat (Rec isR)
set_option linter.unusedVariables false
set_option linter.unusedSimpArgs false
set_option maxRecDepth 100000

/-- there may be no such journal -/
def atBad (n : Nat) (half epoch count : Int) : Prop := half < 0 ∨ 1 < half ∨ epoch < 1 ∨ 4294967295 < epoch ∨ count < 0 ∨ (halfV n : Int) < count
theorem at_bad (F : Nat → Prop) (b : Nat) (d : Dk) (half epoch count : Int) (w : World) (hD : DiskAt F b d w) (hbd : atBad d.S.length half epoch count) :
    Calls Tryz.prog 29 #[.pointer (some ⟨b, 0, none⟩), .int .i64 half, .int .i64 epoch, .int .i64 count] w fun x w' => x = .returned (.tuple #[.pointer none, .int .i64 2]) ∧ w = w' := by
  have hsz := size_any F b d w hD
  obtain ⟨n, hn⟩ : ∃ n, d.S.length = n := ⟨_, rfl⟩
  have hn16 : 16 ≤ n ∧ n ≤ 4096 := by have := hD.ok; exact ⟨hn ▸ this.pos, hn ▸ this.most⟩
  rw [hn] at hsz hbd
  obtain ⟨h, hh⟩ : ∃ h, halfV n = h := ⟨_, rfl⟩
  have hhb : h ≤ 4096 := by rw [← hh]; unfold halfV; omega
  have hhi : (h : Int) ≤ 4096 := by omega
  unfold atBad at hbd
  rw [hh] at hbd
  have HBD := Lib.hid hbd
  have HS := Lib.hid hsz
  have HC := Lib.hid (fun W => areaCheck_ok n W hn16)
  have HH := Lib.hid (fun W => half_ok n h W hn16 hh)
  clear hsz hn hn16 hh hhb hD hbd
  by_cases g0 : half < 0
  · have d0 : decide (half < 0) = true := decide_eq_true g0
    clear HBD
    go_enter Tryz.func29, Tryz.ntmps29
    go_wp2_with fail
    refine HS.out.mono ?_
    rintro x w1 ⟨rfl, rfl⟩
    go_wp2_with fail
    refine (HC.out _).mono ?_
    rintro x w1 ⟨rfl, rfl⟩
    go_wp2
    go_ret2
    exact ⟨rfl, rfl⟩
  have n0 : 0 ≤ half := by omega
  clear g0
  by_cases g1 : 1 < half
  · have d1 : decide (1 < half) = true := decide_eq_true g1
    clear HBD
    go_enter Tryz.func29, Tryz.ntmps29
    go_wp2_with fail
    refine HS.out.mono ?_
    rintro x w1 ⟨rfl, rfl⟩
    go_wp2_with fail
    refine (HC.out _).mono ?_
    rintro x w1 ⟨rfl, rfl⟩
    go_wp2
    go_ret2
    exact ⟨rfl, rfl⟩
  have n1 : half ≤ 1 := by omega
  clear g1
  by_cases g2 : epoch < 1
  · have d2 : decide (epoch < 1) = true := decide_eq_true g2
    clear HBD
    go_enter Tryz.func29, Tryz.ntmps29
    go_wp2_with fail
    refine HS.out.mono ?_
    rintro x w1 ⟨rfl, rfl⟩
    go_wp2_with fail
    refine (HC.out _).mono ?_
    rintro x w1 ⟨rfl, rfl⟩
    go_wp2
    go_ret2
    exact ⟨rfl, rfl⟩
  have n2 : 1 ≤ epoch := by omega
  clear g2
  by_cases g3 : 4294967295 < epoch
  · have d3 : decide (4294967295 < epoch) = true := decide_eq_true g3
    clear HBD
    go_enter Tryz.func29, Tryz.ntmps29
    go_wp2_with fail
    refine HS.out.mono ?_
    rintro x w1 ⟨rfl, rfl⟩
    go_wp2_with fail
    refine (HC.out _).mono ?_
    rintro x w1 ⟨rfl, rfl⟩
    go_wp2
    go_ret2
    exact ⟨rfl, rfl⟩
  have n3 : epoch ≤ 4294967295 := by omega
  clear g3
  by_cases g4 : count < 0
  · have d4 : decide (count < 0) = true := decide_eq_true g4
    clear HBD
    go_enter Tryz.func29, Tryz.ntmps29
    go_wp2_with fail
    refine HS.out.mono ?_
    rintro x w1 ⟨rfl, rfl⟩
    go_wp2_with fail
    refine (HC.out _).mono ?_
    rintro x w1 ⟨rfl, rfl⟩
    go_wp2
    go_ret2
    exact ⟨rfl, rfl⟩
  have n4 : 0 ≤ count := by omega
  clear g4
  have g5 : (h : Int) < count := by have := HBD.out; omega
  have d5 : decide ((h : Int) < count) = true := decide_eq_true g5
  clear HBD
  go_enter Tryz.func29, Tryz.ntmps29
  go_wp2_with fail
  refine HS.out.mono ?_
  rintro x w1 ⟨rfl, rfl⟩
  go_wp2_with fail
  refine (HC.out _).mono ?_
  rintro x w1 ⟨rfl, rfl⟩
  go_wp2_with fail
  refine (HH.out _).mono ?_
  rintro x w1 ⟨rfl, rfl⟩
  go_wp2
  go_ret2
  exact ⟨rfl, rfl⟩
theorem jopen_bad (F : Nat → Prop) (b : Nat) (d : Dk) (half epoch : Int) (w : World) (hD : DiskAt F b d w) (hbd : atBad d.S.length half epoch 0) :
    Calls Tryz.prog 8 #[.pointer (some ⟨b, 0, none⟩), .int .i64 half, .int .i64 epoch] w fun x w' => x = .returned (.tuple #[.pointer none, .slice none 0 0, .int .i64 2]) ∧ w = w' := by
  have HA := Lib.hid (at_bad F b d half epoch 0 w hD hbd)
  clear hD hbd
  go_enter Tryz.func8, Tryz.ntmps8
  go_wp2_with fail
  refine HA.out.mono ?_
  rintro x w1 ⟨rfl, rfl⟩
  go_wp2
  go_ret3
  exact ⟨rfl, rfl⟩
theorem refWrong_bad (n : Nat) (half epoch count : Int) (w : World) (hn16 : 16 ≤ n ∧ n ≤ 4096) (hbd : atBad n half epoch count) :
    Calls Tryz.prog 72 #[.int .i64 n, .int .i64 half, .int .i64 epoch, .int .i64 count] w fun x w' => x = .returned (.int .i64 2) ∧ w = w' := by
  obtain ⟨h, hh⟩ : ∃ h, halfV n = h := ⟨_, rfl⟩
  unfold atBad at hbd
  rw [hh] at hbd
  have HBD := Lib.hid hbd
  have HH := Lib.hid (fun W => refHalf_ok n h W hn16 hh)
  clear hn16 hh hbd
  by_cases g0 : half < 0
  · have d0 : decide (half < 0) = true := decide_eq_true g0
    clear HBD
    go_enter Tryz.func72, Tryz.ntmps72
    go_wp2
    go_ret
    exact ⟨rfl, rfl⟩
  have n0 : 0 ≤ half := by omega
  clear g0
  by_cases g1 : 1 < half
  · have d1 : decide (1 < half) = true := decide_eq_true g1
    clear HBD
    go_enter Tryz.func72, Tryz.ntmps72
    go_wp2
    go_ret
    exact ⟨rfl, rfl⟩
  have n1 : half ≤ 1 := by omega
  clear g1
  by_cases g2 : epoch < 1
  · have d2 : decide (epoch < 1) = true := decide_eq_true g2
    clear HBD
    go_enter Tryz.func72, Tryz.ntmps72
    go_wp2
    go_ret
    exact ⟨rfl, rfl⟩
  have n2 : 1 ≤ epoch := by omega
  clear g2
  by_cases g3 : 4294967295 < epoch
  · have d3 : decide (4294967295 < epoch) = true := decide_eq_true g3
    clear HBD
    go_enter Tryz.func72, Tryz.ntmps72
    go_wp2
    go_ret
    exact ⟨rfl, rfl⟩
  have n3 : epoch ≤ 4294967295 := by omega
  clear g3
  by_cases g4 : count < 0
  · have d4 : decide (count < 0) = true := decide_eq_true g4
    clear HBD
    go_enter Tryz.func72, Tryz.ntmps72
    go_wp2
    go_ret
    exact ⟨rfl, rfl⟩
  have n4 : 0 ≤ count := by omega
  clear g4
  have g5 : (h : Int) < count := by have := HBD.out; omega
  have d5 : decide ((h : Int) < count) = true := decide_eq_true g5
  clear HBD
  go_enter Tryz.func72, Tryz.ntmps72
  go_wp2_with fail
  refine (HH.out _).mono ?_
  rintro x w1 ⟨rfl, rfl⟩
  go_wp2
  go_ret
  exact ⟨rfl, rfl⟩
theorem refWrong_ok (n : Nat) (half epoch count : Nat) (w : World) (hn16 : 16 ≤ n ∧ n ≤ 4096) (h1 : half ≤ 1) (h2 : 1 ≤ epoch) (h3 : epoch ≤ 4294967295) (h4 : count ≤ halfV n) :
    Calls Tryz.prog 72 #[.int .i64 n, .int .i64 half, .int .i64 epoch, .int .i64 count] w fun x w' => x = .returned (.int .i64 0) ∧ w = w' := by
  obtain ⟨h, hh⟩ : ∃ h, halfV n = h := ⟨_, rfl⟩
  rw [hh] at h4
  have HH := Lib.hid (fun W => refHalf_ok n h W hn16 hh)
  have n1 : (half : Int) ≤ 1 := by omega
  have n2 : 1 ≤ (epoch : Int) := by omega
  have n3 : (epoch : Int) ≤ 4294967295 := by omega
  have n5 : (count : Int) ≤ (h : Int) := by omega
  clear hn16 hh h1 h2 h3 h4
  go_enter Tryz.func72, Tryz.ntmps72
  go_wp2_with fail
  refine (HH.out _).mono ?_
  rintro x w1 ⟨rfl, rfl⟩
  go_wp2
  go_ret
  exact ⟨rfl, rfl⟩
theorem refOpen_bad (A A' : Option Addr) (c c' : Nat) (d : Dk) (half epoch : Int) (w : World) (hk : d.Ok) (hbd : atBad d.S.length half epoch 0) :
    Calls Tryz.prog 49 #[.agg (rc (.slice A d.S.length c) (.slice A' d.C.length c') d).toArray, .int .i64 half, .int .i64 epoch] w fun x w' =>
      x = .returned (.tuple #[.agg (rc (.slice A d.S.length c) (.slice A' d.C.length c') d).toArray, .slice none 0 0, .int .i64 2]) ∧ Below w.heap.size w w' := by
  have hB := Bx.start w (.slice A d.S.length c) (.slice A' d.C.length c') (.int .i64 (d.armed : Nat)) (.bool d.down) (.int .i64 (d.ops : Nat))
  have HB := Lib.hid hB
  have HW := Lib.hid (fun W => refWrong_bad d.S.length half epoch 0 W ⟨hk.pos, hk.most⟩ hbd)
  clear hk hbd
  obtain ⟨S, Hs, C, a, dn, o⟩ := d
  dsimp only [rc] at *
  generalize S.length = n at *
  generalize C.length = n' at *
  go_enter Tryz.func49, Tryz.ntmps49
  go_upto_region 1 with fail
  obtain ⟨x0, x1, x2, x3, x4, z0, z1, z2, z3, z4, f, f'⟩ := hB.cells
  have f0 := f 0
  have f1 := f 1
  have f2 := f 2
  have f3 := f 3
  have f4 := f 4
  have g0 := f' 0
  have g1 := f' 1
  have g2 := f' 2
  have g3 := f' 3
  have g4 := f' 4
  clear f f'
  clear hB
  generalize World.alloc (World.alloc w _) _ = W at *
  go_wp2_with fail
  refine (HW.out _).mono ?_
  rintro x w3 ⟨rfl, rfl⟩
  go_wp2
  obtain ⟨⟨e0, e1, e2, e3, e4⟩, b9, -⟩ := HB.out.fin (.slice A n c) (.slice A' n' c') (.int .i64 (a : Nat)) (.bool dn) (.int .i64 (o : Nat))
  refine bodyPost_ret (by simp [results, Tryz.results49, go_sem, e0, e1, e2, e3, e4]; try rfl) rfl ?_
  exact ⟨rfl, b9⟩
end Go.Proofs.YtfbakelpplpomaaGreatDoor.Disk
