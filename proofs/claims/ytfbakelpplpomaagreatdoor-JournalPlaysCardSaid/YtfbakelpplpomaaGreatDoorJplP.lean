/-
  JournalPlays: the document's Open, where the disk is down.
-/
import Derived.Test.YtfbakelpplpomaaGreatDoorJplE
namespace Go.Proofs.YtfbakelpplpomaaGreatDoor.Disk
open Go.RowKit Go.Proofs.YtfbakelpplpomaaGreatDoor.DiskRows Go.Proofs.YtfbakelpplpomaaGreatDoor.WalkCrc
open Go.Proofs.YtfbakelpplpomaaGreatDoor.WalkSeat (putRV isRB isRV takeRB takeRV)
open Pl.Seat (Rec isR)
set_option linter.unusedVariables false
set_option linter.unusedSimpArgs false
set_option maxRecDepth 100000

set_option maxHeartbeats 6400000 in
theorem refOpen_down (A A' : Option Addr) (c c' : Nat) (d : Dk) (half epoch : Nat) (w : World) (hA : RAt w A A' d) (hk : d.Ok) (hI : Inv d) (hdn : d.down = true) (h1 : half ≤ 1) (h2 : 1 ≤ epoch) (h3 : epoch ≤ 4294967295) (ho : d.ops ≤ 1000000) :
    Calls Tryz.prog 49 #[.agg (rc (.slice A d.S.length c) (.slice A' d.C.length c') d).toArray, .int .i64 half, .int .i64 epoch] w fun x w' =>
      x = .returned (.tuple #[.agg (rc (.slice A d.S.length c) (.slice A' d.C.length c') d).toArray, .slice none 0 0, .int .i64 7]) ∧ Below w.heap.size w w' := by
  have hB := Bx.start w (.slice A d.S.length c) (.slice A' d.C.length c') (.int .i64 (d.armed : Nat)) (.bool d.down) (.int .i64 (d.ops : Nat))
  have HB := Lib.hid hB
  obtain ⟨n, hn⟩ : ∃ n, d.S.length = n := ⟨_, rfl⟩
  have hn16 : 16 ≤ n ∧ n ≤ 4096 := ⟨hn ▸ hk.pos, hn ▸ hk.most⟩
  obtain ⟨h, hh⟩ : ∃ h, halfV n = h := ⟨_, rfl⟩
  have hhb : h ≤ 4096 ∧ 7 ≤ h := by rw [← hh]; unfold halfV; omega
  have hhi : (h : Int) ≤ 4096 := by omega
  have hni : (n : Int) ≤ 4096 := by omega
  have HW := Lib.hid (fun W => refWrong_ok n half epoch 0 W hn16 h1 h2 h3 (Nat.zero_le _))
  have HH := Lib.hid (fun W => refHalf_ok n h W hn16 hh)
  obtain ⟨p, hp⟩ : ∃ p, placeV n half 0 = p := ⟨_, rfl⟩
  have HPl := Lib.hid (fun W => refPlace_ok n half 0 p W hn16 h1 (by rw [hh]; omega) hp)
  have hpb : p ≤ 4096 := by
    rw [← hp]
    unfold placeV firstV halfV at *
    split <;> omega
  have hp0 : (p : Int) ≤ 4096 := by omega
  have hRd := fun W (q : Below w.heap.size w W) => refRead_any A A' c c' d (p : Nat) W (hA.later q) hk hI.shown (by omega)
  rw [show d.read (p : Nat) = (d, ByteArray.empty, 7) by unfold Dk.read; rw [if_pos hdn]] at hRd
  have h7 : 0 < (h : Int) := by omega
  dsimp only [rc] at hRd ⊢
  obtain ⟨n', hn'⟩ : ∃ n', d.C.length = n' := ⟨_, rfl⟩
  obtain ⟨a2, hb2⟩ : ∃ v : Int, (d.armed : Int) = v := ⟨_, rfl⟩
  obtain ⟨a3, hb3⟩ : ∃ v, d.down = v := ⟨_, rfl⟩
  rw [hn, hn', hb2, hb3] at hB HB ⊢
  simp only [hn, hn', hb2, hb3] at hRd
  have HRd := Lib.hid hRd
  have HV := Lib.hid hn'
  have HA := Lib.hid hA
  clear hn' hb2 hb3 hA hk hI hdn h1 h2 h3 ho hn hh hn16 hhb hRd hp hpb
  go_enter Tryz.func49, Tryz.ntmps49
  go_upto_region 1 with fail
  obtain ⟨x0, x1, x2, x3, x4, z0, z1, z2, z3, z4, f, f'⟩ := hB.cells
  have f0 := f 0
  have f1 := f 1
  have f2 := f 2
  have f3 := f 3
  have f4 := f 4
  have g0 := f' 0
  have g1 := f' 1
  have g2 := f' 2
  have g3 := f' 3
  have g4 := f' 4
  clear f f'
  clear hB
  generalize World.alloc (World.alloc w _) _ = W at *
  go_wp2_with fail
  refine (HW.out _).mono ?_
  rintro x w3 ⟨rfl, rfl⟩
  go_upto_region 6 with fail
  clear x0 x1 x2 x3 x4 z0 z1 z2 z3 z4 f0 f1 f2 f3 f4 g0 g1 g2 g3 g4
  go_loopw [11] (fun v wr => wr = W ∧ v = .slice none 0 0) (fun _ _ => 0)
  case atStart => exact ⟨rfl, rfl⟩
  case round =>
    obtain ⟨rfl, rfl⟩ := hrel
    go_wp2_with fail
    refine (HH.out _).mono ?_
    rintro x w4 ⟨rfl, rfl⟩
    go_upto_region 7 with fail
    go_cut [12, 13, 14] from 29 to 73 (fun s12 s13 s14 wx => s13 = .string ByteArray.empty ∧ s14 = .int .i64 7 ∧ ∃ g12, s12 = .pointer (some ⟨g12, 0, none⟩) ∧ wx.heap[g12]? = some (.cells #[.slice A n c, .slice A' n' c', (.int .i64 a2), (.bool a3), .int .i64 (d.ops : Int)] 54 (0, 0)) ∧ Below wr.heap.size wr wx)
    case first =>
      have hS : ∀ W', Below wr.heap.size wr W' → (W'.cell? ⟨w.heap.size, 0, none⟩ = some (.slice A n c) ∧ W'.cell? ⟨w.heap.size, 1, none⟩ = some (.slice A' n' c') ∧ W'.cell? ⟨w.heap.size, 2, none⟩ = some (.int .i64 a2) ∧ W'.cell? ⟨w.heap.size, 3, none⟩ = some (.bool a3) ∧ W'.cell? ⟨w.heap.size, 4, none⟩ = some (.int .i64 (d.ops : Int))) := fun W' q => by
        obtain ⟨x0, x1, x2, x3, x4, -⟩ := (HB.out.later q).cells
        exact ⟨x0, x1, x2, x3, x4⟩
      have HS := Lib.hid hS
      have hS0 := hS wr.drew (Below.refl _ _).drew
      have hbw := HB.out.bel
      have HR1 := Lib.hid (HRd.out wr.drew hbw.drew)
      have HR2 := Lib.hid (fun o => HRd.out ((wr.alloc o).drew) ((hbw.alloc hbw.size o).drew))
      clear hS hbw HW HH HA hhi hni hp0 HB HRd HV
      go_region_held3 (fun W' => W'.cell? ⟨w.heap.size, 0, none⟩ = some (.slice A n c) ∧ W'.cell? ⟨w.heap.size, 1, none⟩ = some (.slice A' n' c') ∧ W'.cell? ⟨w.heap.size, 2, none⟩ = some (.int .i64 a2) ∧ W'.cell? ⟨w.heap.size, 3, none⟩ = some (.bool a3) ∧ W'.cell? ⟨w.heap.size, 4, none⟩ = some (.int .i64 (d.ops : Int)))
        (first | with_reducible exact hS0 | with_reducible assumption | with_reducible exact HS.out _ (bd _ _) | with_reducible exact HS.out _ B5.out | with_reducible exact HS.out _ (ba B5.out _) | with_reducible exact HS.out _ (below5 B5.out (Nat.le_refl _) _ _ _ _ _))
        (first
          | (go_at_call 12; refine (HPl.out _).mono ?_; rintro x w5 ⟨rfl, rfl⟩)
          | (go_at_call 73; (with_reducible show Calls _ _ _ (World.drew wr) _); refine HR1.out.mono ?_; rintro x w5 ⟨rfl, b5⟩; have B5 := Lib.hid (Below.trans (Below.refl wr.heap.size wr).drew b5))
          | (go_at_call 73; (with_reducible show Calls _ _ _ (World.drew (World.alloc wr _)) _); refine (HR2.out _).mono ?_; rintro x w5 ⟨rfl, b5⟩; have B5 := Lib.hid (bt (bd wr _) b5); have q5 := kept_n b5; obtain ⟨y0, y1, y2, y3, y4, yf0, yf1, yf2, yf3, yf4, qb⟩ := q5; have QB := Lib.hid qb; clear qb))
      all_goals go_wp2_with fail
      all_goals go_meet
      all_goals (first
        | with_reducible exact ⟨rfl, rfl, _, rfl, heap_alloc_last _ _, ba B5.out _⟩
        | with_reducible exact ⟨rfl, rfl, _, rfl, box5 QB.out _ _ _ _ _, below5 B5.out (Nat.le_refl _) _ _ _ _ _⟩)
    case rest =>
      obtain ⟨rfl, rfl, g12, rfl, hb12, kx⟩ := hcut
      have HB12 := Lib.hid (HB.out.later kx)
      have v0 := (cell_of_row _ _ 0 _ _ _ hb12).trans rfl
      have v1 := (cell_of_row _ _ 1 _ _ _ hb12).trans rfl
      have v2 := (cell_of_row _ _ 2 _ _ _ hb12).trans rfl
      have v3 := (cell_of_row _ _ 3 _ _ _ hb12).trans rfl
      have v4 := (cell_of_row _ _ 4 _ _ _ hb12).trans rfl
      obtain ⟨x0, x1, x2, x3, x4, z0, z1, z2, z3, z4, f, f'⟩ := HB12.out.cells
      have f0 := f 0
      have f1 := f 1
      have f2 := f 2
      have f3 := f 3
      have f4 := f 4
      have g0 := f' 0
      have g1 := f' 1
      have g2 := f' 2
      have g3 := f' 3
      have g4 := f' 4
      clear f f'
      have h9 := HB12.out.put (.slice A n c) (.slice A' n' c') (.int .i64 a2) (.bool a3) (.int .i64 (d.ops : Int))
      clear hb12 kx
      go_upto_region 9 with fail
      clear x0 x1 x2 x3 x4 z0 z1 z2 z3 z4 f0 f1 f2 f3 f4 g0 g1 g2 g3 g4
      clear v0 v1 v2 v3 v4
      generalize World.setCell _ _ _ = w9 at *
      have H9 := Lib.hid h9
      clear h9
      obtain ⟨x0, x1, x2, x3, x4, z0, z1, z2, z3, z4, f, f'⟩ := H9.out.cells
      have f0 := f 0
      have f1 := f 1
      have f2 := f 2
      have f3 := f 3
      have f4 := f 4
      have g0 := f' 0
      have g1 := f' 1
      have g2 := f' 2
      have g3 := f' 3
      have g4 := f' 4
      clear f f'
      go_wp2
      obtain ⟨⟨e0, e1, e2, e3, e4⟩, b9, -⟩ := H9.out.fin (.slice A n c) (.slice A' n' c') (.int .i64 a2) (.bool a3) (.int .i64 (d.ops : Int))
      refine bodyPost_ret (by simp [results, Tryz.results49, go_sem, e0, e1, e2, e3, e4]; try rfl) rfl ?_
      exact ⟨rfl, b9⟩
end Go.Proofs.YtfbakelpplpomaaGreatDoor.Disk
