/-
  The walks of the disk's Flush; slices.Clone of writes; Seize; the methods over no disk.
-/
import Derived.Test.YtfbakelpplpomaaGreatDoorWalkDiskE
namespace Go.Proofs.YtfbakelpplpomaaGreatDoor.Disk
open Go.RowKit Go.Proofs.YtfbakelpplpomaaGreatDoor.DiskRows
set_option linter.unusedVariables false
set_option linter.unusedSimpArgs false
set_option maxRecDepth 100000

set_option maxHeartbeats 1600000 in
theorem flush_go (base : Nat → Prop) (b : Nat) (d : Dk) (w : World) (h : DiskAt base b d w) (hd : d.down = false) (hst : d.step.2 = false) (ho : d.ops < 1000000000000) (hbase : Top base w.heap.size) :
    Calls Tryz.prog 41 #[.pointer (some ⟨b, 0, none⟩)] w fun x w' => x = .returned (.int .i64 0) ∧ DiskAt base b { d.step.1 with S := shows d.S d.C, C := [] } w' ∧ Kp base w w' := by
  have hr := ready_hid h 0 (by rw [hd]; rfl)
  have HR := Lib.hid hr
  obtain ⟨eS, eH, eC⟩ := step_same d
  obtain ⟨gS, cS, gH, cH, vC, h⟩ := h
  have hs := step_any base b gS cS gH cH vC d w h ho
  rw [hst] at hs
  obtain ⟨dd, hdd⟩ : ∃ dd, d.step.1 = dd := ⟨_, rfl⟩
  rw [hdd] at eS eH eC hs ⊢
  rw [← eS, ← eC]
  have HS := Lib.hid hs
  clear hr hs h hd hst ho eS eH eC hdd
  go_enter Tryz.func41, Tryz.ntmps41
  go_wp2_with fail
  refine HR.out.mono ?_
  rintro x w1 ⟨rfl, rfl⟩
  go_wp2_with fail
  refine HS.out.mono ?_
  rintro x w1 ⟨rfl, h1, b1, z1⟩
  have hb1 : Top base w1.heap.size := by rw [z1]; exact hbase
  clear z1 HS HR
  obtain ⟨aC, nC, kC, rfl⟩ := own_shapeV h1.rowC
  have hnC := own_lenW h1.rowC
  subst hnC
  have c1 : w1.cell? ⟨b, 1, none⟩ = some (.slice aC dd.C.length kC) := by rw [cell_of_row w1 b 1 _ _ _ h1.heap]; rfl
  have H1 := Lib.hid h1
  clear h1
  go_upto_region 8 with fail
  clear c1
  go_loopw [23] (fun i wr => ∃ k : Nat, k ≤ dd.C.length ∧ i = .int .i64 k ∧ DAt base b gS cS gH cH (.slice aC dd.C.length kC) { dd with S := shows dd.S (dd.C.take k) } wr ∧ Kp base w wr) (fun i _ => dd.C.length - (intOf i).toNat)
  case atStart => exact ⟨0, by omega, rfl, H1.out, b1⟩
  case round =>
    obtain ⟨k, hk, rfl, hd, bq⟩ := hrel
    have hbaser := hbase.trans bq.size
    by_cases hlt : k < dd.C.length
    · obtain ⟨gC, oC, rfl⟩ : ∃ g o, aC = some ⟨g, o, none⟩ := by
        rcases hd.rowC.2 with ⟨e, h0⟩ | ⟨g, cap, cur, e, _⟩
        · have h0' : dd.C.length = 0 := h0
          omega
        · simp at e; exact ⟨g, 0, e.1⟩
      obtain ⟨rfl, q1, q2⟩ := own_cellW hd.rowC k hlt
      have hsk := shows_take dd.S dd.C k hlt _ rfl
      have hat := hd.ats (dd.C.getD k (0, ByteArray.empty)) (by rw [List.getD_eq_getElem?_getD, List.getElem?_eq_getElem hlt]; exact List.getElem_mem hlt)
      obtain ⟨x, hx⟩ : ∃ x, dd.C.getD k (0, ByteArray.empty) = x := ⟨_, rfl⟩
      rw [hx] at q1 q2 hsk hat
      obtain ⟨i, s⟩ := x
      dsimp only at q1 q2 hsk hat
      have c0 : wr.cell? ⟨b, 0, none⟩ = some (.slice (some ⟨gS, 0, none⟩) dd.S.length cS) := by rw [cell_of_row wr b 0 _ _ _ hd.heap]; simp [dV, shows_length]
      have hin : (i : Int) < (dd.S.length : Int) := by rw [shows_length] at hat; omega
      have hfi : (dd.C.length : Int) ≤ 100000 := by have : dd.C.length ≤ 100000 := hd.few; omega
      have c3 := hd.rowS.cell (i := i) hat
      have f3 := hd.rowS.frozen i
      have hgl := hd.rowS.lt
      have hgb := hd.lt
      have ka := Joins.below_alloc1 wr (.cells #[.int .i64 (i : Nat), .string s] 89)
      have hda := (hd.later ka).setS i (by exact hat) s
      have bqa : Kp base w ((wr.alloc (.cells #[.int .i64 (i : Nat), .string s] 89)).setCell ⟨gS, i, none⟩ (.string s)) := (bq.alloc hbaser _).setCell (p := ⟨gS, i, none⟩) hd.sep.2.1 _
      have a0 := (ka.cell (p := ⟨b, 0, none⟩) hgb).trans c0
      have a3 := (ka.cell (p := ⟨gS, i, none⟩) hgl).trans c3
      have a4 := (ka.frozen (p := ⟨gS, i, none⟩) hgl).trans f3
      have a5 : (wr.alloc (.cells #[.int .i64 (i : Nat), .string s] 89)).cell? ⟨wr.heap.size, 0, none⟩ = some (.int .i64 (i : Nat)) := (cell_of_row _ _ 0 _ _ _ (heap_alloc_last _ _)).trans rfl
      have a6 : (wr.alloc (.cells #[.int .i64 (i : Nat), .string s] 89)).cell? ⟨wr.heap.size, 1, none⟩ = some (.string s) := (cell_of_row _ _ 1 _ _ _ (heap_alloc_last _ _)).trans rfl
      have HD := Lib.hid (And.intro hda bqa)
      have HK := Lib.hid hsk
      clear hd ka hda bqa c0 c3 f3 hx hsk hat
      go_upto_region 10 with fail
      clear q1 q2
      generalize World.alloc _ _ = wa at *
      go_region
      go_wp2
      go_round
      case rel => exact ⟨k + 1, by omega, by go_num, by rw [HK.out]; exact HD.out.1.drewD, HD.out.2.drew⟩
      case measure => simp [intOf]; omega
    · have hkc : k = dd.C.length := by omega
      subst hkc
      rw [List.take_length] at hd
      have f1 := frozen_of_row wr b 1 _ _ hd.heap
      have c1 : wr.cell? ⟨b, 1, none⟩ = some (.slice aC dd.C.length kC) := by rw [cell_of_row wr b 1 _ _ _ hd.heap]; rfl
      have h1 := hd.setC (.slice none 0 0) [] (World.ownsRow_nil _ _ _ _) (fun k hk => by simp [Value.ownBlock] at hk) (fun k hk => by simp [Value.ownBlock] at hk) (by simp) (by simp)
      have hB := bq.setCell (p := ⟨b, 1, none⟩) hd.sep.1 (.slice none 0 0)
      have H2 := Lib.hid (And.intro h1 hB)
      clear hd h1 hB
      go_wp2
      go_ret
      exact ⟨rfl, ⟨gS, cS, gH, cH, _, H2.out.1⟩, H2.out.2⟩
theorem flush_any (base : Nat → Prop) (b : Nat) (d : Dk) (w : World) (h : DiskAt base b d w) (ho : d.ops < 1000000000000) (hbase : Top base w.heap.size) :
    Calls Tryz.prog 41 #[.pointer (some ⟨b, 0, none⟩)] w fun x w' => x = .returned (.int .i64 d.flush.2) ∧ DiskAt base b d.flush.1 w' ∧ Kp base w w' := by
  have H := Lib.hid h
  cases hd : d.down
  · cases hst : d.step.2
    · have e : d.flush = ({ d.step.1 with S := shows d.S d.C, C := [] }, 0) := by simp [Dk.flush, hd, hst]
      rw [e]
      exact flush_go base b d w h hd hst ho hbase
    · have e : d.flush = (d.step.1, 7) := by simp [Dk.flush, hd, hst]
      rw [e]
      have hr := ready_hid h 0 (by rw [hd]; rfl)
      have HR := Lib.hid hr
      obtain ⟨gS, cS, gH, cH, vC, h⟩ := h
      have hst2 := step_any base b gS cS gH cH vC d w h ho
      rw [hst] at hst2
      have HSt := Lib.hid hst2
      clear h hr e hd hst2
      go_enter Tryz.func41, Tryz.ntmps41
      go_wp2_with fail
      refine HR.out.mono ?_
      rintro e w1 ⟨rfl, rfl⟩
      go_wp2_with fail
      refine HSt.out.mono ?_
      rintro e w1 ⟨rfl, h1, b1, z1⟩
      go_wp2
      go_ret
      exact ⟨rfl, ⟨gS, cS, gH, cH, vC, h1⟩, b1⟩
  · have hr := ready_hid h 7 (by rw [hd]; rfl)
    have HR := Lib.hid hr
    have e : d.flush = (d, 7) := by simp [Dk.flush, hd]
    rw [e]
    clear h hr e hd
    go_enter Tryz.func41, Tryz.ntmps41
    go_wp2_with fail
    refine HR.out.mono ?_
    rintro e w1 ⟨rfl, rfl⟩
    go_wp2
    go_ret
    exact ⟨rfl, H.out, Kp.refl _ _⟩
end Go.Proofs.YtfbakelpplpomaaGreatDoor.Disk
