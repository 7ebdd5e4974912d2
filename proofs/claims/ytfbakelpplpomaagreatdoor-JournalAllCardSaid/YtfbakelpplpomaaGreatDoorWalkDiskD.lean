/-
  The walks of the disk's methods, whatever the disk: step, Read, Arm, Size, Down; and over no disk.
-/
import Derived.Test.YtfbakelpplpomaaGreatDoorWalkDiskC
namespace Go.Proofs.YtfbakelpplpomaaGreatDoor.Disk
open Go.RowKit Go.Proofs.YtfbakelpplpomaaGreatDoor.DiskRows
set_option linter.unusedVariables false
set_option linter.unusedSimpArgs false
set_option maxRecDepth 100000

/-- is there a sector? -/
def Dk.has (d : Dk) (i : Int) : Prop := 0 ≤ i ∧ i < (d.S.length : Int)
instance (d : Dk) (i : Int) : Decidable (d.has i) := inferInstanceAs (Decidable (_ ∧ _))
/-- a step -/
def Dk.step (d : Dk) : Dk × Bool := if d.armed = 1 then ({ d with armed := 0, down := true }, true) else ({ d with armed := d.armed - 1, ops := d.ops + 1 }, false)
def Dk.read (d : Dk) (i : Int) : Dk × ByteArray × Int :=
  if d.down = true then (d, ByteArray.empty, 7) else if d.has i then ({ d with ops := d.ops + 1 }, d.H.getD i.toNat ByteArray.empty, 0) else (d, ByteArray.empty, 8)
def Dk.arm (d : Dk) (n : Int) : Dk × Int := if d.down = true then (d, 7) else if n < 0 then (d, 2) else ({ d with armed := n.toNat }, 0)
def Dk.write (d : Dk) (i : Int) (s : ByteArray) : Dk × Int :=
  if d.down = true then (d, 7) else if d.has i then (if s.size = 128 then (if d.step.2 = true then (d.step.1, 7) else ({ d.step.1 with C := d.C ++ [(i.toNat, s)], H := d.H.set i.toNat s }, 0)) else (d, 2)) else (d, 8)
def Dk.flush (d : Dk) : Dk × Int :=
  if d.down = true then (d, 7) else if d.step.2 = true then (d.step.1, 7) else ({ d.step.1 with S := shows d.S d.C, C := [] }, 0)
def Dk.boot (d : Dk) : Dk := { d with C := [], H := d.S, armed := 0, down := false }
def Dk.crash (d : Dk) (l : List Int) : Dk := { d with S := keeps d.S d.C l d.C.length, C := [], H := keeps d.S d.C l d.C.length, armed := 0, down := true }
def Dk.over (d : Dk) (i : Int) (s : ByteArray) : Dk × Int :=
  if d.has i then (if s.size = 128 then ({ d with S := d.S.set i.toNat s, H := shows (d.S.set i.toNat s) d.C }, 0) else (d, 2)) else (d, 8)
theorem DAt.cells {base : Nat → Prop} {b gS cS gH cH : Nat} {vC : Value} {d : Dk} {w : World} (h : DAt base b gS cS gH cH vC d w) :
    (w.cell? ⟨b, 0, none⟩ = some (.slice (some ⟨gS, 0, none⟩) d.S.length cS) ∧ w.cell? ⟨b, 1, none⟩ = some vC ∧ w.cell? ⟨b, 2, none⟩ = some (.slice (some ⟨gH, 0, none⟩) d.S.length cH) ∧ w.cell? ⟨b, 3, none⟩ = some (.int .i64 (d.armed : Nat)) ∧ w.cell? ⟨b, 4, none⟩ = some (.bool d.down) ∧ w.cell? ⟨b, 5, none⟩ = some (.int .i64 (d.ops : Nat)))
    ∧ ∀ i, w.frozen? ⟨b, i, none⟩ = false :=
  ⟨⟨by rw [cell_of_row w b 0 _ _ _ h.heap]; rfl, by rw [cell_of_row w b 1 _ _ _ h.heap]; rfl, by rw [cell_of_row w b 2 _ _ _ h.heap]; rfl, by rw [cell_of_row w b 3 _ _ _ h.heap]; rfl, by rw [cell_of_row w b 4 _ _ _ h.heap]; rfl, by rw [cell_of_row w b 5 _ _ _ h.heap]; rfl⟩, fun i => frozen_of_row w b i _ _ h.heap⟩
theorem step_any (base : Nat → Prop) (b gS cS gH cH : Nat) (vC : Value) (d : Dk) (w : World) (h : DAt base b gS cS gH cH vC d w) (ho : d.ops < 1000000000000) :
    Calls Tryz.prog 66 #[.pointer (some ⟨b, 0, none⟩)] w fun x w' => x = .returned (.int .i64 (if d.step.2 then 7 else 0)) ∧ DAt base b gS cS gH cH vC d.step.1 w' ∧ Kp base w w' ∧ w'.heap.size = w.heap.size := by
  obtain ⟨⟨c0, c1, c2, c3, c4, c5⟩, fz⟩ := h.cells
  have f3 := fz 3
  have f4 := fz 4
  have f5 := fz 5
  have hb := h.sep.1
  have hlow := h.low
  by_cases h0 : d.armed = 0
  · have e : d.step = ({ d with ops := d.ops + 1 }, false) := by simp [Dk.step, h0]
    rw [e]
    exact step_free base b gS cS gH cH vC d w h h0 ho
  · by_cases h1 : d.armed = 1
    · have e : d.step = ({ d with armed := 0, down := true }, true) := by simp [Dk.step, h1]
      have hn := (h.setArmed 0 (by omega)).setDown true
      have hs : Kp base w ((w.setCell ⟨b, 3, none⟩ (.int .i64 ((0 : Nat) : Int))).setCell ⟨b, 4, none⟩ (.bool true)) := (below_set1 hb 3 _).setCell (p := ⟨b, 4, none⟩) hb _
      have HN := Lib.hid (And.intro hn hs)
      rw [e]
      rw [h1] at c3
      clear h hn hs e c0 c1 c2 c5 fz f5
      go_enter Tryz.func66, Tryz.ntmps66
      go_wp2
      go_ret
      exact ⟨rfl, HN.out.1, HN.out.2, by simp [World.setCell]⟩
    · have e : d.step = ({ d with armed := d.armed - 1, ops := d.ops + 1 }, false) := by simp [Dk.step, h1]
      have hn := (h.setArmed (d.armed - 1) (by omega)).setOps (d.ops + 1) (by omega)
      have hs : Kp base w ((w.setCell ⟨b, 3, none⟩ (.int .i64 ((d.armed - 1 : Nat) : Int))).setCell ⟨b, 5, none⟩ (.int .i64 ((d.ops + 1 : Nat) : Int))) := (below_set1 hb 3 _).setCell (p := ⟨b, 5, none⟩) hb _
      rw [e]
      have hz : ((d.armed - 1 : Nat) : Int) = (d.armed : Int) - 1 := by omega
      rw [hz] at hn hs
      have HN := Lib.hid (And.intro hn hs)
      have hob : (d.ops : Int) < 1000000000000 := by omega
      have ha1 : 1 < (d.armed : Int) := by omega
      have ha2 : (d.armed : Int) ≤ 9223372036854775807 := by omega
      have ha3 : ¬ ((d.armed : Int) - 1 = 0) := by omega
      clear h hn hs e c0 c1 c2 c4 fz f4 hlow h0 h1 hz
      generalize (d.armed : Int) = a at *
      have ha4 : (a - 1 == 0) = false := by simpa using ha3
      have ha0 : 0 < a := by omega
      clear ha3 ha1
      go_enter Tryz.func66, Tryz.ntmps66
      go_wp2
      go_ret
      exact ⟨rfl, HN.out.1, HN.out.2, by simp [World.setCell]⟩
theorem read_any (base : Nat → Prop) (b : Nat) (d : Dk) (w : World) (h : DiskAt base b d w) (i : Int) (ho : d.ops < 1000000000000) :
    Calls Tryz.prog 33 #[.pointer (some ⟨b, 0, none⟩), .int .i64 i] w fun x w' => x = .returned (.tuple #[.string (d.read i).2.1, .int .i64 (d.read i).2.2]) ∧ DiskAt base b (d.read i).1 w' ∧ Kp base w w' := by
  cases hd : d.down
  · by_cases hi : d.has i
    · have e : d.read i = ({ d with ops := d.ops + 1 }, d.H.getD i.toNat ByteArray.empty, 0) := by simp [Dk.read, hd, hi]
      rw [e]
      obtain ⟨n, rfl⟩ := Int.eq_ofNat_of_zero_le hi.1
      have := hi.2
      exact read_ok base b d w h hd n (by omega) ho
    · have e : d.read i = (d, ByteArray.empty, 8) := by simp [Dk.read, hd, hi]
      rw [e]
      have H := Lib.hid h
      obtain ⟨gS, cS, gH, cH, vC, h⟩ := h
      have hr := ready_ok base b gS cS gH cH vC d w h 0 (by rw [hd]; rfl)
      have hw := within_any base b gS cS gH cH vC d w h i
      rw [decide_eq_false (p := 0 ≤ i ∧ i < (d.S.length : Int)) hi] at hw
      have HR := Lib.hid hr
      have HW := Lib.hid hw
      clear h hr hw hi e hd
      go_enter Tryz.func33, Tryz.ntmps33
      go_wp2_with fail
      refine HR.out.mono ?_
      rintro e w1 ⟨rfl, rfl⟩
      go_wp2_with fail
      refine HW.out.mono ?_
      rintro e w1 ⟨rfl, rfl⟩
      go_wp2
      go_ret2
      exact ⟨rfl, H.out, Kp.refl _ _⟩
  · have e : d.read i = (d, ByteArray.empty, 7) := by simp [Dk.read, hd]
    rw [e]
    have H := Lib.hid h
    obtain ⟨gS, cS, gH, cH, vC, h⟩ := h
    have hr := ready_ok base b gS cS gH cH vC d w h 7 (by rw [hd]; rfl)
    have HR := Lib.hid hr
    clear h hr e hd
    go_enter Tryz.func33, Tryz.ntmps33
    go_wp2_with fail
    refine HR.out.mono ?_
    rintro e w1 ⟨rfl, rfl⟩
    go_wp2
    go_ret2
    exact ⟨rfl, H.out, Kp.refl _ _⟩
theorem arm_any (base : Nat → Prop) (b : Nat) (d : Dk) (w : World) (h : DiskAt base b d w) (n : Int) (hn : n ≤ 9223372036854775807) :
    Calls Tryz.prog 14 #[.pointer (some ⟨b, 0, none⟩), .int .i64 n] w fun x w' => x = .returned (.int .i64 (d.arm n).2) ∧ DiskAt base b (d.arm n).1 w' ∧ Kp base w w' := by
  have H := Lib.hid h
  obtain ⟨gS, cS, gH, cH, vC, h⟩ := h
  cases hd : d.down
  · have hr := ready_ok base b gS cS gH cH vC d w h 0 (by rw [hd]; rfl)
    have HR := Lib.hid hr
    by_cases hneg : n < 0
    · have e : d.arm n = (d, 2) := by simp [Dk.arm, hd, hneg]
      rw [e]
      clear h hr e hd
      go_enter Tryz.func14, Tryz.ntmps14
      go_wp2_with fail
      refine HR.out.mono ?_
      rintro e w1 ⟨rfl, rfl⟩
      go_wp2
      go_ret
      exact ⟨rfl, H.out, Kp.refl _ _⟩
    · have e : d.arm n = ({ d with armed := n.toNat }, 0) := by simp [Dk.arm, hd, hneg]
      rw [e]
      obtain ⟨⟨c0, c1, c2, c3, c4, c5⟩, fz⟩ := h.cells
      have f3 := fz 3
      obtain ⟨m, rfl⟩ := Int.eq_ofNat_of_zero_le (by omega : 0 ≤ n)
      have hs := h.setArmed m (by omega)
      have hB := below_set1 (w := w) h.sep.1 3 (.int .i64 (m : Nat))
      have HN := Lib.hid (And.intro hs hB)
      clear h hr e hd hs hB c0 c1 c2 c4 c5 fz
      go_enter Tryz.func14, Tryz.ntmps14
      go_wp2_with fail
      refine HR.out.mono ?_
      rintro e w1 ⟨rfl, rfl⟩
      go_wp2
      go_ret
      exact ⟨rfl, ⟨gS, cS, gH, cH, vC, HN.out.1⟩, HN.out.2⟩
  · have hr := ready_ok base b gS cS gH cH vC d w h 7 (by rw [hd]; rfl)
    have HR := Lib.hid hr
    have e : d.arm n = (d, 7) := by simp [Dk.arm, hd]
    rw [e]
    clear h hr e hd
    go_enter Tryz.func14, Tryz.ntmps14
    go_wp2_with fail
    refine HR.out.mono ?_
    rintro e w1 ⟨rfl, rfl⟩
    go_wp2
    go_ret
    exact ⟨rfl, H.out, Kp.refl _ _⟩
theorem size_any (base : Nat → Prop) (b : Nat) (d : Dk) (w : World) (h : DiskAt base b d w) :
    Calls Tryz.prog 30 #[.pointer (some ⟨b, 0, none⟩)] w fun x w' => x = .returned (.int .i64 (d.S.length : Nat)) ∧ w = w' := by
  obtain ⟨gS, cS, gH, cH, vC, h⟩ := h
  obtain ⟨⟨c0, c1, c2, c3, c4, c5⟩, fz⟩ := h.cells
  clear h c1 c2 c3 c4 c5 fz
  go_enter Tryz.func30, Tryz.ntmps30
  go_wp2
  go_ret
  exact ⟨rfl, rfl⟩
end Go.Proofs.YtfbakelpplpomaaGreatDoor.Disk
