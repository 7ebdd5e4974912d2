/-
  The walks of the disk's methods, whatever the disk: step, Read, Arm, Size, Down; and over no disk.
-/
import Derived.Test.YtfbakelpplpomaaGreatDoorWalkDiskC
namespace Go.Proofs.YtfbakelpplpomaaGreatDoor.Disk
open Go.RowKit Go.Proofs.YtfbakelpplpomaaGreatDoor.DiskRows
set_option linter.unusedVariables false
set_option linter.unusedSimpArgs false
set_option maxRecDepth 100000

/-- is there a sector? -/
def Dk.has (d : Dk) (i : Int) : Prop := 0 ≤ i ∧ i < (d.S.length : Int)
instance (d : Dk) (i : Int) : Decidable (d.has i) := inferInstanceAs (Decidable (_ ∧ _))
/-- a step -/
def Dk.step (d : Dk) : Dk × Bool := if d.armed = 1 then ({ d with armed := 0, down := true }, true) else ({ d with armed := d.armed - 1, ops := d.ops + 1 }, false)
def Dk.read (d : Dk) (i : Int) : Dk × ByteArray × Int :=
  if d.down = true then (d, ByteArray.empty, 7) else if d.has i then ({ d with ops := d.ops + 1 }, d.H.getD i.toNat ByteArray.empty, 0) else (d, ByteArray.empty, 8)
def Dk.arm (d : Dk) (n : Int) : Dk × Int := if d.down = true then (d, 7) else if n < 0 then (d, 2) else ({ d with armed := n.toNat }, 0)
def Dk.write (d : Dk) (i : Int) (s : ByteArray) : Dk × Int :=
  if d.down = true then (d, 7) else if d.has i then (if s.size = 128 then (if d.step.2 = true then (d.step.1, 7) else ({ d.step.1 with C := d.C ++ [(i.toNat, s)], H := d.H.set i.toNat s }, 0)) else (d, 2)) else (d, 8)
def Dk.flush (d : Dk) : Dk × Int :=
  if d.down = true then (d, 7) else if d.step.2 = true then (d.step.1, 7) else ({ d.step.1 with S := shows d.S d.C, C := [] }, 0)
def Dk.boot (d : Dk) : Dk := { d with C := [], H := d.S, armed := 0, down := false }
def Dk.crash (d : Dk) (l : List Int) : Dk := { d with S := keeps d.S d.C l d.C.length, C := [], H := keeps d.S d.C l d.C.length, armed := 0, down := true }
def Dk.over (d : Dk) (i : Int) (s : ByteArray) : Dk × Int :=
  if d.has i then (if s.size = 128 then ({ d with S := d.S.set i.toNat s, H := shows (d.S.set i.toNat s) d.C }, 0) else (d, 2)) else (d, 8)
theorem DAt.cells {base : Nat → Prop} {b gS cS gH cH : Nat} {vC : Value} {d : Dk} {w : World} (h : DAt base b gS cS gH cH vC d w) :
    (w.cell? ⟨b, 0, none⟩ = some (.slice (some ⟨gS, 0, none⟩) d.S.length cS) ∧ w.cell? ⟨b, 1, none⟩ = some vC ∧ w.cell? ⟨b, 2, none⟩ = some (.slice (some ⟨gH, 0, none⟩) d.S.length cH) ∧ w.cell? ⟨b, 3, none⟩ = some (.int .i64 (d.armed : Nat)) ∧ w.cell? ⟨b, 4, none⟩ = some (.bool d.down) ∧ w.cell? ⟨b, 5, none⟩ = some (.int .i64 (d.ops : Nat)))
    ∧ ∀ i, w.frozen? ⟨b, i, none⟩ = false :=
  ⟨⟨by rw [cell_of_row w b 0 _ _ _ h.heap]; rfl, by rw [cell_of_row w b 1 _ _ _ h.heap]; rfl, by rw [cell_of_row w b 2 _ _ _ h.heap]; rfl, by rw [cell_of_row w b 3 _ _ _ h.heap]; rfl, by rw [cell_of_row w b 4 _ _ _ h.heap]; rfl, by rw [cell_of_row w b 5 _ _ _ h.heap]; rfl⟩, fun i => frozen_of_row w b i _ _ h.heap⟩
theorem step_any (base : Nat → Prop) (b gS cS gH cH : Nat) (vC : Value) (d : Dk) (w : World) (h : DAt base b gS cS gH cH vC d w) (ho : d.ops < 1000000000000) :
    Calls Tryz.prog 66 #[.pointer (some ⟨b, 0, none⟩)] w fun x w' => x = .returned (.int .i64 (if d.step.2 then 7 else 0)) ∧ DAt base b gS cS gH cH vC d.step.1 w' ∧ Kp base w w' ∧ w'.heap.size = w.heap.size := by
  obtain ⟨⟨c0, c1, c2, c3, c4, c5⟩, fz⟩ := h.cells
  have f3 := fz 3
  have f4 := fz 4
  have f5 := fz 5
  have hb := h.sep.1
  have hlow := h.low
  by_cases h0 : d.armed = 0
  · have e : d.step = ({ d with ops := d.ops + 1 }, false) := by simp [Dk.step, h0]
    rw [e]
    exact step_free base b gS cS gH cH vC d w h h0 ho
  · by_cases h1 : d.armed = 1
    · have e : d.step = ({ d with armed := 0, down := true }, true) := by simp [Dk.step, h1]
      have hn := (h.setArmed 0 (by omega)).setDown true
      have hs : Kp base w ((w.setCell ⟨b, 3, none⟩ (.int .i64 ((0 : Nat) : Int))).setCell ⟨b, 4, none⟩ (.bool true)) := (below_set1 hb 3 _).setCell (p := ⟨b, 4, none⟩) hb _
      have HN := Lib.hid (And.intro hn hs)
      rw [e]
      rw [h1] at c3
      clear h hn hs e c0 c1 c2 c5 fz f5
      go_enter Tryz.func66, Tryz.ntmps66
      go_wp2
      go_ret
      exact ⟨rfl, HN.out.1, HN.out.2, by simp [World.setCell]⟩
    · have e : d.step = ({ d with armed := d.armed - 1, ops := d.ops + 1 }, false) := by simp [Dk.step, h1]
      have hn := (h.setArmed (d.armed - 1) (by omega)).setOps (d.ops + 1) (by omega)
      have hs : Kp base w ((w.setCell ⟨b, 3, none⟩ (.int .i64 ((d.armed - 1 : Nat) : Int))).setCell ⟨b, 5, none⟩ (.int .i64 ((d.ops + 1 : Nat) : Int))) := (below_set1 hb 3 _).setCell (p := ⟨b, 5, none⟩) hb _
      rw [e]
      have hz : ((d.armed - 1 : Nat) : Int) = (d.armed : Int) - 1 := by omega
      rw [hz] at hn hs
      have HN := Lib.hid (And.intro hn hs)
      have hob : (d.ops : Int) < 1000000000000 := by omega
      have ha1 : 1 < (d.armed : Int) := by omega
      have ha2 : (d.armed : Int) ≤ 9223372036854775807 := by omega
      have ha3 : ¬ ((d.armed : Int) - 1 = 0) := by omega
      clear h hn hs e c0 c1 c2 c4 fz f4 hlow h0 h1 hz
      generalize (d.armed : Int) = a at *
      have ha4 : (a - 1 == 0) = false := by simpa using ha3
      have ha0 : 0 < a := by omega
      clear ha3 ha1
      go_enter Tryz.func66, Tryz.ntmps66
      go_wp2
      go_ret
      exact ⟨rfl, HN.out.1, HN.out.2, by simp [World.setCell]⟩
theorem read_any (base : Nat → Prop) (b : Nat) (d : Dk) (w : World) (h : DiskAt base b d w) (i : Int) (ho : d.ops < 1000000000000) :
    Calls Tryz.prog 33 #[.pointer (some ⟨b, 0, none⟩), .int .i64 i] w fun x w' => x = .returned (.tuple #[.string (d.read i).2.1, .int .i64 (d.read i).2.2]) ∧ DiskAt base b (d.read i).1 w' ∧ Kp base w w' := by
  cases hd : d.down
  · by_cases hi : d.has i
    · have e : d.read i = ({ d with ops := d.ops + 1 }, d.H.getD i.toNat ByteArray.empty, 0) := by simp [Dk.read, hd, hi]
      rw [e]
      obtain ⟨n, rfl⟩ := Int.eq_ofNat_of_zero_le hi.1
      have := hi.2
      exact read_ok base b d w h hd n (by omega) ho
    · have e : d.read i = (d, ByteArray.empty, 8) := by simp [Dk.read, hd, hi]
      rw [e]
      have H := Lib.hid h
      obtain ⟨gS, cS, gH, cH, vC, h⟩ := h
      have hr := ready_ok base b gS cS gH cH vC d w h 0 (by rw [hd]; rfl)
      have hw := within_any base b gS cS gH cH vC d w h i
      rw [decide_eq_false (p := 0 ≤ i ∧ i < (d.S.length : Int)) hi] at hw
      have HR := Lib.hid hr
      have HW := Lib.hid hw
      clear h hr hw hi e hd
      go_enter Tryz.func33, Tryz.ntmps33
      go_wp2_with fail
      refine HR.out.mono ?_
      rintro e w1 ⟨rfl, rfl⟩
      go_wp2_with fail
      refine HW.out.mono ?_
      rintro e w1 ⟨rfl, rfl⟩
      go_wp2
      go_ret2
      exact ⟨rfl, H.out, Kp.refl _ _⟩
  · have e : d.read i = (d, ByteArray.empty, 7) := by simp [Dk.read, hd]
    rw [e]
    have H := Lib.hid h
    obtain ⟨gS, cS, gH, cH, vC, h⟩ := h
    have hr := ready_ok base b gS cS gH cH vC d w h 7 (by rw [hd]; rfl)
    have HR := Lib.hid hr
    clear h hr e hd
    go_enter Tryz.func33, Tryz.ntmps33
    go_wp2_with fail
    refine HR.out.mono ?_
    rintro e w1 ⟨rfl, rfl⟩
    go_wp2
    go_ret2
    exact ⟨rfl, H.out, Kp.refl _ _⟩
theorem arm_any (base : Nat → Prop) (b : Nat) (d : Dk) (w : World) (h : DiskAt base b d w) (n : Int) (hn : n ≤ 9223372036854775807) :
    Calls Tryz.prog 14 #[.pointer (some ⟨b, 0, none⟩), .int .i64 n] w fun x w' => x = .returned (.int .i64 (d.arm n).2) ∧ DiskAt base b (d.arm n).1 w' ∧ Kp base w w' := by
  have H := Lib.hid h
  obtain ⟨gS, cS, gH, cH, vC, h⟩ := h
  cases hd : d.down
  · have hr := ready_ok base b gS cS gH cH vC d w h 0 (by rw [hd]; rfl)
    have HR := Lib.hid hr
    by_cases hneg : n < 0
    · have e : d.arm n = (d, 2) := by simp [Dk.arm, hd, hneg]
      rw [e]
      clear h hr e hd
      go_enter Tryz.func14, Tryz.ntmps14
      go_wp2_with fail
      refine HR.out.mono ?_
      rintro e w1 ⟨rfl, rfl⟩
      go_wp2
      go_ret
      exact ⟨rfl, H.out, Kp.refl _ _⟩
    · have e : d.arm n = ({ d with armed := n.toNat }, 0) := by simp [Dk.arm, hd, hneg]
      rw [e]
      obtain ⟨⟨c0, c1, c2, c3, c4, c5⟩, fz⟩ := h.cells
      have f3 := fz 3
      obtain ⟨m, rfl⟩ := Int.eq_ofNat_of_zero_le (by omega : 0 ≤ n)
      have hs := h.setArmed m (by omega)
      have hB := below_set1 (w := w) h.sep.1 3 (.int .i64 (m : Nat))
      have HN := Lib.hid (And.intro hs hB)
      clear h hr e hd hs hB c0 c1 c2 c4 c5 fz
      go_enter Tryz.func14, Tryz.ntmps14
      go_wp2_with fail
      refine HR.out.mono ?_
      rintro e w1 ⟨rfl, rfl⟩
      go_wp2
      go_ret
      exact ⟨rfl, ⟨gS, cS, gH, cH, vC, HN.out.1⟩, HN.out.2⟩
  · have hr := ready_ok base b gS cS gH cH vC d w h 7 (by rw [hd]; rfl)
    have HR := Lib.hid hr
    have e : d.arm n = (d, 7) := by simp [Dk.arm, hd]
    rw [e]
    clear h hr e hd
    go_enter Tryz.func14, Tryz.ntmps14
    go_wp2_with fail
    refine HR.out.mono ?_
    rintro e w1 ⟨rfl, rfl⟩
    go_wp2
    go_ret
    exact ⟨rfl, H.out, Kp.refl _ _⟩
theorem size_any (base : Nat → Prop) (b : Nat) (d : Dk) (w : World) (h : DiskAt base b d w) :
    Calls Tryz.prog 30 #[.pointer (some ⟨b, 0, none⟩)] w fun x w' => x = .returned (.int .i64 (d.S.length : Nat)) ∧ w = w' := by
  obtain ⟨gS, cS, gH, cH, vC, h⟩ := h
  obtain ⟨⟨c0, c1, c2, c3, c4, c5⟩, fz⟩ := h.cells
  clear h c1 c2 c3 c4 c5 fz
  go_enter Tryz.func30, Tryz.ntmps30
  go_wp2
  go_ret
  exact ⟨rfl, rfl⟩
end Go.Proofs.YtfbakelpplpomaaGreatDoor.Disk
/-
  The walks of the disk's methods, whatever the disk: Write, Over, Flush; slices.Clone of writes, Seize.
-/
namespace Go.Proofs.YtfbakelpplpomaaGreatDoor.Disk
open Go.RowKit Go.Proofs.YtfbakelpplpomaaGreatDoor.DiskRows
set_option linter.unusedVariables false
set_option linter.unusedSimpArgs false
set_option maxRecDepth 100000

theorem step_same (d : Dk) : d.step.1.S = d.S ∧ d.step.1.H = d.H ∧ d.step.1.C = d.C := by
  unfold Dk.step
  split <;> exact ⟨rfl, rfl, rfl⟩
theorem ready_hid {base : Nat → Prop} {b : Nat} {d : Dk} {w : World} (h : DiskAt base b d w) (e : Int) (he : e = if d.down = true then 7 else 0) : Calls Tryz.prog 42 #[.pointer (some ⟨b, 0, none⟩)] w fun x w' => x = .returned (.int .i64 e) ∧ w = w' := by
  obtain ⟨gS, cS, gH, cH, vC, h⟩ := h
  exact ready_ok base b gS cS gH cH vC d w h e he
theorem within_hid {base : Nat → Prop} {b : Nat} {d : Dk} {w : World} (h : DiskAt base b d w) (i : Int) (r : Bool) (hr : r = decide (d.has i)) : Calls Tryz.prog 43 #[.pointer (some ⟨b, 0, none⟩), .int .i64 i] w fun x w' => x = .returned (.bool r) ∧ w = w' := by
  obtain ⟨gS, cS, gH, cH, vC, h⟩ := h
  subst hr
  exact within_any base b gS cS gH cH vC d w h i
/-- a write that is done -/
theorem write_go (base : Nat → Prop) (b : Nat) (d : Dk) (w : World) (h : DiskAt base b d w) (hd : d.down = false) (h0 : d.step.2 = false) (i : Nat) (s : ByteArray) (hi : i < d.S.length) (hs : s.size = 128) (ho : d.ops < 1000000000000) (hC : d.C.length < 100000) (hbase : Top base w.heap.size) :
    Calls Tryz.prog 38 #[.pointer (some ⟨b, 0, none⟩), .int .i64 i, .string s] w fun x w' => x = .returned (.int .i64 0) ∧ DiskAt base b { d.step.1 with C := d.C ++ [(i, s)], H := d.H.set i s } w' ∧ Kp base w w' := by
  obtain ⟨gS, cS, gH, cH, vC, h⟩ := h
  have hr := ready_ok base b gS cS gH cH vC d w h 0 (by rw [hd]; rfl)
  have hw := within_any base b gS cS gH cH vC d w h i
  rw [decide_eq_true (And.intro (Int.natCast_nonneg i) (by omega : (i : Int) < (d.S.length : Int)))] at hw
  have hst := step_any base b gS cS gH cH vC d w h ho
  obtain ⟨eS, eH, eC⟩ := step_same d
  rw [h0] at hst
  obtain ⟨dd, hd1⟩ : ∃ dd, d.step.1 = dd := ⟨_, rfl⟩
  rw [hd1] at hst eS eH eC ⊢
  rw [← eS] at hi
  rw [← eC] at hC
  rw [← eC, ← eH]
  have hsi : (s.size : Int) = 128 := by omega
  have hli : (i : Int) < (dd.S.length : Int) := by omega
  have HR := Lib.hid hr
  have HW := Lib.hid hw
  have HSt := Lib.hid hst
  clear h hr hw hst hd h0 hs eS eH eC hd1
  go_enter Tryz.func38, Tryz.ntmps38
  go_wp2_with fail
  refine HR.out.mono ?_
  rintro e w1 ⟨rfl, rfl⟩
  go_wp2_with fail
  refine HW.out.mono ?_
  rintro e w1 ⟨rfl, rfl⟩
  go_wp2_with fail
  refine HSt.out.mono ?_
  rintro e w1 ⟨rfl, h1, b1, z1⟩
  have hb1 : Top base w1.heap.size := by rw [z1]; exact hbase
  have c1 : w1.cell? ⟨b, 1, none⟩ = some vC := by rw [cell_of_row w1 b 1 _ _ _ h1.heap]; rfl
  have f1 := frozen_of_row w1 b 1 _ _ h1.heap
  have c2 : w1.cell? ⟨b, 2, none⟩ = some (.slice (some ⟨gH, 0, none⟩) dd.S.length cH) := by rw [cell_of_row w1 b 2 _ _ _ h1.heap]; rfl
  have H1 := Lib.hid h1
  have hblt := h1.lt
  clear h1 HSt HR HW z1
  go_upto_region 12 with (at_builtin; go_must (refine wpList_append_w rfl _ _ rfl 0 vC dd.C i s rfl (H1.out.rowC.alloc _) w1.heap.size 1 rfl ((cell_of_row _ _ 0 _ _ _ (heap_alloc_last _ _)).trans rfl) ((cell_of_row _ _ 1 _ _ _ (heap_alloc_last _ _)).trans rfl) (by omega) (Nat.zero_le _) ?_; intro v2 w2 o2 g2 l2; have kb := grown_block g2 b hblt (fun j e => (H1.out.sepC j e).1); have d1 : w2.cell? ⟨b, 1, none⟩ = some vC := (World.cell?_of_block (a := ⟨b, 1, none⟩) kb).trans c1; have e1 : w2.frozen? ⟨b, 1, none⟩ = false := (World.frozen?_of_block (a := ⟨b, 1, none⟩) kb).trans f1; obtain ⟨a2, n2, k2, rfl⟩ := own_shapeV o2))
  have kS := grown_block g2 gS H1.out.rowS.lt (fun j e => (H1.out.sepC j e).2.1)
  have kH := grown_block g2 gH H1.out.rowH.lt (fun j e => (H1.out.sepC j e).2.2)
  have b2 : Kp base w1 w2 := ((Kp.refl base w1).alloc hb1 _).grown g2 (hb1.trans (by simp)) (fun k hk => H1.out.nfC k hk)
  have sep2 : ∀ k, (Value.slice a2 n2 k2).ownBlock = some k → k ≠ b ∧ k ≠ gS ∧ k ≠ gH := by
    intro k hk
    rcases l2 with e | e
    · exact H1.out.sepC k (e ▸ hk)
    · rw [e] at hk
      have hk' : k = (w1.alloc (.cells #[.int .i64 (i : Nat), .string s] 89)).heap.size := (Option.some.inj hk).symm
      have hz : (w1.alloc (.cells #[.int .i64 (i : Nat), .string s] 89)).heap.size = w1.heap.size + 1 := by simp
      have hlS := H1.out.rowS.lt
      have hlH := H1.out.rowH.lt
      omega
  have nf2 : ∀ k, (Value.slice a2 n2 k2).ownBlock = some k → Nf base k := by
    intro k hk
    rcases l2 with e | e
    · exact H1.out.nfC k (e ▸ hk)
    · rw [e] at hk
      have hk' := (Option.some.inj hk).symm
      exact hb1.nf (by rw [hk']; simp)
  have h3 := H1.out.grownC kb kS kH (.slice a2 n2 k2) (dd.C ++ [(i, s)]) o2 sep2 nf2 (by simp; omega) (fun x hx => by
    rcases List.mem_append.1 hx with k | k
    · exact H1.out.ats x k
    · simp at k; subst k; exact hi)
  have b3 : Kp base w1 (w2.setCell ⟨b, 1, none⟩ (.slice a2 n2 k2)) := b2.setCell (p := ⟨b, 1, none⟩) H1.out.sep.1 _
  generalize w2.setCell _ _ = w3 at *
  have c3 : w3.cell? ⟨b, 2, none⟩ = some (.slice (some ⟨gH, 0, none⟩) dd.S.length cH) := by rw [cell_of_row w3 b 2 _ _ _ h3.heap]; rfl
  have c4 := h3.rowH.cell (by rw [h3.len]; exact hi : i < dd.H.length)
  have f4 := h3.rowH.frozen i
  have hfin := h3.setH i hi s
  have hbf : Kp base w1 (w3.setCell ⟨gH, i, none⟩ (.string s)) := b3.setCell (p := ⟨gH, i, none⟩) h3.sep.2.2.1 _
  have HF := Lib.hid (And.intro hfin (b1.trans hbf))
  clear h3 hfin hbf sep2 o2 l2 kb kS kH d1 e1 c1 f1 c2
  go_wp2
  go_ret
  exact ⟨rfl, ⟨gS, cS, gH, cH, _, HF.out.1⟩, HF.out.2⟩
theorem write_any (base : Nat → Prop) (b : Nat) (d : Dk) (w : World) (h : DiskAt base b d w) (i : Int) (s : ByteArray) (ho : d.ops < 1000000000000) (hC : d.C.length < 100000) (hbase : Top base w.heap.size) (hsz : (s.size : Int) ≤ 9223372036854775807) :
    Calls Tryz.prog 38 #[.pointer (some ⟨b, 0, none⟩), .int .i64 i, .string s] w fun x w' => x = .returned (.int .i64 (d.write i s).2) ∧ DiskAt base b (d.write i s).1 w' ∧ Kp base w w' := by
  have H := Lib.hid h
  cases hd : d.down
  · have hr := ready_hid h 0 (by rw [hd]; rfl)
    have HR := Lib.hid hr
    by_cases hi : d.has i
    · have hw := within_hid h i true (by rw [decide_eq_true hi])
      have HW := Lib.hid hw
      by_cases hs : s.size = 128
      · cases hst : d.step.2
        · have e : d.write i s = ({ d.step.1 with C := d.C ++ [(i.toNat, s)], H := d.H.set i.toNat s }, 0) := by simp [Dk.write, hd, hi, hs, hst]
          rw [e]
          obtain ⟨n, rfl⟩ := Int.eq_ofNat_of_zero_le hi.1
          have := hi.2
          exact write_go base b d w h hd hst n s (by omega) hs ho hC hbase
        · have e : d.write i s = (d.step.1, 7) := by simp [Dk.write, hd, hi, hs, hst]
          rw [e]
          have hsi : (s.size : Int) = 128 := by omega
          obtain ⟨gS, cS, gH, cH, vC, h⟩ := h
          have hst2 := step_any base b gS cS gH cH vC d w h ho
          rw [hst] at hst2
          have HSt := Lib.hid hst2
          clear h hr hw hi e hd hs hst2
          go_enter Tryz.func38, Tryz.ntmps38
          go_wp2_with fail
          refine HR.out.mono ?_
          rintro e w1 ⟨rfl, rfl⟩
          go_wp2_with fail
          refine HW.out.mono ?_
          rintro e w1 ⟨rfl, rfl⟩
          go_wp2_with fail
          refine HSt.out.mono ?_
          rintro e w1 ⟨rfl, h1, b1, z1⟩
          go_wp2
          go_ret
          exact ⟨rfl, ⟨gS, cS, gH, cH, vC, h1⟩, b1⟩
      · have e : d.write i s = (d, 2) := by simp [Dk.write, hd, hi, hs]
        rw [e]
        have hsi : ¬ (s.size : Int) = 128 := by omega
        clear h hr hw hi e hd hs
        go_enter Tryz.func38, Tryz.ntmps38
        go_wp2_with fail
        refine HR.out.mono ?_
        rintro e w1 ⟨rfl, rfl⟩
        go_wp2_with fail
        refine HW.out.mono ?_
        rintro e w1 ⟨rfl, rfl⟩
        go_wp2
        go_ret
        exact ⟨rfl, H.out, Kp.refl _ _⟩
    · have e : d.write i s = (d, 8) := by simp [Dk.write, hd, hi]
      rw [e]
      have hw := within_hid h i false (by rw [decide_eq_false hi])
      have HW := Lib.hid hw
      clear h hr hw hi e hd
      go_enter Tryz.func38, Tryz.ntmps38
      go_wp2_with fail
      refine HR.out.mono ?_
      rintro e w1 ⟨rfl, rfl⟩
      go_wp2_with fail
      refine HW.out.mono ?_
      rintro e w1 ⟨rfl, rfl⟩
      go_wp2
      go_ret
      exact ⟨rfl, H.out, Kp.refl _ _⟩
  · have hr := ready_hid h 7 (by rw [hd]; rfl)
    have HR := Lib.hid hr
    have e : d.write i s = (d, 7) := by simp [Dk.write, hd]
    rw [e]
    clear h hr e hd
    go_enter Tryz.func38, Tryz.ntmps38
    go_wp2_with fail
    refine HR.out.mono ?_
    rintro e w1 ⟨rfl, rfl⟩
    go_wp2
    go_ret
    exact ⟨rfl, H.out, Kp.refl _ _⟩
theorem over_any (base : Nat → Prop) (b : Nat) (d : Dk) (w : World) (h : DiskAt base b d w) (i : Int) (s : ByteArray) (hbase : Top base w.heap.size) :
    Calls Tryz.prog 11 #[.pointer (some ⟨b, 0, none⟩), .int .i64 i, .string s] w fun x w' => x = .returned (.int .i64 (d.over i s).2) ∧ DiskAt base b (d.over i s).1 w' ∧ Kp base w w' := by
  have H := Lib.hid h
  have hr := ready_hid h _ rfl
  have HR := Lib.hid hr
  obtain ⟨e, he⟩ : ∃ e : Int, (if d.down = true then (7 : Int) else 0) = e := ⟨_, rfl⟩
  have he1 : ¬ e = 1 := by rw [← he]; split <;> decide
  rw [he] at HR
  by_cases hi : d.has i
  · have hw := within_hid h i true (by rw [decide_eq_true hi])
    have HW := Lib.hid hw
    by_cases hs : s.size = 128
    · have e : d.over i s = ({ d with S := d.S.set i.toNat s, H := shows (d.S.set i.toNat s) d.C }, 0) := by simp [Dk.over, hi, hs]
      rw [e]
      have hsi : (s.size : Int) = 128 := by omega
      obtain ⟨n, rfl⟩ := Int.eq_ofNat_of_zero_le hi.1
      have hin : n < d.S.length := by have := hi.2; omega
      have hli : (n : Int) < (d.S.length : Int) := hi.2
      rw [Int.toNat_natCast]
      obtain ⟨gS, cS, gH, cH, vC, h⟩ := h
      obtain ⟨⟨c0, c1, c2, c3, c4, c5⟩, fz⟩ := h.cells
      have cS0 := h.rowS.cell hin
      have fS0 := h.rowS.frozen n
      have h1 := h.setS n hin s
      have hB : Kp base w (w.setCell ⟨gS, n, none⟩ (.string s)) := (Kp.refl base w).setCell (p := ⟨gS, n, none⟩) h.sep.2.1 _
      have H1 := Lib.hid (And.intro h1 hB)
      clear h h1 hB hr hw hi e he hs c1 c2 c3 c4 c5 fz
      go_enter Tryz.func11, Tryz.ntmps11
      go_wp2_with fail
      refine HR.out.mono ?_
      rintro x w1 ⟨rfl, rfl⟩
      go_wp2_with fail
      refine HW.out.mono ?_
      rintro x w1 ⟨rfl, rfl⟩
      go_wp2_with fail
      refine (show_any base b gS cS _ _ _ _ H1.out.1.pre (by simpa [World.setCell] using hbase)).mono ?_
      rintro x w2 ⟨rfl, ⟨g', c', h2⟩, b2⟩
      go_wp2
      go_ret
      exact ⟨rfl, ⟨gS, cS, g', c', _, h2⟩, H1.out.2.trans b2⟩
    · have e : d.over i s = (d, 2) := by simp [Dk.over, hi, hs]
      rw [e]
      have hsi : ¬ (s.size : Int) = 128 := by omega
      clear h hr hw hi e he hs
      go_enter Tryz.func11, Tryz.ntmps11
      go_wp2_with fail
      refine HR.out.mono ?_
      rintro x w1 ⟨rfl, rfl⟩
      go_wp2_with fail
      refine HW.out.mono ?_
      rintro x w1 ⟨rfl, rfl⟩
      go_wp2
      go_ret
      exact ⟨rfl, H.out, Kp.refl _ _⟩
  · have e : d.over i s = (d, 8) := by simp [Dk.over, hi]
    rw [e]
    have hw := within_hid h i false (by rw [decide_eq_false hi])
    have HW := Lib.hid hw
    clear h hr hw hi e he
    go_enter Tryz.func11, Tryz.ntmps11
    go_wp2_with fail
    refine HR.out.mono ?_
    rintro x w1 ⟨rfl, rfl⟩
    go_wp2_with fail
    refine HW.out.mono ?_
    rintro x w1 ⟨rfl, rfl⟩
    go_wp2
    go_ret
    exact ⟨rfl, H.out, Kp.refl _ _⟩
end Go.Proofs.YtfbakelpplpomaaGreatDoor.Disk
