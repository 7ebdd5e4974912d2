/-
  The walks of the disk's methods, whatever the disk: Write, Over, Flush; slices.Clone of writes, Seize.
-/
import Derived.Test.YtfbakelpplpomaaGreatDoorWalkDiskD
namespace Go.Proofs.YtfbakelpplpomaaGreatDoor.Disk
open Go.RowKit Go.Proofs.YtfbakelpplpomaaGreatDoor.DiskRows
set_option linter.unusedVariables false
set_option linter.unusedSimpArgs false
set_option maxRecDepth 100000

theorem step_same (d : Dk) : d.step.1.S = d.S ∧ d.step.1.H = d.H ∧ d.step.1.C = d.C := by
  unfold Dk.step
  split <;> exact ⟨rfl, rfl, rfl⟩
theorem ready_hid {base : Nat → Prop} {b : Nat} {d : Dk} {w : World} (h : DiskAt base b d w) (e : Int) (he : e = if d.down = true then 7 else 0) : Calls Tryz.prog 42 #[.pointer (some ⟨b, 0, none⟩)] w fun x w' => x = .returned (.int .i64 e) ∧ w = w' := by
  obtain ⟨gS, cS, gH, cH, vC, h⟩ := h
  exact ready_ok base b gS cS gH cH vC d w h e he
theorem within_hid {base : Nat → Prop} {b : Nat} {d : Dk} {w : World} (h : DiskAt base b d w) (i : Int) (r : Bool) (hr : r = decide (d.has i)) : Calls Tryz.prog 43 #[.pointer (some ⟨b, 0, none⟩), .int .i64 i] w fun x w' => x = .returned (.bool r) ∧ w = w' := by
  obtain ⟨gS, cS, gH, cH, vC, h⟩ := h
  subst hr
  exact within_any base b gS cS gH cH vC d w h i
/-- a write that is done -/
theorem write_go (base : Nat → Prop) (b : Nat) (d : Dk) (w : World) (h : DiskAt base b d w) (hd : d.down = false) (h0 : d.step.2 = false) (i : Nat) (s : ByteArray) (hi : i < d.S.length) (hs : s.size = 128) (ho : d.ops < 1000000000000) (hC : d.C.length < 100000) (hbase : Top base w.heap.size) :
    Calls Tryz.prog 38 #[.pointer (some ⟨b, 0, none⟩), .int .i64 i, .string s] w fun x w' => x = .returned (.int .i64 0) ∧ DiskAt base b { d.step.1 with C := d.C ++ [(i, s)], H := d.H.set i s } w' ∧ Kp base w w' := by
  obtain ⟨gS, cS, gH, cH, vC, h⟩ := h
  have hr := ready_ok base b gS cS gH cH vC d w h 0 (by rw [hd]; rfl)
  have hw := within_any base b gS cS gH cH vC d w h i
  rw [decide_eq_true (And.intro (Int.natCast_nonneg i) (by omega : (i : Int) < (d.S.length : Int)))] at hw
  have hst := step_any base b gS cS gH cH vC d w h ho
  obtain ⟨eS, eH, eC⟩ := step_same d
  rw [h0] at hst
  obtain ⟨dd, hd1⟩ : ∃ dd, d.step.1 = dd := ⟨_, rfl⟩
  rw [hd1] at hst eS eH eC ⊢
  rw [← eS] at hi
  rw [← eC] at hC
  rw [← eC, ← eH]
  have hsi : (s.size : Int) = 128 := by omega
  have hli : (i : Int) < (dd.S.length : Int) := by omega
  have HR := Lib.hid hr
  have HW := Lib.hid hw
  have HSt := Lib.hid hst
  clear h hr hw hst hd h0 hs eS eH eC hd1
  go_enter Tryz.func38, Tryz.ntmps38
  go_wp2_with fail
  refine HR.out.mono ?_
  rintro e w1 ⟨rfl, rfl⟩
  go_wp2_with fail
  refine HW.out.mono ?_
  rintro e w1 ⟨rfl, rfl⟩
  go_wp2_with fail
  refine HSt.out.mono ?_
  rintro e w1 ⟨rfl, h1, b1, z1⟩
  have hb1 : Top base w1.heap.size := by rw [z1]; exact hbase
  have c1 : w1.cell? ⟨b, 1, none⟩ = some vC := by rw [cell_of_row w1 b 1 _ _ _ h1.heap]; rfl
  have f1 := frozen_of_row w1 b 1 _ _ h1.heap
  have c2 : w1.cell? ⟨b, 2, none⟩ = some (.slice (some ⟨gH, 0, none⟩) dd.S.length cH) := by rw [cell_of_row w1 b 2 _ _ _ h1.heap]; rfl
  have H1 := Lib.hid h1
  have hblt := h1.lt
  clear h1 HSt HR HW z1
  go_upto_region 12 with (at_builtin; go_must (refine wpList_append_w rfl _ _ rfl 0 vC dd.C i s rfl (H1.out.rowC.alloc _) w1.heap.size 1 rfl ((cell_of_row _ _ 0 _ _ _ (heap_alloc_last _ _)).trans rfl) ((cell_of_row _ _ 1 _ _ _ (heap_alloc_last _ _)).trans rfl) (by omega) (Nat.zero_le _) ?_; intro v2 w2 o2 g2 l2; have kb := grown_block g2 b hblt (fun j e => (H1.out.sepC j e).1); have d1 : w2.cell? ⟨b, 1, none⟩ = some vC := (World.cell?_of_block (a := ⟨b, 1, none⟩) kb).trans c1; have e1 : w2.frozen? ⟨b, 1, none⟩ = false := (World.frozen?_of_block (a := ⟨b, 1, none⟩) kb).trans f1; obtain ⟨a2, n2, k2, rfl⟩ := own_shapeV o2))
  have kS := grown_block g2 gS H1.out.rowS.lt (fun j e => (H1.out.sepC j e).2.1)
  have kH := grown_block g2 gH H1.out.rowH.lt (fun j e => (H1.out.sepC j e).2.2)
  have b2 : Kp base w1 w2 := ((Kp.refl base w1).alloc hb1 _).grown g2 (hb1.trans (by simp)) (fun k hk => H1.out.nfC k hk)
  have sep2 : ∀ k, (Value.slice a2 n2 k2).ownBlock = some k → k ≠ b ∧ k ≠ gS ∧ k ≠ gH := by
    intro k hk
    rcases l2 with e | e
    · exact H1.out.sepC k (e ▸ hk)
    · rw [e] at hk
      have hk' : k = (w1.alloc (.cells #[.int .i64 (i : Nat), .string s] 89)).heap.size := (Option.some.inj hk).symm
      have hz : (w1.alloc (.cells #[.int .i64 (i : Nat), .string s] 89)).heap.size = w1.heap.size + 1 := by simp
      have hlS := H1.out.rowS.lt
      have hlH := H1.out.rowH.lt
      omega
  have nf2 : ∀ k, (Value.slice a2 n2 k2).ownBlock = some k → Nf base k := by
    intro k hk
    rcases l2 with e | e
    · exact H1.out.nfC k (e ▸ hk)
    · rw [e] at hk
      have hk' := (Option.some.inj hk).symm
      exact hb1.nf (by rw [hk']; simp)
  have h3 := H1.out.grownC kb kS kH (.slice a2 n2 k2) (dd.C ++ [(i, s)]) o2 sep2 nf2 (by simp; omega) (fun x hx => by
    rcases List.mem_append.1 hx with k | k
    · exact H1.out.ats x k
    · simp at k; subst k; exact hi)
  have b3 : Kp base w1 (w2.setCell ⟨b, 1, none⟩ (.slice a2 n2 k2)) := b2.setCell (p := ⟨b, 1, none⟩) H1.out.sep.1 _
  generalize w2.setCell _ _ = w3 at *
  have c3 : w3.cell? ⟨b, 2, none⟩ = some (.slice (some ⟨gH, 0, none⟩) dd.S.length cH) := by rw [cell_of_row w3 b 2 _ _ _ h3.heap]; rfl
  have c4 := h3.rowH.cell (by rw [h3.len]; exact hi : i < dd.H.length)
  have f4 := h3.rowH.frozen i
  have hfin := h3.setH i hi s
  have hbf : Kp base w1 (w3.setCell ⟨gH, i, none⟩ (.string s)) := b3.setCell (p := ⟨gH, i, none⟩) h3.sep.2.2.1 _
  have HF := Lib.hid (And.intro hfin (b1.trans hbf))
  clear h3 hfin hbf sep2 o2 l2 kb kS kH d1 e1 c1 f1 c2
  go_wp2
  go_ret
  exact ⟨rfl, ⟨gS, cS, gH, cH, _, HF.out.1⟩, HF.out.2⟩
theorem write_any (base : Nat → Prop) (b : Nat) (d : Dk) (w : World) (h : DiskAt base b d w) (i : Int) (s : ByteArray) (ho : d.ops < 1000000000000) (hC : d.C.length < 100000) (hbase : Top base w.heap.size) (hsz : (s.size : Int) ≤ 9223372036854775807) :
    Calls Tryz.prog 38 #[.pointer (some ⟨b, 0, none⟩), .int .i64 i, .string s] w fun x w' => x = .returned (.int .i64 (d.write i s).2) ∧ DiskAt base b (d.write i s).1 w' ∧ Kp base w w' := by
  have H := Lib.hid h
  cases hd : d.down
  · have hr := ready_hid h 0 (by rw [hd]; rfl)
    have HR := Lib.hid hr
    by_cases hi : d.has i
    · have hw := within_hid h i true (by rw [decide_eq_true hi])
      have HW := Lib.hid hw
      by_cases hs : s.size = 128
      · cases hst : d.step.2
        · have e : d.write i s = ({ d.step.1 with C := d.C ++ [(i.toNat, s)], H := d.H.set i.toNat s }, 0) := by simp [Dk.write, hd, hi, hs, hst]
          rw [e]
          obtain ⟨n, rfl⟩ := Int.eq_ofNat_of_zero_le hi.1
          have := hi.2
          exact write_go base b d w h hd hst n s (by omega) hs ho hC hbase
        · have e : d.write i s = (d.step.1, 7) := by simp [Dk.write, hd, hi, hs, hst]
          rw [e]
          have hsi : (s.size : Int) = 128 := by omega
          obtain ⟨gS, cS, gH, cH, vC, h⟩ := h
          have hst2 := step_any base b gS cS gH cH vC d w h ho
          rw [hst] at hst2
          have HSt := Lib.hid hst2
          clear h hr hw hi e hd hs hst2
          go_enter Tryz.func38, Tryz.ntmps38
          go_wp2_with fail
          refine HR.out.mono ?_
          rintro e w1 ⟨rfl, rfl⟩
          go_wp2_with fail
          refine HW.out.mono ?_
          rintro e w1 ⟨rfl, rfl⟩
          go_wp2_with fail
          refine HSt.out.mono ?_
          rintro e w1 ⟨rfl, h1, b1, z1⟩
          go_wp2
          go_ret
          exact ⟨rfl, ⟨gS, cS, gH, cH, vC, h1⟩, b1⟩
      · have e : d.write i s = (d, 2) := by simp [Dk.write, hd, hi, hs]
        rw [e]
        have hsi : ¬ (s.size : Int) = 128 := by omega
        clear h hr hw hi e hd hs
        go_enter Tryz.func38, Tryz.ntmps38
        go_wp2_with fail
        refine HR.out.mono ?_
        rintro e w1 ⟨rfl, rfl⟩
        go_wp2_with fail
        refine HW.out.mono ?_
        rintro e w1 ⟨rfl, rfl⟩
        go_wp2
        go_ret
        exact ⟨rfl, H.out, Kp.refl _ _⟩
    · have e : d.write i s = (d, 8) := by simp [Dk.write, hd, hi]
      rw [e]
      have hw := within_hid h i false (by rw [decide_eq_false hi])
      have HW := Lib.hid hw
      clear h hr hw hi e hd
      go_enter Tryz.func38, Tryz.ntmps38
      go_wp2_with fail
      refine HR.out.mono ?_
      rintro e w1 ⟨rfl, rfl⟩
      go_wp2_with fail
      refine HW.out.mono ?_
      rintro e w1 ⟨rfl, rfl⟩
      go_wp2
      go_ret
      exact ⟨rfl, H.out, Kp.refl _ _⟩
  · have hr := ready_hid h 7 (by rw [hd]; rfl)
    have HR := Lib.hid hr
    have e : d.write i s = (d, 7) := by simp [Dk.write, hd]
    rw [e]
    clear h hr e hd
    go_enter Tryz.func38, Tryz.ntmps38
    go_wp2_with fail
    refine HR.out.mono ?_
    rintro e w1 ⟨rfl, rfl⟩
    go_wp2
    go_ret
    exact ⟨rfl, H.out, Kp.refl _ _⟩
theorem over_any (base : Nat → Prop) (b : Nat) (d : Dk) (w : World) (h : DiskAt base b d w) (i : Int) (s : ByteArray) (hbase : Top base w.heap.size) :
    Calls Tryz.prog 11 #[.pointer (some ⟨b, 0, none⟩), .int .i64 i, .string s] w fun x w' => x = .returned (.int .i64 (d.over i s).2) ∧ DiskAt base b (d.over i s).1 w' ∧ Kp base w w' := by
  have H := Lib.hid h
  have hr := ready_hid h _ rfl
  have HR := Lib.hid hr
  obtain ⟨e, he⟩ : ∃ e : Int, (if d.down = true then (7 : Int) else 0) = e := ⟨_, rfl⟩
  have he1 : ¬ e = 1 := by rw [← he]; split <;> decide
  rw [he] at HR
  by_cases hi : d.has i
  · have hw := within_hid h i true (by rw [decide_eq_true hi])
    have HW := Lib.hid hw
    by_cases hs : s.size = 128
    · have e : d.over i s = ({ d with S := d.S.set i.toNat s, H := shows (d.S.set i.toNat s) d.C }, 0) := by simp [Dk.over, hi, hs]
      rw [e]
      have hsi : (s.size : Int) = 128 := by omega
      obtain ⟨n, rfl⟩ := Int.eq_ofNat_of_zero_le hi.1
      have hin : n < d.S.length := by have := hi.2; omega
      have hli : (n : Int) < (d.S.length : Int) := hi.2
      rw [Int.toNat_natCast]
      obtain ⟨gS, cS, gH, cH, vC, h⟩ := h
      obtain ⟨⟨c0, c1, c2, c3, c4, c5⟩, fz⟩ := h.cells
      have cS0 := h.rowS.cell hin
      have fS0 := h.rowS.frozen n
      have h1 := h.setS n hin s
      have hB : Kp base w (w.setCell ⟨gS, n, none⟩ (.string s)) := (Kp.refl base w).setCell (p := ⟨gS, n, none⟩) h.sep.2.1 _
      have H1 := Lib.hid (And.intro h1 hB)
      clear h h1 hB hr hw hi e he hs c1 c2 c3 c4 c5 fz
      go_enter Tryz.func11, Tryz.ntmps11
      go_wp2_with fail
      refine HR.out.mono ?_
      rintro x w1 ⟨rfl, rfl⟩
      go_wp2_with fail
      refine HW.out.mono ?_
      rintro x w1 ⟨rfl, rfl⟩
      go_wp2_with fail
      refine (show_any base b gS cS _ _ _ _ H1.out.1.pre (by simpa [World.setCell] using hbase)).mono ?_
      rintro x w2 ⟨rfl, ⟨g', c', h2⟩, b2⟩
      go_wp2
      go_ret
      exact ⟨rfl, ⟨gS, cS, g', c', _, h2⟩, H1.out.2.trans b2⟩
    · have e : d.over i s = (d, 2) := by simp [Dk.over, hi, hs]
      rw [e]
      have hsi : ¬ (s.size : Int) = 128 := by omega
      clear h hr hw hi e he hs
      go_enter Tryz.func11, Tryz.ntmps11
      go_wp2_with fail
      refine HR.out.mono ?_
      rintro x w1 ⟨rfl, rfl⟩
      go_wp2_with fail
      refine HW.out.mono ?_
      rintro x w1 ⟨rfl, rfl⟩
      go_wp2
      go_ret
      exact ⟨rfl, H.out, Kp.refl _ _⟩
  · have e : d.over i s = (d, 8) := by simp [Dk.over, hi]
    rw [e]
    have hw := within_hid h i false (by rw [decide_eq_false hi])
    have HW := Lib.hid hw
    clear h hr hw hi e he
    go_enter Tryz.func11, Tryz.ntmps11
    go_wp2_with fail
    refine HR.out.mono ?_
    rintro x w1 ⟨rfl, rfl⟩
    go_wp2_with fail
    refine HW.out.mono ?_
    rintro x w1 ⟨rfl, rfl⟩
    go_wp2
    go_ret
    exact ⟨rfl, H.out, Kp.refl _ _⟩
end Go.Proofs.YtfbakelpplpomaaGreatDoor.Disk
