/-
  paths: the law PathsReach, its walk.
-/
import Derived.Test.YtpaegpbabfohcaaPathAwake
import Derived.Test.YtpaegpbabfohcaaPathReach
import Derived.Test.YtpaegpbabfohcaaPathRef
import Derived.Test.YtpaegpbabfohcaaPathWrong
import Derived.Test.YtpaegpbabfohcaaPathFew
namespace Go.Proofs.Ytpaegpbabfohcaa.Paths
open Go.RowKit Go.Proofs.Ytpaegpbabfohcaa.WalkBytes Go.Proofs.Ytpaegpbabfohcaa.PathPure Go.Proofs.Ytpaegpbabfohcaa.MapAt
set_option linter.unusedVariables false
set_option linter.unusedSimpArgs false
set_option maxRecDepth 100000

set_option maxHeartbeats 6400000 in
theorem pathsReach_walk (g : Gr) (gn ge : Value) (hgn : gn = g.n) (hge : ge = g.e) (s : ByteArray) (w : World) (h : GrAt w.heap.size w g) (hcap : g.N.length ≤ g.a) :
    Calls Try.prog 7 #[.agg #[gn, ge], .string s] w fun e w' => e = .returned (.bool true) ∧ Below w.heap.size w w' := by
  have hgn' : ∃ A n a, gn = .slice A n a := ⟨_, _, _, hgn⟩
  have hge' : ∃ A n a, ge = .slice A n a := ⟨_, _, _, hge⟩
  obtain ⟨A, n, a, rfl⟩ := hgn'
  obtain ⟨B, m, b2, rfl⟩ := hge'
  obtain ⟨W, hW⟩ : ∃ W, W = w.alloc (.cells #[.slice A n a, .slice B m b2] 45) := ⟨_, rfl⟩
  obtain ⟨bx, hbx⟩ : ∃ bx, bx = w.heap.size := ⟨_, rfl⟩
  have hB : Below w.heap.size w W := by rw [hW]; exact Joins.below_alloc1 w _
  have z0 : W.cell? ⟨bx, 0, none⟩ = some (.slice A n a) := by rw [hW, hbx, cell_of_row _ _ 0 _ _ _ (heap_new w _)]; rfl
  have z1 : W.cell? ⟨bx, 1, none⟩ = some (.slice B m b2) := by rw [hW, hbx, cell_of_row _ _ 1 _ _ _ (heap_new w _)]; rfl
  have hsz : bx < W.heap.size := by rw [hW, hbx]; simp
  have HB := Lib.hid hB
  have HZ : Hid (∀ w1, Below W.heap.size W w1 → w1.cell? ⟨bx, 0, none⟩ = some (.slice A n a) ∧ w1.cell? ⟨bx, 1, none⟩ = some (.slice B m b2)) :=
    fun w1 b1 => ⟨(b1.cell (p := ⟨bx, 0, none⟩) hsz).trans z0, (b1.cell (p := ⟨bx, 1, none⟩) hsz).trans z1⟩
  have HG : Hid (∀ w1, Below W.heap.size W w1 → GrAt w1.heap.size w1 g ∧ Below w.heap.size w w1) :=
    fun w1 b1 => ⟨((h.below (hB.trans (b1.mono hB.size))).mono (hB.trans (b1.mono hB.size)).size), hB.trans (b1.mono hB.size)⟩
  have HN : Hid (Value.slice A n a = g.n ∧ Value.slice B m b2 = g.e ∧ g.N.length ≤ g.a) := ⟨hgn, hge, hcap⟩
  obtain ⟨R, hR⟩ : ∃ R, R = graphWhy g := ⟨_, rfl⟩
  have HR := Lib.hid hR
  clear h hB hR hcap hgn hge hsz HB
  go_enter Try.func7, Try.ntmps7
  go_upto_region 1 with (fail)
  rw [← hW, ← hbx]
  clear hW hbx
  go_wp2_with fail
  refine (few_any g _ _ HN.out.1 HN.out.2.1 W (HG.out W (Below.refl _ _)).1).mono ?_
  rintro e w1 ⟨hr, hB1⟩
  obtain ⟨fw, rfl, hfw⟩ := hr
  have HF := Lib.hid hfw
  have HB1 := Lib.hid hB1
  obtain ⟨y0, y1⟩ := HZ.out w1 HB1.out
  clear hfw hB1 z0 z1
  have aw : ∀ w2, Below W.heap.size W w2 → Calls Try.prog 27 #[] w2 (fun e w' => e = .returned (.bool true) ∧ Below W.heap.size W w') := fun w2 b2 =>
    (awake30_any w2).mono (fun e w' ⟨h1, h2⟩ => ⟨h1, b2.trans (h2.mono b2.size)⟩)
  have AW := Lib.hid aw
  clear aw
  cases fw with
  | false =>
    go_wp2_with fail
    refine (AW.out w1 HB1.out).mono ?_
    rintro e w2 ⟨rfl, hB2⟩
    have HB2 := Lib.hid hB2
    clear hB2
    go_wp2_with fail
    go_ret
    exact ⟨rfl, (HG.out w2 HB2.out).2⟩
  | true =>
    by_cases hs : 100 < s.size
    · have ds : decide ((100 : Int) < (s.size : Int)) = true := decide_eq_true (by omega)
      clear hs
      go_wp2_with fail
      refine (AW.out w1 HB1.out).mono ?_
      rintro e w2 ⟨rfl, hB2⟩
      have HB2 := Lib.hid hB2
      clear hB2
      go_wp2_with fail
      go_ret
      exact ⟨rfl, (HG.out w2 HB2.out).2⟩
    · have ds : decide ((100 : Int) < (s.size : Int)) = false := decide_eq_false (by omega)
      clear hs
      go_wp2_with fail
      refine (reach_any g _ _ HN.out.1 HN.out.2.1 s w1 (HG.out w1 HB1.out).1 HN.out.2.2).mono ?_
      rintro e w2 ⟨hr, hB2⟩
      have HB2 : Hid (Below W.heap.size W w2) := HB1.out.trans (hB2.mono HB1.out.size)
      clear y0 y1 hB2
      obtain ⟨y0, y1⟩ := HZ.out w2 HB2.out
      obtain ⟨k1, k2, k3⟩ := hr
      rw [← HR.out] at k1 k2 k3
      by_cases r0 : R = 0
      · subst r0
        by_cases hh : HasN g.N s
        · obtain ⟨T, C, c, rfl, hE, ho⟩ := k3 rfl hh
          have HE := Lib.hid hE
          have HO := Lib.hid ho
          have HH := Lib.hid hh
          obtain ⟨L, hL⟩ : ∃ L, L = steps (egs g.E) s T := ⟨_, rfl⟩
          rw [← hL] at HO ⊢
          have HL := Lib.hid hL
          clear k1 k2 k3 hE ho hh hL
          obtain ⟨len, hlen⟩ : ∃ len, len = L.length := ⟨_, rfl⟩
          rw [← hlen] at HO ⊢
          have HLN := Lib.hid hlen
          clear hlen
          go_wp2_with fail
          refine (wrong_any g _ _ HN.out.1 HN.out.2.1 w2 (HG.out w2 HB2.out).1).mono ?_
          rintro e w3 ⟨rfl, hB3⟩
          rw [← HR.out]
          have HB3 : Hid (Below W.heap.size W w3) := HB2.out.trans (hB3.mono HB2.out.size)
          have HO3 := Lib.hid (own_later HO.out hB3)
          clear y0 y1 hB3 HO
          obtain ⟨y0, y1⟩ := HZ.out w3 HB3.out
          go_wp2_with fail
          refine (nodeAt_any g _ _ HN.out.1 HN.out.2.1 s w3 (HG.out w3 HB3.out).1 (by have := (gr_ok HR.out.symm).n; omega)).mono ?_
          rintro e w4 ⟨⟨r, rfl, hat⟩, hB4⟩
          have dr : decide (r < 0) = false := by have := (at_has hat).2 HH.out; simpa using this
          have HB4 : Hid (Below W.heap.size W w4) := HB3.out.trans (hB4.mono HB3.out.size)
          have HO4 := Lib.hid (own_later HO3.out hB4)
          clear y0 y1 hB4 HO3 hat
          obtain ⟨y0, y1⟩ := HZ.out w4 HB4.out
          go_wp2_with fail
          refine (refReach_any g _ _ HN.out.1 HN.out.2.1 s w4 (HG.out w4 HB4.out).1 (gr_ok HR.out.symm) HH.out).mono ?_
          rintro e w5 ⟨⟨T', V, rfl, hE', ho'⟩, hB5⟩
          have HB5 : Hid (Below W.heap.size W w5) := HB4.out.trans (hB5.mono HB4.out.size)
          have HO5 := Lib.hid (own_later HO4.out hB5)
          have hT : T' = T := steps_one hE'.go hE'.stop HE.out.go HE.out.stop
          have HV : Hid (OwnH w5 0 V L) := by
            have := own_zero ho'
            rw [hT, ← HL.out] at this
            exact this
          clear y0 y1 hB5 HO4 hE' ho' hT
          obtain ⟨au, cu, rfl⟩ := slice_of_own HV.out
          go_wp2_with fail
          refine (same_any _ _ L w5 (by have := HO5.out; rw [HLN.out] at this; rw [HLN.out]; exact this) HV.out (by have := steps_len (egs_in (gr_ok HR.out.symm)) (has_ids.1 HH.out) T; rw [← HL.out] at this; have q := (gr_ok HR.out.symm).n; simp [ids] at this; omega)).mono ?_
          rintro e w6 ⟨rfl, hB6⟩
          have HB6 : Hid (Below W.heap.size W w6) := HB5.out.trans (hB6.mono HB5.out.size)
          clear hB6
          go_wp2_with fail
          refine (AW.out w6 HB6.out).mono ?_
          rintro e w7 ⟨rfl, hB7⟩
          have HB7 := Lib.hid hB7
          clear hB7
          go_wp2_with fail
          go_ret
          exact ⟨rfl, (HG.out w7 HB7.out).2⟩
        · obtain rfl := k2 rfl hh
          have HH := Lib.hid hh
          clear k1 k2 k3 hh
          go_wp2_with fail
          refine (wrong_any g _ _ HN.out.1 HN.out.2.1 w2 (HG.out w2 HB2.out).1).mono ?_
          rintro e w3 ⟨rfl, hB3⟩
          rw [← HR.out]
          have HB3 : Hid (Below W.heap.size W w3) := HB2.out.trans (hB3.mono HB2.out.size)
          clear y0 y1 hB3
          obtain ⟨y0, y1⟩ := HZ.out w3 HB3.out
          go_wp2_with fail
          refine (nodeAt_any g _ _ HN.out.1 HN.out.2.1 s w3 (HG.out w3 HB3.out).1 (by have := (gr_ok HR.out.symm).n; omega)).mono ?_
          rintro e w4 ⟨⟨r, rfl, hat⟩, hB4⟩
          have dr : decide (r < 0) = true := by
            have : ¬ 0 ≤ r := fun q => HH.out ((at_has hat).1 q)
            simp; omega
          have HB4 : Hid (Below W.heap.size W w4) := HB3.out.trans (hB4.mono HB3.out.size)
          clear y0 y1 hB4 hat
          go_wp2_with fail
          refine (AW.out w4 HB4.out).mono ?_
          rintro e w7 ⟨rfl, hB7⟩
          have HB7 := Lib.hid hB7
          clear hB7
          go_wp2_with fail
          go_ret
          exact ⟨rfl, (HG.out w7 HB7.out).2⟩
      · obtain rfl := k1 r0
        have e0 : (R != 0) = true := by simpa using r0
        clear k1 k2 k3 r0
        go_wp2_with fail
        refine (wrong_any g _ _ HN.out.1 HN.out.2.1 w2 (HG.out w2 HB2.out).1).mono ?_
        rintro e w3 ⟨rfl, hB3⟩
        rw [← HR.out]
        have HB3 : Hid (Below W.heap.size W w3) := HB2.out.trans (hB3.mono HB2.out.size)
        clear y0 y1 hB3
        go_wp2_with fail
        refine (AW.out w3 HB3.out).mono ?_
        rintro e w7 ⟨rfl, hB7⟩
        have HB7 := Lib.hid hB7
        clear hB7
        go_wp2_with fail
        go_ret
        exact ⟨rfl, (HG.out w7 HB7.out).2⟩
end Go.Proofs.Ytpaegpbabfohcaa.Paths
