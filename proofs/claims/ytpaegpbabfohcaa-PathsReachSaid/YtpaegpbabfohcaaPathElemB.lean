/-
  Nodes and edges: elem.CheckEdge; the document's Node, Edge.
-/
import Derived.Test.YtpaegpbabfohcaaPathElem
namespace Go.Proofs.Ytpaegpbabfohcaa.Paths
open Go.RowKit Go.Proofs.Ytpaegpbabfohcaa.WalkBytes
set_option linter.unusedVariables false
set_option linter.unusedSimpArgs false
set_option maxRecDepth 100000
set_option maxHeartbeats 1600000 in
theorem refNode_any (id : ByteArray) (x : Lp) (w : World) (h : LpAt w.heap.size w x) (hid : id.size ≤ 9223372036854775806) :
    Calls Try.prog 68 #[.agg #[.string id, x.l, x.p]] w fun e w' => e = .returned (.int .i64 (nodeWhy id x)) ∧ Below w.heap.size w w' := by
  obtain ⟨R, hR⟩ : ∃ R, R = nodeWhy id x := ⟨_, rfl⟩
  rw [← hR]
  have HR : Hid (R = if isName id.data.toList = false then 2 else lpWhy x) := hR
  obtain ⟨W, hW⟩ : ∃ W, W = w.alloc (.cells #[.string id, x.l, x.p] 59) := ⟨_, rfl⟩
  have hB : Below w.heap.size w W := by rw [hW]; exact Joins.below_alloc1 w _
  have HL : Hid (LpAt W.heap.size W x) := (h.below hB).mono hB.size
  have z1 : W.cell? ⟨w.heap.size, 1, none⟩ = some x.l := by rw [hW, cell_of_row _ _ 1 _ _ _ (heap_new w _)]; rfl
  have z2 : W.cell? ⟨w.heap.size, 2, none⟩ = some x.p := by rw [hW, cell_of_row _ _ 2 _ _ _ (heap_new w _)]; rfl
  have z0 : W.cell? ⟨w.heap.size, 0, none⟩ = some (.string id) := by rw [hW, cell_of_row _ _ 0 _ _ _ (heap_new w _)]; rfl
  have HB := Lib.hid hB
  obtain ⟨vl, hvl⟩ : ∃ vl, vl = x.l := ⟨_, rfl⟩
  obtain ⟨vp, hvp⟩ : ∃ vp, vp = x.p := ⟨_, rfl⟩
  rw [← hvl] at z1 hW
  rw [← hvp] at z2 hW
  rw [← hvl, ← hvp]
  have HVL := Lib.hid hvl
  have HVP := Lib.hid hvp
  clear h hB hR
  have hsl : ∃ a n c, vl = .slice a n c := ⟨_, _, _, hvl⟩
  have hsp : ∃ a n c, vp = .slice a n c := ⟨_, _, _, hvp⟩
  clear hvl hvp
  obtain ⟨a1, n1, c1, rfl⟩ := hsl
  obtain ⟨a2, n2, c2, rfl⟩ := hsp
  obtain ⟨b, hb⟩ : ∃ b, isName id.data.toList = b := ⟨_, rfl⟩
  rw [hb] at HR
  have HBB := Lib.hid hb
  clear hb
  go_enter Try.func68, Try.ntmps68
  go_upto_region 1 with (fail)
  rw [← hW]
  clear hW
  go_wp2_with fail
  refine (refName_any id W hid).mono ?_
  rintro e w' ⟨rfl, rfl⟩
  rw [HBB.out]
  cases b with
  | false =>
    have hR2 : R = 2 := by rw [HR.out, if_pos rfl]
    subst hR2
    go_wp2_with fail
    go_ret
    exact ⟨rfl, HB.out⟩
  | true =>
    have HR2 : Hid (lpWhy x = R) := by show _ = _; rw [HR.out, if_neg (by simp)]
    go_wp2_with fail
    rw [HVL.out, HVP.out]
    refine (refRestL x W HL.out).mono ?_
    rintro e w5 ⟨rfl, hB5⟩
    rw [HR2.out]
    have HB5 : Hid (Below w.heap.size w w5) := HB.out.trans (hB5.mono HB.out.size)
    clear hB5
    go_wp2_with fail
    go_ret
    exact ⟨rfl, HB5.out⟩
set_option maxHeartbeats 1600000 in
theorem checkEdge_any (id fr tt : ByteArray) (x : Lp) (w : World) (h : LpAt w.heap.size w x) :
    Calls Try.prog 80 #[.agg #[.string id, .string fr, .string tt, x.l, x.p]] w fun e w' => e = .returned (.int .i64 (edgeWhy id fr tt x)) ∧ Below w.heap.size w w' := by
  obtain ⟨R, hR⟩ : ∃ R, R = edgeWhy id fr tt x := ⟨_, rfl⟩
  rw [← hR]
  have HR : Hid (R = if (isName id.data.toList && isName fr.data.toList && isName tt.data.toList) = false then 2 else lpWhy x) := hR
  obtain ⟨W, hW⟩ : ∃ W, W = w.alloc (.cells #[.string id, .string fr, .string tt, x.l, x.p] 74) := ⟨_, rfl⟩
  have hB : Below w.heap.size w W := by rw [hW]; exact Joins.below_alloc1 w _
  have HL : Hid (LpAt W.heap.size W x) := (h.below hB).mono hB.size
  have y1 : W.cell? ⟨w.heap.size, 1, none⟩ = some (.string fr) := by rw [hW, cell_of_row _ _ 1 _ _ _ (heap_new w _)]; rfl
  have y2 : W.cell? ⟨w.heap.size, 2, none⟩ = some (.string tt) := by rw [hW, cell_of_row _ _ 2 _ _ _ (heap_new w _)]; rfl
  have z1 : W.cell? ⟨w.heap.size, 3, none⟩ = some x.l := by rw [hW, cell_of_row _ _ 3 _ _ _ (heap_new w _)]; rfl
  have z2 : W.cell? ⟨w.heap.size, 4, none⟩ = some x.p := by rw [hW, cell_of_row _ _ 4 _ _ _ (heap_new w _)]; rfl
  have z0 : W.cell? ⟨w.heap.size, 0, none⟩ = some (.string id) := by rw [hW, cell_of_row _ _ 0 _ _ _ (heap_new w _)]; rfl
  have HB := Lib.hid hB
  obtain ⟨vl, hvl⟩ : ∃ vl, vl = x.l := ⟨_, rfl⟩
  obtain ⟨vp, hvp⟩ : ∃ vp, vp = x.p := ⟨_, rfl⟩
  rw [← hvl] at z1 hW
  rw [← hvp] at z2 hW
  rw [← hvl, ← hvp]
  have HVL := Lib.hid hvl
  have HVP := Lib.hid hvp
  clear h hB hR
  have hsl : ∃ a n c, vl = .slice a n c := ⟨_, _, _, hvl⟩
  have hsp : ∃ a n c, vp = .slice a n c := ⟨_, _, _, hvp⟩
  clear hvl hvp
  obtain ⟨a1, n1, c1, rfl⟩ := hsl
  obtain ⟨a2, n2, c2, rfl⟩ := hsp
  obtain ⟨b1, hb1⟩ : ∃ b, isName id.data.toList = b := ⟨_, rfl⟩
  obtain ⟨b2, hb2⟩ : ∃ b, isName fr.data.toList = b := ⟨_, rfl⟩
  obtain ⟨b3, hb3⟩ : ∃ b, isName tt.data.toList = b := ⟨_, rfl⟩
  rw [hb1, hb2, hb3] at HR
  have HB1 := Lib.hid hb1
  have HB2 := Lib.hid hb2
  have HB3 := Lib.hid hb3
  clear hb1 hb2 hb3
  go_enter Try.func80, Try.ntmps80
  go_upto_region 1 with (fail)
  rw [← hW]
  clear hW
  have x0 : ∀ W : World, (Instr.index 146 (.agg #[.string id, .string fr, .string tt]) (.int .i64 0)).run Try.prog W = .ok (.string id) W := fun W => by kernel_rfl
  have x1 : ∀ W : World, (Instr.index 146 (.agg #[.string id, .string fr, .string tt]) (.int .i64 1)).run Try.prog W = .ok (.string fr) W := fun W => by kernel_rfl
  have x2 : ∀ W : World, (Instr.index 146 (.agg #[.string id, .string fr, .string tt]) (.int .i64 2)).run Try.prog W = .ok (.string tt) W := fun W => by kernel_rfl
  have e2 : arg false = 2 := rfl
  have e3 : arg true = 0 := rfl
  go_wp2_with fail
  go_loopw [13] (fun v wr => ∃ i : Nat, v = .int .i64 i ∧ i ≤ 3 ∧ (0 < i → b1 = true) ∧ (1 < i → b2 = true) ∧ (2 < i → b3 = true) ∧ W = wr) (fun v _ => 3 - (intOf v).toNat)
  case atStart => exact ⟨0, rfl, by omega, (fun h => by omega), (fun h => by omega), (fun h => by omega), rfl⟩
  case round =>
    obtain ⟨i, rfl, hi, g1, g2, g3, rfl⟩ := hrel
    rcases (by omega : i = 0 ∨ i = 1 ∨ i = 2 ∨ i = 3) with rfl | rfl | rfl | rfl
    · clear hi
      clear g1 g2 g3
      go_wp2_with fail
      refine (nameCheck_any id W).mono ?_
      rintro e w' ⟨rfl, rfl⟩
      rw [HB1.out]
      cases b1 with
      | false =>
        have hR2 : R = 2 := by rw [HR.out, if_pos (by simp)]
        subst hR2
        go_wp2_with fail
        go_ret
        exact ⟨rfl, HB.out⟩
      | true =>
        go_wp2_with fail
        go_roundw
        case rel =>
          refine ⟨1, by first | rfl | go_num, by omega, ?_, ?_, ?_, ?_⟩
          all_goals first | trivial | rfl | (intro q; first | rfl | omega)
        case measure => simp [intOf]
    · clear hi
      have G1 := Lib.hid (g1 (by omega))
      clear g1 g2 g3
      go_wp2_with fail
      refine (nameCheck_any fr W).mono ?_
      rintro e w' ⟨rfl, rfl⟩
      rw [HB2.out]
      cases b2 with
      | false =>
        have hR2 : R = 2 := by rw [HR.out, if_pos (by simp)]
        subst hR2
        go_wp2_with fail
        go_ret
        exact ⟨rfl, HB.out⟩
      | true =>
        go_wp2_with fail
        go_roundw
        case rel =>
          refine ⟨2, by first | rfl | go_num, by omega, ?_, ?_, ?_, ?_⟩
          all_goals first | trivial | rfl | exact G1.out | (intro q; first | rfl | omega | exact G1.out)
        case measure => simp [intOf]
    · clear hi
      have G1 := Lib.hid (g1 (by omega))
      have G2 := Lib.hid (g2 (by omega))
      clear g1 g2 g3
      go_wp2_with fail
      refine (nameCheck_any tt W).mono ?_
      rintro e w' ⟨rfl, rfl⟩
      rw [HB3.out]
      cases b3 with
      | false =>
        have hR2 : R = 2 := by rw [HR.out, if_pos (by simp)]
        subst hR2
        go_wp2_with fail
        go_ret
        exact ⟨rfl, HB.out⟩
      | true =>
        go_wp2_with fail
        go_roundw
        case rel =>
          refine ⟨3, by first | rfl | go_num, by omega, ?_, ?_, ?_, ?_⟩
          all_goals first | trivial | rfl | exact G1.out | exact G2.out | (intro q; first | rfl | omega | exact G1.out | exact G2.out)
        case measure => simp [intOf]
    · have q1 := g1 (by omega)
      have q2 := g2 (by omega)
      have q3 := g3 (by omega)
      subst q1 q2 q3
      clear g1 g2 g3 hi
      have HR2 : Hid (lpWhy x = R) := by show _ = _; rw [HR.out, if_neg (by simp)]
      go_wp2_with fail
      rw [HVL.out, HVP.out]
      refine (restL x W HL.out).mono ?_
      rintro e w5 ⟨rfl, hB5⟩
      rw [HR2.out]
      have HB5 : Hid (Below w.heap.size w w5) := HB.out.trans (hB5.mono HB.out.size)
      clear hB5
      go_wp2_with fail
      go_ret
      exact ⟨rfl, HB5.out⟩
set_option maxHeartbeats 1600000 in
theorem refEdge_any (id fr tt : ByteArray) (x : Lp) (w : World) (h : LpAt w.heap.size w x) (hi : id.size ≤ 9223372036854775806) (hf : fr.size ≤ 9223372036854775806) (ht : tt.size ≤ 9223372036854775806) :
    Calls Try.prog 69 #[.agg #[.string id, .string fr, .string tt, x.l, x.p]] w fun e w' => e = .returned (.int .i64 (edgeWhy id fr tt x)) ∧ Below w.heap.size w w' := by
  obtain ⟨R, hR⟩ : ∃ R, R = edgeWhy id fr tt x := ⟨_, rfl⟩
  rw [← hR]
  have HR : Hid (R = if (isName id.data.toList && isName fr.data.toList && isName tt.data.toList) = false then 2 else lpWhy x) := hR
  obtain ⟨W, hW⟩ : ∃ W, W = w.alloc (.cells #[.string id, .string fr, .string tt, x.l, x.p] 74) := ⟨_, rfl⟩
  have hB : Below w.heap.size w W := by rw [hW]; exact Joins.below_alloc1 w _
  have HL : Hid (LpAt W.heap.size W x) := (h.below hB).mono hB.size
  have y1 : W.cell? ⟨w.heap.size, 1, none⟩ = some (.string fr) := by rw [hW, cell_of_row _ _ 1 _ _ _ (heap_new w _)]; rfl
  have y2 : W.cell? ⟨w.heap.size, 2, none⟩ = some (.string tt) := by rw [hW, cell_of_row _ _ 2 _ _ _ (heap_new w _)]; rfl
  have z1 : W.cell? ⟨w.heap.size, 3, none⟩ = some x.l := by rw [hW, cell_of_row _ _ 3 _ _ _ (heap_new w _)]; rfl
  have z2 : W.cell? ⟨w.heap.size, 4, none⟩ = some x.p := by rw [hW, cell_of_row _ _ 4 _ _ _ (heap_new w _)]; rfl
  have z0 : W.cell? ⟨w.heap.size, 0, none⟩ = some (.string id) := by rw [hW, cell_of_row _ _ 0 _ _ _ (heap_new w _)]; rfl
  have HB := Lib.hid hB
  obtain ⟨vl, hvl⟩ : ∃ vl, vl = x.l := ⟨_, rfl⟩
  obtain ⟨vp, hvp⟩ : ∃ vp, vp = x.p := ⟨_, rfl⟩
  rw [← hvl] at z1 hW
  rw [← hvp] at z2 hW
  rw [← hvl, ← hvp]
  have HVL := Lib.hid hvl
  have HVP := Lib.hid hvp
  clear h hB hR
  have hsl : ∃ a n c, vl = .slice a n c := ⟨_, _, _, hvl⟩
  have hsp : ∃ a n c, vp = .slice a n c := ⟨_, _, _, hvp⟩
  clear hvl hvp
  obtain ⟨a1, n1, c1, rfl⟩ := hsl
  obtain ⟨a2, n2, c2, rfl⟩ := hsp
  obtain ⟨b1, hb1⟩ : ∃ b, isName id.data.toList = b := ⟨_, rfl⟩
  obtain ⟨b2, hb2⟩ : ∃ b, isName fr.data.toList = b := ⟨_, rfl⟩
  obtain ⟨b3, hb3⟩ : ∃ b, isName tt.data.toList = b := ⟨_, rfl⟩
  rw [hb1, hb2, hb3] at HR
  have HB1 := Lib.hid hb1
  have HB2 := Lib.hid hb2
  have HB3 := Lib.hid hb3
  clear hb1 hb2 hb3
  go_enter Try.func69, Try.ntmps69
  go_upto_region 1 with (fail)
  rw [← hW]
  clear hW
  go_wp2_with fail
  refine (refName_any id W hi).mono ?_
  rintro e w' ⟨rfl, rfl⟩
  rw [HB1.out]
  cases b1 with
  | false =>
    have hR2 : R = 2 := by rw [HR.out, if_pos (by simp)]
    subst hR2
    go_wp2_with fail
    go_ret
    exact ⟨rfl, HB.out⟩
  | true =>
    go_wp2_with fail
    refine (refName_any fr W hf).mono ?_
    rintro e w' ⟨rfl, rfl⟩
    rw [HB2.out]
    cases b2 with
    | false =>
      have hR2 : R = 2 := by rw [HR.out, if_pos (by simp)]
      subst hR2
      go_wp2_with fail
      go_ret
      exact ⟨rfl, HB.out⟩
    | true =>
      go_wp2_with fail
      refine (refName_any tt W ht).mono ?_
      rintro e w' ⟨rfl, rfl⟩
      rw [HB3.out]
      cases b3 with
      | false =>
        have hR2 : R = 2 := by rw [HR.out, if_pos (by simp)]
        subst hR2
        go_wp2_with fail
        go_ret
        exact ⟨rfl, HB.out⟩
      | true =>
        have HR2 : Hid (lpWhy x = R) := by show _ = _; rw [HR.out, if_neg (by simp)]
        go_wp2_with fail
        rw [HVL.out, HVP.out]
        refine (refRestL x W HL.out).mono ?_
        rintro e w5 ⟨rfl, hB5⟩
        rw [HR2.out]
        have HB5 : Hid (Below w.heap.size w w5) := HB.out.trans (hB5.mono HB.out.size)
        clear hB5
        go_wp2_with fail
        go_ret
        exact ⟨rfl, HB5.out⟩
end Go.Proofs.Ytpaegpbabfohcaa.Paths
