/-
  The document's dag: Tips.
-/
import Derived.Test.YtpaegpbabfohcaaRefDagF
import Derived.Deep.Upon
namespace Go.Proofs.Ytpaegpbabfohcaa.WalkDag
open Go.RowKit Go.Proofs.Ytpaegpbabfohcaa.HeapPure Go.Proofs.Ytpaegpbabfohcaa.HeapA Go.Proofs.Ytpaegpbabfohcaa.MapAt Go.Proofs.Ytpaegpbabfohcaa.DagPure Go.Proofs.Ytpaegpbabfohcaa.WalkInts Go.Deep
set_option linter.unusedVariables false
set_option linter.unusedSimpArgs false
set_option maxRecDepth 100000

theorem tips_take {l : List Kn} {i : Nat} (h : i < l.length) : ((l.take (i + 1)).filter (fun y => !par l y.k.n)).map (·.k.n) = ((l.take i).filter (fun y => !par l y.k.n)).map (·.k.n) ++ (if par l (kn l i).k.n then [] else [(kn l i).k.n]) := by
  rw [take_kn h, List.filter_append, List.map_append]
  congr 1
  cases hp : par l (kn l i).k.n <;> simp [hp]
set_option maxHeartbeats 6400000 in
theorem tipsR_any (A : Option Addr) (c : Nat) (l : List Kn) (w : World) (h : Knots w.heap.size w A l) (hf : Few l) :
    Calls Try.prog 23 #[.slice A l.length c] w fun e w' => (∃ v o, e = .returned v ∧ Own w' w.heap.size v o ∧ o = tips l) ∧ Below w.heap.size w w' := by
  obtain ⟨m, hm⟩ : ∃ m, m = l.length := ⟨_, rfl⟩
  rw [← hm]
  have hm40 : m ≤ 40 := by rw [hm]; exact hf.1
  have HM := Lib.hid hm
  have HF := Lib.hid hf
  clear hm hf
  go_enter Try.func23, Try.ntmps23
  rcases h with hnil | ⟨g, off, rfl, hg, hc⟩
  · have HNil := Lib.hid hnil
    have hm0 : m = 0 := by rw [HM.out, hnil]; rfl
    clear hnil
    subst hm0
    go_wp2_with fail
    go_loopw [3, 11] (fun u v wr => u = .slice none 0 0 ∧ v = .int .i64 0 ∧ w = wr) (fun _ v _ => 0)
    case atStart => exact ⟨rfl, rfl, rfl⟩
    case round =>
      obtain ⟨rfl, rfl, rfl⟩ := hrel
      go_wp2_with fail
      go_ret
      exact ⟨⟨_, [], rfl, Own.nil _ _, by rw [HNil.out]; rfl⟩, Below.refl _ _⟩
  · go_wp2_with fail
    go_loopw [3, 11] (fun u v wr => ∃ (i : Nat) (o : List Int), v = .int .i64 i ∧ i ≤ m ∧ Own wr w.heap.size u o ∧ Hid (o = ((l.take i).filter (fun y => !par l y.k.n)).map (·.k.n)) ∧ o.length ≤ i ∧ Below w.heap.size w wr) (fun _ v _ => m - (intOf v).toNat)
    case atStart => exact ⟨0, [], rfl, Nat.zero_le _, Own.nil _ _, rfl, Nat.le_refl _, Below.refl _ _⟩
    case round =>
      obtain ⟨i, o, rfl, hi, hown, HO, hol, hB⟩ := hrel
      by_cases him : i < m
      · obtain ⟨h1, h2, -, -⟩ := hc i (by rw [← HM.out]; exact him)
        rw [← hB.cell (p := ⟨g, off + i * 2, none⟩) hg] at h1
        rw [← hB.cell (p := ⟨g, off + i * 2 + 1, none⟩) hg] at h2
        have HO2 := Lib.hid (tips_take (l := l) (i := i) (by rw [← HM.out]; exact him))
        rw [← HO.out] at HO2
        obtain ⟨x, hx⟩ : ∃ x, x = (kn l i).k.n := ⟨_, rfl⟩
        obtain ⟨V2, hV2⟩ : ∃ V2, V2 = Value.slice (kn l i).A (kn l i).k.ps.length (kn l i).c := ⟨_, rfl⟩
        have hvs : ∃ A2 n2 c2, V2 = .slice A2 n2 c2 := ⟨_, _, _, hV2⟩
        rw [← hx] at h1 HO2
        rw [← hV2] at h2
        clear hx hV2
        obtain ⟨A2, n2, c2, rfl⟩ := hvs
        obtain ⟨W2, hW2⟩ : ∃ W2, W2 = wr.alloc (.cells #[.int .i64 x, .slice A2 n2 c2] 77) := ⟨_, rfl⟩
        have B2 : Below w.heap.size w W2 := by rw [hW2]; exact hB.trans ((Joins.below_alloc1 wr _).mono hB.size)
        have O2 : Own W2 w.heap.size u3 o := by rw [hW2]; exact hown.below (Joins.below_alloc1 wr _)
        have k0 : W2.cell? ⟨wr.heap.size, 0, none⟩ = some (.int .i64 x) := by rw [hW2, cell_of_row _ _ 0 _ _ _ (heap_new wr _)]; rfl
        have kb : wr.heap.size < W2.heap.size := by rw [hW2]; simp
        have HB2 := Lib.hid B2
        have HO3 := Lib.hid O2
        obtain ⟨bx, hbx⟩ : ∃ bx, bx = wr.heap.size := ⟨_, rfl⟩
        have hsz : w.heap.size ≤ bx := by rw [hbx]; exact hB.size
        clear hown hB B2 O2 HO
        go_wp2_with fail
        rw [← hW2]
        rw [← hbx]
        rw [← hbx] at k0 kb
        clear hW2 h1 h2 hbx
        go_loopw [6, 17] (fun u v wi => ∃ (j : Nat) (f : Bool), u = .bool f ∧ v = .int .i64 j ∧ j ≤ m ∧ Hid (f = !par (l.take j) x) ∧ Below w.heap.size w wi ∧ Own wi w.heap.size u3 o ∧ wi.cell? ⟨bx, 0, none⟩ = some (.int .i64 x) ∧ bx < wi.heap.size) (fun _ v _ => m - (intOf v).toNat)
        case atStart => exact ⟨0, true, rfl, rfl, Nat.zero_le _, rfl, HB2.out, HO3.out, k0, kb⟩
        case round =>
          clear k0 kb HB2 HO3
          obtain ⟨j, f, rfl, rfl, hj, HFL, hB, hown, k0, kb⟩ := hrel
          by_cases hjm : j < m
          · obtain ⟨h1, h2, h3, h4⟩ := hc j (by rw [← HM.out]; exact hjm)
            rw [← hB.cell (p := ⟨g, off + j * 2, none⟩) hg] at h1
            rw [← hB.cell (p := ⟨g, off + j * 2 + 1, none⟩) hg] at h2
            have h3 := ints_bd h3 hB h4
            have HFL2 : Hid ((!par (l.take (j + 1)) x) = (f && !decide (x ∈ (kn l j).k.ps))) := by
              show _ = _
              rw [par_succ (by rw [← HM.out]; exact hjm), HFL.out, Bool.not_or]
              congr 2
              rw [Bool.eq_iff_iff, List.contains_iff_mem, decide_eq_true_iff]
            obtain ⟨y, hy⟩ : ∃ y, y = (kn l j).k.n := ⟨_, rfl⟩
            obtain ⟨ps, hps⟩ : ∃ ps, ps = (kn l j).k.ps := ⟨_, rfl⟩
            obtain ⟨A2, hA2⟩ : ∃ A2, A2 = (kn l j).A := ⟨_, rfl⟩
            obtain ⟨c2, hc2⟩ : ∃ c2, c2 = (kn l j).c := ⟨_, rfl⟩
            have hp5 : ps.length ≤ 5 := by rw [hps]; exact HF.out.2 j (by rw [← HM.out]; exact hjm)
            rw [← hy] at h1
            rw [← hps, ← hA2, ← hc2] at h2
            rw [← hps, ← hA2] at h3
            rw [← hA2, ← hps] at h4
            rw [← hps] at HFL2
            obtain ⟨pl, hpl⟩ : ∃ pl, pl = ps.length := ⟨_, rfl⟩
            rw [← hpl] at h2 hp5
            have HPL := Lib.hid hpl
            obtain ⟨W2, hW2⟩ : ∃ W2, W2 = wr.alloc (.cells #[.int .i64 y, .slice A2 pl c2] 77) := ⟨_, rfl⟩
            have B2 : Hid (Below w.heap.size w W2) := by rw [hW2]; exact hB.trans ((Joins.below_alloc1 wr _).mono (by omega))
            have O2 : Own W2 w.heap.size u3 o := by rw [hW2]; exact hown.below (Joins.below_alloc1 wr _)
            have z1 : W2.cell? ⟨wr.heap.size, 1, none⟩ = some (.slice A2 pl c2) := by rw [hW2, cell_of_row _ _ 1 _ _ _ (heap_new wr _)]; rfl
            have z2 : W2.cell? ⟨bx, 0, none⟩ = some (.int .i64 x) := by rw [hW2, (Joins.below_alloc1 wr _).cell (p := ⟨bx, 0, none⟩) kb]; exact k0
            have z3 : bx < W2.heap.size := by rw [hW2]; simp; omega
            have I2 : Ints W2 A2 ps := by rw [hW2]; exact ints_bd h3 ((Joins.below_alloc1 wr _).mono (by omega : w.heap.size ≤ wr.heap.size)) h4
            clear hc hy hps hA2 hc2 hpl h3 h4 hB hown k0 kb
            obtain ⟨r, hr⟩ : ∃ r, decide (x ∈ ps) = r := ⟨_, rfl⟩
            rw [hr] at HFL2
            have HR := Lib.hid hr
            clear hr
            go_upto_region 9 with (fail)
            rw [← hW2]
            clear hW2
            go_wp2_with fail
            refine (in_any A2 c2 pl ps x W2 I2 HPL.out (by omega)).mono ?_
            rintro e w' ⟨rfl, rfl⟩
            rw [HR.out]
            cases r with
            | true =>
              go_wp2_with fail
              go_roundw
              case rel => exact ⟨j + 1, false, rfl, by go_num, by omega, by show _ = _; rw [HFL2.out]; simp, B2.out, O2, z2, z3⟩
              case measure => simp [intOf]; omega
            | false =>
              go_wp2_with fail
              go_roundw
              case rel => exact ⟨j + 1, f, rfl, by go_num, by omega, by show _ = _; rw [HFL2.out]; simp, B2.out, O2, z2, z3⟩
              case measure => simp [intOf]; omega
          · have hje : j = m := by omega
            have hPx : Hid (f = !par l x) := by
              show _ = _
              rw [HFL.out, hje, HM.out, List.take_length]
            clear hje HFL
            have hHr : w.heap.size ≤ wr.heap.size := hB.size
            cases f with
            | true =>
              have hpar : Hid (par l x = false) := by have := hPx.out; show _ = _; revert this; cases par l x <;> simp
              go_wp2_with (at_builtin; go_must (refine wpList_append_q 25 Try.underlying25 rfl _ _ rfl w.heap.size _ o x rfl (hown.alloc _) wr.heap.size 1 rfl ((cell_of_row _ _ 0 _ _ _ (heap_new _ _)).trans rfl) (by omega) (by simp; omega) ?_); intro v2 w5 own5 hgrow hor; have hb5 := (hB.trans ((Joins.below_alloc1 wr _).mono hHr)).grown hgrow (by simp; omega) (fun k hk => (hown.lt k hk).1); clear hgrow hor)
              go_roundw
              case rel => exact ⟨i + 1, o ++ [x], by go_num, by omega, own5, by show _ = _; rw [HO2.out, hpar.out]; rfl, by simp; omega, hb5⟩
              case measure => simp [intOf]; omega
            | false =>
              have hpar : Hid (par l x = true) := by have := hPx.out; show _ = _; revert this; cases par l x <;> simp
              go_wp2_with fail
              go_roundw
              case rel => exact ⟨i + 1, o, by go_num, by omega, hown, by show _ = _; rw [HO2.out, hpar.out]; simp, by omega, hB⟩
              case measure => simp [intOf]; omega
      · have hie : i = m := by omega
        have HIE := Lib.hid hie
        clear hie hc
        go_wp2_with fail
        go_ret
        exact ⟨⟨_, o, rfl, hown, by rw [HO.out, HIE.out, HM.out, List.take_length]; rfl⟩, hB⟩
end Go.Proofs.Ytpaegpbabfohcaa.WalkDag
