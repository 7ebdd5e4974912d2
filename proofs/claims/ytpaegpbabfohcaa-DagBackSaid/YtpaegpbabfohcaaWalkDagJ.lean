/-
  dag: Tips.
-/
import Derived.Test.YtpaegpbabfohcaaWalkDagI
namespace Go.Proofs.Ytpaegpbabfohcaa.WalkDag
open Go.RowKit Go.Proofs.Ytpaegpbabfohcaa.HeapPure Go.Proofs.Ytpaegpbabfohcaa.HeapA Go.Proofs.Ytpaegpbabfohcaa.MapAt Go.Proofs.Ytpaegpbabfohcaa.DagPure Go.Proofs.Ytpaegpbabfohcaa.WalkInts
set_option linter.unusedVariables false
set_option linter.unusedSimpArgs false
set_option maxRecDepth 100000

/-- does one of the first knots come of it? -/
def par (l : List Kn) (p : Int) : Bool := l.any (fun y => y.k.ps.contains p)
def tips (l : List Kn) : List Int := (l.filter (fun y => !par l y.k.n)).map (·.k.n)
theorem par_succ {l : List Kn} {i : Nat} (h : i < l.length) (p : Int) : par (l.take (i + 1)) p = (par (l.take i) p || (kn l i).k.ps.contains p) := by
  unfold par
  rw [take_kn h, List.any_append]; simp
theorem int_one (b : Bool) (c : Bool) : (if (b || c) = true then (Value.int .i64 1) else .int .i64 0) = if c = true then .int .i64 1 else if b = true then .int .i64 1 else .int .i64 0 := by
  cases b <;> cases c <;> rfl
set_option maxHeartbeats 6400000 in
theorem tips_any (A : Option Addr) (c : Nat) (l : List Kn) (w : World) (h : Knots w.heap.size w A l) (hl : l.length ≤ 100) :
    Calls Try.prog 20 #[.slice A l.length c] w fun e w' => (∃ r v o, e = .returned (.tuple #[v, .int .i64 r]) ∧ ((¬ Ok l ∧ r = 3) ∨ (Ok l ∧ r = 0)) ∧ Own w' w.heap.size v o ∧ (r ≠ 0 → o = []) ∧ (r = 0 → o = tips l)) ∧ Below w.heap.size w w' := by
  obtain ⟨m, hm⟩ : ∃ m, m = l.length := ⟨_, rfl⟩
  have hmm : m ≤ 100 := by omega
  have HM := Lib.hid hm
  have HK := Lib.hid h
  have HL := Lib.hid hl
  have hmk : ∀ (W : World), (Instr.makeMap 87 none).run Try.prog W = .ok (.map (some W.heap.size)) (W.alloc (.map #[] 0)) := fun W => rfl
  go_enter Try.func20, Try.ntmps20
  go_wp2_with fail
  refine (check_any A c l w h hl).mono ?_
  rintro e w1 ⟨⟨r, rfl, hr⟩, hB⟩
  rw [← hm]
  clear h hl hm
  rcases hr with ⟨hok, rfl⟩ | ⟨hno, rfl⟩
  · have hK1 := (HK.out.below hB).mono hB.size
    obtain ⟨b, hb⟩ : ∃ b, b = w1.heap.size := ⟨_, rfl⟩
    have HB0 := Lib.hid hb
    have m1 := made KI w1
    have z1 : Below b w1 (w1.alloc (.map #[] 0)) := by rw [hb]; exact Joins.below_alloc1 w1 _
    have hwb : w.heap.size ≤ b := by rw [hb]; exact hB.size
    have hb1 : (w1.alloc (.map #[] 0)).heap.size = b + 1 := by rw [hb]; simp
    rw [← hb] at m1 hK1
    have HBW := Lib.hid hB
    have HB1 := Lib.hid hb1
    have fin : ∀ (v : Value) (o : List Int) (wr : World), Own wr (b + 1) v o → Below b w1 wr → o = tips l → (∃ r v' o', Ending.returned (.tuple #[v, .int .i64 0]) = .returned (.tuple #[v', .int .i64 r]) ∧ ((¬ Ok l ∧ r = 3) ∨ (Ok l ∧ r = 0)) ∧ Own wr w.heap.size v' o' ∧ (r ≠ 0 → o' = []) ∧ (r = 0 → o' = tips l)) ∧ Below w.heap.size w wr := fun v o wr e1 e2 e3 =>
      ⟨⟨0, v, o, rfl, .inr ⟨hok, rfl⟩, e1.mono (by omega), fun e => absurd rfl e, fun _ => e3⟩, HBW.out.trans (e2.mono hwb)⟩
    have FIN := Lib.hid fin
    clear fin hB hb1 hmk
    have hmk : (Instr.makeMap 87 none).run Try.prog w1 = .ok (.map (some b)) (w1.alloc (.map #[] 0)) := by rw [hb]; rfl
    clear hb
    rcases hK1 with hnil | ⟨g, off, rfl, hg, hc⟩
    · have HNil := Lib.hid hnil
      have hm0 : m = 0 := by rw [HM.out, hnil]; rfl
      clear hnil
      subst hm0
      go_wp2_with fail
      go_loopw [21] (fun v wr => v = .int .i64 0 ∧ (w1.alloc (.map #[] 0)) = wr) (fun v _ => 0)
      case atStart => exact ⟨rfl, rfl⟩
      case round =>
        obtain ⟨rfl, rfl⟩ := hrel
        go_wp2_with fail
        go_loopw [10, 38] (fun u v wr => u = .slice none 0 0 ∧ v = .int .i64 0 ∧ (w1.alloc (.map #[] 0)) = wr) (fun u v _ => 0)
        case atStart => exact ⟨rfl, rfl, rfl⟩
        case round =>
          obtain ⟨rfl, rfl, rfl⟩ := hrel
          go_wp2_with fail
          go_ret2
          exact ⟨⟨0, _, [], rfl, .inr ⟨hok, rfl⟩, Own.nil _ _, fun e => rfl, fun _ => by rw [HNil.out]; rfl⟩, HBW.out.trans (z1.mono hwb)⟩
    · go_wp2_with fail
      go_loopw [21] (fun v wr => ∃ (i : Nat) (mf : Int → Option Value), v = .int .i64 i ∧ i ≤ m ∧ MapAt KI wr b mf ∧ (∀ p, (mf p).getD (.int .i64 0) = if par (l.take i) p = true then .int .i64 1 else .int .i64 0) ∧ Below b w1 wr ∧ b + 1 ≤ wr.heap.size) (fun v _ => m - (intOf v).toNat)
      case atStart => exact ⟨0, _, rfl, Nat.zero_le _, m1, fun p => by simp [par], z1, by rw [HB1.out]; exact Nat.le_refl _⟩
      case round =>
        clear m1 z1
        obtain ⟨i, mf, rfl, hi, hmap, hmf, hB, hsz⟩ := hrel
        have HMF := Lib.hid hmf
        clear hmf
        by_cases hlt : i < m
        · obtain ⟨h1, h2, h3, h4⟩ := hc i (by rw [← HM.out]; exact hlt)
          rw [← hB.cell (p := ⟨g, off + i * 2, none⟩) hg] at h1
          rw [← hB.cell (p := ⟨g, off + i * 2 + 1, none⟩) hg] at h2
          have SUCC : Hid (∀ p, par (l.take (i + 1)) p = (par (l.take i) p || (kn l i).k.ps.contains p)) := fun p => par_succ (by rw [← HM.out]; exact hlt) p
          clear hc
          obtain ⟨x, hx⟩ : ∃ x, x = (kn l i).k.n := ⟨_, rfl⟩
          obtain ⟨ps, hps⟩ : ∃ ps, ps = (kn l i).k.ps := ⟨_, rfl⟩
          obtain ⟨A2, hA2⟩ : ∃ A2, A2 = (kn l i).A := ⟨_, rfl⟩
          obtain ⟨c2, hc2⟩ : ∃ c2, c2 = (kn l i).c := ⟨_, rfl⟩
          have hpl : ps.length ≤ 2 := by rw [hps]; exact (hok i (by rw [← HM.out]; exact hlt)).2.2.1
          rw [← hx] at h1
          rw [← hps, ← hA2, ← hc2] at h2
          rw [← hps, ← hA2] at h3
          rw [← hA2, ← hps] at h4
          rw [← hps] at SUCC
          clear hx hps hA2 hc2
          have h3 := ints_bd h3 hB h4
          have HA := Lib.hid h4
          obtain ⟨W2, hW2⟩ : ∃ W2, W2 = wr.alloc (.cells #[.int .i64 x, .slice A2 ps.length c2] 77) := ⟨_, rfl⟩
          have B2 : Hid (Below b w1 W2) := by rw [hW2]; exact hB.trans ((Joins.below_alloc1 wr _).mono (by omega))
          have M2 : MapAt KI W2 b mf := by rw [hW2]; exact hmap.below (Joins.below_alloc1 wr _) (by omega)
          have S2 : b + 1 ≤ W2.heap.size := by rw [hW2]; simp; omega
          have k1 : W2.cell? ⟨wr.heap.size, 1, none⟩ = some (.slice A2 ps.length c2) := by rw [hW2, cell_of_row _ _ 1 _ _ _ (heap_new wr _)]; rfl
          have I2 : Ints W2 A2 ps := by rw [hW2]; exact ints_bd h3 ((Joins.below_alloc1 wr _).mono (by omega : b ≤ wr.heap.size)) h4
          clear hmap h3 h4 hsz hB
          rcases ints_parts I2 with hnil | ⟨hne, g2, off2, hA2, hc2⟩
          · have HNil := Lib.hid hnil
            have hl0 : ps.length ≤ 0 := by rw [hnil]; exact Nat.le_refl _
            clear hnil
            go_wp2_with fail
            rw [← hW2]
            clear hW2
            go_loopw [28] (fun v wi => v = .int .i64 0 ∧ W2 = wi) (fun _ _ => 0)
            case atStart => exact ⟨rfl, rfl⟩
            case round =>
              obtain ⟨rfl, rfl⟩ := hrel
              go_wp2_with fail
              go_roundw
              case rel => exact ⟨i + 1, mf, by go_num, by omega, M2, fun p => by rw [HMF.out p, SUCC.out p, HNil.out]; simp, B2.out, S2⟩
              case measure => simp [intOf]; omega
          · have hg2 := HA.out hne g2 off2 hA2
            clear hne
            subst hA2
            go_wp2_with fail
            rw [← hW2]
            clear hW2
            go_loopw [28] (fun v wi => ∃ (j : Nat) (mg : Int → Option Value), v = .int .i64 j ∧ j ≤ ps.length ∧ MapAt KI wi b mg ∧ (∀ p, (mg p).getD (.int .i64 0) = if (par (l.take i) p || (ps.take j).contains p) = true then .int .i64 1 else .int .i64 0) ∧ Below b W2 wi ∧ b + 1 ≤ wi.heap.size) (fun v _ => ps.length - (intOf v).toNat)
            case atStart => exact ⟨0, mf, rfl, Nat.zero_le _, M2, fun p => by rw [HMF.out p]; simp, Below.refl _ _, S2⟩
            case round =>
              clear M2 S2
              obtain ⟨j, mg, rfl, hj, hmg, hmgv, hBi, hsi⟩ := hrel
              have HMG := Lib.hid hmgv
              clear hmgv
              by_cases hjl : j < ps.length
              · have hcj := hc2 j hjl
                rw [← hBi.cell (p := ⟨g2, off2 + j, none⟩) hg2] at hcj
                have htk : Hid (∀ p, (ps.take (j + 1)).contains p = ((ps.take j).contains p || (p == ps.getD j 0))) := fun p => by
                  rw [List.take_succ_eq_append_getElem hjl, List.getD_eq_getElem?_getD, List.getElem?_eq_getElem hjl, Bool.eq_iff_iff, List.contains_iff_mem, List.mem_append, Bool.or_eq_true, List.contains_iff_mem]
                  simp only [Option.getD_some, beq_iff_eq, List.mem_singleton]
                clear hc2
                obtain ⟨y, hy⟩ : ∃ y, y = ps.getD j 0 := ⟨_, rfl⟩
                rw [← hy] at hcj htk
                clear hy
                obtain ⟨w3, s1, s2, s3, s4⟩ := hmg.set Try.underlying87 y (.int .i64 1)
                have s1 : (Instr.mapUpdate 87 (.map (some b)) (.int .i64 y) (.int .i64 1)).run Try.prog wr = .ok () w3 := s1
                have S3 := Lib.hid s3
                have S4 := Lib.hid s4
                clear s3 s4
                go_wp2_with fail
                go_roundw
                case rel => exact ⟨j + 1, _, by go_num, by omega, s2, fun p => by
                  show (if p = y then some (Value.int .i64 1) else mg p).getD (.int .i64 0) = _
                  rw [htk.out p]
                  by_cases e : p = y
                  · rw [if_pos e]; simp [e]
                  · rw [if_neg e, HMG.out p]
                    have : (p == y) = false := by simpa using e
                    rw [this, Bool.or_false], hBi.grown S3.out (by omega) (fun k hk => by simp at hk; omega), by rw [S4.out]; exact hsi⟩
                case measure => simp [intOf]; omega
              · have hje : j = ps.length := by omega
                have HJ := Lib.hid hje
                clear hje hc2
                go_wp2_with fail
                go_roundw
                case rel => exact ⟨i + 1, mg, by go_num, by omega, hmg, fun p => by
                  rw [HMG.out p, SUCC.out p, HJ.out, List.take_length], B2.out.trans hBi, hsi⟩
                case measure => simp [intOf]; omega
        · have hie : i = m := by omega
          have HV : Hid (∀ p, (mf p).getD (.int .i64 0) = if par l p = true then .int .i64 1 else .int .i64 0) := fun p => by
            have := HMF.out p
            rw [hie, HM.out, List.take_length] at this
            exact this
          clear hie
          have HMAP := Lib.hid hmap
          have HBB := Lib.hid hB
          clear hmap hB
          go_wp2_with fail
          go_loopw [10, 38] (fun u v wr => ∃ (i : Nat) (o : List Int), v = .int .i64 i ∧ i ≤ m ∧ Own wr (b + 1) u o ∧ Hid (o = ((l.take i).filter (fun y => !par l y.k.n)).map (·.k.n)) ∧ o.length ≤ i ∧ MapAt KI wr b mf ∧ Below b w1 wr ∧ b + 1 ≤ wr.heap.size) (fun u v _ => m - (intOf v).toNat)
          case atStart => exact ⟨0, [], rfl, Nat.zero_le _, Own.nil _ _, rfl, Nat.le_refl _, HMAP.out, HBB.out, hsz⟩
          case round =>
            clear hsz hi hlt
            obtain ⟨i, o, rfl, hi, hown, HO, hol, hmap, hB, hsz⟩ := hrel
            by_cases hlt : i < m
            · obtain ⟨h1, h2, -, -⟩ := hc i (by rw [← HM.out]; exact hlt)
              rw [← hB.cell (p := ⟨g, off + i * 2, none⟩) hg] at h1
              rw [← hB.cell (p := ⟨g, off + i * 2 + 1, none⟩) hg] at h2
              have SUCC : Hid (((l.take (i + 1)).filter (fun y => !par l y.k.n)).map (·.k.n) = o ++ (if par l (kn l i).k.n then [] else [(kn l i).k.n])) := by
                show _ = _
                rw [take_kn (by rw [← HM.out]; exact hlt), List.filter_append, List.map_append, ← HO.out]
                congr 1
                cases hp : par l (kn l i).k.n <;> simp [hp]
              clear hc
              obtain ⟨x, hx⟩ : ∃ x, x = (kn l i).k.n := ⟨_, rfl⟩
              obtain ⟨V2, hV2⟩ : ∃ V2, V2 = Value.slice (kn l i).A (kn l i).k.ps.length (kn l i).c := ⟨_, rfl⟩
              have hvs : ∃ A2 n2 c2, V2 = .slice A2 n2 c2 := ⟨_, _, _, hV2⟩
              rw [← hx] at h1 SUCC
              rw [← hV2] at h2
              clear hx hV2
              obtain ⟨A2, n2, c2, rfl⟩ := hvs
              have hv := HV.out x
              obtain ⟨r, hr⟩ : ∃ r, par l x = r := ⟨_, rfl⟩
              rw [hr] at hv SUCC
              clear hr
              obtain ⟨W2, hW2⟩ : ∃ W2, W2 = wr.alloc (.cells #[.int .i64 x, .slice A2 n2 c2] 77) := ⟨_, rfl⟩
              have B2 : Hid (Below b w1 W2) := by rw [hW2]; exact hB.trans ((Joins.below_alloc1 wr _).mono (by omega))
              have M2 : MapAt KI W2 b mf := by rw [hW2]; exact hmap.below (Joins.below_alloc1 wr _) (by omega)
              have S2 : b + 1 ≤ W2.heap.size := by rw [hW2]; simp; omega
              have O2 : Own W2 (b + 1) u10 o := by rw [hW2]; exact hown.below (Joins.below_alloc1 wr _)
              have k0 : W2.cell? ⟨wr.heap.size, 0, none⟩ = some (.int .i64 x) := by rw [hW2, cell_of_row _ _ 0 _ _ _ (heap_new wr _)]; rfl
              have hlk := M2.look Try.underlying87 (zero_int W2) x
              rw [hv] at hlk
              have MH := Lib.hid M2
              have hbW : b < W2.heap.size := M2.lt
              clear hmap hsz hB hown hv M2
              cases r with
              | true =>
                have hlk : (Instr.lookup 87 (.map (some b)) (.int .i64 x) false).run Try.prog W2 = .ok (.int .i64 1) W2 := hlk
                go_upto_region 18 with (fail)
                rw [← hW2]
                clear hW2
                go_wp2_with fail
                go_roundw
                case rel => exact ⟨i + 1, o, by go_num, by omega, O2, by show _ = _; rw [SUCC.out]; simp, by omega, MH.out, B2.out, S2⟩
                case measure => simp [intOf]; omega
              | false =>
                have hlk : (Instr.lookup 87 (.map (some b)) (.int .i64 x) false).run Try.prog W2 = .ok (.int .i64 0) W2 := hlk
                go_upto_region 18 with (fail)
                rw [← hW2]
                clear hW2
                go_wp2_with (at_builtin; go_must (refine wpList_append_q 25 Try.underlying25 rfl _ _ rfl (b + 1) _ o x rfl (O2.alloc _) W2.heap.size 1 rfl ((cell_of_row _ _ 0 _ _ _ (heap_new _ _)).trans rfl) (by omega) (by simp; omega) ?_); intro v2 w5 own5 hgrow hor; have hb5 := (B2.out.trans ((Joins.below_alloc1 W2 _).mono (Nat.le_of_lt hbW))).grown hgrow (by simp; omega) (fun k hk => by have := (O2.lt k hk).1; omega); have m5 := MH.out.kept (grown_block hgrow b hbW (fun j hj => by have := (O2.lt j hj).1; omega)); have s5 : b + 1 ≤ w5.heap.size := (by have := hgrow.size; simp at this; omega); clear hgrow hor)
                go_roundw
                case rel => exact ⟨i + 1, o ++ [x], by go_num, by omega, own5, by show _ = _; rw [SUCC.out]; simp, by simp; omega, m5, hb5, s5⟩
                case measure => simp [intOf]; omega
            · have hie : i = m := by omega
              have HIE := Lib.hid hie
              clear hie hc
              go_wp2_with fail
              go_ret2
              obtain ⟨⟨r, v', o', e1, r1, r2, r3, r4⟩, r5⟩ := FIN.out _ o wr hown hB (by rw [HO.out, HIE.out, HM.out, List.take_length]; rfl)
              exact ⟨⟨0, _, o, rfl, .inr ⟨hok, rfl⟩, hown.mono (by omega), fun e => absurd rfl e, fun _ => by rw [HO.out, HIE.out, HM.out, List.take_length]; rfl⟩, r5⟩
  · go_wp2_with fail
    go_ret2
    exact ⟨⟨3, _, [], rfl, .inl ⟨hno, rfl⟩, Own.nil _ _, fun _ => rfl, fun e => by cases e⟩, hB⟩
end Go.Proofs.Ytpaegpbabfohcaa.WalkDag
