/-
  The document's dag: Of.
-/
import Derived.Test.YtpaegpbabfohcaaRefDagC
import Derived.Deep.Upon
namespace Go.Proofs.Ytpaegpbabfohcaa.WalkDag
open Go.RowKit Go.Proofs.Ytpaegpbabfohcaa.HeapPure Go.Proofs.Ytpaegpbabfohcaa.HeapA Go.Proofs.Ytpaegpbabfohcaa.MapAt Go.Proofs.Ytpaegpbabfohcaa.DagPure Go.Proofs.Ytpaegpbabfohcaa.WalkInts Go.Deep
set_option linter.unusedVariables false
set_option linter.unusedSimpArgs false
set_option maxRecDepth 100000

section
variable {ops : Array Oper} {rest : List Oper} {o : Oper} {a : Act} {w : World} {Q : Exit → Act → World → Prop}
/-- append of a row of numbers onto a row of its own -/
theorem wpList_append_qs (t : TypeId) (ht : Try.prog.underlying t = some (.slice 3)) (hgd : o.guard = none) (sl x : Operand) (ho : o.op = .call { callee := .builtin .append, args := #[sl, x], argTypes := #[t, t] })
    (base : Nat) (v : Value) (q : List Int) (hs : a.eval sl = v) (hown : w.ownsRow base 3 1 v q.length (iv q)) (A : Option Addr) (l : List Int) (m c : Nat) (hml : m = l.length) (hx : a.eval x = .slice A m c) (hc : Ints w A l)
    (hb : q.length + l.length ≤ 1000000) (hbase : base ≤ w.heap.size)
    (h : ∀ v' w', w'.ownsRow base 3 1 v' (q ++ l).length (iv (q ++ l)) → w.grownBy w' v.ownBlock → wpList Try.prog ops Q rest (a.put o.dst v') w') : wpList Try.prog ops Q (o :: rest) a w := by
  subst hml
  obtain ⟨i0, hi, hz0, hz1, hz2⟩ := info_parts HeapA.info_int
  refine wpList_plain hgd fun K hK => ?_
  rcases hc with rfl | ⟨g, off, rfl, hc⟩
  · have hsrc : Src Try.prog i0.size t (.slice A ([] : List Int).length c) 0 [] w := by
      cases A with
      | none => exact Src.ofNil w ht c
      | some ad => exact Src.ofSlice w ht ad 0 c [] (by simp) (fun j u hj => by simp at hj) (fun u hu => by cases hu)
    obtain ⟨base', sL, sC, rfl, hle⟩ : ∃ A0 n0 c0, v = .slice A0 n0 c0 ∧ n0 ≤ c0 := by
      rcases hown.2 with ⟨e, h0⟩ | ⟨g, cap, cur, e, hb, hg, hle, _⟩
      · exact ⟨_, _, _, e, Nat.le_refl _⟩
      · exact ⟨_, _, _, e, hle⟩
    have hr := run_append_nothing (P := Try.prog) w t t o.type 3 i0 ht hi base' sL sC hle _ hsrc
    unfold Oper.wp execOp
    simp only [ho, resolve, invoke, builtin, Sem.run_bind, Sem.run_pure, Result.andThen_ok, List.map_toArray, List.map_cons, List.map_nil, hs, hx, hr]
    exact hK _ _ (h _ _ (by rw [List.append_nil]; exact hown) ⟨rfl, rfl, rfl, Nat.le_refl _, fun _ _ _ => rfl⟩)
  · obtain ⟨v', w', hr, h2, h3, _, h5⟩ := run_append_own_at (P := Try.prog) w base t o.type 3 i0 (.int .i64 0) 1 8 ht hi hz0 hz1 hz2 rfl (by decide) v q.length (iv q) hown
      ⟨g, off, none⟩ l.length c (iv l) (by rw [iv_length, Nat.mul_one]) (fun j u hj => by
        have hj2 := (List.getElem?_eq_some_iff.1 hj).1
        rw [iv_length] at hj2
        rw [Addr.add_lit, hc j hj2, ← iv_get l j hj2, hj]) (by intro u hu; simp only [iv, List.mem_map] at hu; obtain ⟨z, _, rfl⟩ := hu; rfl) (by unfold maxLen; omega) (by omega) hbase
    unfold Oper.wp execOp
    simp only [ho, resolve, invoke, builtin, Sem.run_bind, Sem.run_pure, Result.andThen_ok, List.map_toArray, List.map_cons, List.map_nil, hs, hx, hr]
    exact hK _ _ (h v' w' (by rw [List.length_append]; simpa [iv] using h2) h3)
end

set_option maxHeartbeats 3200000 in
theorem ofR_any (A : Option Addr) (c m : Nat) (l : List Kn) (n x : Int) (w : World) (h : Knots w.heap.size w A l) (hm : m = l.length) (hf : Few l) :
    Calls Try.prog 25 #[.slice A m c, .int .i64 n, .int .i64 x] w fun e w' => e = .returned (.bool (ofGo (rev l) [n] x)) ∧ Below w.heap.size w w' := by
  obtain ⟨R, hR⟩ : ∃ R, ofGo (rev l) [n] x = R := ⟨_, rfl⟩
  rw [hR]
  have HR : Hid (ofGo (rev (l.take m)) [n] x = R) := by show _ = _; rw [hm, List.take_length]; exact hR
  have hm40 : m ≤ 40 := by rw [hm]; exact hf.1
  have HM := Lib.hid hm
  have HF := Lib.hid hf.2
  have hone := Own.one w n
  have HB0 := Lib.hid (Joins.below_alloc1 w (.cells #[.int .i64 n] 3))
  clear hR hf hm
  go_enter Try.func25, Try.ntmps25
  go_wp2_with fail
  go_loopw [7, 8] (fun u v wr => ∃ (z : Int) (k : Nat) (us : List Int), v = .int .i64 z ∧ z + 1 = k ∧ k ≤ m ∧ Own wr w.heap.size u us ∧ us.length + 5 * k ≤ 1 + 5 * m ∧ Hid (ofGo (rev (l.take k)) us x = R) ∧ Below w.heap.size w wr) (fun _ v _ => (intOf v + 1).toNat)
  case atStart => exact ⟨(m : Int) - 1, m, [n], rfl, by omega, Nat.le_refl _, hone, by simp, HR, HB0.out⟩
  case round =>
    clear hone
    obtain ⟨z, k, us, rfl, hz, hk, hown, hus, HO, hB⟩ := hrel
    rcases k with _ | j
    · obtain rfl : z = -1 := by omega
      clear hz
      go_wp2_with fail
      go_ret
      exact ⟨by show Ending.returned (Value.bool false) = _; rw [← HO.out]; rfl, hB⟩
    · obtain rfl : z = (j : Int) := by omega
      rcases h with hnil | ⟨g, off, rfl, hg, hc⟩
      · exfalso
        have := HM.out
        rw [hnil] at this
        simp at this
        omega
      · obtain ⟨h1, h2, h3, h4⟩ := hc j (by rw [← HM.out]; omega)
        rw [← hB.cell (p := ⟨g, off + j * 2, none⟩) hg] at h1
        rw [← hB.cell (p := ⟨g, off + j * 2 + 1, none⟩) hg] at h2
        have h3 := ints_bd h3 hB h4
        have hp5 := HF.out j (by rw [← HM.out]; omega)
        have HO2 : Hid (ofGo ((kn l j).k :: rev (l.take j)) us x = R) := by show _ = _; rw [← rev_take (by rw [← HM.out]; omega)]; exact HO.out
        obtain ⟨kk, hkk⟩ : ∃ kk, kk = (kn l j).k := ⟨_, rfl⟩
        obtain ⟨A2, hA2⟩ : ∃ A2, A2 = (kn l j).A := ⟨_, rfl⟩
        obtain ⟨c2, hc2⟩ : ∃ c2, c2 = (kn l j).c := ⟨_, rfl⟩
        rw [← hkk] at h1 hp5 HO2
        rw [← hkk, ← hA2, ← hc2] at h2
        rw [← hkk, ← hA2] at h3
        obtain ⟨y, hy⟩ : ∃ y, y = kk.n := ⟨_, rfl⟩
        obtain ⟨pl, hpl⟩ : ∃ pl, pl = kk.ps.length := ⟨_, rfl⟩
        rw [← hy] at h1
        rw [← hpl] at h2 hp5
        have HY := Lib.hid hy
        have HPL := Lib.hid hpl
        have hjm : j < m := by omega
        clear hc h4 hkk hA2 hc2 hy hpl HO hz
        obtain ⟨A5, n5, c5, rfl⟩ := own_shapeQ hown
        obtain rfl := own_len hown
        obtain ⟨A6, c6, e6, hi6, -, h6, -⟩ := own_reads hown
        injection e6 with e61 e62 e63
        subst e61 e63
        clear e62 h6
        obtain ⟨ul, hul⟩ : ∃ ul, ul = us.length := ⟨_, rfl⟩
        rw [← hul]
        have HUL := Lib.hid hul
        have hus : ul + 5 * (j + 1) ≤ 1 + 5 * m := by rw [hul]; exact hus
        have hown : Own wr w.heap.size (.slice A5 ul c5) us := by rw [hul]; exact hown
        have hHw : w.heap.size ≤ wr.heap.size := hB.size
        clear hul
        by_cases hin : y ∈ us
        · have hd : Hid (decide (y ∈ us) = true) := decide_eq_true hin
          have HIN := Lib.hid hin
          clear hin
          go_wp2_with fail
          refine (in_any A5 c5 ul us y wr hi6 HUL.out (by omega)).mono ?_
          rintro e w' ⟨rfl, rfl⟩
          rw [hd.out]
          by_cases hyx : y = x
          · have hb : (y == x) = true := by simpa using hyx
            have HYX := Lib.hid hyx
            clear hyx
            go_wp2_with fail
            go_ret
            exact ⟨by
              show Ending.returned (Value.bool true) = _
              rw [← HO2.out, ← HYX.out, HY.out, ofGo_self (by rw [← HY.out]; exact HIN.out)], hB⟩
          · have hb : (y == x) = false := by simpa using hyx
            have HYX := Lib.hid hyx
            clear hyx
            have HO3 : Hid (ofGo (rev (l.take j)) (us ++ kk.ps) x = R) := by
              show _ = _
              rw [← HO2.out, ofGo_in (by rw [← HY.out]; exact HIN.out) (by rw [← HY.out]; exact HYX.out)]
            go_wp2_with (at_builtin; go_must (refine wpList_append_qs 25 Try.underlying25 rfl _ _ rfl w.heap.size _ us rfl hown A2 kk.ps pl c2 HPL.out rfl h3 (by have := HPL.out; have := HUL.out; omega) hHw ?_); intro v2 w5 own5 hgrow; have hB5 := hB.grown hgrow hHw (fun k hk => (hown.lt k hk).1); clear hgrow)
            go_roundw
            case rel => exact ⟨(j : Int) - 1, j, us ++ kk.ps, rfl, by omega, by omega, own5, by have := HPL.out; have := HUL.out; simp; omega, HO3, hB5⟩
            case measure => simp [intOf]
        · have hd : Hid (decide (y ∈ us) = false) := decide_eq_false hin
          have HIN := Lib.hid hin
          clear hin
          have HO3 : Hid (ofGo (rev (l.take j)) us x = R) := by
            show _ = _
            rw [← HO2.out, ofGo_out (by rw [← HY.out]; exact HIN.out)]
          go_wp2_with fail
          refine (in_any A5 c5 ul us y wr hi6 HUL.out (by omega)).mono ?_
          rintro e w' ⟨rfl, rfl⟩
          rw [hd.out]
          go_wp2_with fail
          go_roundw
          case rel => exact ⟨(j : Int) - 1, j, us, rfl, by omega, by omega, hown, by have := HUL.out; omega, HO3, hB⟩
          case measure => simp [intOf]
end Go.Proofs.Ytpaegpbabfohcaa.WalkDag
