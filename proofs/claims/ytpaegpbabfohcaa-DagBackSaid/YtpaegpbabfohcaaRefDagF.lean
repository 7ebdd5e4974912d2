/-
  The document's dag: Best.
-/
import Derived.Test.YtpaegpbabfohcaaRefDagE
import Derived.Deep.Upon
namespace Go.Proofs.Ytpaegpbabfohcaa.WalkDag
open Go.RowKit Go.Proofs.Ytpaegpbabfohcaa.HeapPure Go.Proofs.Ytpaegpbabfohcaa.HeapA Go.Proofs.Ytpaegpbabfohcaa.MapAt Go.Proofs.Ytpaegpbabfohcaa.DagPure Go.Proofs.Ytpaegpbabfohcaa.WalkInts Go.Deep
set_option linter.unusedVariables false
set_option linter.unusedSimpArgs false
set_option maxRecDepth 100000

theorem isBest_step (t : List K) (a b c : Int) : isBest t a b c = (common t a b).all (fun n => n == c || !ofGo t [n] c) := rfl
set_option maxHeartbeats 6400000 in
theorem bestR_any (A : Option Addr) (c : Nat) (l : List Kn) (a b : Int) (w : World) (h : Knots w.heap.size w A l) (hf : Few l) :
    Calls Try.prog 15 #[.slice A l.length c, .int .i64 a, .int .i64 b] w fun e w' => (∃ v o, e = .returned v ∧ Own w' w.heap.size v o ∧ o = best (rev l) a b) ∧ Below w.heap.size w w' := by
  have HF := Lib.hid hf
  have HK := Lib.hid h
  obtain ⟨T, hT⟩ : ∃ T, T = best (rev l) a b := ⟨_, rfl⟩
  rw [← hT]
  have HT := Lib.hid hT
  clear hf hT
  go_enter Try.func15, Try.ntmps15
  go_wp2_with fail
  refine (commonR_any A c l a b w h HF.out).mono ?_
  rintro e w1 ⟨⟨v, C, rfl, hownC, hC⟩, hB1⟩
  obtain ⟨A5, n5, c5, rfl⟩ := own_shapeQ hownC
  obtain rfl := own_len hownC
  obtain ⟨A6, c6, e6, hiC, hA5, h6, -⟩ := own_reads hownC
  injection e6 with e61 e62 e63
  subst e61 e63
  clear e62 h6
  have HC := Lib.hid hC
  have hCl : C.length ≤ 40 := by
    rw [hC]
    unfold common
    rw [List.length_map]
    have h5 : (rev l).length = l.length := by unfold rev; simp
    have h6 := List.length_filter_le (fun k => ofGo (rev l) [a] k.n && ofGo (rev l) [b] k.n) (rev l)
    have := HF.out.1
    omega
  obtain ⟨m, hm⟩ : ∃ m, m = C.length := ⟨_, rfl⟩
  have HM := Lib.hid hm
  rw [← hm]
  have hm40 : m ≤ 40 := by omega
  obtain ⟨P, hP⟩ : ∃ P : Int → Bool, P = isBest (rev l) a b := ⟨_, rfl⟩
  have HP : Hid (∀ x, P x = C.all (fun n => n == x || !ofGo (rev l) [n] x)) := fun x => by rw [hP, isBest_step, ← hC]
  have HT0 : Hid ((C.take m).reverse.filter P = T) := by
    show _ = _
    rw [hm, List.take_length, HT.out, hP, hC]; rfl
  obtain ⟨H, hH⟩ : ∃ H, H = w1.heap.size := ⟨_, rfl⟩
  have HH := Lib.hid hH
  have hwH : w.heap.size ≤ H := by rw [hH]; exact hB1.size
  have HK1 : Hid (∀ w2, Below H w1 w2 → Knots w2.heap.size w2 A l) := fun w2 b2 => by
    have := HK.out.below (hB1.trans (b2.mono hwH))
    exact this.mono (Nat.le_trans hwH (by rw [hH]; exact b2.size))
  have HI : Hid (∀ w2, Below H w1 w2 → Ints w2 A5 C) := fun w2 b2 => hiC.below b2 (fun g off e => by rw [hH]; exact (hA5 g off e).2)
  have HB1 := Lib.hid hB1
  have hHle : Hid (∀ w2, Below H w1 w2 → H ≤ w2.heap.size) := fun w2 b2 => by have := b2.size; rw [← hH] at this; exact this
  clear hm hP hC hownC hB1 h hA5 hH hiC
  go_wp2_with fail
  go_loopw [8, 9] (fun u v wr => ∃ (z : Int) (k : Nat) (o : List Int), v = .int .i64 z ∧ z + 1 = k ∧ k ≤ m ∧ Own wr H u o ∧ o.length + k ≤ m ∧ Hid (o ++ (C.take k).reverse.filter P = T) ∧ Below H w1 wr) (fun _ v _ => (intOf v + 1).toNat)
  case atStart => exact ⟨(m : Int) - 1, m, [], rfl, by omega, Nat.le_refl _, Own.nil _ _, by simp, HT0, Below.refl _ _⟩
  case round =>
    obtain ⟨z, k, o, rfl, hz, hk, hown, hol, HO, hB⟩ := hrel
    rcases k with _ | i
    · obtain rfl : z = -1 := by omega
      clear hz
      go_wp2_with fail
      go_ret
      exact ⟨⟨_, o, rfl, hown.mono hwH, by rw [← HO.out]; simp⟩, HB1.out.trans (hB.mono hwH)⟩
    · obtain rfl : z = (i : Int) := by omega
      have him : i < m := by omega
      have hol' : o.length ≤ 1000 := by omega
      clear hz
      have hint := HI.out wr hB
      rcases hint with hnil | ⟨g, off, rfl, hcC⟩
      · exfalso
        have := HM.out
        rw [hnil] at this
        simp at this
        omega
      · obtain ⟨x, hx⟩ : ∃ x, x = C.getD i 0 := ⟨_, rfl⟩
        have HX := Lib.hid hx
        have HO2 : Hid (o ++ (if P x then [x] else []) ++ (C.take i).reverse.filter P = T) := by
          show _ = _
          rw [← HO.out]
          have hil : i < C.length := by rw [← HM.out]; exact him
          have : C.take (i + 1) = C.take i ++ [x] := by rw [hx, List.take_succ_eq_append_getElem hil, List.getD_eq_getElem?_getD, List.getElem?_eq_getElem hil]; rfl
          rw [this, List.reverse_append, List.reverse_cons, List.reverse_nil, List.nil_append, List.filter_append, List.filter_cons]
          cases P x <;> simp
        have HCC : Hid (∀ w2, Below H w1 w2 → ∀ j, j < m → w2.cell? ⟨g, off + j, none⟩ = some (.int .i64 (C.getD j 0))) := fun w2 b2 j hj => (HI.out w2 b2).cell (by rw [← HM.out]; exact hj)
        clear hcC hx HO
        have hw1 := hown.lt
        have HOW := Lib.hid hown
        clear hown hw1
        go_wp2_with fail
        go_loopw [10, 26] (fun u v wi => ∃ (j : Nat) (f : Bool), u = .bool f ∧ v = .int .i64 j ∧ j ≤ m ∧ Hid (f = (C.take j).all (fun n => n == x || !ofGo (rev l) [n] x)) ∧ Below H w1 wi ∧ Own wi H u8 o) (fun _ v _ => m - (intOf v).toNat)
        case atStart => exact ⟨0, true, rfl, rfl, Nat.zero_le _, rfl, hB, HOW.out⟩
        case round =>
          clear hB
          obtain ⟨j, f, rfl, rfl, hj, HFL, hB, hown⟩ := hrel
          by_cases hjm : j < m
          · have c1 := HCC.out wr hB j hjm
            have c2 := HCC.out wr hB i him
            rw [← HX.out] at c2
            obtain ⟨y, hy⟩ : ∃ y, y = C.getD j 0 := ⟨_, rfl⟩
            rw [← hy] at c1
            have HFL2 : Hid ((C.take (j + 1)).all (fun n => n == x || !ofGo (rev l) [n] x) = (f && (y == x || !ofGo (rev l) [y] x))) := by
              show _ = _
              have hil : j < C.length := by rw [← HM.out]; exact hjm
              have : C.take (j + 1) = C.take j ++ [y] := by rw [hy, List.take_succ_eq_append_getElem hil, List.getD_eq_getElem?_getD, List.getElem?_eq_getElem hil]; rfl
              rw [this, List.all_append, ← HFL.out]; simp
            clear hy HFL
            by_cases e : y = x
            · have t1 : (y != x) = false := by simpa using e
              have t2 : (y == x) = true := by simpa using e
              rw [t2] at HFL2
              clear t2 e
              go_wp2_with fail
              go_roundw
              case rel => exact ⟨j + 1, f, rfl, by go_num, by omega, by show _ = _; rw [HFL2.out]; simp, hB, hown⟩
              case measure => simp [intOf]; omega
            · have t1 : (y != x) = true := by simpa using e
              have t2 : (y == x) = false := by simpa using e
              rw [t2] at HFL2
              clear t2 e
              have hHr := hHle.out wr hB
              go_wp2_with fail
              refine (ofR_any A c l.length l y x wr (HK1.out wr hB) rfl HF.out).mono ?_
              rintro e w3 ⟨rfl, hB3⟩
              have hB4 := hB.trans (hB3.mono hHr)
              have hown4 := hown.below hB3
              obtain ⟨r, hr⟩ : ∃ r, ofGo (rev l) [y] x = r := ⟨_, rfl⟩
              rw [hr] at HFL2
              rw [hr]
              clear hr hB3 hB hown
              cases r with
              | true =>
                go_wp2_with fail
                go_roundw
                case rel => exact ⟨j + 1, false, rfl, by go_num, by omega, by show _ = _; rw [HFL2.out]; simp, hB4, hown4⟩
                case measure => simp [intOf]; omega
              | false =>
                go_wp2_with fail
                go_roundw
                case rel => exact ⟨j + 1, f, rfl, by go_num, by omega, by show _ = _; rw [HFL2.out]; simp, hB4, hown4⟩
                case measure => simp [intOf]; omega
          · have hje : j = m := by omega
            have hPx : Hid (P x = f) := by
              show _ = _
              rw [HP.out, HFL.out, hje, HM.out, List.take_length]
            clear hje HFL
            have c2 := HCC.out wr hB i him
            rw [← HX.out] at c2
            have hHr := hHle.out wr hB
            cases f with
            | true =>
              go_wp2_with (at_builtin; go_must (refine wpList_append_q 25 Try.underlying25 rfl _ _ rfl H _ o x rfl (hown.alloc _) wr.heap.size 1 rfl ((cell_of_row _ _ 0 _ _ _ (heap_new _ _)).trans rfl) (by omega) (by simp; omega) ?_); intro v2 w5 own5 hgrow hor; have hb5 := (hB.trans ((Joins.below_alloc1 wr _).mono hHr)).grown hgrow (by simp; omega) (fun k hk => (hown.lt k hk).1); clear hgrow hor)
              go_roundw
              case rel => exact ⟨(i : Int) - 1, i, o ++ [x], rfl, by omega, by omega, own5, by simp; omega, by have := HO2.out; rw [hPx.out, if_pos rfl] at this; exact this, hb5⟩
              case measure => simp [intOf]
            | false =>
              go_wp2_with fail
              go_roundw
              case rel => exact ⟨(i : Int) - 1, i, o, rfl, by omega, by omega, hown, by omega, by have := HO2.out; rw [hPx.out, if_neg (by simp)] at this; show _ = _; simpa using this, hB⟩
              case measure => simp [intOf]
end Go.Proofs.Ytpaegpbabfohcaa.WalkDag
