/-
  dag: Common, Best, Base.
-/
import Derived.Test.YtpaegpbabfohcaaWalkDagG
namespace Go.Proofs.Ytpaegpbabfohcaa.WalkDag
open Go.RowKit Go.Proofs.Ytpaegpbabfohcaa.HeapPure Go.Proofs.Ytpaegpbabfohcaa.HeapA Go.Proofs.Ytpaegpbabfohcaa.MapAt Go.Proofs.Ytpaegpbabfohcaa.DagPure Go.Proofs.Ytpaegpbabfohcaa.WalkInts
set_option linter.unusedVariables false
set_option linter.unusedSimpArgs false
set_option maxRecDepth 100000

/-- turned from both ends on, so far -/
def RevTo (o q : List Int) (k : Nat) : Prop := q.length = o.length ∧ ∀ x, x < o.length → q.getD x 0 = if x < k ∨ o.length ≤ x + k then o.getD (o.length - 1 - x) 0 else o.getD x 0
theorem revTo_zero (o : List Int) : RevTo o o 0 := ⟨rfl, fun x hx => by rw [if_neg (by omega)]⟩
theorem revTo_step {o q : List Int} {k j : Nat} (h : RevTo o q k) (hj : j + k + 1 = o.length) (hk : k < j) : RevTo o (swapL q k j) (k + 1) := by
  obtain ⟨h1, h2⟩ := h
  refine ⟨by rw [swapL_length]; exact h1, fun x hx => ?_⟩
  have := congrFun (swapL_get q k j (by omega) (by omega)) x
  rw [show (swapL q k j).getD x 0 = _ from this]
  show (if x = k then q.getD j 0 else if x = j then q.getD k 0 else q.getD x 0) = _
  by_cases a : x = k
  · subst a
    rw [if_pos rfl, if_pos (by omega), h2 j (by omega), if_neg (by omega)]
    congr 1
    omega
  · rw [if_neg a]
    by_cases b : x = j
    · subst b
      rw [if_pos rfl, if_pos (by omega), h2 k (by omega), if_neg (by omega)]
      congr 1
      omega
    · rw [if_neg b, h2 x hx]
      by_cases c : x < k ∨ o.length ≤ x + k
      · rw [if_pos c, if_pos (by omega)]
      · rw [if_neg c, if_neg (by omega)]
theorem revTo_done {o q : List Int} {k j : Nat} (h : RevTo o q k) (hj : j + k + 1 = o.length) (hk : ¬ k < j) (hle : k ≤ j + 1) : q = o.reverse := by
  obtain ⟨h1, h2⟩ := h
  refine List.ext_getElem (by simp [h1]) fun x a b => ?_
  have hx : x < o.length := by omega
  have e := h2 x hx
  rw [List.getD_eq_getElem?_getD, List.getElem?_eq_getElem a] at e
  have e : q[x] = if x < k ∨ o.length ≤ x + k then o.getD (o.length - 1 - x) 0 else o.getD x 0 := e
  rw [e, List.getElem_reverse]
  have g : ∀ y (hy : y < o.length), o.getD y 0 = o[y] := fun y hy => by rw [List.getD_eq_getElem?_getD, List.getElem?_eq_getElem hy]; rfl
  by_cases c : x < k ∨ o.length ≤ x + k
  · rw [if_pos c, g _ (by omega)]
  · rw [if_neg c]
    have : x = o.length - 1 - x := by omega
    rw [← g _ (by omega), ← this]

set_option maxHeartbeats 1600000 in
theorem reverse_row (g cap n : Nat) (o : List Int) (w : World) (h : QRow w g cap o) (hn : n = o.length) (h0 : 1 ≤ n) (hm : n ≤ 1000000) :
    Calls Try.prog 48 #[.slice (some ⟨g, 0, none⟩) n cap] w fun e w' => e = .returned (.tuple #[]) ∧ QRow w' g cap o.reverse ∧ Wr g w w' := by
  have HN := Lib.hid hn
  clear hn
  have e1 : (n : Int) - 1 = ((n - 1 : Nat) : Int) := by omega
  go_enter Try.func48, Try.ntmps48
  go_wp2_with fail
  go_loopw [2, 3] (fun u v wr => ∃ (k j : Nat) (q : List Int), u = .int .i64 k ∧ v = .int .i64 j ∧ j + k + 1 = n ∧ k ≤ j + 1 ∧ QRow wr g cap q ∧ RevTo o q k ∧ Wr g w wr) (fun u _ _ => n - (intOf u).toNat)
  case atStart => exact ⟨0, n - 1, o, rfl, rfl, by omega, by omega, h, revTo_zero o, Wr.refl _ _⟩
  case round =>
    clear h
    obtain ⟨k, j, q, rfl, rfl, hj, hkj, hr, ht, hw⟩ := hrel
    have HJ := Lib.hid hj
    by_cases hlt : k < j
    · have hql : Hid (q.length = n) := by show _ = _; rw [ht.1, HN.out]
      have hkn : k < n := by omega
      have hjn : j < n := by omega
      have hck := hr.cell (i := k) (by rw [hql.out]; exact hkn)
      have hcj := hr.cell (i := j) (by rw [hql.out]; exact hjn)
      have fk := hr.frozen k
      have fj := hr.frozen j
      have d1 : decide (k < j) = true := by simpa using hlt
      have jm : (j : Int) - 1 = ((j - 1 : Nat) : Int) := by omega
      have hsw : ∀ m, QRow (((wr.setCell ⟨g, k, none⟩ (.int .i64 (q.getD j 0))).setCell ⟨g, j, none⟩ (.int .i64 (q.getD k 0))).drewN m) g cap (swapL q k j) := fun m => (hr.swap (by rw [hql.out]; exact hkn) (by rw [hql.out]; exact hjn)).drewN m
      have HSW := Lib.hid hsw
      have HRT : Hid (RevTo o (swapL q k j) (k + 1)) := revTo_step ht (by rw [← HN.out]; exact HJ.out) hlt
      have HWR : Hid (∀ m x y, Wr g w (((wr.setCell ⟨g, k, none⟩ x).setCell ⟨g, j, none⟩ y).drewN m)) := fun m x y => (((hw.set _ _).set _ _)).drewN m
      obtain ⟨x, hx⟩ : ∃ x, x = q.getD k 0 := ⟨_, rfl⟩
      obtain ⟨y, hy⟩ : ∃ y, y = q.getD j 0 := ⟨_, rfl⟩
      rw [← hx, ← hy] at HSW
      rw [← hx] at hck
      rw [← hy] at hcj
      obtain ⟨v2, hv2⟩ : ∃ v2, (wr.setCell ⟨g, k, none⟩ (.int .i64 y)).cell? ⟨g, j, none⟩ = some v2 := ⟨_, (World.cell?_setCell_other wr _ _ _ (by intro e; injection e with _ e _; omega)).trans hcj⟩
      have hf2 : (wr.setCell ⟨g, k, none⟩ (.int .i64 y)).frozen? ⟨g, j, none⟩ = false := (World.frozen?_setCell _ _ _ _).trans fj
      clear hx hy hsw hr ht hw hj
      go_wp2_with fail
      go_region
      go_wp2_with fail
      go_roundw
      case rel => exact ⟨k + 1, j - 1, _, by go_num, by go_num, by have := HJ.out; omega, by omega, HSW.out 1, HRT.out, HWR.out 1 _ _⟩
      case measure => simp [intOf]; omega
    · have hd := revTo_done ht (by rw [← HN.out]; exact hj) hlt hkj
      have HD := Lib.hid hd
      have d1 : decide (k < j) = false := by simpa using hlt
      clear hd ht hj
      go_wp2_with fail
      go_end0
      exact ⟨rfl, by rw [← HD.out]; exact hr, hw⟩
theorem reverse_zero (g cap : Nat) (w : World) : Calls Try.prog 48 #[.slice (some ⟨g, 0, none⟩) 0 cap] w fun e w' => e = .returned (.tuple #[]) ∧ w = w' := by
  go_enter Try.func48, Try.ntmps48
  go_wp2_with fail
  go_loop [2, 3] (fun u v => u = .int .i64 0 ∧ v = .int .i64 (-1)) (fun u _ => 0)
  case atStart => exact ⟨rfl, rfl⟩
  case round =>
    obtain ⟨rfl, rfl⟩ := hrel
    go_wp2_with fail
    go_end0
    exact ⟨rfl, rfl⟩
theorem reverse_nil (w : World) : Calls Try.prog 48 #[.slice none 0 0] w fun e w' => e = .returned (.tuple #[]) ∧ w = w' := by
  go_enter Try.func48, Try.ntmps48
  go_wp2_with fail
  go_loop [2, 3] (fun u v => u = .int .i64 0 ∧ v = .int .i64 (-1)) (fun u _ => 0)
  case atStart => exact ⟨rfl, rfl⟩
  case round =>
    obtain ⟨rfl, rfl⟩ := hrel
    go_wp2_with fail
    go_end0
    exact ⟨rfl, rfl⟩

/-- slices.Reverse of a row of one's own -/
theorem reverse_own (H : Nat) (v : Value) (o : List Int) (w : World) (h : Own w H v o) (hm : o.length ≤ 1000000) :
    Calls Try.prog 48 #[v] w fun e w' => e = .returned (.tuple #[]) ∧ Own w' H v o.reverse ∧ Below H w w' := by
  rcases Nat.eq_zero_or_pos o.length with h0 | h0
  · obtain rfl := List.eq_nil_of_length_eq_zero h0
    rcases h.2 with ⟨rfl, -⟩ | ⟨g, cap, cur, rfl, hg, hc, hn, hmx, hs, ht⟩
    · refine (reverse_nil w).mono ?_
      rintro e w' ⟨rfl, rfl⟩
      exact ⟨rfl, h, Below.refl _ _⟩
    · refine (reverse_zero g cap w).mono ?_
      rintro e w' ⟨rfl, rfl⟩
      exact ⟨rfl, h, Below.refl _ _⟩
  · obtain ⟨g, cap, rfl⟩ := Joins.ownsRow_form h h0
    have hB := (h.lt g rfl).1
    obtain ⟨h1, -, -⟩ := QRow.of_own h
    refine (reverse_row g cap o.length o w h1 rfl h0 hm).mono ?_
    rintro e w' ⟨rfl, h2, h3⟩
    have := h2.own hB
    rw [List.length_reverse] at this
    refine ⟨rfl, ?_, ⟨h3.os, h3.tape, h3.output, by rw [h3.size]; exact Nat.le_refl _, fun k hk => h3.block k (by omega)⟩⟩
    show World.ownsRow _ _ _ _ _ _ _
    rw [List.length_reverse]
    exact this
theorem own_nil {w : World} {H : Nat} {v : Value} {o : List Int} (h : Own w H v o) (k : v = .slice none 0 0) : o = [] := by
  subst k
  rcases h.2 with ⟨-, h0⟩ | ⟨g, cap, cur, e, _⟩
  · exact List.eq_nil_of_length_eq_zero h0
  · cases e

set_option maxHeartbeats 800000 in
theorem common_any (A : Option Addr) (c : Nat) (l : List Kn) (a b : Int) (w : World) (h : Knots w.heap.size w A l) (hl : l.length ≤ 100) :
    Calls Try.prog 11 #[.slice A l.length c, .int .i64 a, .int .i64 b] w fun e w' => (∃ r v o, e = .returned (.tuple #[v, .int .i64 r]) ∧ Why l [a, b] r ∧ Own w' w.heap.size v o ∧ (r ≠ 0 → o = []) ∧ (r = 0 → o = common (rev l) a b)) ∧ Below w.heap.size w w' := by
  have hmk : ∀ (fn : Fn) (first cap : Array Value) (W : World), (Instr.makeFunc fn first cap).run Try.prog W = .ok (.func fn first cap) W := fun _ _ _ _ => rfl
  obtain ⟨W, hW⟩ : ∃ W, W = w.alloc (.cells #[.slice none 0 0] 25) := ⟨_, rfl⟩
  have hBW : Below w.heap.size w W := by rw [hW]; exact Joins.below_alloc1 w _
  have hK : Knots w.heap.size W A l := h.below hBW
  have hT : TAt W.heap.size w.heap.size (.slice none 0 0) [] W := by
    rw [hW]
    exact ⟨(cell_of_row _ _ 0 _ _ _ (heap_new w _)).trans rfl, frozen_of_row _ _ 0 _ _ (heap_new w _), Own.nil _ _, by simp⟩
  have HS : Hid (w.heap.size ≤ W.heap.size) := hBW.size
  have HK := Lib.hid hK
  have HT := Lib.hid hT
  have HB := Lib.hid hBW
  clear h hK hT hBW
  go_enter Try.func11, Try.ntmps11
  go_wp2_with fail
  rw [← hW]
  clear hW
  refine (pair_C A c l a b w.heap.size W HK.out hl HT.out).mono ?_
  rintro e w1 ⟨⟨r, v, o, rfl, h1, h2, h3, h4⟩, hB1⟩
  have hc := h2.cell
  have H1 := Lib.hid h1
  have H2 := Lib.hid h2.own
  have H3 := Lib.hid h3
  have H4 := Lib.hid h4
  clear h1 h2 h3 h4
  go_wp2_with fail
  go_ret2
  exact ⟨⟨r, v, o, rfl, H1.out, H2.out.mono HS.out, fun e => (H3.out e).2, fun e => by
    obtain ⟨a1, -, a2⟩ := H4.out e
    rw [a2]
    exact run_common a1⟩, HB.out.trans hB1⟩

set_option maxHeartbeats 800000 in
theorem best_any (A : Option Addr) (c : Nat) (l : List Kn) (a b : Int) (w : World) (h : Knots w.heap.size w A l) (hl : l.length ≤ 100) :
    Calls Try.prog 12 #[.slice A l.length c, .int .i64 a, .int .i64 b] w fun e w' => (∃ r v o, e = .returned (.tuple #[v, .int .i64 r]) ∧ Why l [a, b] r ∧ Own w' w.heap.size v o ∧ (r ≠ 0 → o = []) ∧ (r = 0 → o = best (rev l) a b)) ∧ Below w.heap.size w w' := by
  have hmk : ∀ (fn : Fn) (first cap : Array Value) (W : World), (Instr.makeFunc fn first cap).run Try.prog W = .ok (.func fn first cap) W := fun _ _ _ _ => rfl
  obtain ⟨W, hW⟩ : ∃ W, W = w.alloc (.cells #[.slice none 0 0] 25) := ⟨_, rfl⟩
  have hBW : Below w.heap.size w W := by rw [hW]; exact Joins.below_alloc1 w _
  have hK : Knots w.heap.size W A l := h.below hBW
  have hT : TAt W.heap.size w.heap.size (.slice none 0 0) [] W := by
    rw [hW]
    exact ⟨(cell_of_row _ _ 0 _ _ _ (heap_new w _)).trans rfl, frozen_of_row _ _ 0 _ _ (heap_new w _), Own.nil _ _, by simp⟩
  have HS : Hid (w.heap.size < W.heap.size) := by rw [hW]; show _ < _; simp
  have HK := Lib.hid hK
  have HT := Lib.hid hT
  have HB := Lib.hid hBW
  clear h hK hT hBW
  go_enter Try.func12, Try.ntmps12
  go_wp2_with fail
  rw [← hW]
  clear hW
  refine (pair_B A c l a b w.heap.size W HK.out hl HT.out).mono ?_
  rintro e w1 ⟨⟨r, v, o, rfl, h1, h2, h3, h4⟩, hB1⟩
  have hc := h2.cell
  have H1 := Lib.hid h1
  have hown := h2.own
  have H3 := Lib.hid h3
  have H4 := Lib.hid h4
  have hlen : o.length ≤ 1000000 := by
    by_cases hr : r = 0
    · obtain ⟨-, -, e⟩ := h4 hr
      have h2 := run_len (rev l) (two a b)
      have h3 : (told PB (run (rev l) (two a b))).length ≤ (run (rev l) (two a b)).length := by unfold told; rw [List.length_map]; exact List.length_filter_le _ _
      have h5 : (rev l).length = l.length := by unfold rev; simp
      rw [e]
      omega
    · rw [(h3 hr).2]; simp
  clear h1 h2 h3 h4
  go_wp2_with fail
  refine (reverse_own W.heap.size v o w1 hown hlen).mono ?_
  rintro e w2 ⟨rfl, hown2, hB2⟩
  rw [← hB2.cell (p := ⟨w.heap.size, 0, none⟩) HS.out] at hc
  have H2 := Lib.hid hown2
  clear hown hown2
  go_wp2_with fail
  go_ret2
  exact ⟨⟨r, v, o.reverse, rfl, H1.out, H2.out.mono (Nat.le_of_lt HS.out), fun e => by rw [(H3.out e).2]; rfl, fun e => by
    obtain ⟨a1, -, a2⟩ := H4.out e
    rw [a2]
    exact run_best a1⟩, HB.out.trans (hB1.trans (hB2.mono (Nat.le_of_lt HS.out)))⟩

set_option maxHeartbeats 800000 in
theorem base_any (A : Option Addr) (c : Nat) (l : List Kn) (a b : Int) (w : World) (h : Knots w.heap.size w A l) (hl : l.length ≤ 100) :
    Calls Try.prog 13 #[.slice A l.length c, .int .i64 a, .int .i64 b] w fun e w' => (∃ r x s, e = .returned (.tuple #[.int .i64 x, .int .i64 s]) ∧ Why l [a, b] r ∧ (r ≠ 0 → x = 0 ∧ s = r) ∧ (r = 0 → (best (rev l) a b = [] → x = 0 ∧ s = 9) ∧ (best (rev l) a b ≠ [] → x = (best (rev l) a b).getD 0 0 ∧ s = 0))) ∧ Below w.heap.size w w' := by
  go_enter Try.func13, Try.ntmps13
  go_wp2_with fail
  refine (best_any A c l a b w h hl).mono ?_
  rintro e w1 ⟨⟨r, v, o, rfl, h1, h2, h3, h4⟩, hB⟩
  obtain ⟨A5, n5, c5, rfl⟩ := own_shapeQ h2
  obtain rfl := own_len h2
  have H1 := Lib.hid h1
  have H3 := Lib.hid h3
  have H4 := Lib.hid h4
  clear h1 h3 h4
  by_cases hr : r = 0
  · subst hr
    have ho := H4.out rfl
    have HO := Lib.hid ho
    rcases Nat.eq_zero_or_pos o.length with h0 | h0
    · have d0 : ((o.length : Int) == 0) = true := by simpa using h0
      have H0 := Lib.hid h0
      clear ho h0 h2
      go_wp2_with fail
      go_ret2
      exact ⟨⟨0, _, _, rfl, H1.out, fun e => absurd rfl e, fun _ => ⟨fun _ => ⟨rfl, rfl⟩, fun e => absurd (List.eq_nil_of_length_eq_zero (by rw [← HO.out]; exact H0.out)) e⟩⟩, hB⟩
    · have d0 : ((o.length : Int) == 0) = false := beq_eq_false_iff_ne.2 (by omega)
      obtain ⟨g, cap, hgc⟩ := Joins.ownsRow_form h2 h0
      injection hgc with hg1 hg2 hg3
      subst hg1 hg3
      obtain ⟨hq, -, -⟩ := QRow.of_own h2
      have hcell := hq.cell h0
      obtain ⟨x, hx⟩ : ∃ x, x = o.getD 0 0 := ⟨_, rfl⟩
      rw [← hx] at hcell
      have HX := Lib.hid hx
      have hp : Hid (0 < o.length) := h0
      clear hx ho hq h2 hg2
      go_wp2_with fail
      go_ret2
      exact ⟨⟨0, x, _, rfl, H1.out, fun e => absurd rfl e, fun _ => ⟨fun e => absurd hp.out (by rw [HO.out, e]; simp), fun _ => ⟨by rw [HX.out, HO.out], rfl⟩⟩⟩, hB⟩
  · have hre : (r == 0) = false := by simpa using hr
    go_wp2_with fail
    go_ret2
    exact ⟨⟨r, 0, r, rfl, H1.out, fun _ => ⟨rfl, rfl⟩, fun e => absurd e hr⟩, hB⟩
end Go.Proofs.Ytpaegpbabfohcaa.WalkDag
