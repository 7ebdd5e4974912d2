/-
  dag: Of, Tips.
-/
import Derived.Test.YtpaegpbabfohcaaWalkDagH
namespace Go.Proofs.Ytpaegpbabfohcaa.WalkDag
open Go.RowKit Go.Proofs.Ytpaegpbabfohcaa.HeapPure Go.Proofs.Ytpaegpbabfohcaa.HeapA Go.Proofs.Ytpaegpbabfohcaa.MapAt Go.Proofs.Ytpaegpbabfohcaa.DagPure Go.Proofs.Ytpaegpbabfohcaa.WalkInts
set_option linter.unusedVariables false
set_option linter.unusedSimpArgs false
set_option maxRecDepth 100000

theorem mem_getD {l : List Int} {i : Nat} (h : i < l.length) : l.getD i 0 ∈ l := by
  rw [List.getD_eq_getElem?_getD, List.getElem?_eq_getElem h]; exact List.getElem_mem h
theorem getD_mem {l : List Int} {x : Int} (h : x ∈ l) : ∃ i, i < l.length ∧ l.getD i 0 = x := by
  obtain ⟨i, hi, rfl⟩ := List.getElem_of_mem h
  exact ⟨i, hi, by rw [List.getD_eq_getElem?_getD, List.getElem?_eq_getElem hi]; rfl⟩
set_option maxHeartbeats 1600000 in
theorem index_any (A : Option Addr) (c : Nat) (l : List Int) (x : Int) (w : World) (h : Ints w A l) (hl : l.length ≤ 1000000) :
    Calls Try.prog 76 #[.slice A l.length c, .int .i64 x] w fun e w' => (∃ r : Int, e = .returned (.int .i64 r) ∧ (0 ≤ r ↔ x ∈ l)) ∧ w = w' := by
  obtain ⟨m, hm⟩ : ∃ m, m = l.length := ⟨_, rfl⟩
  rw [← hm]
  have hmm : m ≤ 1000000 := by omega
  have HM := Lib.hid hm
  clear hm hl
  go_enter Try.func76, Try.ntmps76
  rcases h with hnil | ⟨g, off, rfl, hc⟩
  · have HNil := Lib.hid hnil
    have hm0 : m = 0 := by rw [HM.out, hnil]; rfl
    clear hnil
    subst hm0
    go_wp2_with fail
    go_loop [8] (fun v => v = .int .i64 0) (fun v => 0)
    case atStart => rfl
    case round =>
      subst hrel
      go_wp2_with fail
      go_ret
      exact ⟨⟨-1, rfl, by rw [HNil.out]; simp⟩, rfl⟩
  · go_wp2_with fail
    go_loop [8] (fun v => ∃ i : Nat, v = .int .i64 i ∧ i ≤ m ∧ (∀ j, j < i → l.getD j 0 ≠ x)) (fun v => m - (intOf v).toNat)
    case atStart => exact ⟨0, rfl, Nat.zero_le _, fun j hj => absurd hj (by omega)⟩
    case round =>
      obtain ⟨i, rfl, hi, hno⟩ := hrel
      have HNO := Lib.hid hno
      clear hno
      by_cases hil : i < m
      · have hci := hc i (by rw [← HM.out]; exact hil)
        have hmem : Hid (l.getD i 0 ∈ l) := mem_getD (by rw [← HM.out]; exact hil)
        obtain ⟨y, hy⟩ : ∃ y, y = l.getD i 0 := ⟨_, rfl⟩
        rw [← hy] at hci
        have HY := Lib.hid hy
        clear hy hc
        by_cases e : x = y
        · have he : (x == y) = true := by simpa using e
          have HE := Lib.hid e
          clear e
          go_wp2_with fail
          go_ret
          exact ⟨⟨_, rfl, by
            constructor
            · intro _; rw [HE.out, HY.out]; exact hmem.out
            · intro _; omega⟩, rfl⟩
        · have he : (x == y) = false := by simpa using e
          have HE := Lib.hid e
          clear e
          go_wp2_with fail
          go_round
          case rel => exact ⟨i + 1, by go_num, by omega, fun j hj => by
            rcases Nat.lt_or_ge j i with q | q
            · exact HNO.out j q
            · have : j = i := by omega
              subst this
              rw [← HY.out]
              exact fun k => HE.out k.symm⟩
          case measure => simp [intOf]; omega
      · have hie : i = m := by omega
        have HIE := Lib.hid hie
        clear hie hc
        go_wp2_with fail
        go_ret
        exact ⟨⟨-1, rfl, by
          constructor
          · intro h; omega
          · intro h
            obtain ⟨j, hj, hx⟩ := getD_mem h
            exact absurd hx (HNO.out j (by rw [HIE.out, HM.out]; exact hj))⟩, rfl⟩
set_option maxHeartbeats 800000 in
theorem contains_any (A : Option Addr) (c : Nat) (l : List Int) (x : Int) (w : World) (h : Ints w A l) (hl : l.length ≤ 1000000) :
    Calls Try.prog 51 #[.slice A l.length c, .int .i64 x] w fun e w' => e = .returned (.bool (decide (x ∈ l))) ∧ w = w' := by
  go_enter Try.func51, Try.ntmps51
  go_wp2_with fail
  refine (index_any A c l x w h hl).mono ?_
  rintro e w' ⟨⟨r, rfl, hr⟩, rfl⟩
  have hd : decide (x ∈ l) = decide (0 ≤ r) := decide_eq_decide.2 hr.symm
  have HD := Lib.hid hd
  clear hr hd
  go_wp2_with fail
  go_ret
  exact ⟨by show Ending.returned (Value.bool (decide _)) = _; rw [HD.out], rfl⟩

set_option maxHeartbeats 1600000 in
theorem of_any (A : Option Addr) (c : Nat) (l : List Kn) (n x : Int) (w : World) (h : Knots w.heap.size w A l) (hl : l.length ≤ 100) :
    Calls Try.prog 18 #[.slice A l.length c, .int .i64 n, .int .i64 x] w fun e w' => (∃ r1 r2 bb s, e = .returned (.tuple #[.bool bb, .int .i64 s]) ∧ Why l [x] r1 ∧ (r1 ≠ 0 → bb = false ∧ s = r1) ∧ (r1 = 0 → Why l [n] r2 ∧ s = r2 ∧ (r2 ≠ 0 → bb = false) ∧ (r2 = 0 → bb = decide (x ∈ back (rev l) n)))) ∧ Below w.heap.size w w' := by
  have HK := Lib.hid h
  clear h
  go_enter Try.func18, Try.ntmps18
  go_wp2_with fail
  refine (ready_any A c l [x] w.heap.size 1 (w.alloc (.cells #[.int .i64 x] 3)) ((HK.out.below (Joins.below_alloc1 w _)).mono (by simp)) hl (by simp) (by simp) (fun i hi => ?_)).mono ?_
  · have : i = 0 := by simp at hi; omega
    subst this
    exact (cell_of_row _ _ 0 _ _ _ (heap_new w _)).trans rfl
  rintro e w1 ⟨⟨r, rfl, hr⟩, hB1⟩
  have hB : Below w.heap.size w w1 := (Joins.below_alloc1 w _).trans (hB1.mono (by simp))
  have HR := Lib.hid hr
  have HB := Lib.hid hB
  have HK1 : Hid (Knots w1.heap.size w1 A l) := (HK.out.below hB).mono hB.size
  clear hr hB1 hB
  by_cases hr0 : r = 0
  · subst hr0
    go_wp2_with fail
    refine (back_any A c l n w1 HK1.out hl).mono ?_
    rintro e w2 ⟨⟨r2, v, o, rfl, h1, h2, h3, h4⟩, hB2⟩
    obtain ⟨A5, n5, c5, rfl⟩ := own_shapeQ h2
    obtain rfl := own_len h2
    obtain ⟨A6, c6, e6, hi6, -, h6, -⟩ := own_reads h2
    injection e6 with e61 e62 e63
    subst e61 e63
    have H1 := Lib.hid h1
    have H3 := Lib.hid h3
    have H4 := Lib.hid h4
    have hlen : o.length ≤ 1000000 := by
      by_cases hr : r2 = 0
      · rw [h4 hr]
        unfold back
        rw [List.length_map]
        have h5 : (rev l).length = l.length := by unfold rev; simp
        have := List.length_filter_le (fun k => ofGo (rev l) [n] k.n) (rev l)
        omega
      · rw [(h3 hr).2]; simp
    clear h1 h3 h4 h2 e62 h6
    go_wp2_with fail
    refine (contains_any A5 c5 o x w2 hi6 hlen).mono ?_
    rintro e w' ⟨rfl, rfl⟩
    obtain ⟨bb, hbb⟩ : ∃ bb, decide (x ∈ o) = bb := ⟨_, rfl⟩
    rw [hbb]
    have HBB := Lib.hid hbb
    clear hbb hi6
    go_wp2_with fail
    go_ret2
    exact ⟨⟨0, r2, bb, r2, rfl, HR.out, fun e => absurd rfl e, fun _ => ⟨H1.out, rfl, fun e => by rw [← HBB.out, (H3.out e).2]; simp, fun e => by rw [← HBB.out, H4.out e]⟩⟩, HB.out.trans (hB2.mono HB.out.size)⟩
  · have hre : (r == 0) = false := by simpa using hr0
    go_wp2_with fail
    go_ret2
    exact ⟨⟨r, 0, false, r, rfl, HR.out, fun _ => ⟨rfl, rfl⟩, fun e => absurd e hr0⟩, HB.out⟩
end Go.Proofs.Ytpaegpbabfohcaa.WalkDag
