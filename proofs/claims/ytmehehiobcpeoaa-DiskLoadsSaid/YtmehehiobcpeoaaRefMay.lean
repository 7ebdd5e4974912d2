/-
  The walk of pleachref07's May.
-/
import Derived.Test.YtmehehiobcpeoaaRefSame
namespace Go.Proofs.Ytmehehiobcpeoaa.Disk
open Go.RowKit Go.Proofs.Ytmehehiobcpeoaa.DiskRows
set_option linter.unusedVariables false
set_option linter.unusedSimpArgs false
set_option maxRecDepth 100000

set_option maxHeartbeats 3200000 in
theorem refMay_any (A A' : Option Addr) (c c' : Nat) (l : List ByteArray) (C : List (Int × ByteArray)) (w : World) (h : Txs w A l) (h' : Wrs w A' C) (hn : l.length ≤ 100000) (hn' : C.length ≤ 100000) (hz : ∀ x ∈ C, (Lit.int .i64 x.1).wf = true ∧ x.2.size ≤ maxLen) :
    Calls Try.prog 16 #[.agg #[.slice A l.length c, .slice A' C.length c']] w fun x w' => x = .returned (.bool (decide (mayP l C))) ∧ Below w.heap.size w w' := by
  have ka := Joins.below_alloc1 w (.cells #[.slice A l.length c, .slice A' C.length c'] 32)
  have HK := Lib.hid ka
  have HT := Lib.hid (fun W (q : Below w.heap.size w W) => And.intro (h.later q) (h'.later q))
  have HZ := Lib.hid hz
  have hni : (l.length : Int) ≤ 100000 := by omega
  have hni' : (C.length : Int) ≤ 100000 := by omega
  clear h h' ka hz
  by_cases g1 : (l.length : Int) < 16
  · have e : decide (mayP l C) = false := decide_eq_false (fun k => by have := k.1; omega)
    rw [e]
    go_enter Try.func16, Try.ntmps16
    go_wp2
    go_ret
    exact ⟨rfl, HK.out⟩
  · by_cases g2 : (4096 : Int) < l.length
    · have e : decide (mayP l C) = false := decide_eq_false (fun k => by have := k.2.1; omega)
      rw [e]
      go_enter Try.func16, Try.ntmps16
      go_wp2
      go_ret
      exact ⟨rfl, HK.out⟩
    · by_cases g3 : (4096 : Int) < C.length
      · have e : decide (mayP l C) = false := decide_eq_false (fun k => by have := k.2.2.1; omega)
        rw [e]
        go_enter Try.func16, Try.ntmps16
        go_wp2
        go_ret
        exact ⟨rfl, HK.out⟩
      · go_enter Try.func16, Try.ntmps16
        go_upto_region 4 with fail
        have hbx := heap_alloc_last w (.cells #[.slice A l.length c, .slice A' C.length c'] 32)
        generalize w.alloc _ = w0 at *
        have hst : ∀ wr : World, Below w.heap.size w wr ∧ wr.heap = w0.heap → (wr.cell? ⟨w.heap.size, 0, none⟩ = some (.slice A l.length c) ∧ wr.cell? ⟨w.heap.size, 1, none⟩ = some (.slice A' C.length c')) := fun wr hw => by
          rw [← hw.2] at hbx
          exact ⟨(cell_of_row wr _ 0 _ _ _ hbx).trans rfl, (cell_of_row wr _ 1 _ _ _ hbx).trans rfl⟩
        have HST := Lib.hid hst
        clear hst hbx
        go_loopw [3] (fun i wr => ∃ k : Nat, k ≤ l.length ∧ i = .int .i64 k ∧ (Below w.heap.size w wr ∧ wr.heap = w0.heap) ∧ ∀ j, j < k → (l.getD j ByteArray.empty).size = 128) (fun i _ => l.length - (intOf i).toNat)
        case atStart => exact ⟨0, by omega, rfl, ⟨HK.out, rfl⟩, fun j h => by omega⟩
        case round =>
          obtain ⟨k, hk, rfl, hwr, hall⟩ := hrel
          obtain ⟨x0, x1⟩ := HST.out wr hwr
          have HWR := Lib.hid hwr
          have HALL := Lib.hid hall
          clear hwr hall
          by_cases hlt : k < l.length
          · obtain ⟨g, off, rfl, q1⟩ := txs_at (HT.out wr HWR.out.1).1 hlt
            obtain ⟨s, hs⟩ : ∃ s, l.getD k ByteArray.empty = s := ⟨_, rfl⟩
            rw [hs] at q1
            have hmem : s ∈ l := by rw [← hs, List.getD_eq_getElem?_getD, List.getElem?_eq_getElem hlt]; exact List.getElem_mem hlt
            have hki : (k : Int) < (l.length : Int) := by omega
            by_cases h128 : (s.size : Int) = 128
            · have hn2 : ∀ j, j < k + 1 → (l.getD j ByteArray.empty).size = 128 := fun j hj => by
                rcases Nat.lt_succ_iff_lt_or_eq.1 hj with h | rfl
                · exact HALL.out j h
                · rw [hs]; omega
              have HN2 := Lib.hid hn2
              clear hn2 hs hmem
              go_wp2
              refine ⟨⟨k + 1, by omega, by go_num, HWR.out, HN2.out⟩, by simp [intOf]; omega⟩
            · have e : decide (mayP l C) = false := decide_eq_false (fun k => h128 (by have := k.2.2.2.1 s hmem; omega))
              have E := Lib.hid e
              clear e hs hmem
              go_wp2
              go_ret
              exact ⟨by rw [E.out]; first | done | rfl, HWR.out.1⟩
          · have hkl : k = l.length := by omega
            subst hkl
            have hal : ∀ s ∈ l, s.size = 128 := fun s hs => by
              obtain ⟨j, hj, rfl⟩ := List.getElem_of_mem hs
              have := HALL.out j hj
              rwa [List.getD_eq_getElem?_getD, List.getElem?_eq_getElem hj] at this
            have HAL := Lib.hid hal
            clear hal HALL hk hlt
            go_upto_region 9 with fail
            clear x0 x1
            go_loopw [4] (fun i wr => ∃ k : Nat, k ≤ C.length ∧ i = .int .i64 k ∧ (Below w.heap.size w wr ∧ wr.heap = w0.heap) ∧ ∀ j, j < k → 0 ≤ (C.getD j (0, ByteArray.empty)).1 ∧ (C.getD j (0, ByteArray.empty)).1 < (l.length : Int) ∧ (C.getD j (0, ByteArray.empty)).2.size = 128) (fun i _ => C.length - (intOf i).toNat)
            case atStart => exact ⟨0, by omega, rfl, HWR.out, fun j h => by omega⟩
            case round =>
              obtain ⟨k, hk, rfl, hwr, hall⟩ := hrel
              obtain ⟨x0, x1⟩ := HST.out wr hwr
              have HWR2 := Lib.hid hwr
              have HALL := Lib.hid hall
              clear hwr hall
              by_cases hlt : k < C.length
              · obtain ⟨g, off, rfl, q1, q2⟩ := wrs_at (HT.out wr HWR2.out.1).2 hlt
                obtain ⟨x, hx⟩ : ∃ x, C.getD k (0, ByteArray.empty) = x := ⟨_, rfl⟩
                rw [hx] at q1 q2
                have hmem : x ∈ C := by rw [← hx, List.getD_eq_getElem?_getD, List.getElem?_eq_getElem hlt]; exact List.getElem_mem hlt
                have hgood : (0 ≤ x.1 ∧ x.1 < (l.length : Int) ∧ x.2.size = 128) → ∀ j, j < k + 1 → 0 ≤ (C.getD j (0, ByteArray.empty)).1 ∧ (C.getD j (0, ByteArray.empty)).1 < (l.length : Int) ∧ (C.getD j (0, ByteArray.empty)).2.size = 128 := fun h j hj => by
                  rcases Nat.lt_succ_iff_lt_or_eq.1 hj with h' | rfl
                  · exact HALL.out j h'
                  · rw [hx]; exact h
                have hbad : ¬ (0 ≤ x.1 ∧ x.1 < (l.length : Int) ∧ x.2.size = 128) → decide (mayP l C) = false := fun h => decide_eq_false (fun k => h (k.2.2.2.2 x hmem))
                have hzz := (HZ.out x hmem).2
                obtain ⟨i, s⟩ := x
                dsimp only at q1 q2 hgood hbad hzz
                have hsl : (s.size : Int) ≤ 9223372036854775807 := by unfold maxLen at hzz; omega
                have hki : (k : Int) < (C.length : Int) := by omega
                have HG := Lib.hid hgood
                have HBAD := Lib.hid hbad
                clear hgood hbad hx hmem hzz
                by_cases t1 : i < 0
                · have e := HBAD.out (fun k => by omega)
                  have E := Lib.hid e
                  have d1 : decide (i < 0) = true := decide_eq_true t1
                  clear e t1
                  go_upto_region 11 with fail
                  go_region
                  go_wp2
                  go_ret
                  exact ⟨by rw [E.out]; first | done | rfl, HWR2.out.1.drew⟩
                · have d1 : decide (i < 0) = false := decide_eq_false t1
                  by_cases t2 : (l.length : Int) ≤ i
                  · have e := HBAD.out (fun k => by omega)
                    have E := Lib.hid e
                    have d2 : decide ((l.length : Int) ≤ i) = true := decide_eq_true t2
                    clear e t1 t2
                    go_upto_region 11 with fail
                    go_region
                    go_wp2
                    go_ret
                    exact ⟨by rw [E.out]; first | done | rfl, HWR2.out.1.drew⟩
                  · have d2 : decide ((l.length : Int) ≤ i) = false := decide_eq_false t2
                    by_cases t3 : (s.size : Int) = 128
                    · have HG2 := Lib.hid (HG.out ⟨by omega, by omega, by omega⟩)
                      clear t1 t2 HG HBAD
                      go_upto_region 11 with fail
                      go_region
                      go_wp2
                      go_round
                      case rel => exact ⟨k + 1, by omega, by go_num, ⟨HWR2.out.1.drew, HWR2.out.2⟩, HG2.out⟩
                      case measure => simp [intOf]; omega
                    · have e := HBAD.out (fun k => by omega)
                      have E := Lib.hid e
                      clear e t1 t2
                      go_upto_region 11 with fail
                      go_region
                      go_wp2
                      go_ret
                      exact ⟨by rw [E.out]; first | done | rfl, HWR2.out.1.drew⟩
              · obtain rfl : k = C.length := by omega
                have e : decide (mayP l C) = true := decide_eq_true ⟨by omega, by omega, by omega, HAL.out, fun x hx => by
                  obtain ⟨j, hj, rfl⟩ := List.getElem_of_mem hx
                  have := HALL.out j hj
                  rwa [List.getD_eq_getElem?_getD, List.getElem?_eq_getElem hj] at this⟩
                have E := Lib.hid e
                clear e
                go_wp2
                go_ret
                exact ⟨by rw [E.out]; first | done | rfl, HWR2.out.1⟩
end Go.Proofs.Ytmehehiobcpeoaa.Disk
