/-
  The walk of may.
-/
import Derived.Test.YtfbakelpplpomaaGreatDoorWalkDiskG
namespace Go.Proofs.YtfbakelpplpomaaGreatDoor.Disk
open Go.RowKit Go.Proofs.YtfbakelpplpomaaGreatDoor.DiskRows
set_option linter.unusedVariables false
set_option linter.unusedSimpArgs false
set_option maxRecDepth 100000

/-- may an image be? -/
def mayP (l : List ByteArray) (C : List (Int × ByteArray)) : Prop :=
  16 ≤ l.length ∧ l.length ≤ 4096 ∧ C.length ≤ 4096 ∧ (∀ s ∈ l, s.size = 128) ∧ ∀ x ∈ C, 0 ≤ x.1 ∧ x.1 < (l.length : Int) ∧ x.2.size = 128
instance (l : List ByteArray) (C : List (Int × ByteArray)) : Decidable (mayP l C) := by unfold mayP; infer_instance
theorem sector_any (s : ByteArray) (w : World) (r : Bool) (hr : r = decide ((s.size : Int) = 128)) :
    Calls Tryz.prog 83 #[.string s] w fun x w' => x = .returned (.bool r) ∧ w = w' := by
  subst hr
  by_cases h : (s.size : Int) = 128
  · go_enter Tryz.func83, Tryz.ntmps83
    go_wp2
    go_ret
    exact ⟨by rw [decide_eq_true h]; simp [h], rfl⟩
  · go_enter Tryz.func83, Tryz.ntmps83
    go_wp2
    go_ret
    exact ⟨by rw [decide_eq_false h]; simp [h], rfl⟩
set_option maxHeartbeats 3200000 in
theorem may_any (A A' : Option Addr) (c c' : Nat) (l : List ByteArray) (C : List (Int × ByteArray)) (w : World) (h : Txs w A l) (h' : Wrs w A' C) (hn : l.length ≤ 100000) (hn' : C.length ≤ 100000) :
    Calls Tryz.prog 56 #[.agg #[.slice A l.length c, .slice A' C.length c']] w fun x w' => x = .returned (.bool (decide (mayP l C))) ∧ Below w.heap.size w w' := by
  have ka := Joins.below_alloc1 w (.cells #[.slice A l.length c, .slice A' C.length c'] 51)
  have HT := Lib.hid (h.later ka)
  have HW := Lib.hid (h'.later ka)
  have HK := Lib.hid ka
  have hni : (l.length : Int) ≤ 100000 := by omega
  have hni' : (C.length : Int) ≤ 100000 := by omega
  clear h h' ka
  by_cases g1 : (l.length : Int) < 16
  · have e : decide (mayP l C) = false := decide_eq_false (fun k => by have := k.1; omega)
    rw [e]
    go_enter Tryz.func56, Tryz.ntmps56
    go_wp2
    go_ret
    exact ⟨rfl, HK.out⟩
  · by_cases g2 : (4096 : Int) < l.length
    · have e : decide (mayP l C) = false := decide_eq_false (fun k => by have := k.2.1; omega)
      rw [e]
      go_enter Tryz.func56, Tryz.ntmps56
      go_wp2
      go_ret
      exact ⟨rfl, HK.out⟩
    · by_cases g3 : (4096 : Int) < C.length
      · have e : decide (mayP l C) = false := decide_eq_false (fun k => by have := k.2.2.1; omega)
        rw [e]
        go_enter Tryz.func56, Tryz.ntmps56
        go_wp2
        go_ret
        exact ⟨rfl, HK.out⟩
      · go_enter Tryz.func56, Tryz.ntmps56
        go_upto_region 6 with fail
        have hgw : (⟨w.heap.size, 0, none⟩ : Addr).block < (w.alloc (.cells #[.slice A l.length c, .slice A' C.length c'] 51)).heap.size := by simp
        have a1 : (w.alloc (.cells #[.slice A l.length c, .slice A' C.length c'] 51)).cell? ⟨w.heap.size, 1, none⟩ = some (.slice A' C.length c') := (cell_of_row _ _ 1 _ _ _ (heap_alloc_last _ _)).trans rfl
        have HA := Lib.hid (And.intro a1 hgw)
        clear a1 hgw
        generalize w.alloc _ = w0 at *
        go_loopw [27] (fun i wr => ∃ k : Nat, k ≤ l.length ∧ i = .int .i64 k ∧ wr = w0 ∧ ∀ j, j < k → (l.getD j ByteArray.empty).size = 128) (fun i _ => l.length - (intOf i).toNat)
        case atStart => exact ⟨0, by omega, rfl, rfl, fun j h => by omega⟩
        case round =>
          obtain ⟨k, hk, rfl, hwr, hall⟩ := hrel
          subst hwr
          by_cases hlt : k < l.length
          · obtain ⟨g, off, rfl, hg, hc⟩ : ∃ g off, A = some ⟨g, off, none⟩ ∧ g < wr.heap.size ∧ ∀ i, i < l.length → wr.cell? ⟨g, off + i, none⟩ = some (.string (l.getD i ByteArray.empty)) := by
              rcases HT.out with h0 | h0
              · rw [h0] at hlt; simp at hlt
              · exact h0
            have q1 := hc k hlt
            obtain ⟨s, hs⟩ : ∃ s, l.getD k ByteArray.empty = s := ⟨_, rfl⟩
            rw [hs] at q1
            have hmem : s ∈ l := by rw [← hs, List.getD_eq_getElem?_getD, List.getElem?_eq_getElem hlt]; exact List.getElem_mem hlt
            have HALL := Lib.hid hall
            clear hc hall
            by_cases h128 : (s.size : Int) = 128
            · have hsec := sector_any s wr true (by rw [decide_eq_true h128])
              have HS := Lib.hid hsec
              have HN := Lib.hid (show s.size = 128 by omega)
              clear hsec h128
              go_wp2_with (go_at_call 83; go_must (refine HS.out.mono ?_; rintro e w1 ⟨rfl, rfl⟩))
              go_round
              case rel => exact ⟨k + 1, by omega, by go_num, by trivial, fun j hj => by
                rcases Nat.lt_succ_iff_lt_or_eq.1 hj with h | rfl
                · exact HALL.out j h
                · rw [hs]; exact HN.out⟩
              case measure => simp [intOf]; omega
            · have hsec := sector_any s wr false (by rw [decide_eq_false h128])
              have HS := Lib.hid hsec
              have e : decide (mayP l C) = false := decide_eq_false (fun k => h128 (by have := k.2.2.2.1 s hmem; omega))
              have E := Lib.hid e
              clear hsec h128 e
              go_wp2_with (go_at_call 83; go_must (refine HS.out.mono ?_; rintro e w1 ⟨rfl, rfl⟩))
              go_ret
              exact ⟨by rw [E.out]; first | done | rfl, HK.out⟩
          · have hkl : k = l.length := by omega
            subst hkl
            have HALL := Lib.hid (show ∀ s ∈ l, s.size = 128 from fun s hs => by
              obtain ⟨j, hj, rfl⟩ := List.getElem_of_mem hs
              have := hall j hj
              rwa [List.getD_eq_getElem?_getD, List.getElem?_eq_getElem hj] at this)
            have a1 := HA.out.1
            have HW2 := HW.out
            have hlt0 := HA.out.2
            clear hall hk hlt
            go_upto_region 12 with fail
            generalize wr = w0 at *
            go_loopw [39] (fun i wr => ∃ k : Nat, k ≤ C.length ∧ i = .int .i64 k ∧ Below w0.heap.size w0 wr ∧ ∀ j, j < k → 0 ≤ (C.getD j (0, ByteArray.empty)).1 ∧ (C.getD j (0, ByteArray.empty)).1 < (l.length : Int) ∧ (C.getD j (0, ByteArray.empty)).2.size = 128) (fun i _ => C.length - (intOf i).toNat)
            case atStart => exact ⟨0, by omega, rfl, Below.refl _ _, fun j h => by omega⟩
            case round =>
              obtain ⟨k, hk, rfl, bk, hall⟩ := hrel
              by_cases hlt : k < C.length
              · obtain ⟨g, off, rfl, hg, hc⟩ : ∃ g off, A' = some ⟨g, off, none⟩ ∧ g < w0.heap.size ∧ ∀ k, k < C.length → w0.cell? ⟨g, off + k * 2, none⟩ = some (.int .i64 (C.getD k (0, ByteArray.empty)).1) ∧ w0.cell? ⟨g, off + k * 2 + 1, none⟩ = some (.string (C.getD k (0, ByteArray.empty)).2) := by
                  rcases HW2 with h0 | h0
                  · rw [h0] at hlt; simp at hlt
                  · exact h0
                obtain ⟨q1, q2⟩ := hc k hlt
                have q3 := (bk.cell (p := ⟨g, off + k * 2, none⟩) hg).trans q1
                have q4 := (bk.cell (p := ⟨g, off + k * 2 + 1, none⟩) hg).trans q2
                obtain ⟨x, hx⟩ : ∃ x, C.getD k (0, ByteArray.empty) = x := ⟨_, rfl⟩
                rw [hx] at q3 q4
                have hmem : x ∈ C := by rw [← hx, List.getD_eq_getElem?_getD, List.getElem?_eq_getElem hlt]; exact List.getElem_mem hlt
                have hgood : (0 ≤ x.1 ∧ x.1 < (l.length : Int) ∧ x.2.size = 128) → ∀ j, j < k + 1 → 0 ≤ (C.getD j (0, ByteArray.empty)).1 ∧ (C.getD j (0, ByteArray.empty)).1 < (l.length : Int) ∧ (C.getD j (0, ByteArray.empty)).2.size = 128 := fun h j hj => by
                  rcases Nat.lt_succ_iff_lt_or_eq.1 hj with h' | rfl
                  · exact hall j h'
                  · rw [hx]; exact h
                have hbad : ¬ (0 ≤ x.1 ∧ x.1 < (l.length : Int) ∧ x.2.size = 128) → decide (mayP l C) = false := fun h => decide_eq_false (fun k => h (k.2.2.2.2 x hmem))
                obtain ⟨i, s⟩ := x
                dsimp only at q3 q4 hgood hbad
                have kx : Below w0.heap.size w0 (wr.alloc (.cells #[.int .i64 i, .string s] 89)) := bk.trans ((Joins.below_alloc1 wr _).mono bk.size)
                have HG := Lib.hid hgood
                have a5 : (wr.alloc (.cells #[.int .i64 i, .string s] 89)).cell? ⟨wr.heap.size, 0, none⟩ = some (.int .i64 i) := (cell_of_row _ _ 0 _ _ _ (heap_alloc_last _ _)).trans rfl
                have a6 : (wr.alloc (.cells #[.int .i64 i, .string s] 89)).cell? ⟨wr.heap.size, 1, none⟩ = some (.string s) := (cell_of_row _ _ 1 _ _ _ (heap_alloc_last _ _)).trans rfl
                have HX := Lib.hid kx
                have HC2 := Lib.hid hc
                clear hc hall hgood q1 q2 hx hmem kx
                by_cases i0 : i < 0
                · have e := hbad (by omega)
                  have E := Lib.hid e
                  clear hbad e
                  go_wp2_with fail
                  go_ret
                  exact ⟨by rw [E.out]; first | done | rfl, HK.out.trans (HX.out.mono HK.out.size)⟩
                · by_cases i1 : (l.length : Int) ≤ i
                  · have e := hbad (by omega)
                    have E := Lib.hid e
                    clear hbad e
                    go_wp2_with fail
                    go_ret
                    exact ⟨by rw [E.out]; first | done | rfl, HK.out.trans (HX.out.mono HK.out.size)⟩
                  · by_cases h128 : (s.size : Int) = 128
                    · have hg2 := HG.out (by omega)
                      have HG2 := Lib.hid hg2
                      clear hbad hg2
                      go_wp2_with (go_at_call 83; go_must (refine (sector_any s _ true (decide_eq_true h128).symm).mono ?_; rintro e w1 ⟨rfl, rfl⟩))
                      go_round
                      case rel => exact ⟨k + 1, by omega, by go_num, HX.out, HG2.out⟩
                      case measure => simp [intOf]; omega
                    · have e := hbad (by omega)
                      have E := Lib.hid e
                      clear hbad e
                      go_wp2_with (go_at_call 83; go_must (refine (sector_any s _ false (decide_eq_false h128).symm).mono ?_; rintro e w1 ⟨rfl, rfl⟩))
                      go_ret
                      exact ⟨by rw [E.out]; first | done | rfl, HK.out.trans (HX.out.mono HK.out.size)⟩
              · have hkl : k = C.length := by omega
                subst hkl
                have e : decide (mayP l C) = true := decide_eq_true ⟨by omega, by omega, by omega, HALL.out, fun x hx => by
                  obtain ⟨j, hj, rfl⟩ := List.getElem_of_mem hx
                  have := hall j hj
                  rwa [List.getD_eq_getElem?_getD, List.getElem?_eq_getElem hj] at this⟩
                have E := Lib.hid e
                clear hall e
                go_wp2
                go_ret
                exact ⟨by rw [E.out]; first | done | rfl, HK.out.trans (bk.mono HK.out.size)⟩
end Go.Proofs.YtfbakelpplpomaaGreatDoor.Disk
