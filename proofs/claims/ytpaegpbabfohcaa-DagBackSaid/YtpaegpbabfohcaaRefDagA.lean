/-
  The document's dag: at, in, Is, Wrong, Few.
-/
import Derived.Test.YtpaegpbabfohcaaWalkDagJ
namespace Go.Proofs.Ytpaegpbabfohcaa.WalkDag
open Go.RowKit Go.Proofs.Ytpaegpbabfohcaa.HeapPure Go.Proofs.Ytpaegpbabfohcaa.HeapA Go.Proofs.Ytpaegpbabfohcaa.MapAt Go.Proofs.Ytpaegpbabfohcaa.DagPure Go.Proofs.Ytpaegpbabfohcaa.WalkInts
set_option linter.unusedVariables false
set_option linter.unusedSimpArgs false
set_option maxRecDepth 100000

theorem kn_take {l : List Kn} {i j : Nat} (h : j < i) : kn (l.take i) j = kn l j := by
  unfold kn
  rw [List.getD_eq_getElem?_getD, List.getD_eq_getElem?_getD, List.getElem?_take, if_pos h]
theorem Knots.take {B : Nat} {w : World} {A : Option Addr} {l : List Kn} (h : Knots B w A l) (i : Nat) : Knots B w A (l.take i) := by
  rcases h with rfl | ⟨g, off, rfl, hg, h⟩
  · exact .inl (by simp)
  · refine .inr ⟨g, off, rfl, hg, fun j hj => ?_⟩
    rw [List.length_take] at hj
    have := h j (by omega)
    rw [kn_take (by omega)]
    exact this
theorem has_take {l : List Kn} {i : Nat} {p : Int} (hi : i ≤ l.length) : Has (l.take i) p ↔ Seen l i p := by
  unfold Has Seen
  constructor
  · rintro ⟨j, hj, e⟩
    exact ⟨_, kn_mem hj, e⟩
  · rintro ⟨y, hy, e⟩
    obtain ⟨j, hj, rfl⟩ := mem_kn hy
    exact ⟨j, hj, e⟩

set_option maxHeartbeats 1600000 in
theorem at_any (A : Option Addr) (c m B : Nat) (l : List Kn) (n : Int) (w : World) (h : Knots B w A l) (hm : m = l.length) (hl : m ≤ 100) :
    Calls Try.prog 49 #[.slice A m c, .int .i64 n] w fun e w' => (∃ r : Int, e = .returned (.int .i64 r) ∧ (0 ≤ r ↔ Has l n)) ∧ w = w' := by
  have HM := Lib.hid hm
  clear hm
  go_enter Try.func49, Try.ntmps49
  rcases h with hnil | ⟨g, off, rfl, hg, hc⟩
  · have HNil := Lib.hid hnil
    have hm0 : m = 0 := by rw [HM.out, hnil]; rfl
    clear hnil
    subst hm0
    go_wp2_with fail
    go_loop [8] (fun v => v = .int .i64 0) (fun v => 0)
    case atStart => rfl
    case round =>
      subst hrel
      go_wp2_with fail
      go_ret
      exact ⟨⟨-1, rfl, by rw [HNil.out]; simp [Has]⟩, rfl⟩
  · go_wp2_with fail
    go_loop [8] (fun v => ∃ i : Nat, v = .int .i64 i ∧ i ≤ m ∧ (∀ j, j < i → (kn l j).k.n ≠ n)) (fun v => m - (intOf v).toNat)
    case atStart => exact ⟨0, rfl, Nat.zero_le _, fun j hj => absurd hj (by omega)⟩
    case round =>
      obtain ⟨i, rfl, hi, hno⟩ := hrel
      have HNO := Lib.hid hno
      clear hno
      by_cases hil : i < m
      · obtain ⟨h1, -, -, -⟩ := hc i (by rw [← HM.out]; exact hil)
        clear hc
        obtain ⟨x, hx⟩ : ∃ x, x = (kn l i).k.n := ⟨_, rfl⟩
        rw [← hx] at h1
        have HX := Lib.hid hx
        clear hx
        by_cases e : x = n
        · have he : (x == n) = true := by simpa using e
          have HE := Lib.hid e
          clear e
          go_wp2_with fail
          go_ret
          exact ⟨⟨_, rfl, by
            constructor
            · intro _; exact ⟨i, by rw [← HM.out]; exact hil, by rw [← HX.out]; exact HE.out⟩
            · intro _; omega⟩, rfl⟩
        · have he : (x == n) = false := by simpa using e
          have HE := Lib.hid e
          clear e
          go_wp2_with fail
          go_round
          case rel => exact ⟨i + 1, by go_num, by omega, fun j hj => by
            rcases Nat.lt_or_ge j i with q | q
            · exact HNO.out j q
            · have : j = i := by omega
              subst this
              rw [← HX.out]
              exact HE.out⟩
          case measure => simp [intOf]; omega
      · have hie : i = m := by omega
        have HIE := Lib.hid hie
        clear hie hc
        go_wp2_with fail
        go_ret
        exact ⟨⟨-1, rfl, by
          constructor
          · intro h; omega
          · rintro ⟨j, hj, hn⟩
            exact absurd hn (HNO.out j (by rw [HIE.out, HM.out]; exact hj))⟩, rfl⟩
set_option maxHeartbeats 1600000 in
theorem in_any (A : Option Addr) (c m : Nat) (l : List Int) (x : Int) (w : World) (h : Ints w A l) (hm : m = l.length) (hl : m ≤ 1000000) :
    Calls Try.prog 56 #[.slice A m c, .int .i64 x] w fun e w' => e = .returned (.bool (decide (x ∈ l))) ∧ w = w' := by
  have HM := Lib.hid hm
  clear hm
  obtain ⟨r, hr⟩ : ∃ r, decide (x ∈ l) = r := ⟨_, rfl⟩
  rw [hr]
  have HR := Lib.hid hr
  clear hr
  go_enter Try.func56, Try.ntmps56
  rcases h with hnil | ⟨g, off, rfl, hc⟩
  · have HNil := Lib.hid hnil
    have hm0 : m = 0 := by rw [HM.out, hnil]; rfl
    clear hnil
    subst hm0
    go_wp2_with fail
    go_loop [9] (fun v => v = .int .i64 0) (fun v => 0)
    case atStart => rfl
    case round =>
      subst hrel
      go_wp2_with fail
      go_ret
      exact ⟨by show Ending.returned (Value.bool false) = _; rw [← HR.out, HNil.out]; rfl, rfl⟩
  · go_wp2_with fail
    go_loop [9] (fun v => ∃ i : Nat, v = .int .i64 i ∧ i ≤ m ∧ (∀ j, j < i → l.getD j 0 ≠ x)) (fun v => m - (intOf v).toNat)
    case atStart => exact ⟨0, rfl, Nat.zero_le _, fun j hj => absurd hj (by omega)⟩
    case round =>
      obtain ⟨i, rfl, hi, hno⟩ := hrel
      have HNO := Lib.hid hno
      clear hno
      by_cases hil : i < m
      · have hci := hc i (by rw [← HM.out]; exact hil)
        have hmem : Hid (l.getD i 0 ∈ l) := mem_getD (by rw [← HM.out]; exact hil)
        obtain ⟨y, hy⟩ : ∃ y, y = l.getD i 0 := ⟨_, rfl⟩
        rw [← hy] at hci
        have HY := Lib.hid hy
        clear hy hc
        by_cases e : y = x
        · have he : (y == x) = true := by simpa using e
          have HE := Lib.hid e
          clear e
          go_wp2_with fail
          go_ret
          exact ⟨by show Ending.returned (Value.bool true) = _; rw [← HR.out, ← HE.out, HY.out, decide_eq_true hmem.out], rfl⟩
        · have he : (y == x) = false := by simpa using e
          have HE := Lib.hid e
          clear e
          go_wp2_with fail
          go_round
          case rel => exact ⟨i + 1, by go_num, by omega, fun j hj => by
            rcases Nat.lt_or_ge j i with q | q
            · exact HNO.out j q
            · have : j = i := by omega
              subst this
              rw [← HY.out]
              exact HE.out⟩
          case measure => simp [intOf]; omega
      · have hie : i = m := by omega
        have HIE := Lib.hid hie
        clear hie hc
        go_wp2_with fail
        go_ret
        exact ⟨by
          show Ending.returned (Value.bool false) = _
          rw [← HR.out, decide_eq_false]
          intro h
          obtain ⟨j, hj, hx⟩ := getD_mem h
          exact absurd hx (HNO.out j (by rw [HIE.out, HM.out]; exact hj)), rfl⟩
end Go.Proofs.Ytpaegpbabfohcaa.WalkDag
