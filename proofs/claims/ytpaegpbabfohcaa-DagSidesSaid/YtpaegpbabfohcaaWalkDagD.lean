/-
  dag: ready, and what it is made of.
-/
import Derived.Test.YtpaegpbabfohcaaWalkDagC
namespace Go.Proofs.Ytpaegpbabfohcaa.WalkDag
open Go.RowKit Go.Proofs.Ytpaegpbabfohcaa.HeapPure Go.Proofs.Ytpaegpbabfohcaa.HeapA Go.Proofs.Ytpaegpbabfohcaa.MapAt Go.Proofs.Ytpaegpbabfohcaa.DagPure Go.Proofs.Ytpaegpbabfohcaa.WalkInts
set_option linter.unusedVariables false
set_option linter.unusedSimpArgs false
set_option maxRecDepth 100000

def Has (l : List Kn) (n : Int) : Prop := ∃ i, i < l.length ∧ (kn l i).k.n = n
/-- the closure that asks for a number -/
abbrev isF (p : Addr) : Value := .func (.func 75) #[] #[.pointer (some p)]

theorem isn_any (x n : Int) (v : Value) (hv : ∃ A m c, v = .slice A m c) (p : Nat) (w : World) (hp : w.cell? ⟨p, 0, none⟩ = some (.int .i64 n)) (hlt : p < w.heap.size) :
    Calls Try.prog 75 #[.agg #[.int .i64 x, v], .pointer (some ⟨p, 0, none⟩)] w fun e w' => e = .returned (.bool (x == n)) ∧ Below w.heap.size w w' := by
  obtain ⟨A, m, c, rfl⟩ := hv
  have hB := Joins.below_alloc1 w (.cells #[.int .i64 x, .slice A m c] 77)
  go_enter Try.func75, Try.ntmps75
  go_wp2_with fail
  go_ret
  exact ⟨rfl, hB⟩

set_option maxHeartbeats 1600000 in
theorem indexF_any (A : Option Addr) (c : Nat) (l : List Kn) (n : Int) (p : Nat) (w : World) (h : Knots w.heap.size w A l) (hl : l.length ≤ 100) (hp : w.cell? ⟨p, 0, none⟩ = some (.int .i64 n)) (hlt : p < w.heap.size) :
    Calls Try.prog 90 #[.slice A l.length c, isF ⟨p, 0, none⟩] w fun e w' => (∃ r : Int, e = .returned (.int .i64 r) ∧ (0 ≤ r ↔ Has l n)) ∧ Below w.heap.size w w' := by
  obtain ⟨m, hm⟩ : ∃ m, m = l.length := ⟨_, rfl⟩
  rw [← hm]
  have hmm : m ≤ 100 := by omega
  have HM := Lib.hid hm
  have HP := Lib.hid hp
  clear hm hl hp
  go_enter Try.func90, Try.ntmps90
  rcases h with hnil | ⟨g, off, rfl, hg, hc⟩
  · have HNil := Lib.hid hnil
    have hm0 : m = 0 := by rw [HM.out, hnil]; rfl
    clear hnil
    subst hm0
    go_wp2_with fail
    go_loopw [8] (fun v wr => v = .int .i64 0 ∧ w = wr) (fun v _ => 0)
    case atStart => exact ⟨rfl, rfl⟩
    case round =>
      obtain ⟨rfl, rfl⟩ := hrel
      go_wp2_with fail
      go_ret
      exact ⟨⟨-1, rfl, by rw [HNil.out]; simp [Has]⟩, Below.refl _ _⟩
  · go_wp2_with fail
    go_loopw [8] (fun v wr => ∃ i : Nat, v = .int .i64 i ∧ i ≤ m ∧ (∀ j, j < i → (kn l j).k.n ≠ n) ∧ Below w.heap.size w wr) (fun v _ => m - (intOf v).toNat)
    case atStart => exact ⟨0, rfl, Nat.zero_le _, fun j hj => absurd hj (by omega), Below.refl _ _⟩
    case round =>
      obtain ⟨i, rfl, hi, hno, hB⟩ := hrel
      have HNO := Lib.hid hno
      clear hno
      by_cases hil : i < m
      · obtain ⟨h1, h2, h3, h4⟩ := hc i (by rw [← HM.out]; exact hil)
        rw [← hB.cell (p := ⟨g, off + i * 2, none⟩) hg] at h1
        rw [← hB.cell (p := ⟨g, off + i * 2 + 1, none⟩) hg] at h2
        clear hc h3 h4
        obtain ⟨x, hx⟩ : ∃ x, x = (kn l i).k.n := ⟨_, rfl⟩
        rw [← hx] at h1
        have HX := Lib.hid hx
        clear hx
        have hpr : wr.cell? ⟨p, 0, none⟩ = some (.int .i64 n) := by rw [hB.cell (p := ⟨p, 0, none⟩) hlt]; exact HP.out
        obtain ⟨r, hr⟩ : ∃ r, (x == n) = r := ⟨_, rfl⟩
        have HR := Lib.hid hr
        clear hr
        go_wp2_with fail
        refine (isn_any x n _ ⟨_, _, _, rfl⟩ p wr hpr (Nat.lt_of_lt_of_le hlt hB.size)).mono ?_
        rintro e w1 ⟨rfl, hB1⟩
        rw [HR.out]
        have HB2 := Lib.hid (hB.trans (hB1.mono hB.size))
        clear hB1 hB
        cases r with
        | true =>
          go_wp2_with fail
          go_ret
          exact ⟨⟨_, rfl, by
            have := HR.out
            simp at this
            simp
            exact ⟨i, by rw [← HM.out]; exact hil, by rw [← HX.out]; exact this⟩⟩, HB2.out⟩
        | false =>
          go_wp2_with fail
          go_roundw
          case rel => exact ⟨i + 1, by go_num, by omega, fun j hj => by
            rcases Nat.lt_or_ge j i with q | q
            · exact HNO.out j q
            · have : j = i := by omega
              subst this
              rw [← HX.out]
              have := HR.out
              simpa using this, HB2.out⟩
          case measure => simp [intOf]; omega
      · have hie : i = m := by omega
        have HIE := Lib.hid hie
        clear hie hc
        go_wp2_with fail
        go_ret
        exact ⟨⟨-1, rfl, by
          constructor
          · intro h; omega
          · rintro ⟨j, hj, hn⟩
            exact absurd hn (HNO.out j (by rw [HIE.out, HM.out]; exact hj))⟩, hB⟩
set_option maxHeartbeats 800000 in
theorem containsF_any (A : Option Addr) (c : Nat) (l : List Kn) (n : Int) (p : Nat) (w : World) (h : Knots w.heap.size w A l) (hl : l.length ≤ 100) (hp : w.cell? ⟨p, 0, none⟩ = some (.int .i64 n)) (hlt : p < w.heap.size) :
    Calls Try.prog 74 #[.slice A l.length c, isF ⟨p, 0, none⟩] w fun e w' => (∃ r, e = .returned (.bool r) ∧ (r = true ↔ Has l n)) ∧ Below w.heap.size w w' := by
  go_enter Try.func74, Try.ntmps74
  go_wp2_with fail
  refine (indexF_any A c l n p w h hl hp hlt).mono ?_
  rintro e w1 ⟨⟨r, rfl, hr⟩, hB⟩
  have HR := Lib.hid hr
  clear hr
  go_wp2_with fail
  go_ret
  exact ⟨⟨decide (0 ≤ r), rfl, by rw [decide_eq_true_iff]; exact HR.out⟩, hB⟩

/-- why a walk may not be -/
def Why (l : List Kn) (fs : List Int) (r : Int) : Prop := (¬ Ok l ∧ r = 3) ∨ (Ok l ∧ (∃ f ∈ fs, ¬ Has l f) ∧ r = 9) ∨ (Ok l ∧ (∀ f ∈ fs, Has l f) ∧ r = 0)
set_option maxHeartbeats 1600000 in
theorem ready_any (A : Option Addr) (c : Nat) (l : List Kn) (fs : List Int) (g0 c0 : Nat) (w : World) (h : Knots w.heap.size w A l) (hl : l.length ≤ 100) (hfs : fs.length ≤ 100) (hg0 : g0 < w.heap.size) (hf : ∀ i, i < fs.length → w.cell? ⟨g0, i, none⟩ = some (.int .i64 (fs.getD i 0))) :
    Calls Try.prog 50 #[.slice A l.length c, .slice (some ⟨g0, 0, none⟩) fs.length c0] w fun e w' => (∃ r, e = .returned (.int .i64 r) ∧ Why l fs r) ∧ Below w.heap.size w w' := by
  obtain ⟨m, hm⟩ : ∃ m, m = fs.length := ⟨_, rfl⟩
  rw [← hm]
  have hmm : m ≤ 100 := by omega
  have HM := Lib.hid hm
  clear hm
  have hmk : ∀ (fn : Fn) (first cap : Array Value) (W : World), (Instr.makeFunc fn first cap).run Try.prog W = .ok (.func fn first cap) W := fun _ _ _ _ => rfl
  go_enter Try.func50, Try.ntmps50
  go_wp2_with fail
  refine (check_any A c l w h hl).mono ?_
  rintro e w1 ⟨⟨r, rfl, hr⟩, hB⟩
  rcases hr with ⟨hok, rfl⟩ | ⟨hno, rfl⟩
  · go_wp2_with fail
    go_loopw [15] (fun v wr => ∃ i : Nat, v = .int .i64 i ∧ i ≤ m ∧ (∀ j, j < i → Has l (fs.getD j 0)) ∧ Below w.heap.size w wr) (fun v _ => m - (intOf v).toNat)
    case atStart => exact ⟨0, rfl, Nat.zero_le _, fun j hj => absurd hj (by omega), hB⟩
    case round =>
      clear hB
      obtain ⟨i, rfl, hi, hall, hB⟩ := hrel
      have HALL := Lib.hid hall
      clear hall
      by_cases hil : i < m
      · have hfi := hf i (by rw [← HM.out]; exact hil)
        rw [← hB.cell (p := ⟨g0, i, none⟩) hg0] at hfi
        have hmem : fs.getD i 0 ∈ fs := by rw [List.getD_eq_getElem?_getD, List.getElem?_eq_getElem (by rw [← HM.out]; exact hil)]; exact List.getElem_mem _
        obtain ⟨n, hn⟩ : ∃ n, n = fs.getD i 0 := ⟨_, rfl⟩
        rw [← hn] at hfi hmem
        have HN := Lib.hid hn
        have HMEM := Lib.hid hmem
        have HKn : Hid (∀ o, Knots (wr.alloc o).heap.size (wr.alloc o) A l) := fun o => (((h.below hB).mono hB.size).below (Joins.below_alloc1 wr o)).mono (by simp)
        have HB1 : Hid (∀ o, Below w.heap.size w (wr.alloc o)) := fun o => hB.trans ((Joins.below_alloc1 wr o).mono hB.size)
        have hsz := hB.size
        clear hn hf hmem h hB
        go_wp2_with fail
        refine (containsF_any A c l n wr.heap.size _ (HKn.out _) hl ?_ (by simp)).mono ?_
        · exact cell_of_row _ _ 0 _ _ _ (heap_new wr _) |>.trans rfl
        rintro e w2 ⟨⟨r, rfl, hr⟩, hB2⟩
        have HR := Lib.hid hr
        have HB3 := Lib.hid ((HB1.out _).trans (hB2.mono (by simp; omega)))
        clear hr hB2
        cases r with
        | true =>
          go_wp2_with fail
          go_roundw
          case rel => exact ⟨i + 1, by go_num, by omega, fun j hj => by
            rcases Nat.lt_or_ge j i with q | q
            · exact HALL.out j q
            · have : j = i := by omega
              subst this
              rw [← HN.out]
              have := HR.out
              simpa using this, HB3.out⟩
          case measure => simp [intOf]; omega
        | false =>
          go_wp2_with fail
          go_ret
          exact ⟨⟨9, rfl, .inr (.inl ⟨hok, ⟨n, HMEM.out, fun k => by have := HR.out.2 k; cases this⟩, rfl⟩)⟩, HB3.out⟩
      · have hie : i = m := by omega
        have HIE := Lib.hid hie
        clear hie hf
        go_wp2_with fail
        go_ret
        exact ⟨⟨0, rfl, .inr (.inr ⟨hok, fun f hf => by
          obtain ⟨j, hj, rfl⟩ := List.getElem_of_mem hf
          have := HALL.out j (by rw [HIE.out, HM.out]; exact hj)
          simpa [List.getD_eq_getElem?_getD, hj] using this, rfl⟩)⟩, hB⟩
  · clear hf
    go_wp2_with fail
    go_ret
    exact ⟨⟨3, rfl, .inl ⟨hno, rfl⟩⟩, hB⟩
end Go.Proofs.Ytpaegpbabfohcaa.WalkDag
