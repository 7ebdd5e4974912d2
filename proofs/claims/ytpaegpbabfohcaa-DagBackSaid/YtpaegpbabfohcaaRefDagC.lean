/-
  The document's dag: Wrong, Few.
-/
import Derived.Test.YtpaegpbabfohcaaRefDagB
namespace Go.Proofs.Ytpaegpbabfohcaa.WalkDag
open Go.RowKit Go.Proofs.Ytpaegpbabfohcaa.HeapPure Go.Proofs.Ytpaegpbabfohcaa.HeapA Go.Proofs.Ytpaegpbabfohcaa.MapAt Go.Proofs.Ytpaegpbabfohcaa.DagPure Go.Proofs.Ytpaegpbabfohcaa.WalkInts
set_option linter.unusedVariables false
set_option linter.unusedSimpArgs false
set_option maxRecDepth 100000

theorem has_full {l : List Kn} {n : Int} : Has l n ∨ ¬ Has l n := Classical.em _
set_option maxHeartbeats 1600000 in
theorem wrong_any (A : Option Addr) (c : Nat) (l : List Kn) (a b : Int) (w : World) (h : Knots w.heap.size w A l) (hl : l.length ≤ 100) (hcap : l.length ≤ c) (hc9 : c ≤ 9223372036854775807) :
    Calls Try.prog 14 #[.slice A l.length c, .int .i64 a, .int .i64 b] w fun e w' => (∃ r, e = .returned (.int .i64 r) ∧ Why l [a, b] r) ∧ Below w.heap.size w w' := by
  have HK := Lib.hid h
  clear h
  go_enter Try.func14, Try.ntmps14
  go_wp2_with fail
  refine (is_any A c l w HK.out hl hcap hc9).mono ?_
  rintro e w1 ⟨⟨r, rfl, hr⟩, hB⟩
  have HR := Lib.hid hr
  have HK1 : Hid (Knots w.heap.size w1 A l) := HK.out.below hB
  clear hr
  cases r with
  | false =>
    go_wp2_with fail
    go_ret
    exact ⟨⟨3, rfl, .inl ⟨(fun h => by have := HR.out.2 h; cases this), rfl⟩⟩, hB⟩
  | true =>
    have hok : Ok l := HR.out.1 rfl
    go_wp2_with fail
    refine (at_any A c l.length w.heap.size l a w1 HK1.out rfl hl).mono ?_
    rintro e w' ⟨⟨r1, rfl, h1⟩, rfl⟩
    have H1 := Lib.hid h1
    clear h1
    by_cases c1 : 0 ≤ r1
    · have d1 : decide (r1 < 0) = false := by simp; omega
      go_wp2_with fail
      refine (at_any A c l.length w.heap.size l b w1 HK1.out rfl hl).mono ?_
      rintro e w' ⟨⟨r2, rfl, h2⟩, rfl⟩
      have H2 := Lib.hid h2
      clear h2
      by_cases c2 : 0 ≤ r2
      · have d2 : decide (r2 < 0) = false := by simp; omega
        go_wp2_with fail
        go_ret
        exact ⟨⟨0, rfl, .inr (.inr ⟨hok, fun f hf => by
          simp at hf
          rcases hf with rfl | rfl
          · exact H1.out.1 c1
          · exact H2.out.1 c2, rfl⟩)⟩, hB⟩
      · have d2 : decide (r2 < 0) = true := by simp; omega
        go_wp2_with fail
        go_ret
        exact ⟨⟨9, rfl, .inr (.inl ⟨hok, ⟨b, by simp, fun k => absurd (H2.out.2 k) (by omega)⟩, rfl⟩)⟩, hB⟩
    · have d1 : decide (r1 < 0) = true := by simp; omega
      go_wp2_with fail
      go_ret
      exact ⟨⟨9, rfl, .inr (.inl ⟨hok, ⟨a, by simp, fun k => absurd (H1.out.2 k) (by omega)⟩, rfl⟩)⟩, hB⟩

def Few (l : List Kn) : Prop := l.length ≤ 40 ∧ ∀ i, i < l.length → (kn l i).k.ps.length ≤ 5
set_option maxHeartbeats 1600000 in
theorem few_any (A : Option Addr) (c : Nat) (l : List Kn) (w : World) (h : Knots w.heap.size w A l) (hm : l.length ≤ 9223372036854775807) :
    Calls Try.prog 9 #[.slice A l.length c] w fun e w' => (∃ r : Bool, e = .returned (.bool r) ∧ (r = true ↔ Few l)) ∧ Below w.heap.size w w' := by
  obtain ⟨n, hn⟩ : ∃ n, n = l.length := ⟨_, rfl⟩
  rw [← hn]
  have hn9 : n ≤ 9223372036854775807 := by omega
  have HN := Lib.hid hn
  clear hm hn
  by_cases h40 : n ≤ 40
  · go_enter Try.func9, Try.ntmps9
    rcases h with hnil | ⟨g, off, rfl, hg, hc⟩
    · have HNil := Lib.hid hnil
      have hm0 : n = 0 := by rw [HN.out, hnil]; rfl
      clear hnil
      subst hm0
      go_wp2_with fail
      go_loopw [10] (fun v wr => v = .int .i64 0 ∧ w = wr) (fun v _ => 0)
      case atStart => exact ⟨rfl, rfl⟩
      case round =>
        obtain ⟨rfl, rfl⟩ := hrel
        go_wp2_with fail
        go_ret
        exact ⟨⟨true, rfl, ⟨fun _ => by rw [HNil.out]; exact ⟨by simp, fun i hi => absurd hi (by simp)⟩, fun _ => rfl⟩⟩, Below.refl _ _⟩
    · go_wp2_with fail
      go_loopw [10] (fun v wr => ∃ i : Nat, v = .int .i64 i ∧ i ≤ n ∧ (∀ j, j < i → (kn l j).k.ps.length ≤ 5) ∧ Below w.heap.size w wr) (fun v _ => n - (intOf v).toNat)
      case atStart => exact ⟨0, rfl, Nat.zero_le _, fun j hj => absurd hj (by omega), Below.refl _ _⟩
      case round =>
        obtain ⟨i, rfl, hi, hall, hB⟩ := hrel
        have HALL := Lib.hid hall
        clear hall
        by_cases hil : i < n
        · obtain ⟨h1, h2, -, -⟩ := hc i (by rw [← HN.out]; exact hil)
          rw [← hB.cell (p := ⟨g, off + i * 2, none⟩) hg] at h1
          rw [← hB.cell (p := ⟨g, off + i * 2 + 1, none⟩) hg] at h2
          clear hc
          obtain ⟨x, hx⟩ : ∃ x, x = (kn l i).k.n := ⟨_, rfl⟩
          obtain ⟨A2, hA2⟩ : ∃ A2, A2 = (kn l i).A := ⟨_, rfl⟩
          obtain ⟨p2, hp2⟩ : ∃ p2, p2 = (kn l i).k.ps.length := ⟨_, rfl⟩
          obtain ⟨c2, hc2⟩ : ∃ c2, c2 = (kn l i).c := ⟨_, rfl⟩
          rw [← hx] at h1
          rw [← hA2, ← hp2, ← hc2] at h2
          have HP := Lib.hid hp2
          clear hx hA2 hp2 hc2
          have HB2 : Hid (∀ o, Below w.heap.size w (wr.alloc o)) := fun o => hB.trans ((Joins.below_alloc1 wr o).mono hB.size)
          clear hB
          by_cases h5 : p2 ≤ 5
          · go_wp2_with fail
            go_roundw
            case rel => exact ⟨i + 1, by go_num, by omega, fun j hj => by
              rcases Nat.lt_or_ge j i with q | q
              · exact HALL.out j q
              · have : j = i := by omega
                subst this
                rw [← HP.out]; exact h5, HB2.out _⟩
            case measure => simp [intOf]; omega
          · go_wp2_with fail
            go_ret
            exact ⟨⟨false, rfl, ⟨(fun h => by cases h), fun h => by have := h.2 i (by rw [← HN.out]; exact hil); rw [← HP.out] at this; omega⟩⟩, HB2.out _⟩
        · have hie : i = n := by omega
          have HIE := Lib.hid hie
          clear hie hc
          go_wp2_with fail
          go_ret
          exact ⟨⟨true, rfl, ⟨fun _ => ⟨by rw [← HN.out]; exact h40, fun j hj => HALL.out j (by rw [HIE.out, HN.out]; exact hj)⟩, fun _ => rfl⟩⟩, hB⟩
  · go_enter Try.func9, Try.ntmps9
    go_wp2_with fail
    go_ret
    exact ⟨⟨false, rfl, ⟨(fun h => by cases h), fun h => absurd h.1 (by rw [← HN.out]; omega)⟩⟩, Below.refl _ _⟩
end Go.Proofs.Ytpaegpbabfohcaa.WalkDag
