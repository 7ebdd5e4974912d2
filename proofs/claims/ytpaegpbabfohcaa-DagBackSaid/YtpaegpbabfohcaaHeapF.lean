/-
  container/heap over dag's queue: Down.
-/
import Derived.Test.YtpaegpbabfohcaaHeapE
namespace Go.Proofs.Ytpaegpbabfohcaa.HeapA
open Go.RowKit Go.Proofs.Ytpaegpbabfohcaa.HeapPure
set_option linter.unusedVariables false
set_option linter.unusedSimpArgs false
set_option maxRecDepth 100000

theorem down_two {q : List Int} {n i j : Nat} (hj : j = 2 * i + 1 ∨ j = 2 * i + 2) (h1 : 2 * i + 1 < n → q.getD (2 * i + 1) 0 ≤ q.getD j 0) (h2 : 2 * i + 2 < n → q.getD (2 * i + 2) 0 ≤ q.getD j 0) : ∀ c, 0 < c → c < n → (c - 1) / 2 = i → q.getD c 0 ≤ q.getD j 0 := by
  intro c c0 cn ci
  have : c = 2 * i + 1 ∨ c = 2 * i + 2 := by omega
  rcases this with rfl | rfl
  · exact h1 cn
  · exact h2 cn

set_option maxHeartbeats 3200000 in
theorem down_any (b g cap L n : Nat) (q0 : List Int) (w : World) (h : QRow w g cap q0) (hn : L = q0.length) (hnL : n ≤ L) (hm : L < 2 ^ 40) (hq : DownL q0 n 0) (hb : w.cell? ⟨b, 2, none⟩ = some (.slice (some ⟨g, 0, none⟩) L cap)) (hbg : b ≠ g) :
    Calls Try.prog 92 #[.iface 122 (.pointer (some ⟨b, 2, none⟩)), .int .i64 0, .int .i64 n] w fun e w' => (∃ r, e = .returned (.bool r)) ∧ (∃ q', QRow w' g cap q' ∧ q'.Perm q0 ∧ HeapL q' n ∧ ∀ k, n ≤ k → q'.getD k 0 = q0.getD k 0) ∧ Wr g w w' := by
  obtain ⟨NL, NS, -⟩ := names b (.slice (some ⟨g, 0, none⟩) L cap)
  have HN := Lib.hid hn
  clear hn
  go_enter Try.func92, Try.ntmps92
  go_wp2
  go_loopw [7] (fun v wr => ∃ (i : Nat) (q : List Int), v = .int .i64 i ∧ i ≤ n ∧ QRow wr g cap q ∧ q.Perm q0 ∧ DownL q n i ∧ (∀ k, n ≤ k → q.getD k 0 = q0.getD k 0) ∧ Wr g w wr) (fun v _ => n - (intOf v).toNat)
  case atStart => exact ⟨0, q0, rfl, Nat.zero_le _, h, .refl _, hq, fun _ _ => rfl, Wr.refl _ _⟩
  case round =>
    obtain ⟨i, q, rfl, hin, hr, hp, hu, hk, hw⟩ := hrel
    have hb' := (hw.cell hbg).trans hb
    have HL := Lib.hid (hp.length_eq.trans HN.out.symm)
    have HK := Lib.hid hk
    clear hb hq h hk
    obtain ⟨j1, hj1⟩ : ∃ j1, j1 = 2 * i + 1 := ⟨_, rfl⟩
    obtain ⟨j2, hj2⟩ : ∃ j2, j2 = 2 * i + 2 := ⟨_, rfl⟩
    have e1 : (2 : Int) * (i : Int) + 1 = (j1 : Int) := by omega
    have e2 : (j1 : Int) + 1 = (j2 : Int) := by omega
    have lij : i < j1 := by omega
    have lij2 : i < j2 := by omega
    have l12 : j2 ≤ j1 + 1 := by omega
    have H1 := Lib.hid hj1
    have H2 := Lib.hid hj2
    clear hj1 hj2
    by_cases c1 : j1 < n
    · obtain ⟨r, hrr⟩ : ∃ r, decide (q.getD j1 0 < q.getD j2 0) = r := ⟨_, rfl⟩
      have HR := Lib.hid hrr
      clear hrr
      have fin : ∀ (wr' : World) (j : Nat), j < n → i < j → (j - 1) / 2 = i → DownL q n i → (∀ c, 0 < c → c < n → (c - 1) / 2 = i → q.getD c 0 ≤ q.getD j 0) → q.getD i 0 < q.getD j 0 → Wr g w wr' → QRow wr' g cap (swapL q i j) → (∃ q'', QRow wr' g cap q'' ∧ q'' = swapL q i j ∧ q''.Perm q0 ∧ DownL q'' n j ∧ (∀ k, n ≤ k → q''.getD k 0 = q0.getD k 0)) := by
        intro wr' j hj hij hji hd hbest hg hw hr2
        have hl := HL.out
        have hLn := HN.out
        exact ⟨_, hr2, rfl, (swapL_perm q i j (by omega) (by omega)).trans hp, downL_step hd (by omega) (by omega) hj hji hbest hg, fun k hk => (swapL_same (by omega) (by omega) (by omega) (by omega)).trans (HK.out k hk)⟩
      have FIN := Lib.hid fin
      clear fin
      by_cases c2 : j2 < n
      · cases r with
        | false =>
          obtain ⟨s, hss⟩ : ∃ s, decide (q.getD i 0 < q.getD j1 0) = s := ⟨_, rfl⟩
          have HS := Lib.hid hss
          clear hss
          have hbest : Hid (∀ c, 0 < c → c < n → (c - 1) / 2 = i → q.getD c 0 ≤ q.getD j1 0) := by
            have := of_decide_eq_false HR.out
            have a1 := H1.out
            have a2 := H2.out
            subst a1 a2
            exact down_two (.inl rfl) (fun _ => Int.le_refl _) (fun _ => by omega)
          go_wp2_with fail
          refine (lessQ b g cap L q j2 j1 wr hr HL.out.symm (by omega) (by omega) hm false HR.out).mono ?_
          rintro e w' ⟨rfl, m, rfl⟩
          go_wp2_with fail
          refine (lessQ b g cap L q j1 i _ (hr.drewN m) HL.out.symm (by omega) (by omega) hm s HS.out).mono ?_
          rintro e w' ⟨rfl, m', rfl⟩
          cases s with
          | false =>
            clear NL NS
            go_wp2_with fail
            go_ret
            exact ⟨⟨_, rfl⟩, ⟨q, hr.drewN _, hp, down_done hu (fun c c0 cn ci => by have := hbest.out c c0 cn ci; have := of_decide_eq_false HS.out; show q.getD c 0 ≤ q.getD i 0; omega), HK.out⟩, hw.drewN _⟩
          | true =>
            clear NL
            go_wp2_with fail
            refine (swapQ g cap L q i j1 _ (hr.drewN _) HL.out.symm (by omega) (by omega) hm).mono ?_
            rintro e w' ⟨rfl, hr2, hw2⟩
            clear NS
            go_wp2_with fail
            go_roundw
            case rel =>
              obtain ⟨q'', k1, -, k2, k3, k4⟩ := FIN.out w' j1 c1 lij (by have := H1.out; omega) hu hbest.out (of_decide_eq_true HS.out) ((hw.drewN _).trans hw2) hr2
              exact ⟨j1, q'', rfl, by omega, k1, k2, k3, k4, (hw.drewN _).trans hw2⟩
            case measure => simp [intOf]; omega
        | true =>
          obtain ⟨s, hss⟩ : ∃ s, decide (q.getD i 0 < q.getD j2 0) = s := ⟨_, rfl⟩
          have HS := Lib.hid hss
          clear hss
          have hbest : Hid (∀ c, 0 < c → c < n → (c - 1) / 2 = i → q.getD c 0 ≤ q.getD j2 0) := by
            have := of_decide_eq_true HR.out
            have a1 := H1.out
            have a2 := H2.out
            subst a1 a2
            exact down_two (.inr rfl) (fun _ => by omega) (fun _ => Int.le_refl _)
          go_wp2_with fail
          refine (lessQ b g cap L q j2 j1 wr hr HL.out.symm (by omega) (by omega) hm true HR.out).mono ?_
          rintro e w' ⟨rfl, m, rfl⟩
          go_wp2_with fail
          refine (lessQ b g cap L q j2 i _ (hr.drewN m) HL.out.symm (by omega) (by omega) hm s HS.out).mono ?_
          rintro e w' ⟨rfl, m', rfl⟩
          cases s with
          | false =>
            clear NL NS
            go_wp2_with fail
            go_ret
            exact ⟨⟨_, rfl⟩, ⟨q, hr.drewN _, hp, down_done hu (fun c c0 cn ci => by have := hbest.out c c0 cn ci; have := of_decide_eq_false HS.out; show q.getD c 0 ≤ q.getD i 0; omega), HK.out⟩, hw.drewN _⟩
          | true =>
            clear NL
            go_wp2_with fail
            refine (swapQ g cap L q i j2 _ (hr.drewN _) HL.out.symm (by omega) (by omega) hm).mono ?_
            rintro e w' ⟨rfl, hr2, hw2⟩
            clear NS
            go_wp2_with fail
            go_roundw
            case rel =>
              obtain ⟨q'', k1, -, k2, k3, k4⟩ := FIN.out w' j2 c2 lij2 (by have := H2.out; omega) hu hbest.out (of_decide_eq_true HS.out) ((hw.drewN _).trans hw2) hr2
              exact ⟨j2, q'', rfl, by omega, k1, k2, k3, k4, (hw.drewN _).trans hw2⟩
            case measure => simp [intOf]; omega
      · clear HR
        obtain ⟨s, hss⟩ : ∃ s, decide (q.getD i 0 < q.getD j1 0) = s := ⟨_, rfl⟩
        have HS := Lib.hid hss
        clear hss
        have hbest : Hid (∀ c, 0 < c → c < n → (c - 1) / 2 = i → q.getD c 0 ≤ q.getD j1 0) := by
          have a1 := H1.out
          have a2 := H2.out
          subst a1 a2
          exact down_two (.inl rfl) (fun _ => Int.le_refl _) (fun _ => by omega)
        go_wp2_with fail
        refine (lessQ b g cap L q j1 i _ hr HL.out.symm (by omega) (by omega) hm s HS.out).mono ?_
        rintro e w' ⟨rfl, m', rfl⟩
        cases s with
        | false =>
          clear NL NS
          go_wp2_with fail
          go_ret
          exact ⟨⟨_, rfl⟩, ⟨q, hr.drewN m', hp, down_done hu (fun c c0 cn ci => by have := hbest.out c c0 cn ci; have := of_decide_eq_false HS.out; show q.getD c 0 ≤ q.getD i 0; omega), HK.out⟩, hw.drewN m'⟩
        | true =>
          clear NL
          go_wp2_with fail
          refine (swapQ g cap L q i j1 _ (hr.drewN m') HL.out.symm (by omega) (by omega) hm).mono ?_
          rintro e w' ⟨rfl, hr2, hw2⟩
          clear NS
          go_wp2_with fail
          go_roundw
          case rel =>
            obtain ⟨q'', k1, -, k2, k3, k4⟩ := FIN.out w' j1 c1 lij (by have := H1.out; omega) hu hbest.out (of_decide_eq_true HS.out) ((hw.drewN m').trans hw2) hr2
            exact ⟨j1, q'', rfl, by omega, k1, k2, k3, k4, (hw.drewN m').trans hw2⟩
          case measure => simp [intOf]; omega
    · clear NL NS
      go_wp2_with fail
      go_ret
      exact ⟨⟨_, rfl⟩, ⟨q, hr, hp, down_done hu (fun c c0 cn ci => by have := H1.out; omega), HK.out⟩, hw⟩
end Go.Proofs.Ytpaegpbabfohcaa.HeapA
