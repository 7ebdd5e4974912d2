/-
  The document's dag: Is.
-/
import Derived.Test.YtpaegpbabfohcaaRefDagA
namespace Go.Proofs.Ytpaegpbabfohcaa.WalkDag
open Go.RowKit Go.Proofs.Ytpaegpbabfohcaa.HeapPure Go.Proofs.Ytpaegpbabfohcaa.HeapA Go.Proofs.Ytpaegpbabfohcaa.MapAt Go.Proofs.Ytpaegpbabfohcaa.DagPure Go.Proofs.Ytpaegpbabfohcaa.WalkInts
set_option linter.unusedVariables false
set_option linter.unusedSimpArgs false
set_option maxRecDepth 100000

set_option maxHeartbeats 6400000 in
theorem is_any (A : Option Addr) (c : Nat) (l : List Kn) (w : World) (h : Knots w.heap.size w A l) (hl : l.length ≤ 100) (hcap : l.length ≤ c) (hc9 : c ≤ 9223372036854775807) :
    Calls Try.prog 21 #[.slice A l.length c] w fun e w' => (∃ r : Bool, e = .returned (.bool r) ∧ (r = true ↔ Ok l)) ∧ Below w.heap.size w w' := by
  obtain ⟨n, hn⟩ : ∃ n, n = l.length := ⟨_, rfl⟩
  rw [← hn]
  have hnm : n ≤ 100 := by omega
  have hcn : n ≤ c := by omega
  have HN := Lib.hid hn
  have HK := Lib.hid h
  rcases h with rfl | ⟨g, off, rfl, hg, hc⟩
  · have : n = 0 := hn
    subst this
    clear hn hcap
    go_enter Try.func21, Try.ntmps21
    go_wp2_with fail
    go_loopw [9] (fun v wr => v = .int .i64 0 ∧ w = wr) (fun v _ => 0)
    case atStart => exact ⟨rfl, rfl⟩
    case round =>
      obtain ⟨rfl, rfl⟩ := hrel
      go_wp2_with fail
      go_ret
      exact ⟨⟨true, rfl, ⟨fun _ i hi => absurd hi (by simp), fun _ => rfl⟩⟩, Below.refl _ _⟩
  · clear hn hl hcap
    go_enter Try.func21, Try.ntmps21
    go_wp2_with fail
    go_loopw [9] (fun v wr => ∃ (i : Nat), v = .int .i64 i ∧ i ≤ n ∧ (∀ j, j < i → OkAt l j) ∧ Below w.heap.size w wr) (fun v _ => n - (intOf v).toNat)
    case atStart => exact ⟨0, rfl, Nat.zero_le _, fun j hj => absurd hj (by omega), Below.refl _ _⟩
    case round =>
      obtain ⟨i, rfl, hi, hok, hB⟩ := hrel
      have HOK := Lib.hid hok
      clear hok
      by_cases hlt : i < n
      · obtain ⟨h1, h2, h3, h4⟩ := hc i (by rw [← HN.out]; exact hlt)
        have hil : i < l.length := by rw [← HN.out]; exact hlt
        have OKI : Hid (Ok l → OkAt l i) := fun h => h i hil
        have hprev : 0 < i → wr.cell? ⟨g, off + (i - 1) * 2, none⟩ = some (.int .i64 (kn l (i - 1)).k.n) := fun h0 => by
          rw [hB.cell (p := ⟨g, off + (i - 1) * 2, none⟩) hg]; exact (hc (i - 1) (by omega)).1
        have HPREV := Lib.hid hprev
        have hok1 : Hid (1 ≤ (kn l i).k.n → (0 < i → (kn l (i - 1)).k.n < (kn l i).k.n) → (kn l i).k.ps.length ≤ 2 → (∀ p ∈ (kn l i).k.ps, Seen l i p) → ((kn l i).k.ps.length = 2 → (kn l i).k.ps.getD 0 0 ≠ (kn l i).k.ps.getD 1 0) → ∀ j, j < i + 1 → OkAt l j) := fun a1 a2 a3 a4 a5 j hj => by
          rcases Nat.lt_or_ge j i with q | q
          · exact HOK.out j q
          · have : j = i := by omega
            subst this
            exact ⟨a1, a2, a3, a4, a5⟩
        rw [← hB.cell (p := ⟨g, off + i * 2, none⟩) hg] at h1
        rw [← hB.cell (p := ⟨g, off + i * 2 + 1, none⟩) hg] at h2
        have hszw : w.heap.size ≤ wr.heap.size := hB.size
        clear hc hil hprev
        obtain ⟨x, hx⟩ : ∃ x, x = (kn l i).k.n := ⟨_, rfl⟩
        obtain ⟨ps, hps⟩ : ∃ ps, ps = (kn l i).k.ps := ⟨_, rfl⟩
        obtain ⟨A2, hA2⟩ : ∃ A2, A2 = (kn l i).A := ⟨_, rfl⟩
        obtain ⟨c2, hc2⟩ : ∃ c2, c2 = (kn l i).c := ⟨_, rfl⟩
        obtain ⟨y, hy⟩ : ∃ y, y = (kn l (i - 1)).k.n := ⟨_, rfl⟩
        rw [← hx] at h1
        rw [← hps, ← hA2, ← hc2] at h2
        rw [← hps, ← hA2] at h3
        rw [← hA2, ← hps] at h4
        have HX := Lib.hid hx
        have HPS : Hid ((kn l i).k.ps = ps) := hps.symm
        have HY := Lib.hid hy
        have HA := Lib.hid h4
        have HPREV : Hid (0 < i → wr.cell? ⟨g, off + (i - 1) * 2, none⟩ = some (.int .i64 y)) := by rw [hy]; exact HPREV
        have HOK1 : Hid (1 ≤ x → (0 < i → y < x) → ps.length ≤ 2 → (∀ p ∈ ps, Seen l i p) → (ps.length = 2 → ps.getD 0 0 ≠ ps.getD 1 0) → ∀ j, j < i + 1 → OkAt l j) := by rw [hx, hy, hps]; exact hok1
        clear hx hps hA2 hc2 hy h4 hok1
        obtain ⟨W2, hW2⟩ : ∃ W2, W2 = wr.alloc (.cells #[.int .i64 x, .slice A2 ps.length c2] 77) := ⟨_, rfl⟩
        have B2 : Hid (Below w.heap.size w W2) := by rw [hW2]; exact hB.trans ((Joins.below_alloc1 wr _).mono hB.size)
        have k0 : W2.cell? ⟨wr.heap.size, 0, none⟩ = some (.int .i64 x) := by rw [hW2, cell_of_row _ _ 0 _ _ _ (heap_new wr _)]; rfl
        have k1 : W2.cell? ⟨wr.heap.size, 1, none⟩ = some (.slice A2 ps.length c2) := by rw [hW2, cell_of_row _ _ 1 _ _ _ (heap_new wr _)]; rfl
        have KP : Hid (0 < i → W2.cell? ⟨g, off + (i - 1) * 2, none⟩ = some (.int .i64 y)) := fun h0 => by
          rw [hW2, (Joins.below_alloc1 wr _).cell (p := ⟨g, off + (i - 1) * 2, none⟩) (by show g < wr.heap.size; omega)]; exact HPREV.out h0
        clear HPREV
        by_cases t1 : 1 ≤ x
        · have d1 : decide (x < 1) = false := by simp; omega
          by_cases i0 : i = 0
          · have id1 : decide (0 < i) = false := by simp; omega
            have I0 := Lib.hid i0
            clear i0
            by_cases t4 : ps.length ≤ 2
            · have d4 : decide (2 < ps.length) = false := by simp; omega
              have FIN : Hid ((∀ p ∈ ps, Seen l i p) → (ps.length = 2 → ps.getD 0 0 ≠ ps.getD 1 0) → ∀ j, j < i + 1 → OkAt l j) := HOK1.out t1 (fun h => absurd h (by have := I0.out; omega)) t4
              go_wp2_with fail
              rw [← hW2]
              clear hW2
              go_quiet (fail)
              obtain ⟨W3, hW3⟩ : ∃ W3, W3 = W2.drewN nq := ⟨_, rfl⟩
              rw [← hW3]
              have B3 : Hid (Below w.heap.size w W3) := by rw [hW3]; exact below_drewN B2.out _
              have k3 : W3.cell? ⟨wr.heap.size, 1, none⟩ = some (.slice A2 ps.length c2) := by rw [hW3]; exact k1
              have k30 : W3.cell? ⟨wr.heap.size, 0, none⟩ = some (.int .i64 x) := by rw [hW3]; exact k0
              have K3 : Hid (Knots w.heap.size W3 (some ⟨g, off, none⟩) (l.take i)) := (HK.out.below B3.out).take i
              have hlti : i = (l.take i).length := by rw [List.length_take, ← HN.out]; omega
              have HLT := Lib.hid hlti
              clear hW3 B2 k1 k0 hlti
              rcases ints_parts h3 with hnil | ⟨hne, g2, off2, hA2, hc2⟩
              · have HNil := Lib.hid hnil
                have hl0 : ps.length ≤ 0 := by rw [hnil]; exact Nat.le_refl _
                clear hnil
                go_wp2_with fail
                go_loopw [41] (fun v wi => v = .int .i64 0 ∧ W3 = wi) (fun _ _ => 0)
                case atStart => exact ⟨rfl, rfl⟩
                case round =>
                  obtain ⟨rfl, rfl⟩ := hrel
                  have e2 : ((ps.length : Int) == 2) = false := beq_eq_false_iff_ne.2 (by omega)
                  go_wp2_with fail
                  go_quiet (fail)
                  go_wp2_with fail
                  go_roundw
                  case rel => exact ⟨i + 1, by go_num, by omega, FIN.out (by rw [HNil.out]; simp) (by rw [HNil.out]; simp), below_drewN B3.out _⟩
                  case measure => simp [intOf]; omega
              · have hg2 := HA.out hne g2 off2 hA2
                clear hne
                subst hA2
                have hc2' : ∀ j, j < ps.length → W3.cell? ⟨g2, off2 + j, none⟩ = some (.int .i64 (ps.getD j 0)) := fun j hj => by
                  rw [B3.out.cell (p := ⟨g2, off2 + j, none⟩) hg2]; exact hc2 j hj
                have HC2 := Lib.hid hc2'
                clear hc2 hc2'
                go_wp2_with fail
                go_loopw [41] (fun v wi => W3 = wi ∧ ∃ j : Nat, v = .int .i64 j ∧ j ≤ ps.length ∧ ∀ j', j' < j → Seen l i (ps.getD j' 0)) (fun v _ => ps.length - (intOf v).toNat)
                case atStart => exact ⟨rfl, 0, rfl, Nat.zero_le _, fun j' hj' => absurd hj' (by omega)⟩
                case round =>
                  obtain ⟨rfl, j, rfl, hj, hgood⟩ := hrel
                  have HG := Lib.hid hgood
                  clear hgood
                  by_cases hjl : j < ps.length
                  · have hcj := HC2.out j hjl
                    have hpm : Hid (ps.getD j 0 ∈ ps) := mem_getD hjl
                    obtain ⟨p, hp⟩ : ∃ p, p = ps.getD j 0 := ⟨_, rfl⟩
                    rw [← hp] at hcj hpm
                    have HP := Lib.hid hp
                    clear hp
                    have hic : i ≤ c := by omega
                    go_wp2_with fail
                    refine (at_any (some ⟨g, off, none⟩) c i w.heap.size (l.take i) p W3 K3.out HLT.out (by omega)).mono ?_
                    rintro e w' ⟨⟨r, rfl, hr⟩, rfl⟩
                    have HR := Lib.hid hr
                    clear hr
                    by_cases hr0 : 0 ≤ r
                    · go_wp2_with fail
                      go_roundw
                      case rel => exact ⟨trivial, j + 1, by go_num, by omega, fun j' hj' => by
                        rcases Nat.lt_or_ge j' j with g | g
                        · exact HG.out j' g
                        · have : j' = j := by omega
                          subst this
                          rw [← HP.out]
                          exact (has_take (by rw [← HN.out]; omega)).1 (HR.out.1 hr0)⟩
                      case measure => simp [intOf]; omega
                    · go_wp2_with fail
                      go_ret
                      exact ⟨⟨false, rfl, by
                        constructor
                        · intro h; cases h
                        · intro h
                          have := (OKI.out h).2.2.2.1 p (by rw [HPS.out]; exact hpm.out)
                          exact absurd (HR.out.2 ((has_take (by rw [← HN.out]; omega)).2 this)) (by omega)⟩, B3.out⟩
                  · have hje : j = ps.length := by omega
                    have HJ := Lib.hid hje
                    clear hje
                    by_cases l2 : ps.length = 2
                    · have c0 := HC2.out 0 (by omega)
                      have c1 := HC2.out 1 (by omega)
                      rw [Nat.add_zero] at c0
                      obtain ⟨p0, hp0⟩ : ∃ p0, p0 = ps.getD 0 0 := ⟨_, rfl⟩
                      obtain ⟨p1, hp1⟩ : ∃ p1, p1 = ps.getD 1 0 := ⟨_, rfl⟩
                      rw [← hp0] at c0
                      rw [← hp1] at c1
                      have HP0 := Lib.hid hp0
                      have HP1 := Lib.hid hp1
                      have HL2 := Lib.hid l2
                      have e2 : ((ps.length : Int) == 2) = true := beq_iff_eq.2 (by omega)
                      have l2a : 1 < ps.length := by omega
                      clear hp0 hp1 l2
                      by_cases pe : p0 = p1
                      · have d : (p0 == p1) = true := by simpa using pe
                        have HPE := Lib.hid pe
                        clear pe
                        go_wp2_with fail
                        go_quiet (fail)
                        go_wp2_with fail
                        go_ret
                        exact ⟨⟨false, rfl, by
                          constructor
                          · intro h; cases h
                          · intro h
                            have h5 := (OKI.out h).2.2.2.2
                            rw [HPS.out] at h5
                            exact absurd (by rw [← HP0.out, ← HP1.out]; exact HPE.out) (h5 HL2.out)⟩, below_drewN B3.out _⟩
                      · have d : (p0 == p1) = false := by simpa using pe
                        have HPE := Lib.hid pe
                        clear pe
                        go_wp2_with fail
                        go_quiet (fail)
                        go_wp2_with fail
                        go_roundw
                        case rel => exact ⟨i + 1, by go_num, by omega, FIN.out (fun p hp => by
                          obtain ⟨j', hj', rfl⟩ := getD_mem hp
                          exact HG.out j' (by rw [HJ.out]; exact hj')) (fun _ => by rw [← HP0.out, ← HP1.out]; exact HPE.out), below_drewN B3.out _⟩
                        case measure => simp [intOf]; omega
                    · have e2 : ((ps.length : Int) == 2) = false := beq_eq_false_iff_ne.2 (by omega)
                      go_wp2_with fail
                      go_quiet (fail)
                      go_wp2_with fail
                      go_roundw
                      case rel => exact ⟨i + 1, by go_num, by omega, FIN.out (fun p hp => by
                          obtain ⟨j', hj', rfl⟩ := getD_mem hp
                          exact HG.out j' (by rw [HJ.out]; exact hj')) (fun e => absurd e l2), below_drewN B3.out _⟩
                      case measure => simp [intOf]; omega
            · have d4 : decide (2 < ps.length) = true := by simp; omega
              go_wp2_with fail
              rw [← hW2]
              clear hW2
              go_quiet (fail)
              go_wp2_with fail
              go_ret
              exact ⟨⟨false, rfl, ⟨(fun h => by cases h), fun h => by have := (OKI.out h).2.2.1; rw [HPS.out] at this; omega⟩⟩, below_drewN B2.out _⟩
          · have i0' : 0 < i := by omega
            have id1 : decide (0 < i) = true := by simp; omega
            clear i0
            have kp := KP.out i0'
            have ei : (i : Int) - 1 = ((i - 1 : Nat) : Int) := by omega
            have ii : i - 1 < n := by omega
            generalize i - 1 = i1 at kp ei ii
            by_cases t3 : y < x
            · have d3 : decide (x ≤ y) = false := by simp; omega
              by_cases t4 : ps.length ≤ 2
              · have d4 : decide (2 < ps.length) = false := by simp; omega
                have FIN : Hid ((∀ p ∈ ps, Seen l i p) → (ps.length = 2 → ps.getD 0 0 ≠ ps.getD 1 0) → ∀ j, j < i + 1 → OkAt l j) := HOK1.out t1 (fun _ => t3) t4
                go_wp2_with fail
                rw [← hW2]
                clear hW2
                go_quiet (fail)
                obtain ⟨W3, hW3⟩ : ∃ W3, W3 = W2.drewN nq := ⟨_, rfl⟩
                rw [← hW3]
                have B3 : Hid (Below w.heap.size w W3) := by rw [hW3]; exact below_drewN B2.out _
                have k3 : W3.cell? ⟨wr.heap.size, 1, none⟩ = some (.slice A2 ps.length c2) := by rw [hW3]; exact k1
                have k30 : W3.cell? ⟨wr.heap.size, 0, none⟩ = some (.int .i64 x) := by rw [hW3]; exact k0
                have K3 : Hid (Knots w.heap.size W3 (some ⟨g, off, none⟩) (l.take i)) := (HK.out.below B3.out).take i
                have hlti : i = (l.take i).length := by rw [List.length_take, ← HN.out]; omega
                have HLT := Lib.hid hlti
                clear hW3 B2 k1 k0 hlti
                rcases ints_parts h3 with hnil | ⟨hne, g2, off2, hA2, hc2⟩
                · have HNil := Lib.hid hnil
                  have hl0 : ps.length ≤ 0 := by rw [hnil]; exact Nat.le_refl _
                  clear hnil
                  go_wp2_with fail
                  go_loopw [41] (fun v wi => v = .int .i64 0 ∧ W3 = wi) (fun _ _ => 0)
                  case atStart => exact ⟨rfl, rfl⟩
                  case round =>
                    obtain ⟨rfl, rfl⟩ := hrel
                    have e2 : ((ps.length : Int) == 2) = false := beq_eq_false_iff_ne.2 (by omega)
                    go_wp2_with fail
                    go_quiet (fail)
                    go_wp2_with fail
                    go_roundw
                    case rel => exact ⟨i + 1, by go_num, by omega, FIN.out (by rw [HNil.out]; simp) (by rw [HNil.out]; simp), below_drewN B3.out _⟩
                    case measure => simp [intOf]; omega
                · have hg2 := HA.out hne g2 off2 hA2
                  clear hne
                  subst hA2
                  have hc2' : ∀ j, j < ps.length → W3.cell? ⟨g2, off2 + j, none⟩ = some (.int .i64 (ps.getD j 0)) := fun j hj => by
                    rw [B3.out.cell (p := ⟨g2, off2 + j, none⟩) hg2]; exact hc2 j hj
                  have HC2 := Lib.hid hc2'
                  clear hc2 hc2'
                  go_wp2_with fail
                  go_loopw [41] (fun v wi => W3 = wi ∧ ∃ j : Nat, v = .int .i64 j ∧ j ≤ ps.length ∧ ∀ j', j' < j → Seen l i (ps.getD j' 0)) (fun v _ => ps.length - (intOf v).toNat)
                  case atStart => exact ⟨rfl, 0, rfl, Nat.zero_le _, fun j' hj' => absurd hj' (by omega)⟩
                  case round =>
                    obtain ⟨rfl, j, rfl, hj, hgood⟩ := hrel
                    have HG := Lib.hid hgood
                    clear hgood
                    by_cases hjl : j < ps.length
                    · have hcj := HC2.out j hjl
                      have hpm : Hid (ps.getD j 0 ∈ ps) := mem_getD hjl
                      obtain ⟨p, hp⟩ : ∃ p, p = ps.getD j 0 := ⟨_, rfl⟩
                      rw [← hp] at hcj hpm
                      have HP := Lib.hid hp
                      clear hp
                      have hic : i ≤ c := by omega
                      go_wp2_with fail
                      refine (at_any (some ⟨g, off, none⟩) c i w.heap.size (l.take i) p W3 K3.out HLT.out (by omega)).mono ?_
                      rintro e w' ⟨⟨r, rfl, hr⟩, rfl⟩
                      have HR := Lib.hid hr
                      clear hr
                      by_cases hr0 : 0 ≤ r
                      · go_wp2_with fail
                        go_roundw
                        case rel => exact ⟨trivial, j + 1, by go_num, by omega, fun j' hj' => by
                          rcases Nat.lt_or_ge j' j with g | g
                          · exact HG.out j' g
                          · have : j' = j := by omega
                            subst this
                            rw [← HP.out]
                            exact (has_take (by rw [← HN.out]; omega)).1 (HR.out.1 hr0)⟩
                        case measure => simp [intOf]; omega
                      · go_wp2_with fail
                        go_ret
                        exact ⟨⟨false, rfl, by
                          constructor
                          · intro h; cases h
                          · intro h
                            have := (OKI.out h).2.2.2.1 p (by rw [HPS.out]; exact hpm.out)
                            exact absurd (HR.out.2 ((has_take (by rw [← HN.out]; omega)).2 this)) (by omega)⟩, B3.out⟩
                    · have hje : j = ps.length := by omega
                      have HJ := Lib.hid hje
                      clear hje
                      by_cases l2 : ps.length = 2
                      · have c0 := HC2.out 0 (by omega)
                        have c1 := HC2.out 1 (by omega)
                        rw [Nat.add_zero] at c0
                        obtain ⟨p0, hp0⟩ : ∃ p0, p0 = ps.getD 0 0 := ⟨_, rfl⟩
                        obtain ⟨p1, hp1⟩ : ∃ p1, p1 = ps.getD 1 0 := ⟨_, rfl⟩
                        rw [← hp0] at c0
                        rw [← hp1] at c1
                        have HP0 := Lib.hid hp0
                        have HP1 := Lib.hid hp1
                        have HL2 := Lib.hid l2
                        have e2 : ((ps.length : Int) == 2) = true := beq_iff_eq.2 (by omega)
                        have l2a : 1 < ps.length := by omega
                        clear hp0 hp1 l2
                        by_cases pe : p0 = p1
                        · have d : (p0 == p1) = true := by simpa using pe
                          have HPE := Lib.hid pe
                          clear pe
                          go_wp2_with fail
                          go_quiet (fail)
                          go_wp2_with fail
                          go_ret
                          exact ⟨⟨false, rfl, by
                            constructor
                            · intro h; cases h
                            · intro h
                              have h5 := (OKI.out h).2.2.2.2
                              rw [HPS.out] at h5
                              exact absurd (by rw [← HP0.out, ← HP1.out]; exact HPE.out) (h5 HL2.out)⟩, below_drewN B3.out _⟩
                        · have d : (p0 == p1) = false := by simpa using pe
                          have HPE := Lib.hid pe
                          clear pe
                          go_wp2_with fail
                          go_quiet (fail)
                          go_wp2_with fail
                          go_roundw
                          case rel => exact ⟨i + 1, by go_num, by omega, FIN.out (fun p hp => by
                            obtain ⟨j', hj', rfl⟩ := getD_mem hp
                            exact HG.out j' (by rw [HJ.out]; exact hj')) (fun _ => by rw [← HP0.out, ← HP1.out]; exact HPE.out), below_drewN B3.out _⟩
                          case measure => simp [intOf]; omega
                      · have e2 : ((ps.length : Int) == 2) = false := beq_eq_false_iff_ne.2 (by omega)
                        go_wp2_with fail
                        go_quiet (fail)
                        go_wp2_with fail
                        go_roundw
                        case rel => exact ⟨i + 1, by go_num, by omega, FIN.out (fun p hp => by
                            obtain ⟨j', hj', rfl⟩ := getD_mem hp
                            exact HG.out j' (by rw [HJ.out]; exact hj')) (fun e => absurd e l2), below_drewN B3.out _⟩
                        case measure => simp [intOf]; omega
              · have d4 : decide (2 < ps.length) = true := by simp; omega
                go_wp2_with fail
                rw [← hW2]
                clear hW2
                go_quiet (fail)
                go_wp2_with fail
                go_ret
                exact ⟨⟨false, rfl, ⟨(fun h => by cases h), fun h => by have := (OKI.out h).2.2.1; rw [HPS.out] at this; omega⟩⟩, below_drewN B2.out _⟩
            · have d3 : decide (x ≤ y) = true := by simp; omega
              go_wp2_with fail
              rw [← hW2]
              clear hW2
              go_quiet (fail)
              go_wp2_with fail
              go_ret
              exact ⟨⟨false, rfl, ⟨(fun h => by cases h), fun h => by have := (OKI.out h).2.1 i0'; rw [← HX.out, ← HY.out] at this; omega⟩⟩, below_drewN B2.out _⟩
        · have d1 : decide (x < 1) = true := by simp; omega
          go_wp2_with fail
          rw [← hW2]
          clear hW2
          go_quiet (fail)
          go_wp2_with fail
          go_ret
          exact ⟨⟨false, rfl, ⟨(fun h => by cases h), fun h => by have := (OKI.out h).1; rw [← HX.out] at this; omega⟩⟩, below_drewN B2.out _⟩
      · have hin : i = n := by omega
        have HIN := Lib.hid hin
        clear hin hc
        go_wp2_with fail
        go_ret
        exact ⟨⟨true, rfl, ⟨fun _ j hj => HOK.out j (by rw [HIN.out, HN.out]; exact hj), fun _ => rfl⟩⟩, hB⟩
end Go.Proofs.Ytpaegpbabfohcaa.WalkDag
