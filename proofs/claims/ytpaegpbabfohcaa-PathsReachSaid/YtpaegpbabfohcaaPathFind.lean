/-
  Searches: slices.BinarySearchFunc over nodes, over edges.
-/
import Derived.Test.YtpaegpbabfohcaaPathGraph
namespace Go.Proofs.Ytpaegpbabfohcaa.Paths
open Go.RowKit Go.Proofs.Ytpaegpbabfohcaa.WalkBytes
set_option linter.unusedVariables false
set_option linter.unusedSimpArgs false
set_option maxRecDepth 100000

theorem cmpNode_any (id s : ByteArray) (a1 a2 : Option Addr) (n1 c1 n2 c2 : Nat) (w : World) :
    Calls Try.prog 95 #[.agg #[.string id, .slice a1 n1 c1, .slice a2 n2 c2], .string s] w fun e w' => e = .returned (.int .i64 (cmpI id s)) ∧ Below w.heap.size w w' := by
  have hB := Joins.below_alloc1 w (.cells #[.string id, .slice a1 n1 c1, .slice a2 n2 c2] 59)
  have HB := Lib.hid hB
  clear hB
  go_enter Try.func95, Try.ntmps95
  go_wp2_with fail
  refine (compare_any id s _).mono ?_
  rintro e w' ⟨rfl, rfl⟩
  go_wp2_with fail
  go_ret
  exact ⟨rfl, HB.out⟩

set_option maxHeartbeats 3200000 in
theorem searchNode_any (A : Option Addr) (c : Nat) (N : List Nd) (s : ByteArray) (w : World) (h : Nds w.heap.size w A N) (hl : N.length ≤ 1000) (hr : Rise (fun i => (nd N i).id) N.length) :
    Calls Try.prog 60 #[.slice A N.length c, .string s, .func (.func 95) #[] #[]] w fun e w' => (∃ p b, e = .returned (.tuple #[.int .i64 (p : Nat), .bool b]) ∧ Found (fun i => (nd N i).id) N.length s p b) ∧ Below w.heap.size w w' := by
  obtain ⟨n, hn⟩ : ∃ n, n = N.length := ⟨_, rfl⟩
  rw [← hn]
  have hnl : n ≤ 1000 := by omega
  have HN := Lib.hid hn
  have HR : Hid (Rise (fun i => (nd N i).id) n) := by rw [hn]; exact hr
  clear hn hl hr
  go_enter Try.func60, Try.ntmps60
  rcases h with hnil | ⟨g, off, rfl, hg, hc⟩
  · have hm0 : n = 0 := by rw [HN.out, hnil]; rfl
    clear hnil
    subst hm0
    go_wp2_with fail
    go_loopw [9, 10] (fun u v wr => u = .int .i64 0 ∧ v = .int .i64 0 ∧ w = wr) (fun u v _ => 0)
    case atStart => exact ⟨rfl, rfl, rfl⟩
    case round =>
      obtain ⟨rfl, rfl, rfl⟩ := hrel
      go_wp2_with fail
      go_ret2
      exact ⟨⟨0, false, rfl, Nat.le_refl _, (fun h => by cases h), fun _ i hi => absurd hi (by omega)⟩, Below.refl _ _⟩
  · go_wp2_with fail
    go_loopw [9, 10] (fun u v wr => ∃ i j : Nat, u = .int .i64 i ∧ v = .int .i64 j ∧ i ≤ j ∧ j ≤ n ∧ Hid (∀ k, k < i → lt (nd N k).id s = true) ∧ Hid (∀ k, j ≤ k → k < n → lt (nd N k).id s = false) ∧ Below w.heap.size w wr) (fun u v _ => (intOf v).toNat - (intOf u).toNat)
    case atStart => exact ⟨0, n, rfl, rfl, by omega, Nat.le_refl _, (fun k hk => by omega), (fun k a b => by omega), Below.refl _ _⟩
    case round =>
      obtain ⟨i, j, rfl, rfl, hij, hjn, hlo, hhi, hB⟩ := hrel
      have hsz : w.heap.size ≤ wr.heap.size := hB.size
      by_cases hlt : i < j
      · obtain ⟨h, hh⟩ : ∃ h, h = (i + j) / 2 := ⟨_, rfl⟩
        have hih : i ≤ h := by omega
        have hhj : h < j := by omega
        have eh : ((i : Int) + (j : Int)) / 2 = (h : Int) := by omega
        clear hh
        obtain ⟨c0, c1, c2, -, -⟩ := hc h (by rw [← HN.out]; omega)
        obtain ⟨d, hd⟩ : ∃ z, z = (nd N h).id := ⟨_, rfl⟩
        replace c0 : wr.cell? ⟨g, off + h * 3, none⟩ = some (.string d) := by rw [hB.cell (p := ⟨g, off + h * 3, none⟩) hg, hd]; exact c0
        obtain ⟨vl, hvl⟩ : ∃ z, z = (nd N h).x.l := ⟨_, rfl⟩
        have svl : ∃ a n c, vl = .slice a n c := ⟨_, _, _, hvl⟩
        replace c1 : wr.cell? ⟨g, off + h * 3 + 1, none⟩ = some vl := by rw [hB.cell (p := ⟨g, off + h * 3 + 1, none⟩) hg, hvl]; exact c1
        obtain ⟨vp, hvp⟩ : ∃ z, z = (nd N h).x.p := ⟨_, rfl⟩
        have svp : ∃ a n c, vp = .slice a n c := ⟨_, _, _, hvp⟩
        replace c2 : wr.cell? ⟨g, off + h * 3 + 2, none⟩ = some vp := by rw [hB.cell (p := ⟨g, off + h * 3 + 2, none⟩) hg, hvp]; exact c2
        have HD := Lib.hid hd
        clear hd hvl hvp
        obtain ⟨a1, n1, c1x, rfl⟩ := svl
        obtain ⟨a2, n2, c2x, rfl⟩ := svp
        have HRI : Hid (∀ k, k < h → lt (nd N k).id (nd N h).id = true) := fun k hk => HR.out k h hk (by omega)
        have HRJ : Hid (∀ k, h < k → k < n → lt (nd N h).id (nd N k).id = true) := fun k hk hn => HR.out h k hk hn
        clear hc
        obtain ⟨C, hC⟩ : ∃ C, C = cmpI d s := ⟨_, rfl⟩
        have HC : Hid (C < 0 ↔ lt d s = true) := by rw [hC]; exact cmp_neg
        have HCC := Lib.hid hC
        clear hC
        go_wp2_with fail
        refine (cmpNode_any d s a1 a2 n1 c1x n2 c2x wr).mono ?_
        rintro e w5 ⟨rfl, hB5⟩
        rw [← HCC.out]
        have HB5 : Hid (Below w.heap.size w w5) := hB.trans (hB5.mono hsz)
        clear hB5 hB
        by_cases hc0 : C < 0
        · have d0 : decide (C < 0) = true := by simpa using hc0
          have hl := HC.out.1 hc0
          have HLO : Hid (∀ k, k < h + 1 → lt (nd N k).id s = true) := fun k hk => by
            rcases Nat.lt_or_ge k h with q | q
            · exact lt_trans (by have := HRI.out k q; rw [← HD.out] at this; exact this) hl
            · rw [show k = h by omega, ← HD.out]; exact hl
          clear hc0 hl
          go_wp2_with fail
          go_roundw
          case rel => exact ⟨h + 1, j, by go_num, rfl, by omega, hjn, HLO, hhi, HB5.out⟩
          case measure => simp [intOf]; omega
        · have d0 : decide (C < 0) = false := by simpa using hc0
          have hl : lt d s = false := by
            cases q : lt d s with
            | false => rfl
            | true => exact absurd (HC.out.2 q) hc0
          have HHI : Hid (∀ k, h ≤ k → k < n → lt (nd N k).id s = false) := fun k hk hkn => by
            rcases Nat.lt_or_ge h k with q | q
            · cases z : lt (nd N k).id s with
              | false => rfl
              | true =>
                have := HRJ.out k q hkn
                rw [← HD.out] at this
                rw [lt_trans this z] at hl
                cases hl
            · rw [show k = h by omega, ← HD.out]; exact hl
          clear hc0 hl
          go_wp2_with fail
          go_roundw
          case rel => exact ⟨i, h, rfl, rfl, by omega, by omega, hlo, HHI, HB5.out⟩
          case measure => simp [intOf]; omega
      · have hij2 : j = i := by omega
        subst hij2
        clear hij
        by_cases hjn2 : j < n
        · obtain ⟨h, hh⟩ : ∃ h, h = j := ⟨_, rfl⟩
          obtain ⟨c0, c1, c2, -, -⟩ := hc j (by rw [← HN.out]; exact hjn2)
          obtain ⟨d, hd⟩ : ∃ z, z = (nd N j).id := ⟨_, rfl⟩
          replace c0 : wr.cell? ⟨g, off + j * 3, none⟩ = some (.string d) := by rw [hB.cell (p := ⟨g, off + j * 3, none⟩) hg, hd]; exact c0
          obtain ⟨vl, hvl⟩ : ∃ z, z = (nd N j).x.l := ⟨_, rfl⟩
          have svl : ∃ a n c, vl = .slice a n c := ⟨_, _, _, hvl⟩
          replace c1 : wr.cell? ⟨g, off + j * 3 + 1, none⟩ = some vl := by rw [hB.cell (p := ⟨g, off + j * 3 + 1, none⟩) hg, hvl]; exact c1
          obtain ⟨vp, hvp⟩ : ∃ z, z = (nd N j).x.p := ⟨_, rfl⟩
          have svp : ∃ a n c, vp = .slice a n c := ⟨_, _, _, hvp⟩
          replace c2 : wr.cell? ⟨g, off + j * 3 + 2, none⟩ = some vp := by rw [hB.cell (p := ⟨g, off + j * 3 + 2, none⟩) hg, hvp]; exact c2
          have HD := Lib.hid hd
          clear hd hvl hvp
          obtain ⟨a1, n1, c1x, rfl⟩ := svl
          obtain ⟨a2, n2, c2x, rfl⟩ := svp
          have HRJ : Hid (∀ k, j < k → k < n → lt (nd N j).id (nd N k).id = true) := fun k hk hn => HR.out j k hk hn
          clear hc hh h
          obtain ⟨C, hC⟩ : ∃ C, C = cmpI d s := ⟨_, rfl⟩
          have HC : Hid (C = 0 ↔ d = s) := by rw [hC]; exact cmp_zero
          have HCC := Lib.hid hC
          clear hC
          go_wp2_with fail
          refine (cmpNode_any d s a1 a2 n1 c1x n2 c2x wr).mono ?_
          rintro e w5 ⟨rfl, hB5⟩
          rw [← HCC.out]
          have HB5 : Hid (Below w.heap.size w w5) := hB.trans (hB5.mono hsz)
          clear hB5 hB
          by_cases hc0 : C = 0
          · have d0 : (C == 0) = true := by simpa using hc0
            have hl := HC.out.1 hc0
            have HL := Lib.hid hl
            clear hc0 hl
            go_wp2_with fail
            go_ret2
            exact ⟨⟨j, true, rfl, hjn, fun _ => ⟨hjn2, by show (nd N j).id = s; rw [← HD.out]; exact HL.out⟩, (fun q => by cases q)⟩, HB5.out⟩
          · have d0 : (C == 0) = false := by simpa using hc0
            have hl : ¬ d = s := fun q => hc0 (HC.out.2 q)
            have HL := Lib.hid hl
            clear hc0 hl
            go_wp2_with fail
            go_ret2
            exact ⟨⟨j, false, rfl, hjn, (fun q => by cases q), fun _ k hk => by
              show (nd N k).id ≠ s
              intro hks
              rcases Nat.lt_trichotomy k j with q | q | q
              · have := hlo.out k q
                rw [hks, lt_irrefl] at this; cases this
              · rw [q, ← HD.out] at hks
                exact HL.out hks
              · have h1 := HRJ.out k q hk
                have h2 := hhi.out j (Nat.le_refl _) hjn2
                rw [hks, h2] at h1; cases h1⟩, HB5.out⟩
        · have hj : j = n := by omega
          have d0 : decide (j < n) = false := by simpa using hjn2
          have HJ := Lib.hid hj
          clear hc hj
          go_wp2_with fail
          go_ret2
          exact ⟨⟨j, false, rfl, hjn, (fun q => by cases q), fun _ k hk => by
            show (nd N k).id ≠ s
            intro hks
            have := hlo.out k (by rw [HJ.out]; exact hk)
            rw [hks, lt_irrefl] at this; cases this⟩, hB⟩

theorem cmpPart_any (id s : ByteArray) (a1 a2 : Option Addr) (n1 c1 n2 c2 : Nat) (w : World) :
    Calls Try.prog 61 #[.agg #[.string id, .slice a1 n1 c1, .slice a2 n2 c2], .string s] w fun e w' => e = .returned (.int .i64 (cmpI id s)) ∧ Below w.heap.size w w' := by
  have hB := Joins.below_alloc1 w (.cells #[.string id, .slice a1 n1 c1, .slice a2 n2 c2] 59)
  have HB := Lib.hid hB
  clear hB
  go_enter Try.func61, Try.ntmps61
  go_wp2_with fail
  refine (compare_any id s _).mono ?_
  rintro e w' ⟨rfl, rfl⟩
  go_wp2_with fail
  go_ret
  exact ⟨rfl, HB.out⟩

set_option maxHeartbeats 3200000 in
theorem searchPart_any (A : Option Addr) (c : Nat) (N : List Nd) (s : ByteArray) (w : World) (h : Nds w.heap.size w A N) (hl : N.length ≤ 1000) (hr : Rise (fun i => (nd N i).id) N.length) :
    Calls Try.prog 60 #[.slice A N.length c, .string s, .func (.func 61) #[] #[]] w fun e w' => (∃ p b, e = .returned (.tuple #[.int .i64 (p : Nat), .bool b]) ∧ Found (fun i => (nd N i).id) N.length s p b) ∧ Below w.heap.size w w' := by
  obtain ⟨n, hn⟩ : ∃ n, n = N.length := ⟨_, rfl⟩
  rw [← hn]
  have hnl : n ≤ 1000 := by omega
  have HN := Lib.hid hn
  have HR : Hid (Rise (fun i => (nd N i).id) n) := by rw [hn]; exact hr
  clear hn hl hr
  go_enter Try.func60, Try.ntmps60
  rcases h with hnil | ⟨g, off, rfl, hg, hc⟩
  · have hm0 : n = 0 := by rw [HN.out, hnil]; rfl
    clear hnil
    subst hm0
    go_wp2_with fail
    go_loopw [9, 10] (fun u v wr => u = .int .i64 0 ∧ v = .int .i64 0 ∧ w = wr) (fun u v _ => 0)
    case atStart => exact ⟨rfl, rfl, rfl⟩
    case round =>
      obtain ⟨rfl, rfl, rfl⟩ := hrel
      go_wp2_with fail
      go_ret2
      exact ⟨⟨0, false, rfl, Nat.le_refl _, (fun h => by cases h), fun _ i hi => absurd hi (by omega)⟩, Below.refl _ _⟩
  · go_wp2_with fail
    go_loopw [9, 10] (fun u v wr => ∃ i j : Nat, u = .int .i64 i ∧ v = .int .i64 j ∧ i ≤ j ∧ j ≤ n ∧ Hid (∀ k, k < i → lt (nd N k).id s = true) ∧ Hid (∀ k, j ≤ k → k < n → lt (nd N k).id s = false) ∧ Below w.heap.size w wr) (fun u v _ => (intOf v).toNat - (intOf u).toNat)
    case atStart => exact ⟨0, n, rfl, rfl, by omega, Nat.le_refl _, (fun k hk => by omega), (fun k a b => by omega), Below.refl _ _⟩
    case round =>
      obtain ⟨i, j, rfl, rfl, hij, hjn, hlo, hhi, hB⟩ := hrel
      have hsz : w.heap.size ≤ wr.heap.size := hB.size
      by_cases hlt : i < j
      · obtain ⟨h, hh⟩ : ∃ h, h = (i + j) / 2 := ⟨_, rfl⟩
        have hih : i ≤ h := by omega
        have hhj : h < j := by omega
        have eh : ((i : Int) + (j : Int)) / 2 = (h : Int) := by omega
        clear hh
        obtain ⟨c0, c1, c2, -, -⟩ := hc h (by rw [← HN.out]; omega)
        obtain ⟨d, hd⟩ : ∃ z, z = (nd N h).id := ⟨_, rfl⟩
        replace c0 : wr.cell? ⟨g, off + h * 3, none⟩ = some (.string d) := by rw [hB.cell (p := ⟨g, off + h * 3, none⟩) hg, hd]; exact c0
        obtain ⟨vl, hvl⟩ : ∃ z, z = (nd N h).x.l := ⟨_, rfl⟩
        have svl : ∃ a n c, vl = .slice a n c := ⟨_, _, _, hvl⟩
        replace c1 : wr.cell? ⟨g, off + h * 3 + 1, none⟩ = some vl := by rw [hB.cell (p := ⟨g, off + h * 3 + 1, none⟩) hg, hvl]; exact c1
        obtain ⟨vp, hvp⟩ : ∃ z, z = (nd N h).x.p := ⟨_, rfl⟩
        have svp : ∃ a n c, vp = .slice a n c := ⟨_, _, _, hvp⟩
        replace c2 : wr.cell? ⟨g, off + h * 3 + 2, none⟩ = some vp := by rw [hB.cell (p := ⟨g, off + h * 3 + 2, none⟩) hg, hvp]; exact c2
        have HD := Lib.hid hd
        clear hd hvl hvp
        obtain ⟨a1, n1, c1x, rfl⟩ := svl
        obtain ⟨a2, n2, c2x, rfl⟩ := svp
        have HRI : Hid (∀ k, k < h → lt (nd N k).id (nd N h).id = true) := fun k hk => HR.out k h hk (by omega)
        have HRJ : Hid (∀ k, h < k → k < n → lt (nd N h).id (nd N k).id = true) := fun k hk hn => HR.out h k hk hn
        clear hc
        obtain ⟨C, hC⟩ : ∃ C, C = cmpI d s := ⟨_, rfl⟩
        have HC : Hid (C < 0 ↔ lt d s = true) := by rw [hC]; exact cmp_neg
        have HCC := Lib.hid hC
        clear hC
        go_wp2_with fail
        refine (cmpPart_any d s a1 a2 n1 c1x n2 c2x wr).mono ?_
        rintro e w5 ⟨rfl, hB5⟩
        rw [← HCC.out]
        have HB5 : Hid (Below w.heap.size w w5) := hB.trans (hB5.mono hsz)
        clear hB5 hB
        by_cases hc0 : C < 0
        · have d0 : decide (C < 0) = true := by simpa using hc0
          have hl := HC.out.1 hc0
          have HLO : Hid (∀ k, k < h + 1 → lt (nd N k).id s = true) := fun k hk => by
            rcases Nat.lt_or_ge k h with q | q
            · exact lt_trans (by have := HRI.out k q; rw [← HD.out] at this; exact this) hl
            · rw [show k = h by omega, ← HD.out]; exact hl
          clear hc0 hl
          go_wp2_with fail
          go_roundw
          case rel => exact ⟨h + 1, j, by go_num, rfl, by omega, hjn, HLO, hhi, HB5.out⟩
          case measure => simp [intOf]; omega
        · have d0 : decide (C < 0) = false := by simpa using hc0
          have hl : lt d s = false := by
            cases q : lt d s with
            | false => rfl
            | true => exact absurd (HC.out.2 q) hc0
          have HHI : Hid (∀ k, h ≤ k → k < n → lt (nd N k).id s = false) := fun k hk hkn => by
            rcases Nat.lt_or_ge h k with q | q
            · cases z : lt (nd N k).id s with
              | false => rfl
              | true =>
                have := HRJ.out k q hkn
                rw [← HD.out] at this
                rw [lt_trans this z] at hl
                cases hl
            · rw [show k = h by omega, ← HD.out]; exact hl
          clear hc0 hl
          go_wp2_with fail
          go_roundw
          case rel => exact ⟨i, h, rfl, rfl, by omega, by omega, hlo, HHI, HB5.out⟩
          case measure => simp [intOf]; omega
      · have hij2 : j = i := by omega
        subst hij2
        clear hij
        by_cases hjn2 : j < n
        · obtain ⟨h, hh⟩ : ∃ h, h = j := ⟨_, rfl⟩
          obtain ⟨c0, c1, c2, -, -⟩ := hc j (by rw [← HN.out]; exact hjn2)
          obtain ⟨d, hd⟩ : ∃ z, z = (nd N j).id := ⟨_, rfl⟩
          replace c0 : wr.cell? ⟨g, off + j * 3, none⟩ = some (.string d) := by rw [hB.cell (p := ⟨g, off + j * 3, none⟩) hg, hd]; exact c0
          obtain ⟨vl, hvl⟩ : ∃ z, z = (nd N j).x.l := ⟨_, rfl⟩
          have svl : ∃ a n c, vl = .slice a n c := ⟨_, _, _, hvl⟩
          replace c1 : wr.cell? ⟨g, off + j * 3 + 1, none⟩ = some vl := by rw [hB.cell (p := ⟨g, off + j * 3 + 1, none⟩) hg, hvl]; exact c1
          obtain ⟨vp, hvp⟩ : ∃ z, z = (nd N j).x.p := ⟨_, rfl⟩
          have svp : ∃ a n c, vp = .slice a n c := ⟨_, _, _, hvp⟩
          replace c2 : wr.cell? ⟨g, off + j * 3 + 2, none⟩ = some vp := by rw [hB.cell (p := ⟨g, off + j * 3 + 2, none⟩) hg, hvp]; exact c2
          have HD := Lib.hid hd
          clear hd hvl hvp
          obtain ⟨a1, n1, c1x, rfl⟩ := svl
          obtain ⟨a2, n2, c2x, rfl⟩ := svp
          have HRJ : Hid (∀ k, j < k → k < n → lt (nd N j).id (nd N k).id = true) := fun k hk hn => HR.out j k hk hn
          clear hc hh h
          obtain ⟨C, hC⟩ : ∃ C, C = cmpI d s := ⟨_, rfl⟩
          have HC : Hid (C = 0 ↔ d = s) := by rw [hC]; exact cmp_zero
          have HCC := Lib.hid hC
          clear hC
          go_wp2_with fail
          refine (cmpPart_any d s a1 a2 n1 c1x n2 c2x wr).mono ?_
          rintro e w5 ⟨rfl, hB5⟩
          rw [← HCC.out]
          have HB5 : Hid (Below w.heap.size w w5) := hB.trans (hB5.mono hsz)
          clear hB5 hB
          by_cases hc0 : C = 0
          · have d0 : (C == 0) = true := by simpa using hc0
            have hl := HC.out.1 hc0
            have HL := Lib.hid hl
            clear hc0 hl
            go_wp2_with fail
            go_ret2
            exact ⟨⟨j, true, rfl, hjn, fun _ => ⟨hjn2, by show (nd N j).id = s; rw [← HD.out]; exact HL.out⟩, (fun q => by cases q)⟩, HB5.out⟩
          · have d0 : (C == 0) = false := by simpa using hc0
            have hl : ¬ d = s := fun q => hc0 (HC.out.2 q)
            have HL := Lib.hid hl
            clear hc0 hl
            go_wp2_with fail
            go_ret2
            exact ⟨⟨j, false, rfl, hjn, (fun q => by cases q), fun _ k hk => by
              show (nd N k).id ≠ s
              intro hks
              rcases Nat.lt_trichotomy k j with q | q | q
              · have := hlo.out k q
                rw [hks, lt_irrefl] at this; cases this
              · rw [q, ← HD.out] at hks
                exact HL.out hks
              · have h1 := HRJ.out k q hk
                have h2 := hhi.out j (Nat.le_refl _) hjn2
                rw [hks, h2] at h1; cases h1⟩, HB5.out⟩
        · have hj : j = n := by omega
          have d0 : decide (j < n) = false := by simpa using hjn2
          have HJ := Lib.hid hj
          clear hc hj
          go_wp2_with fail
          go_ret2
          exact ⟨⟨j, false, rfl, hjn, (fun q => by cases q), fun _ k hk => by
            show (nd N k).id ≠ s
            intro hks
            have := hlo.out k (by rw [HJ.out]; exact hk)
            rw [hks, lt_irrefl] at this; cases this⟩, hB⟩

theorem cmpEdge_any (id s : ByteArray) (f t : ByteArray) (a1 a2 : Option Addr) (n1 c1 n2 c2 : Nat) (w : World) :
    Calls Try.prog 99 #[.agg #[.string id, .string f, .string t, .slice a1 n1 c1, .slice a2 n2 c2], .string s] w fun e w' => e = .returned (.int .i64 (cmpI id s)) ∧ Below w.heap.size w w' := by
  have hB := Joins.below_alloc1 w (.cells #[.string id, .string f, .string t, .slice a1 n1 c1, .slice a2 n2 c2] 74)
  have HB := Lib.hid hB
  clear hB
  go_enter Try.func99, Try.ntmps99
  go_wp2_with fail
  refine (compare_any id s _).mono ?_
  rintro e w' ⟨rfl, rfl⟩
  go_wp2_with fail
  go_ret
  exact ⟨rfl, HB.out⟩

set_option maxHeartbeats 3200000 in
theorem searchEdge_any (A : Option Addr) (c : Nat) (N : List Ed) (s : ByteArray) (w : World) (h : Eds w.heap.size w A N) (hl : N.length ≤ 1000) (hr : Rise (fun i => (ed N i).id) N.length) :
    Calls Try.prog 98 #[.slice A N.length c, .string s, .func (.func 99) #[] #[]] w fun e w' => (∃ p b, e = .returned (.tuple #[.int .i64 (p : Nat), .bool b]) ∧ Found (fun i => (ed N i).id) N.length s p b) ∧ Below w.heap.size w w' := by
  obtain ⟨n, hn⟩ : ∃ n, n = N.length := ⟨_, rfl⟩
  rw [← hn]
  have hnl : n ≤ 1000 := by omega
  have HN := Lib.hid hn
  have HR : Hid (Rise (fun i => (ed N i).id) n) := by rw [hn]; exact hr
  clear hn hl hr
  go_enter Try.func98, Try.ntmps98
  rcases h with hnil | ⟨g, off, rfl, hg, hc⟩
  · have hm0 : n = 0 := by rw [HN.out, hnil]; rfl
    clear hnil
    subst hm0
    go_wp2_with fail
    go_loopw [9, 10] (fun u v wr => u = .int .i64 0 ∧ v = .int .i64 0 ∧ w = wr) (fun u v _ => 0)
    case atStart => exact ⟨rfl, rfl, rfl⟩
    case round =>
      obtain ⟨rfl, rfl, rfl⟩ := hrel
      go_wp2_with fail
      go_ret2
      exact ⟨⟨0, false, rfl, Nat.le_refl _, (fun h => by cases h), fun _ i hi => absurd hi (by omega)⟩, Below.refl _ _⟩
  · go_wp2_with fail
    go_loopw [9, 10] (fun u v wr => ∃ i j : Nat, u = .int .i64 i ∧ v = .int .i64 j ∧ i ≤ j ∧ j ≤ n ∧ Hid (∀ k, k < i → lt (ed N k).id s = true) ∧ Hid (∀ k, j ≤ k → k < n → lt (ed N k).id s = false) ∧ Below w.heap.size w wr) (fun u v _ => (intOf v).toNat - (intOf u).toNat)
    case atStart => exact ⟨0, n, rfl, rfl, by omega, Nat.le_refl _, (fun k hk => by omega), (fun k a b => by omega), Below.refl _ _⟩
    case round =>
      obtain ⟨i, j, rfl, rfl, hij, hjn, hlo, hhi, hB⟩ := hrel
      have hsz : w.heap.size ≤ wr.heap.size := hB.size
      by_cases hlt : i < j
      · obtain ⟨h, hh⟩ : ∃ h, h = (i + j) / 2 := ⟨_, rfl⟩
        have hih : i ≤ h := by omega
        have hhj : h < j := by omega
        have eh : ((i : Int) + (j : Int)) / 2 = (h : Int) := by omega
        clear hh
        obtain ⟨c0, c1, c2, c3, c4, -, -, -, -⟩ := hc h (by rw [← HN.out]; omega)
        obtain ⟨d, hd⟩ : ∃ z, z = (ed N h).id := ⟨_, rfl⟩
        replace c0 : wr.cell? ⟨g, off + h * 5, none⟩ = some (.string d) := by rw [hB.cell (p := ⟨g, off + h * 5, none⟩) hg, hd]; exact c0
        obtain ⟨f, hf⟩ : ∃ z, z = (ed N h).fr := ⟨_, rfl⟩
        replace c1 : wr.cell? ⟨g, off + h * 5 + 1, none⟩ = some (.string f) := by rw [hB.cell (p := ⟨g, off + h * 5 + 1, none⟩) hg, hf]; exact c1
        obtain ⟨t, ht⟩ : ∃ z, z = (ed N h).tt := ⟨_, rfl⟩
        replace c2 : wr.cell? ⟨g, off + h * 5 + 2, none⟩ = some (.string t) := by rw [hB.cell (p := ⟨g, off + h * 5 + 2, none⟩) hg, ht]; exact c2
        obtain ⟨vl, hvl⟩ : ∃ z, z = (ed N h).x.l := ⟨_, rfl⟩
        have svl : ∃ a n c, vl = .slice a n c := ⟨_, _, _, hvl⟩
        replace c3 : wr.cell? ⟨g, off + h * 5 + 3, none⟩ = some vl := by rw [hB.cell (p := ⟨g, off + h * 5 + 3, none⟩) hg, hvl]; exact c3
        obtain ⟨vp, hvp⟩ : ∃ z, z = (ed N h).x.p := ⟨_, rfl⟩
        have svp : ∃ a n c, vp = .slice a n c := ⟨_, _, _, hvp⟩
        replace c4 : wr.cell? ⟨g, off + h * 5 + 4, none⟩ = some vp := by rw [hB.cell (p := ⟨g, off + h * 5 + 4, none⟩) hg, hvp]; exact c4
        have HD := Lib.hid hd
        clear hd hf ht hvl hvp
        obtain ⟨a1, n1, c1x, rfl⟩ := svl
        obtain ⟨a2, n2, c2x, rfl⟩ := svp
        have HRI : Hid (∀ k, k < h → lt (ed N k).id (ed N h).id = true) := fun k hk => HR.out k h hk (by omega)
        have HRJ : Hid (∀ k, h < k → k < n → lt (ed N h).id (ed N k).id = true) := fun k hk hn => HR.out h k hk hn
        clear hc
        obtain ⟨C, hC⟩ : ∃ C, C = cmpI d s := ⟨_, rfl⟩
        have HC : Hid (C < 0 ↔ lt d s = true) := by rw [hC]; exact cmp_neg
        have HCC := Lib.hid hC
        clear hC
        go_wp2_with fail
        refine (cmpEdge_any d s f t a1 a2 n1 c1x n2 c2x wr).mono ?_
        rintro e w5 ⟨rfl, hB5⟩
        rw [← HCC.out]
        have HB5 : Hid (Below w.heap.size w w5) := hB.trans (hB5.mono hsz)
        clear hB5 hB
        by_cases hc0 : C < 0
        · have d0 : decide (C < 0) = true := by simpa using hc0
          have hl := HC.out.1 hc0
          have HLO : Hid (∀ k, k < h + 1 → lt (ed N k).id s = true) := fun k hk => by
            rcases Nat.lt_or_ge k h with q | q
            · exact lt_trans (by have := HRI.out k q; rw [← HD.out] at this; exact this) hl
            · rw [show k = h by omega, ← HD.out]; exact hl
          clear hc0 hl
          go_wp2_with fail
          go_roundw
          case rel => exact ⟨h + 1, j, by go_num, rfl, by omega, hjn, HLO, hhi, HB5.out⟩
          case measure => simp [intOf]; omega
        · have d0 : decide (C < 0) = false := by simpa using hc0
          have hl : lt d s = false := by
            cases q : lt d s with
            | false => rfl
            | true => exact absurd (HC.out.2 q) hc0
          have HHI : Hid (∀ k, h ≤ k → k < n → lt (ed N k).id s = false) := fun k hk hkn => by
            rcases Nat.lt_or_ge h k with q | q
            · cases z : lt (ed N k).id s with
              | false => rfl
              | true =>
                have := HRJ.out k q hkn
                rw [← HD.out] at this
                rw [lt_trans this z] at hl
                cases hl
            · rw [show k = h by omega, ← HD.out]; exact hl
          clear hc0 hl
          go_wp2_with fail
          go_roundw
          case rel => exact ⟨i, h, rfl, rfl, by omega, by omega, hlo, HHI, HB5.out⟩
          case measure => simp [intOf]; omega
      · have hij2 : j = i := by omega
        subst hij2
        clear hij
        by_cases hjn2 : j < n
        · obtain ⟨h, hh⟩ : ∃ h, h = j := ⟨_, rfl⟩
          obtain ⟨c0, c1, c2, c3, c4, -, -, -, -⟩ := hc j (by rw [← HN.out]; exact hjn2)
          obtain ⟨d, hd⟩ : ∃ z, z = (ed N j).id := ⟨_, rfl⟩
          replace c0 : wr.cell? ⟨g, off + j * 5, none⟩ = some (.string d) := by rw [hB.cell (p := ⟨g, off + j * 5, none⟩) hg, hd]; exact c0
          obtain ⟨f, hf⟩ : ∃ z, z = (ed N j).fr := ⟨_, rfl⟩
          replace c1 : wr.cell? ⟨g, off + j * 5 + 1, none⟩ = some (.string f) := by rw [hB.cell (p := ⟨g, off + j * 5 + 1, none⟩) hg, hf]; exact c1
          obtain ⟨t, ht⟩ : ∃ z, z = (ed N j).tt := ⟨_, rfl⟩
          replace c2 : wr.cell? ⟨g, off + j * 5 + 2, none⟩ = some (.string t) := by rw [hB.cell (p := ⟨g, off + j * 5 + 2, none⟩) hg, ht]; exact c2
          obtain ⟨vl, hvl⟩ : ∃ z, z = (ed N j).x.l := ⟨_, rfl⟩
          have svl : ∃ a n c, vl = .slice a n c := ⟨_, _, _, hvl⟩
          replace c3 : wr.cell? ⟨g, off + j * 5 + 3, none⟩ = some vl := by rw [hB.cell (p := ⟨g, off + j * 5 + 3, none⟩) hg, hvl]; exact c3
          obtain ⟨vp, hvp⟩ : ∃ z, z = (ed N j).x.p := ⟨_, rfl⟩
          have svp : ∃ a n c, vp = .slice a n c := ⟨_, _, _, hvp⟩
          replace c4 : wr.cell? ⟨g, off + j * 5 + 4, none⟩ = some vp := by rw [hB.cell (p := ⟨g, off + j * 5 + 4, none⟩) hg, hvp]; exact c4
          have HD := Lib.hid hd
          clear hd hf ht hvl hvp
          obtain ⟨a1, n1, c1x, rfl⟩ := svl
          obtain ⟨a2, n2, c2x, rfl⟩ := svp
          have HRJ : Hid (∀ k, j < k → k < n → lt (ed N j).id (ed N k).id = true) := fun k hk hn => HR.out j k hk hn
          clear hc hh h
          obtain ⟨C, hC⟩ : ∃ C, C = cmpI d s := ⟨_, rfl⟩
          have HC : Hid (C = 0 ↔ d = s) := by rw [hC]; exact cmp_zero
          have HCC := Lib.hid hC
          clear hC
          go_wp2_with fail
          refine (cmpEdge_any d s f t a1 a2 n1 c1x n2 c2x wr).mono ?_
          rintro e w5 ⟨rfl, hB5⟩
          rw [← HCC.out]
          have HB5 : Hid (Below w.heap.size w w5) := hB.trans (hB5.mono hsz)
          clear hB5 hB
          by_cases hc0 : C = 0
          · have d0 : (C == 0) = true := by simpa using hc0
            have hl := HC.out.1 hc0
            have HL := Lib.hid hl
            clear hc0 hl
            go_wp2_with fail
            go_ret2
            exact ⟨⟨j, true, rfl, hjn, fun _ => ⟨hjn2, by show (ed N j).id = s; rw [← HD.out]; exact HL.out⟩, (fun q => by cases q)⟩, HB5.out⟩
          · have d0 : (C == 0) = false := by simpa using hc0
            have hl : ¬ d = s := fun q => hc0 (HC.out.2 q)
            have HL := Lib.hid hl
            clear hc0 hl
            go_wp2_with fail
            go_ret2
            exact ⟨⟨j, false, rfl, hjn, (fun q => by cases q), fun _ k hk => by
              show (ed N k).id ≠ s
              intro hks
              rcases Nat.lt_trichotomy k j with q | q | q
              · have := hlo.out k q
                rw [hks, lt_irrefl] at this; cases this
              · rw [q, ← HD.out] at hks
                exact HL.out hks
              · have h1 := HRJ.out k q hk
                have h2 := hhi.out j (Nat.le_refl _) hjn2
                rw [hks, h2] at h1; cases h1⟩, HB5.out⟩
        · have hj : j = n := by omega
          have d0 : decide (j < n) = false := by simpa using hjn2
          have HJ := Lib.hid hj
          clear hc hj
          go_wp2_with fail
          go_ret2
          exact ⟨⟨j, false, rfl, hjn, (fun q => by cases q), fun _ k hk => by
            show (ed N k).id ≠ s
            intro hks
            have := hlo.out k (by rw [HJ.out]; exact hk)
            rw [hks, lt_irrefl] at this; cases this⟩, hB⟩
end Go.Proofs.Ytpaegpbabfohcaa.Paths
