/-
  dag: rows of knots; Check.
-/
import Derived.Test.YtpaegpbabfohcaaWalkDagB
import Derived.Deep.DeepCutAuto
import Derived.Deep.CutBlock
namespace Go.Proofs.Ytpaegpbabfohcaa.WalkDag
open Go.RowKit Go.Proofs.Ytpaegpbabfohcaa.HeapPure Go.Proofs.Ytpaegpbabfohcaa.HeapA Go.Proofs.Ytpaegpbabfohcaa.MapAt Go.Proofs.Ytpaegpbabfohcaa.DagPure Go.Proofs.Ytpaegpbabfohcaa.WalkInts
set_option linter.unusedVariables false
set_option linter.unusedSimpArgs false
set_option maxRecDepth 100000

theorem below_drewN {B : Nat} {w w' : World} (h : Below B w w') (n : Nat) : Below B w (w'.drewN n) := h.trans ⟨rfl, rfl, rfl, Nat.le_refl _, fun _ _ => rfl⟩
/-- a knot as it lies in memory -/
structure Kn where
  k : K
  A : Option Addr
  c : Nat
deriving Inhabited
def kn (l : List Kn) (i : Nat) : Kn := l.getD i default
/-- a row of knots, below block B -/
def Knots (B : Nat) (w : World) (A : Option Addr) (l : List Kn) : Prop :=
  l = [] ∨ ∃ g off, A = some ⟨g, off, none⟩ ∧ g < B ∧ ∀ i, i < l.length → w.cell? ⟨g, off + i * 2, none⟩ = some (.int .i64 (kn l i).k.n) ∧ w.cell? ⟨g, off + i * 2 + 1, none⟩ = some (.slice (kn l i).A (kn l i).k.ps.length (kn l i).c) ∧ Ints w (kn l i).A (kn l i).k.ps ∧ Bd B (kn l i).A (kn l i).k.ps
theorem Knots.below {B : Nat} {w w' : World} {A : Option Addr} {l : List Kn} (h : Knots B w A l) (b : Below B w w') : Knots B w' A l := by
  rcases h with rfl | ⟨g, off, rfl, hg, h⟩
  · exact .inl rfl
  · refine .inr ⟨g, off, rfl, hg, fun i hi => ?_⟩
    obtain ⟨h1, h2, h3, h4⟩ := h i hi
    exact ⟨(b.cell (p := ⟨g, off + i * 2, none⟩) hg).trans h1, (b.cell (p := ⟨g, off + i * 2 + 1, none⟩) hg).trans h2, ints_bd h3 b h4, h4⟩
theorem Knots.mono {B B' : Nat} {w : World} {A : Option Addr} {l : List Kn} (h : Knots B w A l) (hB : B ≤ B') : Knots B' w A l := by
  rcases h with rfl | ⟨g, off, rfl, hg, h⟩
  · exact .inl rfl
  · refine .inr ⟨g, off, rfl, by omega, fun i hi => ?_⟩
    obtain ⟨h1, h2, h3, h4⟩ := h i hi
    exact ⟨h1, h2, h3, fun ne g off e => by have := h4 ne g off e; omega⟩

/-- a number has come ahead of place i -/
def Seen (l : List Kn) (i : Nat) (p : Int) : Prop := ∃ y ∈ l.take i, y.k.n = p
def OkAt (l : List Kn) (i : Nat) : Prop :=
  1 ≤ (kn l i).k.n ∧ (0 < i → (kn l (i - 1)).k.n < (kn l i).k.n) ∧ (kn l i).k.ps.length ≤ 2 ∧ (∀ p ∈ (kn l i).k.ps, Seen l i p) ∧ ((kn l i).k.ps.length = 2 → (kn l i).k.ps.getD 0 0 ≠ (kn l i).k.ps.getD 1 0)
def Ok (l : List Kn) : Prop := ∀ i, i < l.length → OkAt l i

theorem seen_succ {l : List Kn} {i : Nat} {p : Int} (hi : i < l.length) : Seen l (i + 1) p ↔ (p = (kn l i).k.n ∨ Seen l i p) := by
  unfold Seen kn
  rw [List.take_succ_eq_append_getElem hi, List.getD_eq_getElem?_getD, List.getElem?_eq_getElem hi]
  constructor
  · rintro ⟨y, hy, rfl⟩
    rcases List.mem_append.1 hy with h | h
    · exact .inr ⟨y, h, rfl⟩
    · simp at h; subst h; exact .inl rfl
  · rintro (rfl | ⟨y, hy, rfl⟩)
    · exact ⟨l[i], List.mem_append.2 (.inr (by simp)), rfl⟩
    · exact ⟨y, List.mem_append.2 (.inl hy), rfl⟩

set_option maxHeartbeats 6400000 in
theorem check_any (A : Option Addr) (c : Nat) (l : List Kn) (w : World) (h : Knots w.heap.size w A l) (hl : l.length ≤ 100) :
    Calls Try.prog 22 #[.slice A l.length c] w fun e w' => (∃ r, e = .returned (.int .i64 r) ∧ ((Ok l ∧ r = 0) ∨ (¬ Ok l ∧ r = 3))) ∧ Below w.heap.size w w' := by
  obtain ⟨n, hn⟩ : ∃ n, n = l.length := ⟨_, rfl⟩
  rw [← hn]
  have hnm : n ≤ 100 := by omega
  have HN := Lib.hid hn
  have hm0 := made KI w
  have hmm : ∀ (W : World), (Instr.makeMap 87 none).run Try.prog W = .ok (.map (some W.heap.size)) (W.alloc (.map #[] 0)) := fun W => rfl
  rcases h with rfl | ⟨g, off, rfl, hg, hc⟩
  · have : n = 0 := hn
    subst this
    clear hn
    go_enter Try.func22, Try.ntmps22
    go_wp2_with fail
    go_loopw [13] (fun v wr => v = .int .i64 0 ∧ Below w.heap.size w wr) (fun v _ => 0)
    case atStart => exact ⟨rfl, Joins.below_alloc1 w _⟩
    case round =>
      obtain ⟨rfl, hB⟩ := hrel
      go_wp2_with fail
      go_ret
      exact ⟨⟨0, rfl, .inl ⟨fun i hi => absurd hi (by simp), rfl⟩⟩, hB⟩
  · clear hn hl
    go_enter Try.func22, Try.ntmps22
    go_wp2_with fail
    go_loopw [13] (fun v wr => ∃ (i : Nat) (mf : Int → Option Value), v = .int .i64 i ∧ i ≤ n ∧ (∀ j, j < i → OkAt l j) ∧ MapAt KI wr w.heap.size mf ∧ (∀ p, (mf p).isSome = true ↔ Seen l i p) ∧ Below w.heap.size w wr) (fun v _ => n - (intOf v).toNat)
    case atStart => exact ⟨0, _, rfl, Nat.zero_le _, fun j hj => absurd hj (by omega), hm0, fun p => by simp [Seen], Joins.below_alloc1 w _⟩
    case round =>
      obtain ⟨i, mf, rfl, hi, hok, hmap, hseen, hB⟩ := hrel
      have HOK := Lib.hid hok
      clear hok
      by_cases hlt : i < n
      · obtain ⟨h1, h2, h3, h4⟩ := hc i (by rw [← HN.out]; exact hlt)
        have hil : i < l.length := by rw [← HN.out]; exact hlt
        have SUCC : Hid (∀ v p, (if p = (kn l i).k.n then some v else mf p).isSome = true ↔ Seen l (i + 1) p) := fun v p => by
          rw [seen_succ hil]
          by_cases e : p = (kn l i).k.n
          · rw [if_pos e]; simp [e]
          · rw [if_neg e, hseen p]; simp [e]
        have OKI : Hid (Ok l → OkAt l i) := fun h => h i hil
        have hprev : 0 < i → wr.cell? ⟨g, off + (i - 1) * 2, none⟩ = some (.int .i64 (kn l (i - 1)).k.n) := fun h0 => by
          rw [hB.cell (p := ⟨g, off + (i - 1) * 2, none⟩) hg]; exact (hc (i - 1) (by omega)).1
        have HPREV := Lib.hid hprev
        have hok1 : Hid (1 ≤ (kn l i).k.n → (0 < i → (kn l (i - 1)).k.n < (kn l i).k.n) → (kn l i).k.ps.length ≤ 2 → (∀ p ∈ (kn l i).k.ps, Seen l i p) → ((kn l i).k.ps.length = 2 → (kn l i).k.ps.getD 0 0 ≠ (kn l i).k.ps.getD 1 0) → ∀ j, j < i + 1 → OkAt l j) := fun a1 a2 a3 a4 a5 j hj => by
          rcases Nat.lt_or_ge j i with q | q
          · exact HOK.out j q
          · have : j = i := by omega
            subst this
            exact ⟨a1, a2, a3, a4, a5⟩
        rw [← hB.cell (p := ⟨g, off + i * 2, none⟩) hg] at h1
        rw [← hB.cell (p := ⟨g, off + i * 2 + 1, none⟩) hg] at h2
        have HS := Lib.hid hseen
        have hlw := hmap.lt
        clear hc hil hprev hseen
        obtain ⟨x, hx⟩ : ∃ x, x = (kn l i).k.n := ⟨_, rfl⟩
        obtain ⟨ps, hps⟩ : ∃ ps, ps = (kn l i).k.ps := ⟨_, rfl⟩
        obtain ⟨A2, hA2⟩ : ∃ A2, A2 = (kn l i).A := ⟨_, rfl⟩
        obtain ⟨c2, hc2⟩ : ∃ c2, c2 = (kn l i).c := ⟨_, rfl⟩
        obtain ⟨y, hy⟩ : ∃ y, y = (kn l (i - 1)).k.n := ⟨_, rfl⟩
        rw [← hx] at h1
        rw [← hps, ← hA2, ← hc2] at h2
        rw [← hps, ← hA2] at h3
        rw [← hA2, ← hps] at h4
        have HX := Lib.hid hx
        have HPS : Hid ((kn l i).k.ps = ps) := hps.symm
        have HY := Lib.hid hy
        have HA := Lib.hid h4
        have SUCC : Hid (∀ v p, (if p = x then some v else mf p).isSome = true ↔ Seen l (i + 1) p) := by rw [hx]; exact SUCC
        have HPREV : Hid (0 < i → wr.cell? ⟨g, off + (i - 1) * 2, none⟩ = some (.int .i64 y)) := by rw [hy]; exact HPREV
        have HOK1 : Hid (1 ≤ x → (0 < i → y < x) → ps.length ≤ 2 → (∀ p ∈ ps, Seen l i p) → (ps.length = 2 → ps.getD 0 0 ≠ ps.getD 1 0) → ∀ j, j < i + 1 → OkAt l j) := by rw [hx, hy, hps]; exact hok1
        clear hx hps hA2 hc2 hy h4 hok1
        obtain ⟨W2, hW2⟩ : ∃ W2, W2 = wr.alloc (.cells #[.int .i64 x, .slice A2 ps.length c2] 77) := ⟨_, rfl⟩
        have B2 : Hid (Below w.heap.size w W2) := by rw [hW2]; exact hB.trans ((Joins.below_alloc1 wr _).mono hB.size)
        have LE2 : Hid (w.heap.size ≤ W2.heap.size) := B2.out.size
        have M2 : MapAt KI W2 w.heap.size mf := by rw [hW2]; exact hmap.below (Joins.below_alloc1 wr _) hlw
        have k0 : W2.cell? ⟨wr.heap.size, 0, none⟩ = some (.int .i64 x) := by rw [hW2, cell_of_row _ _ 0 _ _ _ (heap_new wr _)]; rfl
        have k1 : W2.cell? ⟨wr.heap.size, 1, none⟩ = some (.slice A2 ps.length c2) := by rw [hW2, cell_of_row _ _ 1 _ _ _ (heap_new wr _)]; rfl
        have KP : Hid (0 < i → W2.cell? ⟨g, off + (i - 1) * 2, none⟩ = some (.int .i64 y)) := fun h0 => by
          rw [hW2, (Joins.below_alloc1 wr _).cell (p := ⟨g, off + (i - 1) * 2, none⟩) (by show g < wr.heap.size; omega)]; exact HPREV.out h0
        clear hmap HPREV
        by_cases t1 : 1 ≤ x
        · have d1 : decide (x < 1) = false := by simp; omega
          by_cases i0 : i = 0
          · have i0' : i ≤ 0 := by omega
            have id1 : decide (0 < i) = false := by simp; omega
            clear i0
            by_cases t4 : ps.length ≤ 2
            · have d4 : decide (2 < ps.length) = false := by simp; omega
              have FIN : Hid ((∀ p ∈ ps, Seen l i p) → (ps.length = 2 → ps.getD 0 0 ≠ ps.getD 1 0) → ∀ j, j < i + 1 → OkAt l j) := HOK1.out t1 (fun h => absurd h (by omega)) t4
              go_wp2_with fail
              rw [← hW2]
              clear hW2
              go_quiet (fail)
              obtain ⟨W3, hW3⟩ : ∃ W3, W3 = W2.drewN nq := ⟨_, rfl⟩
              rw [← hW3]
              have B3 : Hid (Below w.heap.size w W3) := by rw [hW3]; exact below_drewN B2.out _
              have LE3 : Hid (w.heap.size ≤ W3.heap.size) := B3.out.size
              have M3 : MapAt KI W3 w.heap.size mf := by rw [hW3]; exact M2.drewN _
              have k3 : W3.cell? ⟨wr.heap.size, 1, none⟩ = some (.slice A2 ps.length c2) := by rw [hW3]; exact k1
              have k30 : W3.cell? ⟨wr.heap.size, 0, none⟩ = some (.int .i64 x) := by rw [hW3]; exact k0
              clear hW3 M2 B2 LE2 k1 k0
              rcases ints_parts h3 with hnil | ⟨hne, g2, off2, hA2, hc2⟩
              · have HNil := Lib.hid hnil
                have hl0 : ps.length = 0 := by rw [hnil]; rfl
                clear hnil
                go_wp2_with fail
                go_loopw [45] (fun v wi => v = .int .i64 0 ∧ W3 = wi) (fun _ _ => 0)
                case atStart => exact ⟨rfl, rfl⟩
                case round =>
                  obtain ⟨rfl, rfl⟩ := hrel
                  obtain ⟨w3, s1, s2, s3, s4⟩ := M3.set Try.underlying87 x (.int .i64 (i : Nat))
                  have s1 : (Instr.mapUpdate 87 (.map (some w.heap.size)) (.int .i64 x) (.int .i64 (i : Nat))).run Try.prog W3 = .ok () w3 := s1
                  have S3 := Lib.hid s3
                  clear s3
                  go_wp2_with fail
                  go_roundw
                  case rel => exact ⟨i + 1, _, by go_num, by omega, FIN.out (by rw [HNil.out]; simp) (by rw [HNil.out]; simp), s2, SUCC.out _, (B3.out.grown S3.out (LE3.out) (fun k hk => by simp at hk; omega))⟩
                  case measure => simp [intOf]; omega
              · have hg2 := HA.out hne g2 off2 hA2
                clear hne
                subst hA2
                have hc2' : ∀ j, j < ps.length → W3.cell? ⟨g2, off2 + j, none⟩ = some (.int .i64 (ps.getD j 0)) := fun j hj => by
                  rw [B3.out.cell (p := ⟨g2, off2 + j, none⟩) hg2]; exact hc2 j hj
                have HC2 := Lib.hid hc2'
                clear hc2 hc2'
                go_wp2_with fail
                go_loopw [45] (fun v wi => W3 = wi ∧ ∃ j : Nat, v = .int .i64 j ∧ j ≤ ps.length ∧ ∀ j', j' < j → Seen l i (ps.getD j' 0) ∧ (0 < j' → ps.getD j' 0 ≠ ps.getD 0 0)) (fun v _ => ps.length - (intOf v).toNat)
                case atStart => exact ⟨rfl, 0, rfl, Nat.zero_le _, fun j' hj' => absurd hj' (by omega)⟩
                case round =>
                  obtain ⟨rfl, j, rfl, hj, hgood⟩ := hrel
                  have HG := Lib.hid hgood
                  clear hgood
                  by_cases hjl : j < ps.length
                  · have hcj := HC2.out j hjl
                    have hc0 := HC2.out 0 (by omega)
                    rw [Nat.add_zero] at hc0
                    have hlk := M3.lookOk Try.underlying87 (zero_int W3) (ps.getD j 0)
                    have hsn := HS.out (ps.getD j 0)
                    have hne : Hid (∀ q, q = ps.getD j 0 → q = ps.getD j 0) := fun _ h => h
                    obtain ⟨p, hp⟩ : ∃ p, p = ps.getD j 0 := ⟨_, rfl⟩
                    obtain ⟨p0, hp0⟩ : ∃ p0, p0 = ps.getD 0 0 := ⟨_, rfl⟩
                    rw [← hp] at hcj hlk hsn
                    rw [← hp0] at hc0
                    have HC0 := Lib.hid hc0
                    clear hc0
                    have hj2 : j ≤ 2 := by omega
                    have HP := Lib.hid hp
                    have HP0 := Lib.hid hp0
                    have hpm : Hid (p ∈ ps) := by rw [hp, List.getD_eq_getElem?_getD, List.getElem?_eq_getElem hjl]; exact List.getElem_mem hjl
                    clear hp hp0 hne
                    obtain ⟨s, hs⟩ : ∃ s, s = (mf p).isSome := ⟨_, rfl⟩
                    obtain ⟨u, hu⟩ : ∃ u, u = (mf p).getD (.int .i64 0) := ⟨_, rfl⟩
                    rw [← hs] at hsn hlk
                    rw [← hu] at hlk
                    have hlk : (Instr.lookup 87 (.map (some w.heap.size)) (.int .i64 p) true).run Try.prog W3 = .ok (.tuple #[u, .bool s]) W3 := hlk
                    clear hs hu
                    have HSN := Lib.hid hsn
                    clear hsn
                    cases s with
                    | false =>
                      go_wp2_with fail
                      go_ret
                      exact ⟨⟨3, rfl, .inr ⟨fun h => by have := (OKI.out h).2.2.2.1 p (by rw [HPS.out]; exact hpm.out); exact absurd (HSN.out.2 this) (by simp), rfl⟩⟩, B3.out⟩
                    | true =>
                      by_cases j0 : j = 0
                      · have j0' : j ≤ 0 := by omega
                        have jd : decide (0 < j) = false := by simp; omega
                        clear j0
                        go_wp2_with fail
                        go_roundw
                        case rel => exact ⟨trivial, j + 1, by go_num, by omega, fun j' hj' => by
                          have : j' = j := by omega
                          subst this
                          exact ⟨by rw [← HP.out]; exact HSN.out.1 rfl, fun h => absurd h (by omega)⟩⟩
                        case measure => simp [intOf]; omega
                      · have j0' : 0 < j := by omega
                        have jd : decide (0 < j) = true := by simp; omega
                        have hc0 := HC0.out
                        clear j0
                        by_cases hpe : p = p0
                        · have hpe' : (p == p0) = true := by simpa using hpe
                          have HPE := Lib.hid hpe
                          clear hpe
                          go_wp2_with fail
                          go_ret
                          exact ⟨⟨3, rfl, .inr ⟨fun h => by
                            have h5 := (OKI.out h).2.2.2.2
                            have h6 := (OKI.out h).2.2.1
                            rw [HPS.out] at h5 h6
                            have j1 : j = 1 := by omega
                            have := HP.out
                            rw [j1] at this
                            exact h5 (by omega) (by rw [← this, ← HP0.out, HPE.out]), rfl⟩⟩, B3.out⟩
                        · have hpe' : (p == p0) = false := by simpa using hpe
                          have HPE := Lib.hid hpe
                          clear hpe
                          go_wp2_with fail
                          go_roundw
                          case rel => exact ⟨trivial, j + 1, by go_num, by omega, fun j' hj' => by
                            rcases Nat.lt_or_ge j' j with g | g
                            · exact HG.out j' g
                            · have : j' = j := by omega
                              subst this
                              exact ⟨by rw [← HP.out]; exact HSN.out.1 rfl, fun _ => by rw [← HP.out, ← HP0.out]; exact HPE.out⟩⟩
                          case measure => simp [intOf]; omega
                  · have hje : j = ps.length := by omega
                    have HJ := Lib.hid hje
                    have hjn : decide (j < ps.length) = false := by simpa using hjl
                    clear hje
                    obtain ⟨w3, s1, s2, s3, s4⟩ := M3.set Try.underlying87 x (.int .i64 (i : Nat))
                    have s1 : (Instr.mapUpdate 87 (.map (some w.heap.size)) (.int .i64 x) (.int .i64 (i : Nat))).run Try.prog W3 = .ok () w3 := s1
                    have S3 := Lib.hid s3
                    clear s3
                    go_wp2_with fail
                    go_roundw
                    case rel => exact ⟨i + 1, _, by go_num, by omega, FIN.out (fun p hp => by
                        obtain ⟨j', hj', rfl⟩ := List.getElem_of_mem hp
                        have := (HG.out j' (by rw [HJ.out]; exact hj')).1
                        simpa [List.getD_eq_getElem?_getD, hj'] using this) (fun h2 => by
                        have := (HG.out 1 (by rw [HJ.out]; omega)).2 (by omega)
                        exact fun e => this e.symm), s2, SUCC.out _, (B3.out.grown S3.out (LE3.out) (fun k hk => by simp at hk; omega))⟩
                    case measure => simp [intOf]; omega
            · have d4 : decide (2 < ps.length) = true := by simp; omega
              go_wp2_with fail
              rw [← hW2]
              clear hW2
              go_quiet (fail)
              go_wp2_with fail
              go_ret
              exact ⟨⟨3, rfl, .inr ⟨fun h => by have := (OKI.out h).2.2.1; rw [HPS.out] at this; omega, rfl⟩⟩, below_drewN B2.out _⟩
          · have i0' : 0 < i := by omega
            have id1 : decide (0 < i) = true := by simp; omega
            clear i0
            have kp := KP.out i0'
            have ei : (i : Int) - 1 = ((i - 1 : Nat) : Int) := by omega
            have ii : i - 1 < n := by omega
            generalize i - 1 = i1 at kp ei ii
            by_cases t3 : y < x
            · have d3 : decide (x ≤ y) = false := by simp; omega
              by_cases t4 : ps.length ≤ 2
              · have FIN : Hid ((∀ p ∈ ps, Seen l i p) → (ps.length = 2 → ps.getD 0 0 ≠ ps.getD 1 0) → ∀ j, j < i + 1 → OkAt l j) := HOK1.out t1 (fun _ => t3) t4
                go_wp2_with fail
                rw [← hW2]
                clear hW2
                go_quiet (fail)
                obtain ⟨W3, hW3⟩ : ∃ W3, W3 = W2.drewN nq := ⟨_, rfl⟩
                rw [← hW3]
                have B3 : Hid (Below w.heap.size w W3) := by rw [hW3]; exact below_drewN B2.out _
                have LE3 : Hid (w.heap.size ≤ W3.heap.size) := B3.out.size
                have M3 : MapAt KI W3 w.heap.size mf := by rw [hW3]; exact M2.drewN _
                have k3 : W3.cell? ⟨wr.heap.size, 1, none⟩ = some (.slice A2 ps.length c2) := by rw [hW3]; exact k1
                have k30 : W3.cell? ⟨wr.heap.size, 0, none⟩ = some (.int .i64 x) := by rw [hW3]; exact k0
                clear hW3 M2 B2 LE2 k1 k0
                rcases ints_parts h3 with hnil | ⟨hne, g2, off2, hA2, hc2⟩
                · have HNil := Lib.hid hnil
                  have hl0 : ps.length = 0 := by rw [hnil]; rfl
                  clear hnil
                  go_wp2_with fail
                  go_loopw [45] (fun v wi => v = .int .i64 0 ∧ W3 = wi) (fun _ _ => 0)
                  case atStart => exact ⟨rfl, rfl⟩
                  case round =>
                    obtain ⟨rfl, rfl⟩ := hrel
                    obtain ⟨w3, s1, s2, s3, s4⟩ := M3.set Try.underlying87 x (.int .i64 (i : Nat))
                    have s1 : (Instr.mapUpdate 87 (.map (some w.heap.size)) (.int .i64 x) (.int .i64 (i : Nat))).run Try.prog W3 = .ok () w3 := s1
                    have S3 := Lib.hid s3
                    clear s3
                    go_wp2_with fail
                    go_roundw
                    case rel => exact ⟨i + 1, _, by go_num, by omega, FIN.out (by rw [HNil.out]; simp) (by rw [HNil.out]; simp), s2, SUCC.out _, (B3.out.grown S3.out (LE3.out) (fun k hk => by simp at hk; omega))⟩
                    case measure => simp [intOf]; omega
                · have hg2 := HA.out hne g2 off2 hA2
                  clear hne
                  subst hA2
                  have hc2' : ∀ j, j < ps.length → W3.cell? ⟨g2, off2 + j, none⟩ = some (.int .i64 (ps.getD j 0)) := fun j hj => by
                    rw [B3.out.cell (p := ⟨g2, off2 + j, none⟩) hg2]; exact hc2 j hj
                  have HC2 := Lib.hid hc2'
                  clear hc2 hc2'
                  go_wp2_with fail
                  go_loopw [45] (fun v wi => W3 = wi ∧ ∃ j : Nat, v = .int .i64 j ∧ j ≤ ps.length ∧ ∀ j', j' < j → Seen l i (ps.getD j' 0) ∧ (0 < j' → ps.getD j' 0 ≠ ps.getD 0 0)) (fun v _ => ps.length - (intOf v).toNat)
                  case atStart => exact ⟨rfl, 0, rfl, Nat.zero_le _, fun j' hj' => absurd hj' (by omega)⟩
                  case round =>
                    obtain ⟨rfl, j, rfl, hj, hgood⟩ := hrel
                    have HG := Lib.hid hgood
                    clear hgood
                    by_cases hjl : j < ps.length
                    · have hcj := HC2.out j hjl
                      have hc0 := HC2.out 0 (by omega)
                      rw [Nat.add_zero] at hc0
                      have hlk := M3.lookOk Try.underlying87 (zero_int W3) (ps.getD j 0)
                      have hsn := HS.out (ps.getD j 0)
                      have hne : Hid (∀ q, q = ps.getD j 0 → q = ps.getD j 0) := fun _ h => h
                      obtain ⟨p, hp⟩ : ∃ p, p = ps.getD j 0 := ⟨_, rfl⟩
                      obtain ⟨p0, hp0⟩ : ∃ p0, p0 = ps.getD 0 0 := ⟨_, rfl⟩
                      rw [← hp] at hcj hlk hsn
                      rw [← hp0] at hc0
                      have HC0 := Lib.hid hc0
                      clear hc0
                      have hj2 : j ≤ 2 := by omega
                      have HP := Lib.hid hp
                      have HP0 := Lib.hid hp0
                      have hpm : Hid (p ∈ ps) := by rw [hp, List.getD_eq_getElem?_getD, List.getElem?_eq_getElem hjl]; exact List.getElem_mem hjl
                      clear hp hp0 hne
                      obtain ⟨s, hs⟩ : ∃ s, s = (mf p).isSome := ⟨_, rfl⟩
                      obtain ⟨u, hu⟩ : ∃ u, u = (mf p).getD (.int .i64 0) := ⟨_, rfl⟩
                      rw [← hs] at hsn hlk
                      rw [← hu] at hlk
                      have hlk : (Instr.lookup 87 (.map (some w.heap.size)) (.int .i64 p) true).run Try.prog W3 = .ok (.tuple #[u, .bool s]) W3 := hlk
                      clear hs hu
                      have HSN := Lib.hid hsn
                      clear hsn
                      cases s with
                      | false =>
                        go_wp2_with fail
                        go_ret
                        exact ⟨⟨3, rfl, .inr ⟨fun h => by have := (OKI.out h).2.2.2.1 p (by rw [HPS.out]; exact hpm.out); exact absurd (HSN.out.2 this) (by simp), rfl⟩⟩, B3.out⟩
                      | true =>
                        by_cases j0 : j = 0
                        · have j0' : j ≤ 0 := by omega
                          have jd : decide (0 < j) = false := by simp; omega
                          clear j0
                          go_wp2_with fail
                          go_roundw
                          case rel => exact ⟨trivial, j + 1, by go_num, by omega, fun j' hj' => by
                            have : j' = j := by omega
                            subst this
                            exact ⟨by rw [← HP.out]; exact HSN.out.1 rfl, fun h => absurd h (by omega)⟩⟩
                          case measure => simp [intOf]; omega
                        · have j0' : 0 < j := by omega
                          have jd : decide (0 < j) = true := by simp; omega
                          have hc0 := HC0.out
                          clear j0
                          by_cases hpe : p = p0
                          · have hpe' : (p == p0) = true := by simpa using hpe
                            have HPE := Lib.hid hpe
                            clear hpe
                            go_wp2_with fail
                            go_ret
                            exact ⟨⟨3, rfl, .inr ⟨fun h => by
                              have h5 := (OKI.out h).2.2.2.2
                              have h6 := (OKI.out h).2.2.1
                              rw [HPS.out] at h5 h6
                              have j1 : j = 1 := by omega
                              have := HP.out
                              rw [j1] at this
                              exact h5 (by omega) (by rw [← this, ← HP0.out, HPE.out]), rfl⟩⟩, B3.out⟩
                          · have hpe' : (p == p0) = false := by simpa using hpe
                            have HPE := Lib.hid hpe
                            clear hpe
                            go_wp2_with fail
                            go_roundw
                            case rel => exact ⟨trivial, j + 1, by go_num, by omega, fun j' hj' => by
                              rcases Nat.lt_or_ge j' j with g | g
                              · exact HG.out j' g
                              · have : j' = j := by omega
                                subst this
                                exact ⟨by rw [← HP.out]; exact HSN.out.1 rfl, fun _ => by rw [← HP.out, ← HP0.out]; exact HPE.out⟩⟩
                            case measure => simp [intOf]; omega
                    · have hje : j = ps.length := by omega
                      have HJ := Lib.hid hje
                      have hjn : decide (j < ps.length) = false := by simpa using hjl
                      clear hje
                      obtain ⟨w3, s1, s2, s3, s4⟩ := M3.set Try.underlying87 x (.int .i64 (i : Nat))
                      have s1 : (Instr.mapUpdate 87 (.map (some w.heap.size)) (.int .i64 x) (.int .i64 (i : Nat))).run Try.prog W3 = .ok () w3 := s1
                      have S3 := Lib.hid s3
                      clear s3
                      go_wp2_with fail
                      go_roundw
                      case rel => exact ⟨i + 1, _, by go_num, by omega, FIN.out (fun p hp => by
                          obtain ⟨j', hj', rfl⟩ := List.getElem_of_mem hp
                          have := (HG.out j' (by rw [HJ.out]; exact hj')).1
                          simpa [List.getD_eq_getElem?_getD, hj'] using this) (fun h2 => by
                          have := (HG.out 1 (by rw [HJ.out]; omega)).2 (by omega)
                          exact fun e => this e.symm), s2, SUCC.out _, (B3.out.grown S3.out (LE3.out) (fun k hk => by simp at hk; omega))⟩
                      case measure => simp [intOf]; omega
              · have d4 : decide (2 < ps.length) = true := by simp; omega
                go_wp2_with fail
                rw [← hW2]
                clear hW2
                go_quiet (fail)
                go_wp2_with fail
                go_ret
                exact ⟨⟨3, rfl, .inr ⟨fun h => by have := (OKI.out h).2.2.1; rw [HPS.out] at this; omega, rfl⟩⟩, below_drewN B2.out _⟩
            · have d3 : decide (x ≤ y) = true := by simp; omega
              go_wp2_with fail
              rw [← hW2]
              clear hW2
              go_quiet (fail)
              go_wp2_with fail
              go_ret
              exact ⟨⟨3, rfl, .inr ⟨fun h => by have := (OKI.out h).2.1 i0'; rw [← HX.out, ← HY.out] at this; omega, rfl⟩⟩, below_drewN B2.out _⟩
        · have d1 : decide (x < 1) = true := by simp; omega
          go_wp2_with fail
          rw [← hW2]
          clear hW2
          go_quiet (fail)
          go_wp2_with fail
          go_ret
          exact ⟨⟨3, rfl, .inr ⟨fun h => by have := (OKI.out h).1; rw [← HX.out] at this; omega, rfl⟩⟩, below_drewN B2.out _⟩
      · have hin : i = n := by omega
        have HIN := Lib.hid hin
        clear hin hc
        go_wp2_with fail
        go_ret
        exact ⟨⟨0, rfl, .inl ⟨fun j hj => HOK.out j (by rw [HIN.out, HN.out]; exact hj), rfl⟩⟩, hB⟩
end Go.Proofs.Ytpaegpbabfohcaa.WalkDag
