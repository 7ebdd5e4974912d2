/-
  graph.Check.
-/
import Derived.Test.YtpaegpbabfohcaaPathSpec
import Derived.Deep.DeepCutAuto
import Derived.Deep.CutBlock
namespace Go.Proofs.Ytpaegpbabfohcaa.Paths
open Go.RowKit Go.Proofs.Ytpaegpbabfohcaa.WalkBytes
set_option linter.unusedVariables false
set_option linter.unusedSimpArgs false
set_option maxRecDepth 100000

set_option maxHeartbeats 12800000 in
theorem graphCheck_any (g : Gr) (gn ge : Value) (hgn : gn = g.n) (hge : ge = g.e) (w : World) (h : GrAt w.heap.size w g) :
    Calls Try.prog 58 #[.agg #[gn, ge]] w fun e w' => e = .returned (.int .i64 (graphWhy g)) ∧ Below w.heap.size w w' := by
  obtain ⟨A, N, a, B, M, b⟩ := g
  subst hgn hge
  obtain ⟨n, hn⟩ : ∃ n, n = N.length := ⟨_, rfl⟩
  obtain ⟨m, hm⟩ : ∃ m, m = M.length := ⟨_, rfl⟩
  obtain ⟨R, hR⟩ : ∃ R, R = graphWhy ⟨A, N, a, B, M, b⟩ := ⟨_, rfl⟩
  rw [← hR]
  have hn9 : n ≤ 9223372036854775807 := by rw [hn]; exact h.ln
  have hm9 : m ≤ 9223372036854775807 := by rw [hm]; exact h.le
  have HR : Hid (R = if 500 < n ∨ 1000 < m then 5 else if fb (nodeBad N) n ≠ 0 then fb (nodeBad N) n else fb (edgeBad N M) m) := by show _ = _; rw [hR, hn, hm]; rfl
  obtain ⟨W, hW⟩ : ∃ W, W = w.alloc (.cells #[.slice A n a, .slice B m b] 45) := ⟨_, rfl⟩
  have hB : Below w.heap.size w W := by rw [hW]; exact Joins.below_alloc1 w _
  have z0 : W.cell? ⟨w.heap.size, 0, none⟩ = some (.slice A n a) := by rw [hW, cell_of_row _ _ 0 _ _ _ (heap_new w _)]; rfl
  have z1 : W.cell? ⟨w.heap.size, 1, none⟩ = some (.slice B m b) := by rw [hW, cell_of_row _ _ 1 _ _ _ (heap_new w _)]; rfl
  have HG : Hid (GrAt W.heap.size W ⟨A, N, a, B, M, b⟩) := (h.below hB).mono hB.size
  have HG0 : Hid (GrAt w.heap.size W ⟨A, N, a, B, M, b⟩) := h.below hB
  have HB := Lib.hid hB
  obtain ⟨bx, hbx⟩ : ∃ bx, bx = w.heap.size := ⟨_, rfl⟩
  have hbW : bx < W.heap.size := by rw [hbx, hW]; simp
  have e1 : (⟨A, N, a, B, M, b⟩ : Gr).n = .slice A n a := by rw [hn]; rfl
  have e2 : (⟨A, N, a, B, M, b⟩ : Gr).e = .slice B m b := by rw [hm]; rfl
  have E1 : Hid (.slice A n a = (⟨A, N, a, B, M, b⟩ : Gr).n) := e1.symm
  have E2 : Hid (.slice B m b = (⟨A, N, a, B, M, b⟩ : Gr).e) := e2.symm
  rw [e1, e2]
  have HN := Lib.hid hn
  have HM := Lib.hid hm
  have hrow : Nds w.heap.size W A N := HG0.out.n
  rw [← hbx] at z0 z1 HG0 hrow
  have HBX : Hid (Below bx w W) := by rw [hbx]; exact HB.out
  have HPOST : Hid (∀ w', Below bx W w' → Below w.heap.size w w') := fun w' b => by rw [← hbx]; exact HBX.out.trans b
  clear h hB hR e1 e2 hn hm
  by_cases hbig : 500 < n ∨ 1000 < m
  · have hR5 : R = 5 := by rw [HR.out, if_pos hbig]
    subst hR5
    go_enter Try.func58, Try.ntmps58
    go_upto_region 1 with (fail)
    rw [← hW, ← hbx]
    clear hW hbx
    by_cases q : 500 < n
    · have d1 : decide (500 < n) = true := by simpa using q
      clear hbig
      go_wp2_with fail
      go_ret
      exact ⟨rfl, HB.out⟩
    · have q2 : 1000 < m := by omega
      have d1 : decide (500 < n) = false := by simpa using q
      have d2 : decide (1000 < m) = true := by simpa using q2
      clear hbig
      go_wp2_with fail
      go_ret
      exact ⟨rfl, HB.out⟩
  · have hn5 : n ≤ 500 := by omega
    have hm1 : m ≤ 1000 := by omega
    have D1 : Hid (decide ((500 : Int) < (n : Int)) = false) := decide_eq_false (by omega)
    have D2 : Hid (decide ((1000 : Int) < (m : Int)) = false) := decide_eq_false (by omega)
    have HR1 : Hid (R = if fb (nodeBad N) n ≠ 0 then fb (nodeBad N) n else fb (edgeBad N M) m) := by show _ = _; rw [HR.out, if_neg hbig]
    clear hbig HR
    go_enter Try.func58, Try.ntmps58
    go_upto_region 1 with (fail)
    rw [← hW, ← hbx]
    clear hW hbx
    go_upto_if 22 with (fail)
    rw [D1.out, D2.out]
    try simp only [Bool.or_self, Bool.or_false]
    clear D1 D2
    -- behind the nodes: the edges
    rcases hrow with hnil | ⟨g, off, rfl, hg, hc⟩
    · have hm0 : n = 0 := by rw [HN.out, hnil]; rfl
      have HALLN : Hid (∀ j, j < n → nodeBad N j = 0) := fun j hj => by omega
      have hn0 : n ≤ 0 := by omega
      clear hnil hm0
      go_wp2_with fail
      go_loopw [26] (fun v wr => v = .int .i64 0 ∧ W = wr) (fun v _ => 0)
      case atStart => exact ⟨rfl, rfl⟩
      case round =>
        obtain ⟨rfl, rfl⟩ := hrel
        have hBW : Below bx W W := Below.refl _ _
        have HRISE : Hid (Rise (fun i => (nd N i).id) N.length) := by rw [← HN.out]; exact nodes_rise HALLN.out
        have HR2 : Hid (R = fb (edgeBad N M) m) := by show _ = _; rw [HR1.out, fb_zero HALLN.out, if_neg (by simp)]
        have HGW : Hid (∀ w2, Below bx W w2 → W.heap.size ≤ w2.heap.size → GrAt w2.heap.size w2 ⟨A, N, a, B, M, b⟩) := fun w2 b2 hs => (HG0.out.below b2).mono (by omega)
        have HBW := Lib.hid hBW
        have hrowE : Eds bx W B M := HG0.out.e
        have hszR : W.heap.size ≤ W.heap.size := Nat.le_refl _
        have x1 : W.cell? ⟨bx, 1, none⟩ = some (.slice B m b) := z1
        have x0w : W.cell? ⟨bx, 0, none⟩ = some (.slice (A) n a) := z0
        have HNlen : Hid (N.length ≤ 1000) := by show _ ≤ _; rw [← HN.out]; omega
        clear HALLN HR1 hBW
        rcases hrowE with hnil | ⟨ge, oe, rfl, hge, hce⟩
        · have hm0 : m = 0 := by rw [HM.out, hnil]; rfl
          have HMZ : Hid (m = 0) := hm0
          have hm0' : m ≤ 0 := by omega
          clear hnil hm0
          go_wp2_with fail
          go_loopw [54] (fun v wx => v = .int .i64 0 ∧ W = wx) (fun v _ => 0)
          case atStart => exact ⟨rfl, rfl⟩
          case round =>
            obtain ⟨rfl, rfl⟩ := hrel
            go_wp2_with fail
            go_ret
            exact ⟨by show Ending.returned (Value.int .i64 0) = _; rw [HR2.out, HMZ.out]; rfl, HPOST.out _ HBW.out⟩
        · go_wp2_with fail
          have dn0 : decide (0 < n) = false := by simp; omega
          try rw [dn0]
          clear dn0
          go_loopw [54] (fun v wx => ∃ i : Nat, v = .int .i64 i ∧ i ≤ m ∧ (∀ j, j < i → edgeBad N M j = 0) ∧ Below W.heap.size W wx) (fun v _ => m - (intOf v).toNat)
          case atStart => exact ⟨0, rfl, Nat.zero_le _, fun j hj => absurd hj (by omega), Below.refl _ _⟩
          case round =>
            clear HBW hszR x1 x0w
            obtain ⟨k, rfl, hk, hall, hB⟩ := hrel
            have HALL := Lib.hid hall
            clear hall
            have hsz : W.heap.size ≤ wr.heap.size := hB.size
            have cl : ∀ (k o : Nat), k < W.heap.size → wr.cell? ⟨k, o, none⟩ = W.cell? ⟨k, o, none⟩ := fun k o hk => hB.cell (p := ⟨k, o, none⟩) hk
            have y1 : wr.cell? ⟨bx, 1, none⟩ = some (.slice (some ⟨ge, oe, none⟩) m b) := by rw [cl bx _ hbW]; exact z1
            by_cases hkm : k < m
            · obtain ⟨c0, c1, c2, c3, c4, c5, c6, c7, c8⟩ := hce k (by rw [← HM.out]; exact hkm)
              have HP : Hid (0 < k → W.cell? ⟨ge, oe + (k - 1) * 5, none⟩ = some (.string (ed M (k - 1)).id)) := fun h0 => (hce (k - 1) (by rw [← HM.out]; omega)).1
              rw [← cl ge _ (by omega)] at c0 c1 c2 c3 c4
              have HLP : Hid (∀ w2, Below bx W w2 → W.heap.size ≤ w2.heap.size → LpAt w2.heap.size w2 (ed M k).x) := fun w2 b2 hs => (c5.below b2).mono (by omega)
              have HBAD : Hid (edgeBad N M k = if edgeWhy (ed M k).id (ed M k).fr (ed M k).tt (ed M k).x ≠ 0 then edgeWhy (ed M k).id (ed M k).fr (ed M k).tt (ed M k).x else if 0 < k ∧ lt (ed M (k - 1)).id (ed M k).id = false then 4 else has2 N (ed M k).fr (ed M k).tt) := rfl
              have HAT : Hid (edgeBad N M k ≠ 0 → R = edgeBad N M k) := fun hne => by rw [HR2.out, fb_at HALL.out hkm hne]
              have HOK : Hid (edgeBad N M k = 0 → ∀ j, j < k + 1 → edgeBad N M j = 0) := fun h0 j hj => by
                rcases Nat.lt_or_ge j k with q | q
                · exact HALL.out j q
                · rw [show j = k by omega]; exact h0
              obtain ⟨d, hd⟩ : ∃ z, z = (ed M k).id := ⟨_, rfl⟩
              obtain ⟨f, hf⟩ : ∃ z, z = (ed M k).fr := ⟨_, rfl⟩
              obtain ⟨t, ht⟩ : ∃ z, z = (ed M k).tt := ⟨_, rfl⟩
              obtain ⟨p, hp⟩ : ∃ z, z = (ed M (k - 1)).id := ⟨_, rfl⟩
              obtain ⟨vl, hvl⟩ : ∃ z, z = (ed M k).x.l := ⟨_, rfl⟩
              obtain ⟨vp, hvp⟩ : ∃ z, z = (ed M k).x.p := ⟨_, rfl⟩
              have svl : ∃ a n c, vl = .slice a n c := ⟨_, _, _, hvl⟩
              have svp : ∃ a n c, vp = .slice a n c := ⟨_, _, _, hvp⟩
              obtain ⟨r, hr⟩ : ∃ r, edgeWhy (ed M k).id (ed M k).fr (ed M k).tt (ed M k).x = r := ⟨_, rfl⟩
              rw [hr] at HBAD
              rw [← hd, ← hf, ← ht, ← hp] at HBAD
              rw [← hd, ← hf, ← ht] at hr
              rw [← hd] at c0 c6
              rw [← hf] at c1 c7
              rw [← ht] at c2 c8
              rw [← hp] at HP
              rw [← hvl] at c3
              rw [← hvp] at c4
              have HWY := Lib.hid hr
              have HVL := Lib.hid hvl
              have HVP := Lib.hid hvp
              clear hce hd hf ht hp hvl hvp hr c5 cl
              obtain ⟨a1, n1, c1x, rfl⟩ := svl
              obtain ⟨a2, n2, c2x, rfl⟩ := svp
              obtain ⟨W2, hW2⟩ : ∃ W2, W2 = wr.alloc (.cells #[.string d, .string f, .string t, .slice a1 n1 c1x, .slice a2 n2 c2x] 74) := ⟨_, rfl⟩
              have HB2 : Hid (Below W.heap.size W W2) := by rw [hW2]; exact hB.trans ((Joins.below_alloc1 wr _).mono hsz)
              obtain ⟨kb, hkb⟩ : ∃ kb, kb = wr.heap.size := ⟨_, rfl⟩
              have x0 : W2.cell? ⟨wr.heap.size, 0, none⟩ = some (.string d) := by rw [hW2, cell_of_row _ _ 0 _ _ _ (heap_new wr _)]; rfl
              have x1 : W2.cell? ⟨wr.heap.size, 1, none⟩ = some (.string f) := by rw [hW2, cell_of_row _ _ 1 _ _ _ (heap_new wr _)]; rfl
              have x2 : W2.cell? ⟨wr.heap.size, 2, none⟩ = some (.string t) := by rw [hW2, cell_of_row _ _ 2 _ _ _ (heap_new wr _)]; rfl
              have x3 : W2.cell? ⟨wr.heap.size, 3, none⟩ = some (.slice a1 n1 c1x) := by rw [hW2, cell_of_row _ _ 3 _ _ _ (heap_new wr _)]; rfl
              have x4 : W2.cell? ⟨wr.heap.size, 4, none⟩ = some (.slice a2 n2 c2x) := by rw [hW2, cell_of_row _ _ 4 _ _ _ (heap_new wr _)]; rfl
              have xl : wr.heap.size < W2.heap.size := by rw [hW2]; simp
              have HXS : Hid (W.heap.size ≤ W2.heap.size) := HB2.out.size
              go_upto_region 15 with (fail)
              rw [← hW2, ← hkb]
              rw [← hkb] at x0 x1 x2 x3 x4 xl
              clear hW2 hkb c0 c1 c2 c3 c4 y1 hB hsz
              go_wp2_with fail
              refine (checkEdge_at d f t (ed M k).x _ _ HVL.out HVP.out W2 (HLP.out W2 (HB2.out.mono (Nat.le_of_lt hbW)) HXS.out)).mono ?_
              rintro e w5 ⟨rfl, hB5⟩
              rw [HWY.out]
              have HB5 : Hid (Below W.heap.size W w5) := HB2.out.trans (hB5.mono HXS.out)
              have b0 : w5.cell? ⟨bx, 0, none⟩ = some (.slice (A) n a) := by rw [HB5.out.cell (p := ⟨bx, 0, none⟩) hbW]; exact z0
              have b1 : w5.cell? ⟨bx, 1, none⟩ = some (.slice (some ⟨ge, oe, none⟩) m b) := by rw [HB5.out.cell (p := ⟨bx, 1, none⟩) hbW]; exact z1
              have k0 : w5.cell? ⟨kb, 0, none⟩ = some (.string d) := by rw [hB5.cell (p := ⟨kb, 0, none⟩) xl]; exact x0
              have k1 : w5.cell? ⟨kb, 1, none⟩ = some (.string f) := by rw [hB5.cell (p := ⟨kb, 1, none⟩) xl]; exact x1
              have k2 : w5.cell? ⟨kb, 2, none⟩ = some (.string t) := by rw [hB5.cell (p := ⟨kb, 2, none⟩) xl]; exact x2
              have kl : kb < w5.heap.size := Nat.lt_of_lt_of_le xl hB5.size
              have HP5 : Hid (0 < k → w5.cell? ⟨ge, oe + (k - 1) * 5, none⟩ = some (.string p)) := fun h0 => by
                rw [HB5.out.cell (p := ⟨ge, oe + (k - 1) * 5, none⟩) (by show ge < _; omega)]; exact HP.out h0
              clear hB5 HP x0 x1 x2 x3 x4 xl
              by_cases r0 : r = 0
              · subst r0
                have HBAD2 : Hid (edgeBad N M k = if 0 < k ∧ lt p d = false then 4 else has2 N f t) := by show _ = _; rw [HBAD.out, if_neg (by simp)]
                clear HBAD
                by_cases i0 : k = 0
                · have dd : decide (0 < k) = false := by simp; omega
                  have HBAD3 : Hid (edgeBad N M k = has2 N f t) := by
                    show _ = _
                    rw [HBAD2.out, if_neg (by omega)]
                  clear i0
                  go_wp2_with fail
                  go_quiet (fail)
                  obtain ⟨W6, hW6⟩ : ∃ W6, W6 = w5.drewN nq := ⟨_, rfl⟩
                  rw [← hW6]
                  have HB6 : Hid (Below W.heap.size W W6) := by rw [hW6]; exact below_drewN HB5.out _
                  have b06 : W6.cell? ⟨bx, 0, none⟩ = some (.slice (A) n a) := by rw [hW6]; exact b0
                  have b16 : W6.cell? ⟨bx, 1, none⟩ = some (.slice (some ⟨ge, oe, none⟩) m b) := by rw [hW6]; exact b1
                  have k16 : W6.cell? ⟨kb, 1, none⟩ = some (.string f) := by rw [hW6]; exact k1
                  have k26 : W6.cell? ⟨kb, 2, none⟩ = some (.string t) := by rw [hW6]; exact k2
                  have kl6 : kb < W6.heap.size := by rw [hW6]; exact kl
                  clear hW6 b0 b1 k0 k1 k2 kl
                  go_wp2_with fail
                  refine (node_any ⟨A, N, a, some ⟨ge, oe, none⟩, M, b⟩ _ _ E1.out E2.out f W6 (HGW.out W6 (HB6.out.mono (Nat.le_of_lt hbW)) HB6.out.size) HNlen.out HRISE.out).mono ?_
                  rintro e w7 ⟨⟨p1, q1, rfl, hf1⟩, hB7⟩
                  have HF1 := Lib.hid (found_has hf1)
                  clear hf1
                  have HB7 : Hid (Below W.heap.size W w7) := HB6.out.trans (hB7.mono HB6.out.size)
                  have b07 : w7.cell? ⟨bx, 0, none⟩ = some (.slice (A) n a) := by rw [HB7.out.cell (p := ⟨bx, 0, none⟩) hbW]; exact z0
                  have b17 : w7.cell? ⟨bx, 1, none⟩ = some (.slice (some ⟨ge, oe, none⟩) m b) := by rw [HB7.out.cell (p := ⟨bx, 1, none⟩) hbW]; exact z1
                  have k27 : w7.cell? ⟨kb, 2, none⟩ = some (.string t) := by rw [hB7.cell (p := ⟨kb, 2, none⟩) kl6]; exact k26
                  clear hB7 b06 b16 k16 k26 kl6
                  go_wp2_with fail
                  refine (node_any ⟨A, N, a, some ⟨ge, oe, none⟩, M, b⟩ _ _ E1.out E2.out t w7 (HGW.out w7 (HB7.out.mono (Nat.le_of_lt hbW)) HB7.out.size) HNlen.out HRISE.out).mono ?_
                  rintro e w8 ⟨⟨p2, q2, rfl, hf2⟩, hB8⟩
                  have HF2 := Lib.hid (found_has hf2)
                  have HB8 : Hid (Below W.heap.size W w8) := HB7.out.trans (hB8.mono HB7.out.size)
                  clear hf2 hB8 b07 b17 k27
                  cases q1 with
                  | false =>
                    have hR9 : Hid (R = 9) := by
                      have := HBAD3.out
                      rw [has2_no (fun z => by have := HF1.out.2 z.1; cases this)] at this
                      show R = 9
                      rw [HAT.out (by rw [this]; decide), this]
                    go_wp2_with fail
                    go_ret
                    exact ⟨by show Ending.returned (Value.int .i64 9) = _; rw [hR9.out], HPOST.out _ (HB8.out.mono (Nat.le_of_lt hbW))⟩
                  | true =>
                    cases q2 with
                    | false =>
                      have hR9 : Hid (R = 9) := by
                        have := HBAD3.out
                        rw [has2_no (fun z => by have := HF2.out.2 z.2; cases this)] at this
                        show R = 9
                        rw [HAT.out (by rw [this]; decide), this]
                      go_wp2_with fail
                      go_ret
                      exact ⟨by show Ending.returned (Value.int .i64 9) = _; rw [hR9.out], HPOST.out _ (HB8.out.mono (Nat.le_of_lt hbW))⟩
                    | true =>
                      have hbad : Hid (edgeBad N M k = 0) := by show _ = _; rw [HBAD3.out, has2_yes (HF1.out.1 rfl) (HF2.out.1 rfl)]
                      go_wp2_with fail
                      go_roundw
                      case rel => exact ⟨k + 1, by go_num, by omega, HOK.out hbad.out, HB8.out⟩
                      case measure => simp [intOf]; omega
                · have i0' : 0 < k := by omega
                  have dd : decide (0 < k) = true := by simp; omega
                  have cp := HP5.out i0'
                  have ei : (k : Int) - 1 = ((k - 1 : Nat) : Int) := by omega
                  have ii : k - 1 < m := by omega
                  clear i0
                  generalize k - 1 = i1 at cp ei ii
                  obtain ⟨q, hq⟩ : ∃ q, lt p d = q := ⟨_, rfl⟩
                  have HRR : Hid (lt p d = q) := hq
                  have hg2 : ∀ W : World, (binOp .geq 9 (.string p) (.string d)).run Try.prog W = .ok (.bool (!q)) W := fun W => by rw [geqS, hq]
                  clear hq
                  cases q with
                  | true =>
                    have HBAD3 : Hid (edgeBad N M k = has2 N f t) := by
                      show _ = _
                      rw [HBAD2.out, if_neg (by rw [HRR.out]; simp)]
                    go_wp2_with fail
                    go_quiet (fail)
                    obtain ⟨W6, hW6⟩ : ∃ W6, W6 = w5.drewN nq := ⟨_, rfl⟩
                    rw [← hW6]
                    have HB6 : Hid (Below W.heap.size W W6) := by rw [hW6]; exact below_drewN HB5.out _
                    have b06 : W6.cell? ⟨bx, 0, none⟩ = some (.slice (A) n a) := by rw [hW6]; exact b0
                    have b16 : W6.cell? ⟨bx, 1, none⟩ = some (.slice (some ⟨ge, oe, none⟩) m b) := by rw [hW6]; exact b1
                    have k16 : W6.cell? ⟨kb, 1, none⟩ = some (.string f) := by rw [hW6]; exact k1
                    have k26 : W6.cell? ⟨kb, 2, none⟩ = some (.string t) := by rw [hW6]; exact k2
                    have kl6 : kb < W6.heap.size := by rw [hW6]; exact kl
                    clear hW6 b0 b1 k0 k1 k2 kl
                    go_wp2_with fail
                    refine (node_any ⟨A, N, a, some ⟨ge, oe, none⟩, M, b⟩ _ _ E1.out E2.out f W6 (HGW.out W6 (HB6.out.mono (Nat.le_of_lt hbW)) HB6.out.size) HNlen.out HRISE.out).mono ?_
                    rintro e w7 ⟨⟨p1, q1, rfl, hf1⟩, hB7⟩
                    have HF1 := Lib.hid (found_has hf1)
                    clear hf1
                    have HB7 : Hid (Below W.heap.size W w7) := HB6.out.trans (hB7.mono HB6.out.size)
                    have b07 : w7.cell? ⟨bx, 0, none⟩ = some (.slice (A) n a) := by rw [HB7.out.cell (p := ⟨bx, 0, none⟩) hbW]; exact z0
                    have b17 : w7.cell? ⟨bx, 1, none⟩ = some (.slice (some ⟨ge, oe, none⟩) m b) := by rw [HB7.out.cell (p := ⟨bx, 1, none⟩) hbW]; exact z1
                    have k27 : w7.cell? ⟨kb, 2, none⟩ = some (.string t) := by rw [hB7.cell (p := ⟨kb, 2, none⟩) kl6]; exact k26
                    clear hB7 b06 b16 k16 k26 kl6
                    go_wp2_with fail
                    refine (node_any ⟨A, N, a, some ⟨ge, oe, none⟩, M, b⟩ _ _ E1.out E2.out t w7 (HGW.out w7 (HB7.out.mono (Nat.le_of_lt hbW)) HB7.out.size) HNlen.out HRISE.out).mono ?_
                    rintro e w8 ⟨⟨p2, q2, rfl, hf2⟩, hB8⟩
                    have HF2 := Lib.hid (found_has hf2)
                    have HB8 : Hid (Below W.heap.size W w8) := HB7.out.trans (hB8.mono HB7.out.size)
                    clear hf2 hB8 b07 b17 k27
                    cases q1 with
                    | false =>
                      have hR9 : Hid (R = 9) := by
                        have := HBAD3.out
                        rw [has2_no (fun z => by have := HF1.out.2 z.1; cases this)] at this
                        show R = 9
                        rw [HAT.out (by rw [this]; decide), this]
                      go_wp2_with fail
                      go_ret
                      exact ⟨by show Ending.returned (Value.int .i64 9) = _; rw [hR9.out], HPOST.out _ (HB8.out.mono (Nat.le_of_lt hbW))⟩
                    | true =>
                      cases q2 with
                      | false =>
                        have hR9 : Hid (R = 9) := by
                          have := HBAD3.out
                          rw [has2_no (fun z => by have := HF2.out.2 z.2; cases this)] at this
                          show R = 9
                          rw [HAT.out (by rw [this]; decide), this]
                        go_wp2_with fail
                        go_ret
                        exact ⟨by show Ending.returned (Value.int .i64 9) = _; rw [hR9.out], HPOST.out _ (HB8.out.mono (Nat.le_of_lt hbW))⟩
                      | true =>
                        have hbad : Hid (edgeBad N M k = 0) := by show _ = _; rw [HBAD3.out, has2_yes (HF1.out.1 rfl) (HF2.out.1 rfl)]
                        go_wp2_with fail
                        go_roundw
                        case rel => exact ⟨k + 1, by go_num, by omega, HOK.out hbad.out, HB8.out⟩
                        case measure => simp [intOf]; omega
                  | false =>
                    have hR4 : Hid (R = 4) := by
                      have := HBAD2.out
                      rw [if_pos ⟨i0', HRR.out⟩] at this
                      show R = 4
                      rw [HAT.out (by rw [this]; decide), this]
                    go_wp2_with fail
                    go_quiet (fail)
                    go_wp2_with fail
                    go_ret
                    exact ⟨by show Ending.returned (Value.int .i64 4) = _; rw [hR4.out], HPOST.out _ ((below_drewN HB5.out _).mono (Nat.le_of_lt hbW))⟩
              · have e0 : (r == 0) = false := by simpa using r0
                have e1 : (r != 0) = true := by simpa using r0
                have hRr : R = r := by
                  have := HBAD.out
                  rw [if_pos r0] at this
                  rw [HAT.out (by rw [this]; exact r0), this]
                subst hRr
                clear r0 HBAD
                go_wp2_with fail
                go_ret
                exact ⟨rfl, HPOST.out _ (HB5.out.mono (Nat.le_of_lt hbW))⟩
            · have hke : k = m := by omega
              have HKE := Lib.hid hke
              clear hke hce cl
              go_wp2_with fail
              go_ret
              exact ⟨by show Ending.returned (Value.int .i64 0) = _; rw [HR2.out, fb_zero (by rw [← HKE.out]; exact HALL.out)], HPOST.out _ (hB.mono (Nat.le_of_lt hbW))⟩
    · go_wp2_with fail
      go_loopw [26] (fun v wr => ∃ i : Nat, v = .int .i64 i ∧ i ≤ n ∧ (∀ j, j < i → nodeBad N j = 0) ∧ Below W.heap.size W wr) (fun v _ => n - (intOf v).toNat)
      case atStart => exact ⟨0, rfl, Nat.zero_le _, fun j hj => absurd hj (by omega), Below.refl _ _⟩
      case round =>
        obtain ⟨i, rfl, hi, hall, hB⟩ := hrel
        have HALL := Lib.hid hall
        clear hall
        have hsz : W.heap.size ≤ wr.heap.size := hB.size
        by_cases hin : i < n
        · obtain ⟨c0, c1, c2, c3, c4⟩ := hc i (by rw [← HN.out]; exact hin)
          have cl : ∀ (k o : Nat), k < W.heap.size → wr.cell? ⟨k, o, none⟩ = W.cell? ⟨k, o, none⟩ := fun k o hk => hB.cell (p := ⟨k, o, none⟩) hk
          have HP : Hid (0 < i → wr.cell? ⟨g, off + (i - 1) * 3, none⟩ = some (.string (nd N (i - 1)).id)) := fun h0 => by rw [cl g _ (by omega)]; exact (hc (i - 1) (by rw [← HN.out]; omega)).1
          rw [← cl g _ (by omega)] at c0 c1 c2
          have y0 : wr.cell? ⟨bx, 0, none⟩ = some (.slice (some ⟨g, off, none⟩) n a) := by rw [cl bx _ hbW]; exact z0
          have HLP : Hid (∀ w2, Below bx W w2 → W.heap.size ≤ w2.heap.size → LpAt w2.heap.size w2 (nd N i).x) := fun w2 b2 hs => (c3.below b2).mono (by omega)
          have HBAD : Hid (nodeBad N i = if nodeWhy (nd N i).id (nd N i).x ≠ 0 then nodeWhy (nd N i).id (nd N i).x else if 0 < i ∧ lt (nd N (i - 1)).id (nd N i).id = false then 4 else 0) := rfl
          have HAT : Hid (nodeBad N i ≠ 0 → R = nodeBad N i) := fun hne => by rw [HR1.out, fb_at HALL.out hin hne, if_pos hne]
          have HOK : Hid (nodeBad N i = 0 → ∀ j, j < i + 1 → nodeBad N j = 0) := fun h0 j hj => by
            rcases Nat.lt_or_ge j i with q | q
            · exact HALL.out j q
            · rw [show j = i by omega]; exact h0
          obtain ⟨d, hd⟩ : ∃ z, z = (nd N i).id := ⟨_, rfl⟩
          obtain ⟨p, hp⟩ : ∃ z, z = (nd N (i - 1)).id := ⟨_, rfl⟩
          obtain ⟨vl, hvl⟩ : ∃ z, z = (nd N i).x.l := ⟨_, rfl⟩
          obtain ⟨vp, hvp⟩ : ∃ z, z = (nd N i).x.p := ⟨_, rfl⟩
          have svl : ∃ a n c, vl = .slice a n c := ⟨_, _, _, hvl⟩
          have svp : ∃ a n c, vp = .slice a n c := ⟨_, _, _, hvp⟩
          obtain ⟨r, hr⟩ : ∃ r, nodeWhy (nd N i).id (nd N i).x = r := ⟨_, rfl⟩
          rw [hr] at HBAD
          rw [← hd, ← hp] at HBAD
          rw [← hd] at hr c0 c4
          rw [← hp] at HP
          rw [← hvl] at c1
          rw [← hvp] at c2
          have HWY := Lib.hid hr
          have HVL := Lib.hid hvl
          have HVP := Lib.hid hvp
          clear hc hd hp hvl hvp hr c3
          obtain ⟨a1, n1, c1x, rfl⟩ := svl
          obtain ⟨a2, n2, c2x, rfl⟩ := svp
          obtain ⟨W2, hW2⟩ : ∃ W2, W2 = wr.alloc (.cells #[.string d, .slice a1 n1 c1x, .slice a2 n2 c2x] 59) := ⟨_, rfl⟩
          have HB2 : Hid (Below W.heap.size W W2) := by rw [hW2]; exact hB.trans ((Joins.below_alloc1 wr _).mono hsz)
          have x0 : W2.cell? ⟨wr.heap.size, 0, none⟩ = some (.string d) := by rw [hW2, cell_of_row _ _ 0 _ _ _ (heap_new wr _)]; rfl
          have x1 : W2.cell? ⟨wr.heap.size, 1, none⟩ = some (.slice a1 n1 c1x) := by rw [hW2, cell_of_row _ _ 1 _ _ _ (heap_new wr _)]; rfl
          have x2 : W2.cell? ⟨wr.heap.size, 2, none⟩ = some (.slice a2 n2 c2x) := by rw [hW2, cell_of_row _ _ 2 _ _ _ (heap_new wr _)]; rfl
          have xl : wr.heap.size < W2.heap.size := by rw [hW2]; simp
          have HXS : Hid (W.heap.size ≤ W2.heap.size) := HB2.out.size
          go_upto_region 6 with (fail)
          rw [← hW2]
          clear hW2 c0 c1 c2
          go_wp2_with fail
          refine (checkNode_at d (nd N i).x _ _ HVL.out HVP.out W2 (HLP.out W2 (HB2.out.mono (Nat.le_of_lt hbW)) HXS.out)).mono ?_
          rintro e w5 ⟨rfl, hB5⟩
          rw [HWY.out]
          have HB5 : Hid (Below W.heap.size W w5) := HB2.out.trans (hB5.mono HXS.out)
          have y5 : w5.cell? ⟨bx, 0, none⟩ = some (.slice (some ⟨g, off, none⟩) n a) := by rw [HB5.out.cell (p := ⟨bx, 0, none⟩) hbW]; exact z0
          have x5 : w5.cell? ⟨wr.heap.size, 0, none⟩ = some (.string d) := by rw [hB5.cell (p := ⟨wr.heap.size, 0, none⟩) xl]; exact x0
          clear x0 x1 x2
          have HP5 : Hid (0 < i → w5.cell? ⟨g, off + (i - 1) * 3, none⟩ = some (.string p)) := fun h0 => by
            have := HP.out h0
            rw [cl g _ (by omega)] at this
            rw [HB5.out.cell (p := ⟨g, off + (i - 1) * 3, none⟩) (by show g < _; omega)]; exact this
          clear hB5 hB cl HP y0
          by_cases r0 : r = 0
          · subst r0
            have HBAD2 : Hid (nodeBad N i = if 0 < i ∧ lt p d = false then 4 else 0) := by show _ = _; rw [HBAD.out, if_neg (by simp)]
            clear HBAD
            by_cases i0 : i = 0
            · have dd : decide (0 < i) = false := by simp; omega
              have hbad : Hid (nodeBad N i = 0) := by
                show _ = _
                rw [HBAD2.out, if_neg (by omega)]
              clear i0
              go_wp2_with fail
              go_quiet (fail)
              go_wp2_with fail
              go_roundw
              case rel => exact ⟨i + 1, by go_num, by omega, HOK.out hbad.out, below_drewN HB5.out _⟩
              case measure => simp [intOf]; omega
            · have i0' : 0 < i := by omega
              have dd : decide (0 < i) = true := by simp; omega
              have cp := HP5.out i0'
              have ei : (i : Int) - 1 = ((i - 1 : Nat) : Int) := by omega
              have ii : i - 1 < n := by omega
              clear i0
              generalize i - 1 = i1 at cp ei ii
              obtain ⟨q, hq⟩ : ∃ q, lt p d = q := ⟨_, rfl⟩
              have HRR : Hid (lt p d = q) := hq
              have hg2 : ∀ W : World, (binOp .geq 9 (.string p) (.string d)).run Try.prog W = .ok (.bool (!q)) W := fun W => by rw [geqS, hq]
              clear hq
              cases q with
              | true =>
                have hbad : Hid (nodeBad N i = 0) := by
                  show _ = _
                  rw [HBAD2.out, if_neg (by rw [HRR.out]; simp)]
                go_wp2_with fail
                go_quiet (fail)
                go_wp2_with fail
                go_roundw
                case rel => exact ⟨i + 1, by go_num, by omega, HOK.out hbad.out, below_drewN HB5.out _⟩
                case measure => simp [intOf]; omega
              | false =>
                have hR4 : Hid (R = 4) := by
                  have := HBAD2.out
                  rw [if_pos ⟨i0', HRR.out⟩] at this
                  show R = 4
                  rw [HAT.out (by rw [this]; decide), this]
                go_wp2_with fail
                go_quiet (fail)
                go_wp2_with fail
                go_ret
                exact ⟨by show Ending.returned (Value.int .i64 4) = _; rw [hR4.out], HPOST.out _ ((below_drewN HB5.out _).mono (Nat.le_of_lt hbW))⟩
          · have e0 : (r == 0) = false := by simpa using r0
            have e1 : (r != 0) = true := by simpa using r0
            have hRr : R = r := by
              have := HBAD.out
              rw [if_pos r0] at this
              rw [HAT.out (by rw [this]; exact r0), this]
            subst hRr
            clear r0 HBAD
            go_wp2_with fail
            go_ret
            exact ⟨rfl, HPOST.out _ (HB5.out.mono (Nat.le_of_lt hbW))⟩
        · have hie : i = n := by omega
          have HALLN : Hid (∀ j, j < n → nodeBad N j = 0) := by rw [← hie]; exact HALL.out
          have hBW : Below bx W wr := hB.mono (Nat.le_of_lt hbW)
          have hn0 : n ≤ i := by omega
          clear hie hc HALL hi hin
          have HRISE : Hid (Rise (fun i => (nd N i).id) N.length) := by rw [← HN.out]; exact nodes_rise HALLN.out
          have HR2 : Hid (R = fb (edgeBad N M) m) := by show _ = _; rw [HR1.out, fb_zero HALLN.out, if_neg (by simp)]
          have HGW : Hid (∀ w2, Below bx W w2 → W.heap.size ≤ w2.heap.size → GrAt w2.heap.size w2 ⟨some ⟨g, off, none⟩, N, a, B, M, b⟩) := fun w2 b2 hs => (HG0.out.below b2).mono (by omega)
          have HBW := Lib.hid hBW
          have hrowE : Eds bx W B M := HG0.out.e
          have hszR : W.heap.size ≤ wr.heap.size := hsz
          have x1 : wr.cell? ⟨bx, 1, none⟩ = some (.slice B m b) := by rw [hB.cell (p := ⟨bx, 1, none⟩) hbW]; exact z1
          have x0w : wr.cell? ⟨bx, 0, none⟩ = some (.slice (some ⟨g, off, none⟩) n a) := by rw [hB.cell (p := ⟨bx, 0, none⟩) hbW]; exact z0
          have HNlen : Hid (N.length ≤ 1000) := by show _ ≤ _; rw [← HN.out]; omega
          clear HALLN HR1 hBW
          rcases hrowE with hnil | ⟨ge, oe, rfl, hge, hce⟩
          · have hm0 : m = 0 := by rw [HM.out, hnil]; rfl
            have HMZ : Hid (m = 0) := hm0
            have hm0' : m ≤ 0 := by omega
            clear hnil hm0
            go_wp2_with fail
            go_loopw [54] (fun v wx => v = .int .i64 0 ∧ wr = wx) (fun v _ => 0)
            case atStart => exact ⟨rfl, rfl⟩
            case round =>
              obtain ⟨rfl, rfl⟩ := hrel
              go_wp2_with fail
              go_ret
              exact ⟨by show Ending.returned (Value.int .i64 0) = _; rw [HR2.out, HMZ.out]; rfl, HPOST.out _ HBW.out⟩
          · go_wp2_with fail
            have dn0 : decide (i < n) = false := by simp; omega
            try rw [dn0]
            clear dn0
            go_loopw [54] (fun v wx => ∃ i : Nat, v = .int .i64 i ∧ i ≤ m ∧ (∀ j, j < i → edgeBad N M j = 0) ∧ Below W.heap.size W wx) (fun v _ => m - (intOf v).toNat)
            case atStart => exact ⟨0, rfl, Nat.zero_le _, fun j hj => absurd hj (by omega), hB⟩
            case round =>
              clear HBW hszR x1 x0w
              obtain ⟨k, rfl, hk, hall, hB⟩ := hrel
              have HALL := Lib.hid hall
              clear hall
              have hsz : W.heap.size ≤ wr.heap.size := hB.size
              have cl : ∀ (k o : Nat), k < W.heap.size → wr.cell? ⟨k, o, none⟩ = W.cell? ⟨k, o, none⟩ := fun k o hk => hB.cell (p := ⟨k, o, none⟩) hk
              have y1 : wr.cell? ⟨bx, 1, none⟩ = some (.slice (some ⟨ge, oe, none⟩) m b) := by rw [cl bx _ hbW]; exact z1
              by_cases hkm : k < m
              · obtain ⟨c0, c1, c2, c3, c4, c5, c6, c7, c8⟩ := hce k (by rw [← HM.out]; exact hkm)
                have HP : Hid (0 < k → W.cell? ⟨ge, oe + (k - 1) * 5, none⟩ = some (.string (ed M (k - 1)).id)) := fun h0 => (hce (k - 1) (by rw [← HM.out]; omega)).1
                rw [← cl ge _ (by omega)] at c0 c1 c2 c3 c4
                have HLP : Hid (∀ w2, Below bx W w2 → W.heap.size ≤ w2.heap.size → LpAt w2.heap.size w2 (ed M k).x) := fun w2 b2 hs => (c5.below b2).mono (by omega)
                have HBAD : Hid (edgeBad N M k = if edgeWhy (ed M k).id (ed M k).fr (ed M k).tt (ed M k).x ≠ 0 then edgeWhy (ed M k).id (ed M k).fr (ed M k).tt (ed M k).x else if 0 < k ∧ lt (ed M (k - 1)).id (ed M k).id = false then 4 else has2 N (ed M k).fr (ed M k).tt) := rfl
                have HAT : Hid (edgeBad N M k ≠ 0 → R = edgeBad N M k) := fun hne => by rw [HR2.out, fb_at HALL.out hkm hne]
                have HOK : Hid (edgeBad N M k = 0 → ∀ j, j < k + 1 → edgeBad N M j = 0) := fun h0 j hj => by
                  rcases Nat.lt_or_ge j k with q | q
                  · exact HALL.out j q
                  · rw [show j = k by omega]; exact h0
                obtain ⟨d, hd⟩ : ∃ z, z = (ed M k).id := ⟨_, rfl⟩
                obtain ⟨f, hf⟩ : ∃ z, z = (ed M k).fr := ⟨_, rfl⟩
                obtain ⟨t, ht⟩ : ∃ z, z = (ed M k).tt := ⟨_, rfl⟩
                obtain ⟨p, hp⟩ : ∃ z, z = (ed M (k - 1)).id := ⟨_, rfl⟩
                obtain ⟨vl, hvl⟩ : ∃ z, z = (ed M k).x.l := ⟨_, rfl⟩
                obtain ⟨vp, hvp⟩ : ∃ z, z = (ed M k).x.p := ⟨_, rfl⟩
                have svl : ∃ a n c, vl = .slice a n c := ⟨_, _, _, hvl⟩
                have svp : ∃ a n c, vp = .slice a n c := ⟨_, _, _, hvp⟩
                obtain ⟨r, hr⟩ : ∃ r, edgeWhy (ed M k).id (ed M k).fr (ed M k).tt (ed M k).x = r := ⟨_, rfl⟩
                rw [hr] at HBAD
                rw [← hd, ← hf, ← ht, ← hp] at HBAD
                rw [← hd, ← hf, ← ht] at hr
                rw [← hd] at c0 c6
                rw [← hf] at c1 c7
                rw [← ht] at c2 c8
                rw [← hp] at HP
                rw [← hvl] at c3
                rw [← hvp] at c4
                have HWY := Lib.hid hr
                have HVL := Lib.hid hvl
                have HVP := Lib.hid hvp
                clear hce hd hf ht hp hvl hvp hr c5 cl
                obtain ⟨a1, n1, c1x, rfl⟩ := svl
                obtain ⟨a2, n2, c2x, rfl⟩ := svp
                obtain ⟨W2, hW2⟩ : ∃ W2, W2 = wr.alloc (.cells #[.string d, .string f, .string t, .slice a1 n1 c1x, .slice a2 n2 c2x] 74) := ⟨_, rfl⟩
                have HB2 : Hid (Below W.heap.size W W2) := by rw [hW2]; exact hB.trans ((Joins.below_alloc1 wr _).mono hsz)
                obtain ⟨kb, hkb⟩ : ∃ kb, kb = wr.heap.size := ⟨_, rfl⟩
                have x0 : W2.cell? ⟨wr.heap.size, 0, none⟩ = some (.string d) := by rw [hW2, cell_of_row _ _ 0 _ _ _ (heap_new wr _)]; rfl
                have x1 : W2.cell? ⟨wr.heap.size, 1, none⟩ = some (.string f) := by rw [hW2, cell_of_row _ _ 1 _ _ _ (heap_new wr _)]; rfl
                have x2 : W2.cell? ⟨wr.heap.size, 2, none⟩ = some (.string t) := by rw [hW2, cell_of_row _ _ 2 _ _ _ (heap_new wr _)]; rfl
                have x3 : W2.cell? ⟨wr.heap.size, 3, none⟩ = some (.slice a1 n1 c1x) := by rw [hW2, cell_of_row _ _ 3 _ _ _ (heap_new wr _)]; rfl
                have x4 : W2.cell? ⟨wr.heap.size, 4, none⟩ = some (.slice a2 n2 c2x) := by rw [hW2, cell_of_row _ _ 4 _ _ _ (heap_new wr _)]; rfl
                have xl : wr.heap.size < W2.heap.size := by rw [hW2]; simp
                have HXS : Hid (W.heap.size ≤ W2.heap.size) := HB2.out.size
                go_upto_region 15 with (fail)
                rw [← hW2, ← hkb]
                rw [← hkb] at x0 x1 x2 x3 x4 xl
                clear hW2 hkb c0 c1 c2 c3 c4 y1 hB hsz
                go_wp2_with fail
                refine (checkEdge_at d f t (ed M k).x _ _ HVL.out HVP.out W2 (HLP.out W2 (HB2.out.mono (Nat.le_of_lt hbW)) HXS.out)).mono ?_
                rintro e w5 ⟨rfl, hB5⟩
                rw [HWY.out]
                have HB5 : Hid (Below W.heap.size W w5) := HB2.out.trans (hB5.mono HXS.out)
                have b0 : w5.cell? ⟨bx, 0, none⟩ = some (.slice (some ⟨g, off, none⟩) n a) := by rw [HB5.out.cell (p := ⟨bx, 0, none⟩) hbW]; exact z0
                have b1 : w5.cell? ⟨bx, 1, none⟩ = some (.slice (some ⟨ge, oe, none⟩) m b) := by rw [HB5.out.cell (p := ⟨bx, 1, none⟩) hbW]; exact z1
                have k0 : w5.cell? ⟨kb, 0, none⟩ = some (.string d) := by rw [hB5.cell (p := ⟨kb, 0, none⟩) xl]; exact x0
                have k1 : w5.cell? ⟨kb, 1, none⟩ = some (.string f) := by rw [hB5.cell (p := ⟨kb, 1, none⟩) xl]; exact x1
                have k2 : w5.cell? ⟨kb, 2, none⟩ = some (.string t) := by rw [hB5.cell (p := ⟨kb, 2, none⟩) xl]; exact x2
                have kl : kb < w5.heap.size := Nat.lt_of_lt_of_le xl hB5.size
                have HP5 : Hid (0 < k → w5.cell? ⟨ge, oe + (k - 1) * 5, none⟩ = some (.string p)) := fun h0 => by
                  rw [HB5.out.cell (p := ⟨ge, oe + (k - 1) * 5, none⟩) (by show ge < _; omega)]; exact HP.out h0
                clear hB5 HP x0 x1 x2 x3 x4 xl
                by_cases r0 : r = 0
                · subst r0
                  have HBAD2 : Hid (edgeBad N M k = if 0 < k ∧ lt p d = false then 4 else has2 N f t) := by show _ = _; rw [HBAD.out, if_neg (by simp)]
                  clear HBAD
                  by_cases i0 : k = 0
                  · have dd : decide (0 < k) = false := by simp; omega
                    have HBAD3 : Hid (edgeBad N M k = has2 N f t) := by
                      show _ = _
                      rw [HBAD2.out, if_neg (by omega)]
                    clear i0
                    go_wp2_with fail
                    go_quiet (fail)
                    obtain ⟨W6, hW6⟩ : ∃ W6, W6 = w5.drewN nq := ⟨_, rfl⟩
                    rw [← hW6]
                    have HB6 : Hid (Below W.heap.size W W6) := by rw [hW6]; exact below_drewN HB5.out _
                    have b06 : W6.cell? ⟨bx, 0, none⟩ = some (.slice (some ⟨g, off, none⟩) n a) := by rw [hW6]; exact b0
                    have b16 : W6.cell? ⟨bx, 1, none⟩ = some (.slice (some ⟨ge, oe, none⟩) m b) := by rw [hW6]; exact b1
                    have k16 : W6.cell? ⟨kb, 1, none⟩ = some (.string f) := by rw [hW6]; exact k1
                    have k26 : W6.cell? ⟨kb, 2, none⟩ = some (.string t) := by rw [hW6]; exact k2
                    have kl6 : kb < W6.heap.size := by rw [hW6]; exact kl
                    clear hW6 b0 b1 k0 k1 k2 kl
                    go_wp2_with fail
                    refine (node_any ⟨some ⟨g, off, none⟩, N, a, some ⟨ge, oe, none⟩, M, b⟩ _ _ E1.out E2.out f W6 (HGW.out W6 (HB6.out.mono (Nat.le_of_lt hbW)) HB6.out.size) HNlen.out HRISE.out).mono ?_
                    rintro e w7 ⟨⟨p1, q1, rfl, hf1⟩, hB7⟩
                    have HF1 := Lib.hid (found_has hf1)
                    clear hf1
                    have HB7 : Hid (Below W.heap.size W w7) := HB6.out.trans (hB7.mono HB6.out.size)
                    have b07 : w7.cell? ⟨bx, 0, none⟩ = some (.slice (some ⟨g, off, none⟩) n a) := by rw [HB7.out.cell (p := ⟨bx, 0, none⟩) hbW]; exact z0
                    have b17 : w7.cell? ⟨bx, 1, none⟩ = some (.slice (some ⟨ge, oe, none⟩) m b) := by rw [HB7.out.cell (p := ⟨bx, 1, none⟩) hbW]; exact z1
                    have k27 : w7.cell? ⟨kb, 2, none⟩ = some (.string t) := by rw [hB7.cell (p := ⟨kb, 2, none⟩) kl6]; exact k26
                    clear hB7 b06 b16 k16 k26 kl6
                    go_wp2_with fail
                    refine (node_any ⟨some ⟨g, off, none⟩, N, a, some ⟨ge, oe, none⟩, M, b⟩ _ _ E1.out E2.out t w7 (HGW.out w7 (HB7.out.mono (Nat.le_of_lt hbW)) HB7.out.size) HNlen.out HRISE.out).mono ?_
                    rintro e w8 ⟨⟨p2, q2, rfl, hf2⟩, hB8⟩
                    have HF2 := Lib.hid (found_has hf2)
                    have HB8 : Hid (Below W.heap.size W w8) := HB7.out.trans (hB8.mono HB7.out.size)
                    clear hf2 hB8 b07 b17 k27
                    cases q1 with
                    | false =>
                      have hR9 : Hid (R = 9) := by
                        have := HBAD3.out
                        rw [has2_no (fun z => by have := HF1.out.2 z.1; cases this)] at this
                        show R = 9
                        rw [HAT.out (by rw [this]; decide), this]
                      go_wp2_with fail
                      go_ret
                      exact ⟨by show Ending.returned (Value.int .i64 9) = _; rw [hR9.out], HPOST.out _ (HB8.out.mono (Nat.le_of_lt hbW))⟩
                    | true =>
                      cases q2 with
                      | false =>
                        have hR9 : Hid (R = 9) := by
                          have := HBAD3.out
                          rw [has2_no (fun z => by have := HF2.out.2 z.2; cases this)] at this
                          show R = 9
                          rw [HAT.out (by rw [this]; decide), this]
                        go_wp2_with fail
                        go_ret
                        exact ⟨by show Ending.returned (Value.int .i64 9) = _; rw [hR9.out], HPOST.out _ (HB8.out.mono (Nat.le_of_lt hbW))⟩
                      | true =>
                        have hbad : Hid (edgeBad N M k = 0) := by show _ = _; rw [HBAD3.out, has2_yes (HF1.out.1 rfl) (HF2.out.1 rfl)]
                        go_wp2_with fail
                        go_roundw
                        case rel => exact ⟨k + 1, by go_num, by omega, HOK.out hbad.out, HB8.out⟩
                        case measure => simp [intOf]; omega
                  · have i0' : 0 < k := by omega
                    have dd : decide (0 < k) = true := by simp; omega
                    have cp := HP5.out i0'
                    have ei : (k : Int) - 1 = ((k - 1 : Nat) : Int) := by omega
                    have ii : k - 1 < m := by omega
                    clear i0
                    generalize k - 1 = i1 at cp ei ii
                    obtain ⟨q, hq⟩ : ∃ q, lt p d = q := ⟨_, rfl⟩
                    have HRR : Hid (lt p d = q) := hq
                    have hg2 : ∀ W : World, (binOp .geq 9 (.string p) (.string d)).run Try.prog W = .ok (.bool (!q)) W := fun W => by rw [geqS, hq]
                    clear hq
                    cases q with
                    | true =>
                      have HBAD3 : Hid (edgeBad N M k = has2 N f t) := by
                        show _ = _
                        rw [HBAD2.out, if_neg (by rw [HRR.out]; simp)]
                      go_wp2_with fail
                      go_quiet (fail)
                      obtain ⟨W6, hW6⟩ : ∃ W6, W6 = w5.drewN nq := ⟨_, rfl⟩
                      rw [← hW6]
                      have HB6 : Hid (Below W.heap.size W W6) := by rw [hW6]; exact below_drewN HB5.out _
                      have b06 : W6.cell? ⟨bx, 0, none⟩ = some (.slice (some ⟨g, off, none⟩) n a) := by rw [hW6]; exact b0
                      have b16 : W6.cell? ⟨bx, 1, none⟩ = some (.slice (some ⟨ge, oe, none⟩) m b) := by rw [hW6]; exact b1
                      have k16 : W6.cell? ⟨kb, 1, none⟩ = some (.string f) := by rw [hW6]; exact k1
                      have k26 : W6.cell? ⟨kb, 2, none⟩ = some (.string t) := by rw [hW6]; exact k2
                      have kl6 : kb < W6.heap.size := by rw [hW6]; exact kl
                      clear hW6 b0 b1 k0 k1 k2 kl
                      go_wp2_with fail
                      refine (node_any ⟨some ⟨g, off, none⟩, N, a, some ⟨ge, oe, none⟩, M, b⟩ _ _ E1.out E2.out f W6 (HGW.out W6 (HB6.out.mono (Nat.le_of_lt hbW)) HB6.out.size) HNlen.out HRISE.out).mono ?_
                      rintro e w7 ⟨⟨p1, q1, rfl, hf1⟩, hB7⟩
                      have HF1 := Lib.hid (found_has hf1)
                      clear hf1
                      have HB7 : Hid (Below W.heap.size W w7) := HB6.out.trans (hB7.mono HB6.out.size)
                      have b07 : w7.cell? ⟨bx, 0, none⟩ = some (.slice (some ⟨g, off, none⟩) n a) := by rw [HB7.out.cell (p := ⟨bx, 0, none⟩) hbW]; exact z0
                      have b17 : w7.cell? ⟨bx, 1, none⟩ = some (.slice (some ⟨ge, oe, none⟩) m b) := by rw [HB7.out.cell (p := ⟨bx, 1, none⟩) hbW]; exact z1
                      have k27 : w7.cell? ⟨kb, 2, none⟩ = some (.string t) := by rw [hB7.cell (p := ⟨kb, 2, none⟩) kl6]; exact k26
                      clear hB7 b06 b16 k16 k26 kl6
                      go_wp2_with fail
                      refine (node_any ⟨some ⟨g, off, none⟩, N, a, some ⟨ge, oe, none⟩, M, b⟩ _ _ E1.out E2.out t w7 (HGW.out w7 (HB7.out.mono (Nat.le_of_lt hbW)) HB7.out.size) HNlen.out HRISE.out).mono ?_
                      rintro e w8 ⟨⟨p2, q2, rfl, hf2⟩, hB8⟩
                      have HF2 := Lib.hid (found_has hf2)
                      have HB8 : Hid (Below W.heap.size W w8) := HB7.out.trans (hB8.mono HB7.out.size)
                      clear hf2 hB8 b07 b17 k27
                      cases q1 with
                      | false =>
                        have hR9 : Hid (R = 9) := by
                          have := HBAD3.out
                          rw [has2_no (fun z => by have := HF1.out.2 z.1; cases this)] at this
                          show R = 9
                          rw [HAT.out (by rw [this]; decide), this]
                        go_wp2_with fail
                        go_ret
                        exact ⟨by show Ending.returned (Value.int .i64 9) = _; rw [hR9.out], HPOST.out _ (HB8.out.mono (Nat.le_of_lt hbW))⟩
                      | true =>
                        cases q2 with
                        | false =>
                          have hR9 : Hid (R = 9) := by
                            have := HBAD3.out
                            rw [has2_no (fun z => by have := HF2.out.2 z.2; cases this)] at this
                            show R = 9
                            rw [HAT.out (by rw [this]; decide), this]
                          go_wp2_with fail
                          go_ret
                          exact ⟨by show Ending.returned (Value.int .i64 9) = _; rw [hR9.out], HPOST.out _ (HB8.out.mono (Nat.le_of_lt hbW))⟩
                        | true =>
                          have hbad : Hid (edgeBad N M k = 0) := by show _ = _; rw [HBAD3.out, has2_yes (HF1.out.1 rfl) (HF2.out.1 rfl)]
                          go_wp2_with fail
                          go_roundw
                          case rel => exact ⟨k + 1, by go_num, by omega, HOK.out hbad.out, HB8.out⟩
                          case measure => simp [intOf]; omega
                    | false =>
                      have hR4 : Hid (R = 4) := by
                        have := HBAD2.out
                        rw [if_pos ⟨i0', HRR.out⟩] at this
                        show R = 4
                        rw [HAT.out (by rw [this]; decide), this]
                      go_wp2_with fail
                      go_quiet (fail)
                      go_wp2_with fail
                      go_ret
                      exact ⟨by show Ending.returned (Value.int .i64 4) = _; rw [hR4.out], HPOST.out _ ((below_drewN HB5.out _).mono (Nat.le_of_lt hbW))⟩
                · have e0 : (r == 0) = false := by simpa using r0
                  have e1 : (r != 0) = true := by simpa using r0
                  have hRr : R = r := by
                    have := HBAD.out
                    rw [if_pos r0] at this
                    rw [HAT.out (by rw [this]; exact r0), this]
                  subst hRr
                  clear r0 HBAD
                  go_wp2_with fail
                  go_ret
                  exact ⟨rfl, HPOST.out _ (HB5.out.mono (Nat.le_of_lt hbW))⟩
              · have hke : k = m := by omega
                have HKE := Lib.hid hke
                clear hke hce cl
                go_wp2_with fail
                go_ret
                exact ⟨by show Ending.returned (Value.int .i64 0) = _; rw [HR2.out, fb_zero (by rw [← HKE.out]; exact HALL.out)], HPOST.out _ (hB.mono (Nat.le_of_lt hbW))⟩
end Go.Proofs.Ytpaegpbabfohcaa.Paths
