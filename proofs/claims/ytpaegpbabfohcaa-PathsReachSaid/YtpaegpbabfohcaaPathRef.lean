/-
  The document's Reach: at, Reach, Same.
-/
import Derived.Test.YtpaegpbabfohcaaPathBegin
namespace Go.Proofs.Ytpaegpbabfohcaa.Paths
open Go.RowKit Go.Proofs.Ytpaegpbabfohcaa.WalkBytes Go.Proofs.Ytpaegpbabfohcaa.PathPure Go.Proofs.Ytpaegpbabfohcaa.MapAt
set_option linter.unusedVariables false
set_option linter.unusedSimpArgs false
set_option maxRecDepth 100000

/-- a row of hops of one's own -/
abbrev OwnH (w : World) (B : Nat) (v : Value) (L : List Hop) : Prop := w.ownsRow B 113 3 v L.length (hrow L)
theorem own_zero {w : World} {B : Nat} {e : TypeId} {k n : Nat} {v : Value} {l : List Value} (h : w.ownsRow B e k v n l) : w.ownsRow 0 e k v n l := by
  refine ⟨h.1, h.2.imp id ?_⟩
  rintro ⟨g, cap, cur, e, hg, r⟩
  exact ⟨g, cap, cur, e, Nat.zero_le _, r⟩
def atH (L : List Hop) (s : ByteArray) : Int := match L.findIdx? (fun h => decide (h.id = s)) with
  | none => -1
  | some p => p
theorem atH_none {L : List Hop} {s : ByteArray} (h : s ∉ L.map (·.id)) : atH L s = -1 := by
  unfold atH
  rw [List.findIdx?_eq_none_iff.2 (fun x hx => by simp; rintro rfl; exact h (List.mem_map.2 ⟨x, hx, rfl⟩))]
theorem hop_get {L : List Hop} {i : Nat} (h : i < L.length) : L[i] = hop L i := by
  unfold hop
  rw [List.getD_eq_getElem?_getD, List.getElem?_eq_getElem h]; rfl
theorem atH_hit {L : List Hop} {s : ByteArray} {i : Nat} (hi : i < L.length) (h : (hop L i).id = s) (hn : ∀ j, j < i → (hop L j).id ≠ s) : atH L s = i := by
  unfold atH
  rw [List.findIdx?_eq_some_iff_getElem.2 ⟨hi, by rw [hop_get hi]; simpa using h, fun j hj => by rw [hop_get (by omega)]; simpa using hn j hj⟩]
theorem atH_iff {L : List Hop} {s : ByteArray} : (atH L s < 0 ↔ s ∉ L.map (·.id)) ∧ (s ∈ L.map (·.id) → ∃ p : Nat, p < L.length ∧ atH L s = p ∧ (hop L p).id = s) := by
  by_cases h : s ∈ L.map (·.id)
  · have key : ∃ p : Nat, p < L.length ∧ atH L s = p ∧ (hop L p).id = s := by
      unfold atH
      cases hf : L.findIdx? (fun h => decide (h.id = s)) with
      | none =>
        rw [List.findIdx?_eq_none_iff] at hf
        obtain ⟨x, hx, rfl⟩ := List.mem_map.1 h
        have := hf x hx
        simp at this
      | some p =>
        rw [List.findIdx?_eq_some_iff_getElem] at hf
        obtain ⟨hp, h1, h2⟩ := hf
        exact ⟨p, hp, rfl, by rw [← hop_get hp]; simpa using h1⟩
    refine ⟨⟨fun q => ?_, fun q => absurd h q⟩, fun _ => key⟩
    obtain ⟨p, -, e, -⟩ := key
    omega
  · exact ⟨⟨fun _ => h, fun _ => by rw [atH_none h]; omega⟩, fun q => absurd q h⟩
set_option maxHeartbeats 1600000 in
theorem at_any (V : Value) (L : List Hop) (s : ByteArray) (w : World) (h : OwnH w 0 V L) (hl : L.length ≤ 1000) :
    Calls Try.prog 71 #[V, .string s] w fun e w' => e = .returned (.int .i64 (atH L s)) ∧ w = w' := by
  obtain ⟨av, cv, rfl⟩ := slice_of_own h
  obtain ⟨n, hn⟩ : ∃ n, n = L.length := ⟨_, rfl⟩
  rw [← hn]
  have hn1 : n ≤ 1000 := by omega
  obtain ⟨R, hR⟩ : ∃ R, R = atH L s := ⟨_, rfl⟩
  rw [← hR]
  have HR := Lib.hid hR
  have HN := Lib.hid hn
  have HO := Lib.hid h
  clear hn hl hR h
  go_enter Try.func71, Try.ntmps71
  go_wp2_with fail
  go_loop [5] (fun v => ∃ i : Nat, v = .int .i64 i ∧ i ≤ n ∧ Hid (∀ j, j < i → (hop L j).id ≠ s)) (fun v => n - (intOf v).toNat)
  case atStart => exact ⟨0, rfl, Nat.zero_le _, fun j hj => absurd hj (by omega)⟩
  case round =>
    obtain ⟨i, rfl, hi, HA⟩ := hrel
    by_cases hin : i < n
    · obtain ⟨g, cap, hV, k0, k1, k2⟩ := row_cells HO.out (show i < L.length by rw [← HN.out]; exact hin)
      have hav : av = some ⟨g, 0, none⟩ := by injection hV
      subst hav
      obtain ⟨d, hd⟩ : ∃ d, d = (hop L i).id := ⟨_, rfl⟩
      rw [← hd] at k0
      have HD := Lib.hid hd
      clear k1 k2 hV hd
      by_cases e : d = s
      · have he : (d.toList == s.toList) = true := by rw [e]; simp
        have hRi : R = (i : Int) := by rw [HR.out, atH_hit (by rw [← HN.out]; exact hin) (by rw [← HD.out]; exact e) HA.out]
        subst hRi
        clear e
        go_wp2_with fail
        go_ret
        exact ⟨rfl, rfl⟩
      · have he : (d.toList == s.toList) = false := beq_eq_false_iff_ne.2 (fun q => e (toList_inj q))
        have HA2 : Hid (∀ j, j < i + 1 → (hop L j).id ≠ s) := fun j hj => by
          rcases Nat.lt_or_ge j i with q | q
          · exact HA.out j q
          · rw [show j = i by omega, ← HD.out]; exact e
        clear e
        go_wp2_with fail
        go_round
        case rel => exact ⟨i + 1, by go_num, by omega, HA2⟩
        case measure => simp [intOf]; omega
    · have hRn : R = -1 := by
        rw [HR.out, atH_none]
        intro q
        obtain ⟨x, hx, ex⟩ := List.mem_map.1 q
        obtain ⟨j, hj, ej⟩ := mem_hop hx
        exact HA.out j (by rw [← HN.out] at hj; omega) (by rw [ej]; exact ex)
      subst hRn
      have hge : n ≤ i := by omega
      go_wp2_with fail
      go_ret
      exact ⟨rfl, rfl⟩

/-- two rows of hops -/
theorem hop_ext {a b : Hop} (h1 : a.id = b.id) (h2 : a.edge = b.edge) (h3 : a.far = b.far) : a = b := by
  cases a; cases b; simp_all
set_option maxHeartbeats 1600000 in
theorem same_any (V U : Value) (L : List Hop) (w : World) (h : OwnH w 0 V L) (h' : OwnH w 0 U L) (hl : L.length ≤ 1000) :
    Calls Try.prog 39 #[V, U] w fun e w' => e = .returned (.bool true) ∧ Below w.heap.size w w' := by
  obtain ⟨av, cv, rfl⟩ := slice_of_own h
  obtain ⟨au, cu, rfl⟩ := slice_of_own h'
  obtain ⟨n, hn⟩ : ∃ n, n = L.length := ⟨_, rfl⟩
  rw [← hn]
  have hn1 : n ≤ 1000 := by omega
  have HN := Lib.hid hn
  have HO := Lib.hid h
  have HO' := Lib.hid h'
  clear hn hl h h'
  go_enter Try.func39, Try.ntmps39
  go_wp2_with fail
  go_loopw [13] (fun v wr => ∃ i : Nat, v = .int .i64 i ∧ i ≤ n ∧ ∃ m, wr = w.drewN m) (fun v _ => n - (intOf v).toNat)
  case atStart => exact ⟨0, rfl, Nat.zero_le _, 0, rfl⟩
  case round =>
    obtain ⟨i, rfl, hi, m, rfl⟩ := hrel
    by_cases hin : i < n
    · obtain ⟨g, cap, hV, k0, k1, k2⟩ := row_cells HO.out (show i < L.length by rw [← HN.out]; exact hin)
      obtain ⟨g', cap', hU, j0, j1, j2⟩ := row_cells HO'.out (show i < L.length by rw [← HN.out]; exact hin)
      have hav : av = some ⟨g, 0, none⟩ := by injection hV
      have hau : au = some ⟨g', 0, none⟩ := by injection hU
      subst hav hau
      generalize hop L i = x at k0 k1 k2 j0 j1 j2
      obtain ⟨xi, xe, xf⟩ := x
      clear hV hU
      go_wp2_with fail
      go_quiet (fail)
      go_wp2_with fail
      go_roundw
      case rel => exact ⟨i + 1, by go_num, by omega, _, rfl⟩
      case measure => simp [intOf]; omega
    · have hge : n ≤ i := by omega
      go_wp2_with fail
      go_ret
      exact ⟨rfl, below_drewN (Below.refl _ _) _⟩

theorem quiet_at {P : Program} {f : FuncId} {args : Array Value} {w : World} {n : Nat} {v : Value}
    (h : Calls P f args (w.drewN n) fun e w' => e = .returned v ∧ w.drewN n = w') : Calls P f args (w.drewN n) fun e w'' => e = .returned v ∧ ∃ m, w'' = w.drewN m :=
  h.mono fun _ _ ⟨he, hm⟩ => ⟨he, n, hm.symm⟩
theorem below_own {B : Nat} {v : Value} {w w' : World} {e : TypeId} {k n : Nat} {l : List Value} (h : w.grownBy w' v.ownBlock) (hs : w.ownsRow B e k v n l) (hB : B ≤ w.heap.size) : Below B w w' :=
  (Below.refl B w).grown h hB (fun k hk => (hs.lt k hk).1)
theorem own_one (w : World) (h : Hop) : OwnH (w.alloc (.cells #[.string h.id, .string h.edge, .int .i64 h.far] 113)) w.heap.size (.slice (some ⟨w.heap.size, 0, none⟩) 1 1) [h] :=
  ⟨by simp [hrow, hcells], .inr ⟨w.heap.size, 1, _, rfl, Nat.le_refl _, heap_new w _, by simp, by unfold maxLen; omega, by simp, by simp [hrow, hcells]⟩⟩
set_option maxHeartbeats 6400000 in
theorem refReach_any (g : Gr) (gn ge : Value) (hgn : gn = g.n) (hge : ge = g.e) (s : ByteArray) (w : World) (h : GrAt w.heap.size w g) (ok : GrOk g) (hs : HasN g.N s) :
    Calls Try.prog 40 #[.agg #[gn, ge], .string s] w fun e w' => (∃ T V, e = .returned V ∧ Ends (egs g.E) s T ∧ OwnH w' w.heap.size V (steps (egs g.E) s T)) ∧ Below w.heap.size w w' := by
  obtain ⟨A, N, a, B, M, b2⟩ := g
  subst hgn hge
  obtain ⟨n, hn⟩ : ∃ n, n = N.length := ⟨_, rfl⟩
  obtain ⟨m, hm⟩ : ∃ m, m = M.length := ⟨_, rfl⟩
  have e1 : (⟨A, N, a, B, M, b2⟩ : Gr).n = .slice A n a := by rw [hn]; rfl
  have e2 : (⟨A, N, a, B, M, b2⟩ : Gr).e = .slice B m b2 := by rw [hm]; rfl
  rw [e1, e2]
  obtain ⟨bx, hbx⟩ : ∃ bx, bx = w.heap.size := ⟨_, rfl⟩
  have hrow : Eds bx w B M := by rw [hbx]; exact h.e
  have hm1 : m ≤ 1000 := by rw [hm]; exact ok.e
  have HM := Lib.hid hm
  have HROW := Lib.hid hrow
  have hin := egs_in ok
  have hsI := has_ids.1 hs
  have hidl : (ids N).length ≤ 500 := by unfold ids; rw [List.length_map]; exact ok.n
  have HIN : Hid (Within (egs M) (ids N) ∧ s ∈ ids N ∧ (ids N).length ≤ 500) := ⟨hin, hsI, hidl⟩
  obtain ⟨W, hW⟩ : ∃ W, W = (w.alloc (.cells #[.slice A n a, .slice B m b2] 45)).alloc (.cells #[.string s, .string ⟨#[]⟩, .int .i64 0] 113) := ⟨_, rfl⟩
  have hs1 : (w.alloc (.cells #[.slice A n a, .slice B m b2] 45)).heap.size = bx + 1 := by rw [hbx]; simp
  have hB : Below bx w W := by rw [hW, hbx]; exact (Joins.below_alloc1 w _).trans ((Joins.below_alloc1 _ _).mono (by simp))
  have hsz : W.heap.size = bx + 2 := by rw [hW, hbx]; simp
  have hblk : W.heap[bx]? = some (.cells #[.slice A n a, .slice B m b2] 45 (0, 0)) := by
    rw [hW, hbx]
    exact ((Joins.below_alloc1 _ _).block _ (by simp)).trans (heap_new w _)
  have z1 : W.cell? ⟨bx, 1, none⟩ = some (.slice B m b2) := by rw [cell_of_row _ _ 1 _ _ _ hblk]; rfl
  have ho : OwnH W (bx + 1) (.slice (some ⟨bx + 1, 0, none⟩) 1 1) (steps (egs M) s 0) := by
    have := own_one (w.alloc (.cells #[.slice A n a, .slice B m b2] 45)) ⟨s, ⟨#[]⟩, 0⟩
    rw [hs1] at this
    rw [hW]; exact this
  have HO := Lib.hid ho
  have HB := Lib.hid hB
  have HBX : Hid (bx = w.heap.size ∧ bx < W.heap.size ∧ bx + 1 ≤ W.heap.size) := ⟨hbx, by omega, by omega⟩
  have hw1 : Hid (w.heap.size + 1 = bx + 1) := by show _ = _; omega
  clear h ok hs hn hm e1 e2 hrow hin hsI hidl hs1 hB hsz hblk ho
  go_enter Try.func40, Try.ntmps40
  go_upto_region 2 with (fail)
  rw [← hW, ← hbx]
  clear hW hbx
  go_wp2_with fail
  go_loopw [5, 6] (fun o v wr => ∃ i : Nat, v = .int .i64 i ∧ i ≤ 600 ∧ (∀ j, j < i → j < (steps (egs M) s j).length) ∧ OwnH wr (bx + 1) o (steps (egs M) s i) ∧ Below (bx + 1) W wr) (fun _ v _ => 600 - (intOf v).toNat)
  case atStart => exact ⟨0, rfl, by omega, fun j hj => absurd hj (by omega), HO.out, Below.refl _ _⟩
  case round =>
    obtain ⟨i, rfl, hi, hall, ho, hb⟩ := hrel
    have hlen := steps_len HIN.out.1 HIN.out.2.1 i
    have hI := inv_steps (egs M) s i hall
    have HALL := Lib.hid hall
    obtain ⟨Li, hLi⟩ : ∃ Li, Li = steps (egs M) s i := ⟨_, rfl⟩
    have hnext : onE (hop Li i) (egs M) Li = steps (egs M) s (i + 1) := by rw [hLi]; rfl
    rw [← hLi] at ho hlen hI
    obtain ⟨av, cv, rfl⟩ := slice_of_own ho
    obtain ⟨len, hlen2⟩ : ∃ len, len = Li.length := ⟨_, rfl⟩
    have hl5 : len ≤ 500 := by have := HIN.out.2.2; omega
    have HO1 := Lib.hid ho
    have y1 : wr.cell? ⟨bx, 1, none⟩ = some (.slice B m b2) := (hb.cell (p := ⟨bx, 1, none⟩) (by show bx < bx + 1; omega)).trans z1
    have HB1 := Lib.hid hb
    rw [← hlen2]
    by_cases hil : i < len
    · have hil2 : i < Li.length := by omega
      have HNX : Hid (∀ j, j < i + 1 → j < (steps (egs M) s j).length) := fun j hj => by
        rcases Nat.lt_or_ge j i with q | q
        · exact HALL.out j q
        · rw [show j = i by omega, ← hLi]; exact hil2
      obtain ⟨h1, hh1⟩ : ∃ h1, h1 = hop Li i := ⟨_, rfl⟩
      have hfar := hI.far_le i hil2
      rw [← hh1] at hnext hfar
      have hls : Hid (∀ k, k ≤ m → (onE h1 ((egs M).take k) Li).length ≤ 500) := fun k _ => by
        have := onE_len (E := (egs M).take k) (U := ids N) (fun x hx => HIN.out.1 x (List.mem_of_mem_take hx)) (H := h1) (L := Li) (by rw [hLi]; exact steps_nodup _ _ _) (by rw [hLi]; exact steps_in HIN.out.1 HIN.out.2.1 i)
        have := HIN.out.2.2
        omega
      have hpre : Hid (∀ k, ∃ t, onE h1 ((egs M).take k) Li = Li ++ t) := fun k => by
        obtain ⟨t, ht, -⟩ := onE_pre h1 ((egs M).take k) Li
        exact ⟨t, ht⟩
      have HH1 := Lib.hid hh1
      have HNEXT := Lib.hid hnext
      have HIL := Lib.hid hil2
      have HL2 := Lib.hid hlen2
      obtain ⟨f1, hf1⟩ : ∃ f1, f1 = h1.far := ⟨_, rfl⟩
      have hf6 : f1 ≤ 600 := by omega
      have HF1 := Lib.hid hf1
      clear hall ho hb hlen hI hLi hnext hlen2 hh1 hfar hil2 hf1
      go_wp2_with fail
      go_loopw [5, 7] (fun o v wx => ∃ k : Nat, v = .int .i64 k ∧ k ≤ m ∧ OwnH wx (bx + 1) o (onE h1 ((egs M).take k) Li) ∧ Below (bx + 1) W wx) (fun _ v _ => m - (intOf v).toNat)
      case atStart => exact ⟨0, rfl, Nat.zero_le _, by rw [List.take_zero]; exact HL2.out ▸ HO1.out, HB1.out⟩
      case round =>
        clear y1
        obtain ⟨k, rfl, hk, hox, hbx'⟩ := hrel
        have y1 : wr.cell? ⟨bx, 1, none⟩ = some (.slice B m b2) := (hbx'.cell (p := ⟨bx, 1, none⟩) (by show bx < bx + 1; omega)).trans z1
        by_cases hkm : k < m
        · have hox' := hox
          obtain ⟨av2, cv2, hv2⟩ := slice_of_own hox
          subst hv2
          rcases HROW.out with hnil | ⟨g, off, hA, hg, hc⟩
          · exact absurd (show m = 0 by rw [HM.out, hnil]; rfl) (by omega)
          subst hA
          obtain ⟨c0, c1, c2, c3, c4, c5, c6⟩ := hc k (by rw [← HM.out]; exact hkm)
          have hgw : g < bx := hg
          have HbW : Hid (Below bx w wr) := HB.out.trans (hbx'.mono (by omega))
          have cl : ∀ o, wr.cell? ⟨g, o, none⟩ = w.cell? ⟨g, o, none⟩ := fun o => HbW.out.cell (p := ⟨g, o, none⟩) hgw
          rw [← cl] at c0 c1 c2 c3 c4
          have hstep := onE_take (h := h1) (L := Li) (show k < M.length by rw [← HM.out]; exact hkm)
          have hlen := hls.out k hk
          obtain ⟨t1, ht1⟩ := hpre.out k
          obtain ⟨Lk, hLk⟩ : ∃ Lk, Lk = onE h1 ((egs M).take k) Li := ⟨_, rfl⟩
          rw [← hLk] at hstep hlen hox hox' ht1
          have hhop : hop Lk i = h1 := by rw [ht1, hop_pre HIL.out]; exact HH1.out.symm
          have hik : i < Lk.length := by rw [ht1, List.length_append]; have := HIL.out; omega
          obtain ⟨gr, cap, hV, k0, k1, k2⟩ := row_cells (own_zero hox) hik
          rw [hhop, ← HF1.out] at k2
          rw [hhop] at k0 k1
          have hav : av2 = some ⟨gr, 0, none⟩ := by injection hV
          subst hav
          obtain ⟨n2, hn2⟩ : ∃ n2, n2 = Lk.length := ⟨_, rfl⟩
          have hi2 : i < n2 := by omega
          have hn5 : n2 ≤ 500 := by omega
          obtain ⟨vl, hvl⟩ : ∃ vl, vl = (ed M k).x.l := ⟨_, rfl⟩
          obtain ⟨vp, hvp⟩ : ∃ vp, vp = (ed M k).x.p := ⟨_, rfl⟩
          rw [← hvl] at c3
          rw [← hvp] at c4
          have svl : ∃ a n c, vl = .slice a n c := ⟨_, _, _, hvl⟩
          have svp : ∃ a n c, vp = .slice a n c := ⟨_, _, _, hvp⟩
          obtain ⟨a1, n1, d1, rfl⟩ := svl
          obtain ⟨a2, n2', d2, rfl⟩ := svp
          obtain ⟨xi, hxi⟩ : ∃ xi, xi = (ed M k).id := ⟨_, rfl⟩
          obtain ⟨xf, hxf⟩ : ∃ xf, xf = (ed M k).fr := ⟨_, rfl⟩
          obtain ⟨xt, hxt⟩ : ∃ xt, xt = (ed M k).tt := ⟨_, rfl⟩
          rw [← hxi] at c0
          rw [← hxf] at c1
          rw [← hxt] at c2
          have hstep : onE h1 ((egs M).take (k + 1)) Li = PathPure.one h1 Lk ⟨xi, xf, xt⟩ := by rw [hstep, hxi, hxf, hxt]; rfl
          have HSTEP := Lib.hid hstep
          obtain ⟨d0, hd0⟩ : ∃ d0, d0 = h1.id := ⟨_, rfl⟩
          rw [← hd0] at k0
          have HD0 := Lib.hid hd0
          obtain ⟨W2, hW2⟩ : ∃ W2, W2 = wr.alloc (.cells #[.string xi, .string xf, .string xt, .slice a1 n1 d1, .slice a2 n2' d2] 74) := ⟨_, rfl⟩
          obtain ⟨kb, hkb⟩ : ∃ kb, kb = wr.heap.size := ⟨_, rfl⟩
          have hB2 : Below wr.heap.size wr W2 := by rw [hW2]; exact Joins.below_alloc1 wr _
          have x0 : W2.cell? ⟨kb, 0, none⟩ = some (.string xi) := by rw [hW2, hkb, cell_of_row _ _ 0 _ _ _ (heap_new wr _)]; rfl
          have x1 : W2.cell? ⟨kb, 1, none⟩ = some (.string xf) := by rw [hW2, hkb, cell_of_row _ _ 1 _ _ _ (heap_new wr _)]; rfl
          have x2 : W2.cell? ⟨kb, 2, none⟩ = some (.string xt) := by rw [hW2, hkb, cell_of_row _ _ 2 _ _ _ (heap_new wr _)]; rfl
          have hgr : gr < wr.heap.size := (hox.lt gr rfl).2
          have r0 : W2.cell? ⟨gr, i * 3, none⟩ = some (.string d0) := (hB2.cell (p := ⟨gr, i * 3, none⟩) hgr).trans k0
          have r2 : W2.cell? ⟨gr, i * 3 + 2, none⟩ = some (.int .i64 f1) := (hB2.cell (p := ⟨gr, i * 3 + 2, none⟩) hgr).trans k2
          have hs2 : bx + 1 ≤ W2.heap.size := by have := hbx'.size; have := hB2.size; have := HBX.out; omega
          have HX : Hid (OwnH W2 (bx + 1) (.slice (some ⟨gr, 0, none⟩) n2 cv2) Lk ∧ Below (bx + 1) W W2) := ⟨by rw [hn2, hLk]; rw [hLk] at hox'; exact own_later hox' hB2, hbx'.trans (hB2.mono (by have := hbx'.size; have := HBX.out; omega))⟩
          have HN2 := Lib.hid hn2
          have e3 : (onE h1 ((egs M).take k) Li).length = n2 := by rw [hn2, hLk]
          rw [e3]
          have HS2 := Lib.hid hs2
          clear hc cl hvl hvp hxi hxf hxt hstep hox hox' hbx' hB2 c5 c6 hLk hhop hik ht1 hlen k0 k1 k2 hV hn2 hd0 e3 hgr hs2
          go_upto_region 9 with (fail)
          rw [← hW2, ← hkb]
          clear hW2 hkb c0 c1 c2 c3 c4
          have NEXT : Hid (∀ wf, OwnH wf (bx + 1) (.slice (some ⟨gr, 0, none⟩) n2 cv2) Lk → Below (bx + 1) W wf → (xf ≠ d0 ∨ ¬ atH Lk xt < 0) → OwnH wf (bx + 1) (.slice (some ⟨gr, 0, none⟩) n2 cv2) (onE h1 ((egs M).take (k + 1)) Li) ∧ Below (bx + 1) W wf) := fun wf k1 k2 k3 => by
            refine ⟨?_, k2⟩
            rw [HSTEP.out]
            unfold PathPure.one arr
            by_cases q : xf = d0
            · rw [if_pos (q.trans HD0.out), if_pos (Classical.byContradiction fun z => (k3.resolve_left (fun z => z q)) (atH_iff.1.2 z))]; exact k1
            · rw [if_neg (fun z => q (z.trans HD0.out.symm))]; exact k1
          have NEXT2 : Hid (∀ wf v, OwnH wf (bx + 1) v (Lk ++ [⟨xt, xi, f1 + 1⟩]) → Below (bx + 1) W wf → xf = d0 → atH Lk xt < 0 → OwnH wf (bx + 1) v (onE h1 ((egs M).take (k + 1)) Li) ∧ Below (bx + 1) W wf) := fun wf v k1 k2 q k3 => by
            refine ⟨?_, k2⟩
            rw [HSTEP.out]
            unfold PathPure.one arr
            rw [if_pos (q.trans HD0.out), if_neg (atH_iff.1.1 k3), ← HF1.out]; exact k1
          by_cases hfr : xf = d0
          · have hbe : (xf.toList == d0.toList) = true := by rw [hfr]; simp
            have HAT : Hid (∀ k, Calls Try.prog 71 #[.slice (some ⟨gr, 0, none⟩) n2 cv2, .string xt] (W2.drewN k) fun e w' => e = .returned (.int .i64 (atH Lk xt)) ∧ W2.drewN k = w') := fun k => at_any _ Lk xt (W2.drewN k) (own_zero HX.out.1) (by have := HN2.out; omega)
            obtain ⟨r, hr⟩ : ∃ r, r = atH Lk xt := ⟨_, rfl⟩
            rw [← hr] at HAT NEXT NEXT2
            have HFR := Lib.hid hfr
            clear hfr hr
            by_cases hr0 : r < 0
            · have hd : decide (r < 0) = true := by simpa using hr0
              have HR0 := Lib.hid hr0
              clear hr0
              go_quiet ((go_at_call 71; exact quiet_at (HAT.out _)))
              obtain ⟨X, hX⟩ : ∃ X, X = W2.drewN nq := ⟨_, rfl⟩
              rw [← hX]
              have hO : OwnH X (bx + 1) (.slice (some ⟨gr, 0, none⟩) n2 cv2) Lk := by rw [hX]; exact HX.out.1
              have HXB : Hid (Below (bx + 1) W X) := by rw [hX]; exact below_drewN HX.out.2 _
              have x0 : X.cell? ⟨kb, 0, none⟩ = some (.string xi) := by rw [hX]; exact x0
              have x2 : X.cell? ⟨kb, 2, none⟩ = some (.string xt) := by rw [hX]; exact x2
              have r2 : X.cell? ⟨gr, i * 3 + 2, none⟩ = some (.int .i64 f1) := by rw [hX]; exact r2
              have hXs : Hid (bx + 1 ≤ X.heap.size) := by rw [hX]; exact HS2.out
              obtain ⟨f2, hf2⟩ : ∃ f2, f2 = f1 + 1 := ⟨_, rfl⟩
              have e4 : (f1 : Int) + 1 = (f2 : Int) := by omega
              have hwr : IntKind.i64.wrap (f2 : Int) = (f2 : Int) := by rw [IntKind.wrap_i64]; omega
              rw [← hf2] at NEXT2
              have HO2 := Lib.hid (own_later hO (bd X (.cells #[.string xt, .string xi, .int .i64 f2] 113)))
              obtain ⟨ti, hi', hz, hsz, hby⟩ := info_parts info_hop
              have hln : Lk.length ≤ 500 := by have := HN2.out; omega
              clear hX hf2 hO
              go_wp2_with fail
              clear r0 x1
              go_region_law (refine step_app rfl (.tmp 45) (.tmp 57) 62 rfl (bx + 1) 113 ti (.agg #[.string ⟨#[]⟩, .string ⟨#[]⟩, .int .i64 0]) 3 40 Try.underlying62 hi' hz hsz hby rfl (by decide) (.slice (some ⟨gr, 0, none⟩) n2 cv2) Lk.length (hrow Lk) rfl HO2.out ⟨X.heap.size, 0, none⟩ 1 1 (hcells ⟨xt, xi, f2⟩) rfl rfl (World.news_of_block (w := (X.alloc (.cells #[.string xt, .string xi, .int .i64 f2] 113)).drew) (heap_new X _)) (by simp [hcells, Value.oneCell']) (by unfold maxLen; omega) (by omega) (by have := hXs.out; simp; omega) ?_; intro v4 w4 o4 g4 b4)
              all_goals
                have H9 := Lib.hid (NEXT2.out w4 v4 (by show World.ownsRow _ _ _ _ _ _ _; rw [List.length_append, hrow_app]; exact o4) (((HXB.out.alloc hXs.out _).drew).trans (below_own g4 HO2.out (by have := hXs.out; simp; omega))) HFR.out HR0.out)
                clear x0 x2 r2 o4 g4 b4
                go_wp2_with fail
                go_roundw
                case rel => exact ⟨k + 1, by go_num, by omega, H9.out.1, H9.out.2⟩
                case measure => simp [intOf]; omega
            · have hd : decide (r < 0) = false := by simpa using hr0
              have HR0 := Lib.hid hr0
              clear hr0
              go_quiet ((go_at_call 71; exact quiet_at (HAT.out _)))
              have H9 := Lib.hid (NEXT.out (W2.drewN nq) HX.out.1 (below_drewN HX.out.2 _) (.inr HR0.out))
              go_wp2_with fail
              go_roundw
              case rel => exact ⟨k + 1, by go_num, by omega, H9.out.1, H9.out.2⟩
              case measure => simp [intOf]; omega
          · have hbe : (xf.toList == d0.toList) = false := beq_eq_false_iff_ne.2 (fun q => hfr (toList_inj q))
            have HFR := Lib.hid hfr
            clear hfr
            go_quiet (fail)
            have H9 := Lib.hid (NEXT.out (W2.drewN nq) HX.out.1 (below_drewN HX.out.2 _) (.inl HFR.out))
            go_wp2_with fail
            go_roundw
            case rel => exact ⟨k + 1, by go_num, by omega, H9.out.1, H9.out.2⟩
            case measure => simp [intOf]; omega
        · have hke : k = m := by omega
          have H9 : Hid (OwnH wr (bx + 1) u5 (steps (egs M) s (i + 1)) ∧ Below (bx + 1) W wr) := by
            refine ⟨?_, hbx'⟩
            have := hox
            rw [hke, HM.out, onE_all, HNEXT.out] at this
            exact this
          have hge : decide (k < m) = false := by simp; omega
          clear hox hbx' hke hkm
          go_wp2_with fail
          go_roundw
          case rel => exact ⟨i + 1, by go_num, by omega, HNX.out, H9.out.1, H9.out.2⟩
          case measure => simp [intOf]; omega
    · have hge : decide (i < len) = false := by simp; omega
      have HEND : Hid ((∃ T V, Ending.returned (.slice av len cv) = .returned V ∧ Ends (egs M) s T ∧ OwnH wr w.heap.size V (steps (egs M) s T)) ∧ Below w.heap.size w wr) := by
        refine ⟨⟨i, _, rfl, ⟨hall, by rw [← hLi]; omega⟩, ?_⟩, ?_⟩
        · rw [← hLi, hlen2]
          have := HBX.out.1
          refine ⟨ho.1, ho.2.imp id ?_⟩
          rintro ⟨g, cap, cur, e, hg, r⟩
          exact ⟨g, cap, cur, e, by omega, r⟩
        · have := HBX.out.1
          exact (HB.out.trans (hb.mono (by omega))).mono (by omega)
      clear hall ho hb hlen hI hLi hnext hlen2 hil hi
      go_wp2_with fail
      go_ret
      exact HEND.out
end Go.Proofs.Ytpaegpbabfohcaa.Paths
