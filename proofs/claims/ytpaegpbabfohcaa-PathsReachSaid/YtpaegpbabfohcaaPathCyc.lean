/-
  paths.Cycle.
-/
import Derived.Test.YtpaegpbabfohcaaPathBegin
import Derived.Test.YtpaegpbabfohcaaKahnPure
namespace Go.Proofs.Ytpaegpbabfohcaa.Paths
open Go.RowKit Go.Proofs.Ytpaegpbabfohcaa.WalkBytes Go.Proofs.Ytpaegpbabfohcaa.PathPure Go.Proofs.Ytpaegpbabfohcaa.MapAt
set_option linter.unusedVariables false
set_option linter.unusedSimpArgs false
set_option maxRecDepth 100000

theorem eds_at {H : Nat} {w : World} {B : Option Addr} {M : List Ed} (h : Eds H w B M) {i : Nat} (hi : i < M.length) : ∃ g off a1 n1 d1 a2 n2 d2, B = some ⟨g, off, none⟩ ∧ g < H ∧ w.cell? ⟨g, off + i * 5, none⟩ = some (.string (ed M i).id) ∧ w.cell? ⟨g, off + i * 5 + 1, none⟩ = some (.string (ed M i).fr) ∧ w.cell? ⟨g, off + i * 5 + 2, none⟩ = some (.string (ed M i).tt) ∧ w.cell? ⟨g, off + i * 5 + 3, none⟩ = some (.slice a1 n1 d1) ∧ w.cell? ⟨g, off + i * 5 + 4, none⟩ = some (.slice a2 n2 d2) := by
  rcases h with rfl | ⟨g, off, rfl, hg, hc⟩
  · simp at hi
  · obtain ⟨c0, c1, c2, c3, c4, -⟩ := hc i hi
    exact ⟨g, off, _, _, _, _, _, _, rfl, hg, c0, c1, c2, c3, c4⟩
theorem nds_at {H : Nat} {w : World} {A : Option Addr} {N : List Nd} (h : Nds H w A N) {i : Nat} (hi : i < N.length) : ∃ g off a1 n1 d1 a2 n2 d2, A = some ⟨g, off, none⟩ ∧ g < H ∧ w.cell? ⟨g, off + i * 3, none⟩ = some (.string (nd N i).id) ∧ w.cell? ⟨g, off + i * 3 + 1, none⟩ = some (.slice a1 n1 d1) ∧ w.cell? ⟨g, off + i * 3 + 2, none⟩ = some (.slice a2 n2 d2) := by
  rcases h with rfl | ⟨g, off, rfl, hg, hc⟩
  · simp at hi
  · obtain ⟨c0, c1, c2, -⟩ := hc i hi
    exact ⟨g, off, _, _, _, _, _, _, rfl, hg, c0, c1, c2⟩
theorem eg_egs {E : List Ed} {k : Nat} (hk : k < E.length) : eg (egs E) k = (ed E k).eg := by simp [eg, egs, ed, hk]
theorem ids_get {N : List Nd} {k : Nat} (hk : k < N.length) : (ids N).getD k default = (nd N k).id := by simp [ids, nd, hk]
theorem ids_len (N : List Nd) : (ids N).length = N.length := by simp [ids]
theorem ids_nodup {N : List Nd} (h : Rise (fun i => (nd N i).id) N.length) : (ids N).Nodup := by
  unfold List.Nodup
  rw [List.pairwise_iff_getElem]
  intro i j hi hj hij e
  rw [ids_len] at hi hj
  have h1 : (ids N)[i]'(by rw [ids_len]; exact hi) = (nd N i).id := by simp [ids, nd, hi]
  have h2 : (ids N)[j]'(by rw [ids_len]; exact hj) = (nd N j).id := by simp [ids, nd, hj]
  rw [h1, h2] at e
  have := rise_inj h hi hj e
  omega

/-- a count of what is left, and what is free, in memory: a map, and a row of texts behind it -/
structure Kn (W : World) (bx bm : Nat) (left : ByteArray → Int) (v : Value) (free : List ByteArray) (wr : World) : Prop where
  met : ∃ mf, MapAt KS wr bm mf ∧ ∀ s, (mf s).getD (.int .i64 0) = .int .i64 (left s)
  row : wr.ownsRow (bm + 1) 9 1 v free.length (free.map Value.string)
  b : Below (bx + 1) W wr
  lb : bx + 1 ≤ bm
section
variable {W wr w' : World} {bx bm : Nat} {left : ByteArray → Int} {v : Value} {free : List ByteArray}
theorem Kn.later (h : Kn W bx bm left v free wr) (k : Below wr.heap.size wr w') : Kn W bx bm left v free w' := by
  obtain ⟨mf, m1, m2⟩ := h.met
  have := m1.lt
  have := h.lb
  exact ⟨⟨mf, m1.kept (k.block bm m1.lt), m2⟩, own_later h.row k, h.b.trans (k.mono (by omega)), h.lb⟩
theorem Kn.look (h : Kn W bx bm left v free wr) (s : ByteArray) : (Instr.lookup 102 (.map (some bm)) (.string s) false).run Try.prog wr = .ok (.int .i64 (left s)) wr := by
  obtain ⟨mf, m1, m2⟩ := h.met
  have := m1.look Try.underlying102 (zero_int wr) s
  rw [m2 s] at this
  exact this
theorem Kn.set (h : Kn W bx bm left v free wr) (s : ByteArray) (x : Int) : ∃ w3, (Instr.mapUpdate 102 (.map (some bm)) (.string s) (.int .i64 x)).run Try.prog wr = .ok () w3 ∧ Kn W bx bm (fun y => if y = s then x else left y) v free w3 ∧ wr.grownBy w3 (some bm) := by
  obtain ⟨mf, m1, m2⟩ := h.met
  obtain ⟨w3, u1, u2, u3, u4⟩ := m1.set Try.underlying102 s (.int .i64 x)
  have hl := m1.lt
  have hb := h.lb
  refine ⟨w3, u1, ⟨⟨_, u2, fun y => ?_⟩, ?_, h.b.trans ((Below.refl (bx + 1) wr).grown u3 (by omega) (fun k hk => by obtain rfl := Option.some.inj hk; omega)), hb⟩, u3⟩
  · show (if y = s then some (Value.int .i64 x) else mf y).getD _ = _
    by_cases e : y = s
    · rw [if_pos e, if_pos e]; rfl
    · rw [if_neg e, if_neg e]; exact m2 y
  · refine World.ownsRow.kept h.row u3 ?_
    cases hv : v.ownBlock with
    | none => exact .inl rfl
    | some k => exact .inr (fun e => by have := (h.row.lt k hv).1; have := Option.some.inj e; omega)
theorem Kn.app {v' : Value} {s : ByteArray} {w4 : World} (h : Kn W bx bm left v free wr) (o : w4.ownsRow (bm + 1) 9 1 v' (free.length + 1) (free.map Value.string ++ [.string s])) (g : wr.grownBy w4 v.ownBlock) : Kn W bx bm left v' (free ++ [s]) w4 := by
  obtain ⟨mf, m1, m2⟩ := h.met
  have hl := m1.lt
  have hb := h.lb
  refine ⟨⟨mf, m1.kept (g.block bm m1.lt (fun e => by have := (h.row.lt bm e.symm).1; omega)), m2⟩, by rw [List.length_append, List.map_append]; exact o, h.b.trans ((Below.refl (bx + 1) wr).grown g (by omega) (fun k hk => by have := (h.row.lt k hk).1; omega)), hb⟩
theorem Kn.size (h : Kn W bx bm left v free wr) : bm + 1 ≤ wr.heap.size := by obtain ⟨mf, m1, -⟩ := h.met; exact m1.lt
end
theorem text_at {w : World} {B : Nat} {V : Value} {l : List ByteArray} (h : w.ownsRow B 9 1 V l.length (l.map Value.string)) {i : Nat} (hi : i < l.length) : ∃ g cap, V = .slice (some ⟨g, 0, none⟩) l.length cap ∧ w.cell? ⟨g, i, none⟩ = some (.string (l.getD i default)) ∧ g < w.heap.size := by
  rcases h.2 with ⟨_, h0⟩ | ⟨g, cap, cur, rfl, hb, hg, hn, hm, hs, ht⟩
  · omega
  · have hj : (l.map Value.string)[i]? = some (.string (l.getD i default)) := by simp [hi, List.getD_eq_getElem?_getD]
    rw [← ht, List.getElem?_take, if_pos (by omega)] at hj
    refine ⟨g, cap, rfl, ?_, (Array.getElem?_eq_some_iff.1 hg).1⟩
    simp [World.cell?, hg]
    simpa using hj
/-- what Cycle tells -/
def CycR (g : Gr) (e : Ending) : Prop :=
  (graphWhy g ≠ 0 → e = .returned (.tuple #[.bool false, .int .i64 (graphWhy g)])) ∧ (graphWhy g = 0 → ∃ c, e = .returned (.tuple #[.bool c, .int .i64 0]) ∧ (c = true ↔ KahnPure.Cyc (egs g.E)))
set_option maxHeartbeats 6400000 in
theorem cycle_any (g : Gr) (gn ge : Value) (hgn : gn = g.n) (hge : ge = g.e) (w : World) (h : GrAt w.heap.size w g) :
    Calls Try.prog 29 #[.agg #[gn, ge]] w fun e w' => CycR g e ∧ Below w.heap.size w w' := by
  obtain ⟨A, N, a, B, M, b2⟩ := g
  obtain ⟨n, hn⟩ : ∃ n, n = N.length := ⟨_, rfl⟩
  obtain ⟨m, hm⟩ : ∃ m, m = M.length := ⟨_, rfl⟩
  have e1 : (⟨A, N, a, B, M, b2⟩ : Gr).n = .slice A n a := by rw [hn]; rfl
  have e2 : (⟨A, N, a, B, M, b2⟩ : Gr).e = .slice B m b2 := by rw [hm]; rfl
  rw [e1] at hgn
  rw [e2] at hge
  have HN : Hid (gn = (⟨A, N, a, B, M, b2⟩ : Gr).n) := hgn.trans e1.symm
  have HE : Hid (ge = (⟨A, N, a, B, M, b2⟩ : Gr).e) := hge.trans e2.symm
  subst hgn hge
  have HNL := Lib.hid hn
  have HML := Lib.hid hm
  obtain ⟨W, hW⟩ : ∃ W, W = w.alloc (.cells #[.slice A n a, .slice B m b2] 45) := ⟨_, rfl⟩
  obtain ⟨bx, hbx⟩ : ∃ bx, bx = w.heap.size := ⟨_, rfl⟩
  have hB : Below w.heap.size w W := by rw [hW]; exact Joins.below_alloc1 w _
  have hsz : W.heap.size = bx + 1 := by rw [hW, hbx]; simp
  have z0 : W.cell? ⟨bx, 0, none⟩ = some (.slice A n a) := by rw [hW, hbx, cell_of_row _ _ 0 _ _ _ (heap_new w _)]; rfl
  have z1 : W.cell? ⟨bx, 1, none⟩ = some (.slice B m b2) := by rw [hW, hbx, cell_of_row _ _ 1 _ _ _ (heap_new w _)]; rfl
  have HB := Lib.hid hB
  have HC := Lib.hid (graphCheck_any ⟨A, N, a, B, M, b2⟩ _ _ HN.out HE.out W ((h.below hB).mono hB.size))
  have hnl : n ≤ 9223372036854775807 := by rw [hn]; exact h.ln
  have HROWN : Hid (∀ wr, Below (bx + 1) W wr → Nds bx wr A N) := fun wr k => by
    have := (h.n.below hB)
    rw [← hbx] at this
    exact this.below (k.mono (by omega))
  have HROWE : Hid (∀ wr, Below (bx + 1) W wr → Eds bx wr B M) := fun wr k => by
    have := (h.e.below hB)
    rw [← hbx] at this
    exact this.below (k.mono (by omega))
  have HSZ : Hid (bx = w.heap.size ∧ W.heap.size = bx + 1) := ⟨hbx, hsz⟩
  obtain ⟨R, hR⟩ : ∃ R, R = graphWhy ⟨A, N, a, B, M, b2⟩ := ⟨_, rfl⟩
  have HR := Lib.hid hR
  rw [← hR] at HC
  have hbW : bx < W.heap.size := by omega
  clear h hB hR hsz e1 e2 hn hm
  go_enter Try.func29, Try.ntmps29
  go_upto_region 1 with (fail)
  rw [← hW, ← hbx]
  clear hW hbx
  go_wp2_with fail
  refine HC.out.mono ?_
  rintro e w5 ⟨rfl, hB5⟩
  have HB5 := Lib.hid hB5
  have HBW5 : Hid (Below w.heap.size w w5) := HB.out.trans (hB5.mono (by have := HSZ.out; omega))
  by_cases r0 : R = 0
  · subst r0
    have ok := gr_ok HR.out.symm
    have HOK := Lib.hid ok
    have hn5 : n ≤ 500 := by rw [HNL.out]; exact ok.n
    have hm5 : m ≤ 1000 := by rw [HML.out]; exact ok.e
    have y0 : w5.cell? ⟨bx, 0, none⟩ = some (.slice A n a) := (hB5.cell (p := ⟨bx, 0, none⟩) hbW).trans z0
    have y1 : w5.cell? ⟨bx, 1, none⟩ = some (.slice B m b2) := (hB5.cell (p := ⟨bx, 1, none⟩) hbW).trans z1
    have hmk : ∀ (W : World), (Instr.makeMap 102 none).run Try.prog W = .ok (.map (some W.heap.size)) (W.alloc (.map #[] 0)) := fun W => rfl
    obtain ⟨X, hX⟩ : ∃ X, X = w5.alloc (.map #[] 0) := ⟨_, rfl⟩
    obtain ⟨bm, hbm⟩ : ∃ bm, bm = w5.heap.size := ⟨_, rfl⟩
    have HK0 : Hid (Kn W bx bm (KahnPure.cntTo (egs M) 0) (.slice none 0 0) [] X) := by
      refine ⟨⟨_, by rw [hX, hbm]; exact made KS w5, fun s => by rw [KahnPure.cntTo_zero]; rfl⟩, World.ownsRow_nil _ _ _ _, ?_, by have := hB5.size; have := HSZ.out; omega⟩
      rw [hX]; have := hB5.size; have := HSZ.out
      exact (hB5.mono (by omega)).alloc (by omega) _
    have Z : Hid (∀ wr, Below (bx + 1) W wr → wr.cell? ⟨bx, 0, none⟩ = some (.slice A n a) ∧ wr.cell? ⟨bx, 1, none⟩ = some (.slice B m b2)) := fun wr k => ⟨(k.cell (p := ⟨bx, 0, none⟩) (by show bx < bx + 1; omega)).trans z0, (k.cell (p := ⟨bx, 1, none⟩) (by show bx < bx + 1; omega)).trans z1⟩
    have x1 := (Z.out X HK0.out.b).2
    clear hB5 ok z0 z1
    go_upto_region 5 with (fail)
    rw [← hbm, ← hX]
    clear hX hbm hmk y0 y1
    go_wp2_with fail
    go_loopw [23] (fun v wr => ∃ i : Nat, v = .int .i64 i ∧ i ≤ m ∧ Kn W bx bm (KahnPure.cntTo (egs M) i) (.slice none 0 0) [] wr) (fun v _ => m - (intOf v).toNat)
    case atStart => exact ⟨0, rfl, Nat.zero_le _, HK0.out⟩
    case round =>
      clear x1
      obtain ⟨i, rfl, hi, hk⟩ := hrel
      by_cases hin : i < m
      · have hiM : i < M.length := by rw [← HML.out]; exact hin
        obtain ⟨g, off, a1, n1, d1, a2, n2, d2, hA, hg, c0, c1, c2, c3, c4⟩ := eds_at (HROWE.out wr hk.b) hiM
        subst hA
        have hsucc := KahnPure.cntTo_succ (E := egs M) (k := i) (by rw [egs_len]; exact hiM)
        rw [eg_egs hiM] at hsucc
        obtain ⟨xi, hxi⟩ : ∃ xi, xi = (ed M i).id := ⟨_, rfl⟩
        obtain ⟨xf, hxf⟩ : ∃ xf, xf = (ed M i).fr := ⟨_, rfl⟩
        obtain ⟨xt, hxt⟩ : ∃ xt, xt = (ed M i).tt := ⟨_, rfl⟩
        rw [← hxi] at c0
        rw [← hxf] at c1
        rw [← hxt] at c2
        have hsucc : KahnPure.cntTo (egs M) (i + 1) = fun y => if y = xt then KahnPure.cntTo (egs M) i xt + 1 else KahnPure.cntTo (egs M) i y := by
          rw [hsucc]
          funext y
          unfold KahnPure.more
          show (if y = (ed M i).tt then _ else _) = _
          rw [← hxt]
          by_cases e : y = xt
          · rw [if_pos e, if_pos e, e]
          · rw [if_neg e, if_neg e]
        obtain ⟨W2, hW2⟩ : ∃ W2, W2 = wr.alloc (.cells #[.string xi, .string xf, .string xt, .slice a1 n1 d1, .slice a2 n2 d2] 74) := ⟨_, rfl⟩
        obtain ⟨kb, hkb⟩ : ∃ kb, kb = wr.heap.size := ⟨_, rfl⟩
        have x2 : W2.cell? ⟨kb, 2, none⟩ = some (.string xt) := by rw [hW2, hkb, cell_of_row _ _ 2 _ _ _ (heap_new wr _)]; rfl
        have hk2 : Kn W bx bm (KahnPure.cntTo (egs M) i) (.slice none 0 0) [] W2 := hk.later (by rw [hW2]; exact Joins.below_alloc1 wr _)
        have lk := hk2.look xt
        have hbd := KahnPure.cntTo_bound (egs M) i xt
        obtain ⟨w3, u1, u2, -⟩ := hk2.set xt (KahnPure.cntTo (egs M) i xt + 1)
        rw [← hsucc] at u2
        have HK2 := Lib.hid u2
        obtain ⟨c, hc⟩ : ∃ c, c = KahnPure.cntTo (egs M) i xt := ⟨_, rfl⟩
        rw [← hc] at lk hbd u1
        obtain ⟨hb0, hb1⟩ := hbd
        have hwr : IntKind.i64.wrap (c + 1) = c + 1 := by rw [IntKind.wrap_i64]; omega
        clear hxi hxf hxt hsucc hk hk2 u2 hc
        go_upto_region 8 with (fail)
        rw [← hW2, ← hkb]
        clear hW2 hkb c0 c1 c2 c3 c4
        go_wp2_with fail
        go_roundw
        case rel => exact ⟨i + 1, by go_num, by omega, HK2.out⟩
        case measure => simp [intOf]; omega
      · have hie : i = m := by omega
        have hk1 : Kn W bx bm (KahnPure.count (egs M)) (.slice none 0 0) [] wr := by
          rw [hie, HML.out, ← egs_len, KahnPure.cntTo_all] at hk; exact hk
        have HK1 := Lib.hid hk1
        have hge : decide (i < m) = false := by simp; omega
        have x0 := (Z.out wr hk1.b).1
        clear hk hk1 hie hin hi
        go_wp2_with fail
        go_loopw [8, 36] (fun f v wr => ∃ i : Nat, v = .int .i64 i ∧ i ≤ n ∧ Kn W bx bm (KahnPure.count (egs M)) f (KahnPure.takeTo (KahnPure.count (egs M)) (ids N) i) wr) (fun _ v _ => n - (intOf v).toNat)
        case atStart => exact ⟨0, rfl, Nat.zero_le _, by have := HK1.out; exact this⟩
        case round =>
          clear x0
          obtain ⟨j, rfl, hj, hk⟩ := hrel
          obtain ⟨av, cv, rfl⟩ := slice_of_own hk.row
          have hlen := KahnPure.takeTo_len (KahnPure.count (egs M)) (ids N) j
          by_cases hjn : j < n
          · have hjN : j < N.length := by rw [← HNL.out]; exact hjn
            obtain ⟨g, off, a1, n1, d1, a2, n2, d2, hA, hg, c0, c1, c2⟩ := nds_at (HROWN.out wr hk.b) hjN
            subst hA
            have hsucc := KahnPure.takeTo_succ (left := KahnPure.count (egs M)) (N := ids N) (k := j) (by rw [ids_len]; exact hjN)
            rw [ids_get hjN] at hsucc
            obtain ⟨xi, hxi⟩ : ∃ xi, xi = (nd N j).id := ⟨_, rfl⟩
            rw [← hxi] at c0 hsucc
            obtain ⟨W2, hW2⟩ : ∃ W2, W2 = wr.alloc (.cells #[.string xi, .slice a1 n1 d1, .slice a2 n2 d2] 59) := ⟨_, rfl⟩
            obtain ⟨kb, hkb⟩ : ∃ kb, kb = wr.heap.size := ⟨_, rfl⟩
            have x0 : W2.cell? ⟨kb, 0, none⟩ = some (.string xi) := by rw [hW2, hkb, cell_of_row _ _ 0 _ _ _ (heap_new wr _)]; rfl
            have hk2 := hk.later (w' := W2) (by rw [hW2]; exact Joins.below_alloc1 wr _)
            have lk := hk2.look xi
            obtain ⟨Fj, hFj⟩ : ∃ Fj, Fj = KahnPure.takeTo (KahnPure.count (egs M)) (ids N) j := ⟨_, rfl⟩
            rw [← hFj] at hk2 hlen hsucc hk
            obtain ⟨len, hl⟩ : ∃ len, len = Fj.length := ⟨_, rfl⟩
            have e3 : (KahnPure.takeTo (KahnPure.count (egs M)) (ids N) j).length = len := by rw [← hFj, hl]
            rw [e3]
            have HK2 : Hid (Kn W bx bm (KahnPure.count (egs M)) (.slice av len cv) Fj W2) := by show Kn _ _ _ _ _ _ _; rw [hl]; exact hk2
            have HL := Lib.hid hl
            have hl5 : len ≤ 500 := by omega
            obtain ⟨c, hc⟩ : ∃ c, c = KahnPure.count (egs M) xi := ⟨_, rfl⟩
            rw [← hc] at lk hsucc
            have HSUCC := Lib.hid hsucc
            clear hxi hk hk2 hFj hl e3 hlen hc hsucc
            by_cases hc0 : c = 0
            · subst hc0
              obtain ⟨ti, hti, hz, hsz, hby⟩ := info_parts info_text
              have HO := Lib.hid (own_later HK2.out.row (Joins.below_alloc1 W2 (.cells #[.string xi] 9)))
              have hll : Fj.length ≤ 500 := by have := HL.out; omega
              have hbs : Hid (bm + 1 ≤ (W2.alloc (.cells #[.string xi] 9)).heap.size) := by show _ ≤ _; have := HK2.out.size; simp; omega
              go_upto_region 14 with (fail)
              rw [← hW2, ← hkb]
              clear hW2 hkb c0 c1 c2
              go_wp2_with (at_builtin; go_must (refine wpList_append_own _ rfl _ _ 56 rfl (bm + 1) 9 ti (.string ⟨#[]⟩) 1 16 Try.underlying56 hti hz hsz hby rfl (by decide) (.slice av len cv) Fj.length (Fj.map Value.string) rfl HO.out ⟨W2.heap.size, 0, none⟩ 1 1 [.string xi] rfl rfl (cell_one_new _ _ _) (fun x hx => by simp at hx; subst hx; rfl) (by unfold maxLen; omega) (by omega) hbs.out ?_); intro v4 w4 o4 g4 b4)
              have H9 : Hid (Kn W bx bm (KahnPure.count (egs M)) v4 (KahnPure.takeTo (KahnPure.count (egs M)) (ids N) (j + 1)) w4) := by
                show Kn _ _ _ _ _ _ _
                rw [HSUCC.out, if_pos rfl]
                exact (HK2.out.later (Joins.below_alloc1 W2 _)).app o4 g4
              clear o4 g4 b4 x0 lk
              go_wp2_with fail
              go_roundw
              case rel => exact ⟨j + 1, by go_num, by omega, H9.out⟩
              case measure => simp [intOf]; omega
            · have hce : (c == 0) = false := by simpa using hc0
              have H9 : Hid (Kn W bx bm (KahnPure.count (egs M)) (.slice av len cv) (KahnPure.takeTo (KahnPure.count (egs M)) (ids N) (j + 1)) W2) := by
                show Kn _ _ _ _ _ _ _
                rw [HSUCC.out, if_neg hc0]
                exact HK2.out
              clear hc0
              go_upto_region 14 with (fail)
              rw [← hW2, ← hkb]
              clear hW2 hkb c0 c1 c2
              go_wp2_with fail
              go_roundw
              case rel => exact ⟨j + 1, by go_num, by omega, H9.out⟩
              case measure => simp [intOf]; omega
          · have hje : j = n := by omega
            have hkE : Kn W bx bm (KahnPure.st (ids N) (egs M) 0).left (.slice av (KahnPure.takeTo (KahnPure.count (egs M)) (ids N) j).length cv) (KahnPure.st (ids N) (egs M) 0).free wr := by
              rw [hje, HNL.out, ← ids_len, KahnPure.takeTo_all] at hk ⊢; exact hk
            have HK3 := Lib.hid hkE
            have hge2 : decide (j < n) = false := by simp; omega
            generalize (KahnPure.takeTo (KahnPure.count (egs M)) (ids N) j).length = len at HK3 hkE
            clear hk hje hjn hlen hkE hj
            go_wp2_with fail
            have HNI : Hid ((ids N).Nodup ∧ Within (egs M) (ids N)) := ⟨ids_nodup HOK.out.rn, egs_in HOK.out⟩
            go_loopw [8, 11] (fun f v wr => ∃ i : Nat, v = .int .i64 i ∧ i ≤ 600 ∧ (∀ j, j < i → j < (KahnPure.st (ids N) (egs M) j).free.length) ∧ Kn W bx bm (KahnPure.st (ids N) (egs M) i).left f (KahnPure.st (ids N) (egs M) i).free wr) (fun _ v _ => 600 - (intOf v).toNat)
            case atStart => exact ⟨0, rfl, by omega, fun j hj => absurd hj (by omega), HK3.out⟩
            case round =>
              obtain ⟨p, rfl, hp, hall, hk⟩ := hrel
              have hout := KahnPure.out_st HNI.out.1 HNI.out.2 p hall
              have hlen := KahnPure.st_len hout
              rw [ids_len, ← HNL.out] at hlen
              obtain ⟨av, cv, rfl⟩ := slice_of_own hk.row
              obtain ⟨len, hl⟩ : ∃ len, len = (KahnPure.st (ids N) (egs M) p).free.length := ⟨_, rfl⟩
              rw [← hl] at hlen hk ⊢
              have hl5 : len ≤ 500 := by omega
              have HK := Lib.hid hk
              have HALL := Lib.hid hall
              have HOUT := Lib.hid hout
              have HL := Lib.hid hl
              by_cases hpl : p < len
              · have hpf : p < (KahnPure.st (ids N) (egs M) p).free.length := by omega
                have HPF := Lib.hid hpf
                have HNX : Hid (∀ j, j < p + 1 → j < (KahnPure.st (ids N) (egs M) j).free.length) := fun j hj => by
                  rcases Nat.lt_or_ge j p with q | q
                  · exact HALL.out j q
                  · rw [show j = p by omega]; exact hpf
                have x1 := (Z.out wr hk.b).2
                clear hall hk hout hl hpf hlen
                go_wp2_with fail
                go_loopw [8, 60] (fun f v wr => ∃ k : Nat, v = .int .i64 k ∧ k ≤ m ∧ Kn W bx bm (KahnPure.mid (ids N) (egs M) p k).left f (KahnPure.mid (ids N) (egs M) p k).free wr) (fun _ v _ => m - (intOf v).toNat)
                case atStart => exact ⟨0, rfl, Nat.zero_le _, by rw [KahnPure.mid_zero]; exact HK.out⟩
                case round =>
                  clear x1
                  obtain ⟨k, rfl, hkm0, hk⟩ := hrel
                  by_cases hkm : k < m
                  · have hkM : k < M.length := by rw [← HML.out]; exact hkm
                    have hkE : k < (egs M).length := by rw [egs_len]; exact hkM
                    obtain ⟨bd, bl, bi, bu⟩ := KahnPure.mid_bound HNI.out.2 HOUT.out HPF.out (k := k) (by omega)
                    rw [ids_len, ← HNL.out] at bl
                    rw [egs_len, ← HML.out] at bd
                    have hsucc := KahnPure.mid_succ (N := ids N) (E := egs M) (i := p) hkE
                    rw [eg_egs hkM, ← bu] at hsucc
                    obtain ⟨S, hS⟩ : ∃ S, S = KahnPure.mid (ids N) (egs M) p k := ⟨_, rfl⟩
                    rw [← hS] at bd bl bi hsucc hk
                    obtain ⟨av2, cv2, hv2⟩ := slice_of_own hk.row
                    subst hv2
                    obtain ⟨g, off, a1, n1, d1, a2, n2, d2, hA, hg, c0, c1, c2, c3, c4⟩ := eds_at (HROWE.out wr hk.b) hkM
                    subst hA
                    obtain ⟨xi, hxi⟩ : ∃ xi, xi = (ed M k).id := ⟨_, rfl⟩
                    obtain ⟨xf, hxf⟩ : ∃ xf, xf = (ed M k).fr := ⟨_, rfl⟩
                    obtain ⟨xt, hxt⟩ : ∃ xt, xt = (ed M k).tt := ⟨_, rfl⟩
                    rw [← hxi] at c0
                    rw [← hxf] at c1
                    rw [← hxt] at c2
                    have hsucc : KahnPure.mid (ids N) (egs M) p (k + 1) = KahnPure.one (S.free.getD p default) S ⟨xi, xf, xt⟩ := by rw [hsucc, hxi, hxf, hxt]; rfl
                    obtain ⟨gf, capf, hVf, t0, hgf⟩ := text_at hk.row bi
                    have hav : av2 = some ⟨gf, 0, none⟩ := by injection hVf
                    subst hav
                    obtain ⟨u, hu⟩ : ∃ u, u = S.free.getD p default := ⟨_, rfl⟩
                    rw [← hu] at t0 hsucc
                    obtain ⟨lf, hlf⟩ : ∃ lf, lf = S.free.length := ⟨_, rfl⟩
                    have hpl2 : p < lf := by omega
                    have hlf5 : lf ≤ 500 := by omega
                    rw [← hlf]
                    obtain ⟨W2, hW2⟩ : ∃ W2, W2 = wr.alloc (.cells #[.string xi, .string xf, .string xt, .slice a1 n1 d1, .slice a2 n2 d2] 74) := ⟨_, rfl⟩
                    obtain ⟨kb, hkb⟩ : ∃ kb, kb = wr.heap.size := ⟨_, rfl⟩
                    have hB2 : Below wr.heap.size wr W2 := by rw [hW2]; exact Joins.below_alloc1 wr _
                    have x1 : W2.cell? ⟨kb, 1, none⟩ = some (.string xf) := by rw [hW2, hkb, cell_of_row _ _ 1 _ _ _ (heap_new wr _)]; rfl
                    have x2 : W2.cell? ⟨kb, 2, none⟩ = some (.string xt) := by rw [hW2, hkb, cell_of_row _ _ 2 _ _ _ (heap_new wr _)]; rfl
                    have t2 : W2.cell? ⟨gf, p, none⟩ = some (.string u) := (hB2.cell (p := ⟨gf, p, none⟩) hgf).trans t0
                    have HK2 : Hid (Kn W bx bm S.left (.slice (some ⟨gf, 0, none⟩) lf cv2) S.free W2) := by show Kn _ _ _ _ _ _ _; rw [hlf]; exact hk.later hB2
                    have HLF := Lib.hid hlf
                    have HSUCC := Lib.hid hsucc
                    obtain ⟨bd0, bd1⟩ := bd xt
                    obtain ⟨c, hc⟩ : ∃ c, c = S.left xt := ⟨_, rfl⟩
                    rw [← hc] at bd0 bd1
                    have hc1000 : c ≤ 1000 := by omega
                    have HCC := Lib.hid hc
                    clear hk hS hxi hxf hxt hsucc hVf t0 hgf hu hlf hB2 bd bl bi bu hc bd1
                    go_upto_region 23 with (fail)
                    rw [← hW2, ← hkb]
                    clear hW2 hkb c0 c1 c2 c3 c4
                    by_cases hfr : xf = u
                    · have hbe : (xf.toList == u.toList) = true := by rw [hfr]; simp
                      have HFR := Lib.hid hfr
                      clear hfr
                      go_quiet (fail)
                      obtain ⟨X2, hX2⟩ : ∃ X2, X2 = W2.drewN nq := ⟨_, rfl⟩
                      rw [← hX2]
                      have hkx : Kn W bx bm S.left (.slice (some ⟨gf, 0, none⟩) lf cv2) S.free X2 := by rw [hX2]; exact HK2.out.later (below_drewN (Below.refl _ _) _)
                      have hkbX : kb < W2.heap.size := by
                        rcases Nat.lt_or_ge kb W2.heap.size with q | q
                        · exact q
                        · rw [World.cell?, Array.getElem?_eq_none q] at x2; cases x2
                      have x2X : X2.cell? ⟨kb, 2, none⟩ = some (.string xt) := by rw [hX2]; exact x2
                      have lk := hkx.look xt
                      obtain ⟨w3, u1, u2, g3⟩ := hkx.set xt (c - 1)
                      have HLESS : Hid ((fun y => if y = xt then c - 1 else S.left y) = KahnPure.less S.left ⟨xi, xf, xt⟩) := by
                        show _ = _
                        funext y
                        unfold KahnPure.less
                        show _ = (if y = xt then _ else _)
                        by_cases e : y = xt
                        · rw [if_pos e, if_pos e, e, HCC.out]
                        · rw [if_neg e, if_neg e]
                      have lk2 := u2.look xt
                      have e5 : (if xt = xt then c - 1 else S.left xt) = c - 1 := if_pos rfl
                      have lk2 : (Instr.lookup 102 (.map (some bm)) (.string xt) false).run Try.prog w3 = .ok (.int .i64 (c - 1)) w3 := by rw [lk2]; show Result.ok (Value.int .i64 (if xt = xt then c - 1 else S.left xt)) w3 = _; rw [e5]
                      have x2w : w3.cell? ⟨kb, 2, none⟩ = some (.string xt) := (g3.cell_far ⟨kb, 2, none⟩ (by rw [hX2]; exact hkbX) (fun e => by
                        have := Option.some.inj e
                        have e6 : kb = bm := this
                        have := x2X
                        obtain ⟨mf, m1, -⟩ := hkx.met
                        obtain ⟨es, clock, hb, -⟩ := m1
                        rw [e6, World.cell?, hb] at this
                        cases this)).trans x2X
                      rw [HLESS.out] at u2
                      have HK3 := Lib.hid u2
                      rw [← HCC.out] at lk
                      have hwr : IntKind.i64.wrap (c - 1) = c - 1 := by rw [IntKind.wrap_i64]; omega
                      clear hX2 hkx u2 g3 e5 hkbX x1 x2 t2
                      obtain ⟨c2, hc2⟩ : ∃ c2, c2 = c - 1 := ⟨_, rfl⟩
                      have ec : c - 1 = c2 := hc2.symm
                      have HC2 : Hid (KahnPure.less S.left ⟨xi, xf, xt⟩ xt = c2) := by
                        show _ = _
                        unfold KahnPure.less
                        show (if xt = xt then _ else _) = _
                        rw [if_pos rfl, ← HCC.out, ec]
                      rw [← hc2] at u1 lk2 hwr
                      by_cases hz0 : c2 = 0
                      · have hzb : (c2 == 0) = true := by simpa using hz0
                        have HEQ : Hid (KahnPure.mid (ids N) (egs M) p (k + 1) = ⟨KahnPure.less S.left ⟨xi, xf, xt⟩, S.free ++ [xt]⟩) := by
                          show _ = _
                          rw [HSUCC.out]; unfold KahnPure.one
                          rw [if_pos HFR.out]
                          show KahnPure.St.mk _ (if KahnPure.less S.left ⟨xi, xf, xt⟩ xt = 0 then _ else _) = _
                          rw [if_pos (HC2.out.trans hz0)]
                        clear hz0 hc2
                        obtain ⟨ti, hti, hz, hsz, hby⟩ := info_parts info_text
                        have HO := Lib.hid (own_later HK3.out.row (Joins.below_alloc1 w3 (.cells #[.string xt] 9)))
                        have hll : S.free.length ≤ 500 := by have := HLF.out; omega
                        have hbs : Hid (bm + 1 ≤ (w3.alloc (.cells #[.string xt] 9)).heap.size) := by show _ ≤ _; have := HK3.out.size; simp; omega
                        go_wp2_with (at_builtin; go_must (refine wpList_append_own _ rfl _ _ 56 rfl (bm + 1) 9 ti (.string ⟨#[]⟩) 1 16 Try.underlying56 hti hz hsz hby rfl (by decide) (.slice (some ⟨gf, 0, none⟩) lf cv2) S.free.length (S.free.map Value.string) rfl HO.out ⟨w3.heap.size, 0, none⟩ 1 1 [.string xt] rfl rfl (cell_one_new _ _ _) (fun x hx => by simp at hx; subst hx; rfl) (by unfold maxLen; omega) (by omega) hbs.out ?_); intro v4 w4 o4 g4 b4)
                        have H9 : Hid (Kn W bx bm (KahnPure.mid (ids N) (egs M) p (k + 1)).left v4 (KahnPure.mid (ids N) (egs M) p (k + 1)).free w4) := by
                          show Kn _ _ _ _ _ _ _
                          rw [HEQ.out]
                          exact (HK3.out.later (Joins.below_alloc1 w3 _)).app o4 g4
                        clear o4 g4 b4 x2X x2w lk lk2 u1
                        go_wp2_with fail
                        go_roundw
                        case rel => exact ⟨k + 1, by go_num, by omega, H9.out⟩
                        case measure => simp [intOf]; omega
                      · have hzb : (c2 == 0) = false := by simpa using hz0
                        have HEQ : Hid (KahnPure.mid (ids N) (egs M) p (k + 1) = ⟨KahnPure.less S.left ⟨xi, xf, xt⟩, S.free⟩) := by
                          show _ = _
                          rw [HSUCC.out]; unfold KahnPure.one
                          rw [if_pos HFR.out]
                          show KahnPure.St.mk _ (if KahnPure.less S.left ⟨xi, xf, xt⟩ xt = 0 then _ else _) = _
                          rw [if_neg (fun q => hz0 (HC2.out.symm.trans q))]
                        clear hz0 hc2
                        have H9 : Hid (Kn W bx bm (KahnPure.mid (ids N) (egs M) p (k + 1)).left (.slice (some ⟨gf, 0, none⟩) lf cv2) (KahnPure.mid (ids N) (egs M) p (k + 1)).free w3) := by
                          show Kn _ _ _ _ _ _ _
                          rw [HEQ.out]
                          exact HK3.out
                        go_wp2_with fail
                        go_roundw
                        case rel => exact ⟨k + 1, by go_num, by omega, H9.out⟩
                        case measure => simp [intOf]; omega
                    · have hbe : (xf.toList == u.toList) = false := beq_eq_false_iff_ne.2 (fun q => hfr (toList_inj q))
                      have HEQ : Hid (KahnPure.mid (ids N) (egs M) p (k + 1) = S) := by show _ = _; rw [HSUCC.out]; unfold KahnPure.one; rw [if_neg hfr]
                      clear hfr
                      go_quiet (fail)
                      have H9 : Hid (Kn W bx bm (KahnPure.mid (ids N) (egs M) p (k + 1)).left (.slice (some ⟨gf, 0, none⟩) lf cv2) (KahnPure.mid (ids N) (egs M) p (k + 1)).free (W2.drewN nq)) := by show Kn _ _ _ _ _ _ _; rw [HEQ.out]; exact HK2.out.later (below_drewN (Below.refl _ _) _)
                      go_wp2_with fail
                      go_roundw
                      case rel => exact ⟨k + 1, by go_num, by omega, H9.out⟩
                      case measure => simp [intOf]; omega
                  · have hke : k = m := by omega
                    have H9 : Hid (Kn W bx bm (KahnPure.st (ids N) (egs M) (p + 1)).left u8 (KahnPure.st (ids N) (egs M) (p + 1)).free wr) := by
                      have := hk
                      rw [hke, HML.out, ← egs_len, KahnPure.mid_all] at this
                      exact this
                    have hge3 : decide (k < m) = false := by simp; omega
                    clear hk hke hkm
                    go_wp2_with fail
                    go_roundw
                    case rel => exact ⟨p + 1, by go_num, by omega, HNX.out, H9.out⟩
                    case measure => simp [intOf]; omega
              · have hend := hout.done (by omega)
                have x0 := (Z.out wr hk.b).1
                have HEND : Hid (CycR ⟨A, N, a, B, M, b2⟩ (.returned (.tuple #[.bool (decide (len < n)), .int .i64 0])) ∧ Below w.heap.size w wr) := by
                  refine ⟨⟨fun q => absurd HR.out.symm q, fun _ => ⟨_, rfl, ?_⟩⟩, HB.out.trans (hk.b.mono (by have := HSZ.out; omega))⟩
                  rw [decide_eq_true_iff]
                  constructor
                  · intro q
                    exact hend.yes HNI.out.1 HNI.out.2 (by rw [ids_len, ← HNL.out, ← hl]; exact q)
                  · intro q
                    refine Classical.byContradiction fun z => hend.no HNI.out.2 (by rw [ids_len, ← HNL.out, ← hl]; omega) q
                have hge4 : decide (p < len) = false := by simp; omega
                clear hall hk hout hl hend hpl hp
                go_wp2_with fail
                go_ret2
                exact HEND.out
  · have e0 : (R != 0) = true := by simpa using r0
    have hpost : Hid (CycR ⟨A, N, a, B, M, b2⟩ (.returned (.tuple #[.bool false, .int .i64 R]))) := ⟨fun _ => by rw [HR.out], fun q => absurd (HR.out.trans q) r0⟩
    clear r0 hB5
    go_wp2_with fail
    go_ret2
    exact ⟨hpost.out, HBW5.out⟩
end Go.Proofs.Ytpaegpbabfohcaa.Paths
