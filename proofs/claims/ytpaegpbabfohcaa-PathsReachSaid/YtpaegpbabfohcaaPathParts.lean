/-
  paths.Parts.
-/
import Derived.Test.YtpaegpbabfohcaaPathGrp
import Derived.Laws.MakeOwn
namespace Go.Proofs.Ytpaegpbabfohcaa.Paths
open Go.RowKit Go.Proofs.Ytpaegpbabfohcaa.WalkBytes Go.Proofs.Ytpaegpbabfohcaa.PathPure Go.Proofs.Ytpaegpbabfohcaa.MapAt Go.Proofs.Ytpaegpbabfohcaa.PartsPure
set_option linter.unusedVariables false
set_option linter.unusedSimpArgs false
set_option maxRecDepth 100000

theorem info_int : (Try.prog.info? 3).map (fun i => (i.zero, i.size, i.bytes)) = some (some (.int .i64 0), 1, 8) := by kernel_rfl
/-- a row of places that is filled as far as k -/
def PFill (w : World) (bp n k : Nat) : Prop := ∃ cur, w.heap[bp]? = some (.cells cur 3 (0, 0)) ∧ cur.size = n ∧ (∀ i, i < n → ∃ y : Int, cur[i]? = some (.int .i64 y)) ∧ ∀ i, i < k → cur[i]? = some (.int .i64 (i : Nat))
theorem made_ints (n : Nat) : (madeCells (Value.int .i64 0).cells (n * 1)).size = n ∧ ∀ i, i < n → ∃ y : Int, (madeCells (Value.int .i64 0).cells (n * 1))[i]? = some (.int .i64 y) := by
  refine ⟨by rw [size_madeCells]; omega, fun i hi => ⟨0, ?_⟩⟩
  simp [madeCells, Value.cells, hi, Nat.mod_one]
theorem PFill.set {w : World} {bp n k : Nat} (h : PFill w bp n k) (hk : k < n) : (∃ y : Int, w.cell? ⟨bp, k, none⟩ = some (.int .i64 y)) ∧ w.frozen? ⟨bp, k, none⟩ = false ∧ PFill (w.setCell ⟨bp, k, none⟩ (.int .i64 (k : Nat))) bp n (k + 1) := by
  obtain ⟨cur, h1, h2, h3, h4⟩ := h
  obtain ⟨y, hy⟩ := h3 k hk
  refine ⟨⟨y, by simp [World.cell?, h1, hy]⟩, frozen_of_row _ _ k _ _ h1, cur.setIfInBounds k (.int .i64 (k : Nat)), Joins.block_setCell h1 _, by simp [h2], fun i hi => ?_, fun i hi => ?_⟩
  · rw [Array.getElem?_setIfInBounds]
    by_cases e : k = i
    · subst e; rw [if_pos rfl, if_pos (by omega)]; exact ⟨_, rfl⟩
    · rw [if_neg e]; exact h3 i hi
  · rw [Array.getElem?_setIfInBounds]
    by_cases e : k = i
    · subst e; rw [if_pos rfl, if_pos (by omega)]
    · rw [if_neg e]; exact h4 i (by omega)
theorem PFill.done {w : World} {bp n : Nat} (h : PFill w bp n n) : PAt w bp n (fun i => i) := by
  obtain ⟨cur, h1, h2, -, h4⟩ := h
  exact ⟨cur, h1, h2, h4⟩
theorem PFill.kept {w w' : World} {bp n k : Nat} (h : PFill w bp n k) (e : w'.heap[bp]? = w.heap[bp]?) : PFill w' bp n k := by obtain ⟨cur, h1, h2⟩ := h; exact ⟨cur, e.trans h1, h2⟩
open Classical in
/-- the place of a node -/
noncomputable def posN (N : List Nd) (s : ByteArray) : Nat := if h : HasN N s then Classical.choose h else 0
theorem posN_is {N : List Nd} {s : ByteArray} (h : HasN N s) : posN N s < N.length ∧ (nd N (posN N s)).id = s := by
  unfold posN
  rw [dif_pos h]
  exact Classical.choose_spec h
theorem posN_one {N : List Nd} (hr : Rise (fun i => (nd N i).id) N.length) {s : ByteArray} {p : Nat} (hp : p < N.length) (e : (nd N p).id = s) : p = posN N s := by
  have h := posN_is ⟨p, hp, e⟩
  exact rise_inj hr hp h.1 (e.trans h.2.symm)
/-- the edges by their places -/
noncomputable def eps (N : List Nd) (M : List Ed) : List (Nat × Nat) := M.map fun x => (posN N x.fr, posN N x.tt)
theorem eps_len (N : List Nd) (M : List Ed) : (eps N M).length = M.length := by simp [eps]
theorem eps_take {N : List Nd} {M : List Ed} {k : Nat} (hk : k < M.length) : (eps N M).take (k + 1) = (eps N M).take k ++ [(posN N (ed M k).fr, posN N (ed M k).tt)] := by
  rw [List.take_succ_eq_append_getElem (by rw [eps_len]; exact hk)]
  simp [eps, ed, hk]
theorem place_at (g : Gr) (gn : Value) (hgn : gn = g.n) (bx : Nat) (s : ByteArray) (w : World) (h : Nds w.heap.size w g.A g.N) (z0 : w.cell? ⟨bx, 0, none⟩ = some gn) (ok : GrOk g) (hs : HasN g.N s) :
    Calls Try.prog 59 #[.string s, .pointer (some ⟨bx, 0, none⟩)] w fun e w' => e = .returned (.int .i64 (posN g.N s : Nat)) ∧ Below w.heap.size w w' := by
  refine (place_any g gn g.e hgn rfl bx s w h z0 ok.rn (by have := ok.n; omega) hs).mono ?_
  rintro e w' ⟨⟨p, rfl, h1, h2⟩, hB⟩
  exact ⟨by rw [posN_one ok.rn h1 h2], hB⟩
theorem Nds.mono' {H H' : Nat} {w : World} {A : Option Addr} {N : List Nd} (h : Nds H w A N) (b : H ≤ H') : Nds H' w A N := h.mono b
theorem Gs2.keys {W : World} {bx bp bm n : Nat} {r : Nat → Nat} {V : Value} {G G' : Grp} {wr : World} {j : Nat} {s : ByteArray} (h : Gs2 W bx bp bm n r V G G' wr) : Gs2 W bx bp bm n r V (PartsPure.ext G j s) G' wr := by
  obtain ⟨mf, m1, m2⟩ := h.met
  refine { h with met := ⟨mf, m1, fun k hk => ?_⟩ }
  have hk' : k < G.length := by simpa [PartsPure.ext] using hk
  have : ((PartsPure.ext G j s)[k]).1 = (G[k]'hk').1 := by
    simp only [PartsPure.ext, List.getElem_modify]
    split <;> rfl
  rw [this]
  exact m2 k hk'
theorem lst_rows {α : Type} (f : Nat → α) (r : Nat → Nat) (hr : ∀ i, r i ≤ i) (hrr : ∀ i, r (r i) = r i) (i : Nat) : ∀ x ∈ lst f r i, x.2.length ≤ i := by
  rw [lst_is f r hr hrr i]
  intro x hx
  obtain ⟨c, -, rfl⟩ := List.mem_map.1 hx
  show (PartsPure.row f r c i).length ≤ i
  unfold PartsPure.row
  rw [List.length_map]
  have := List.length_filter_le (fun k => decide (r k = c)) (List.range i)
  simpa using this
theorem info_texts : (Try.prog.info? 56).map (fun i => (i.zero, i.size, i.bytes)) = some (some (.slice none 0 0), 1, 24) := by kernel_rfl
/-- roots that tell what hangs together -/
def RP (g : Gr) (r : Nat → Nat) : Prop := ∃ p, Is p (eps g.N g.E) ∧ ∀ j, r j = rt p j
/-- the parts of a graph -/
noncomputable def prt (g : Gr) (r : Nat → Nat) : Grp := grp (fun k => (nd g.N k).id) r g.N.length
/-- what Parts tells -/
def PartsR (g : Gr) (e : Ending) (w' : World) : Prop :=
  (graphWhy g ≠ 0 → e = .returned (.tuple #[.slice none 0 0, .int .i64 (graphWhy g)])) ∧
  (graphWhy g = 0 → ∃ (V : Value) (r : Nat → Nat) (B : Nat) (vs : List Value), e = .returned (.tuple #[V, .int .i64 0]) ∧ RP g r ∧ w'.ownsRow B 56 1 V (prt g r).length vs ∧ Rows w' B V vs (prt g r))
set_option maxHeartbeats 6400000 in
theorem parts_any (g : Gr) (gn ge : Value) (hgn : gn = g.n) (hge : ge = g.e) (w : World) (h : GrAt w.heap.size w g) :
    Calls Try.prog 28 #[.agg #[gn, ge]] w fun e w' => PartsR g e w' ∧ Below w.heap.size w w' := by
  obtain ⟨A, N, a, B, M, b2⟩ := g
  obtain ⟨n, hn⟩ : ∃ n, n = N.length := ⟨_, rfl⟩
  obtain ⟨m, hm⟩ : ∃ m, m = M.length := ⟨_, rfl⟩
  have e1 : (⟨A, N, a, B, M, b2⟩ : Gr).n = .slice A n a := by rw [hn]; rfl
  have e2 : (⟨A, N, a, B, M, b2⟩ : Gr).e = .slice B m b2 := by rw [hm]; rfl
  rw [e1] at hgn
  rw [e2] at hge
  have HN : Hid (gn = (⟨A, N, a, B, M, b2⟩ : Gr).n) := hgn.trans e1.symm
  have HE : Hid (ge = (⟨A, N, a, B, M, b2⟩ : Gr).e) := hge.trans e2.symm
  subst hgn hge
  have HNL := Lib.hid hn
  have HML := Lib.hid hm
  obtain ⟨W, hW⟩ : ∃ W, W = w.alloc (.cells #[.slice A n a, .slice B m b2] 45) := ⟨_, rfl⟩
  obtain ⟨bx, hbx⟩ : ∃ bx, bx = w.heap.size := ⟨_, rfl⟩
  have hB : Below w.heap.size w W := by rw [hW]; exact Joins.below_alloc1 w _
  have hsz : W.heap.size = bx + 1 := by rw [hW, hbx]; simp
  have z0 : W.cell? ⟨bx, 0, none⟩ = some (.slice A n a) := by rw [hW, hbx, cell_of_row _ _ 0 _ _ _ (heap_new w _)]; rfl
  have z1 : W.cell? ⟨bx, 1, none⟩ = some (.slice B m b2) := by rw [hW, hbx, cell_of_row _ _ 1 _ _ _ (heap_new w _)]; rfl
  have HB := Lib.hid hB
  have HC := Lib.hid (graphCheck_any ⟨A, N, a, B, M, b2⟩ _ _ HN.out HE.out W ((h.below hB).mono hB.size))
  have hnl : n ≤ 9223372036854775807 := by rw [hn]; exact h.ln
  have HROWN : Hid (∀ wr, Below (bx + 1) W wr → Nds bx wr A N) := fun wr k => by
    have := (h.n.below hB)
    rw [← hbx] at this
    exact this.below (k.mono (by omega))
  have HROWE : Hid (∀ wr, Below (bx + 1) W wr → Eds bx wr B M) := fun wr k => by
    have := (h.e.below hB)
    rw [← hbx] at this
    exact this.below (k.mono (by omega))
  have HSZ : Hid (bx = w.heap.size ∧ W.heap.size = bx + 1) := ⟨hbx, hsz⟩
  obtain ⟨R, hR⟩ : ∃ R, R = graphWhy ⟨A, N, a, B, M, b2⟩ := ⟨_, rfl⟩
  have HR := Lib.hid hR
  rw [← hR] at HC
  have hbW : bx < W.heap.size := by omega
  clear h hB hR hsz e1 e2 hn hm
  go_enter Try.func28, Try.ntmps28
  go_upto_region 1 with (fail)
  rw [← hW, ← hbx]
  clear hW hbx
  go_wp2_with fail
  refine HC.out.mono ?_
  rintro e w5 ⟨rfl, hB5⟩
  have HB5 := Lib.hid hB5
  have HBW5 : Hid (Below w.heap.size w w5) := HB.out.trans (hB5.mono (by have := HSZ.out; omega))
  by_cases r0 : R = 0
  · subst r0
    have ok := gr_ok HR.out.symm
    have HOK := Lib.hid ok
    have hn5 : n ≤ 500 := by rw [HNL.out]; exact ok.n
    have hm5 : m ≤ 1000 := by rw [HML.out]; exact ok.e
    have y0 : w5.cell? ⟨bx, 0, none⟩ = some (.slice A n a) := (hB5.cell (p := ⟨bx, 0, none⟩) hbW).trans z0
    have y1 : w5.cell? ⟨bx, 1, none⟩ = some (.slice B m b2) := (hB5.cell (p := ⟨bx, 1, none⟩) hbW).trans z1
    obtain ⟨ti, hti, hz, hsz, hby⟩ := info_parts info_int
    have hmake := run_makeSlice (P := Try.prog) (w := w5) 100 3 ti (.int .i64 0) Try.underlying100 hti hz .i64 .i64 (n : Int) (n : Int) (by omega) (Int.le_refl _) (by rw [hsz]; simp; omega) (by rw [hby]; omega) (by omega)
    rw [hsz] at hmake
    simp only [Int.toNat_natCast] at hmake
    obtain ⟨X, hX⟩ : ∃ X, X = w5.alloc (.cells (madeCells (Value.int .i64 0).cells (n * 1)) 3) := ⟨_, rfl⟩
    obtain ⟨bp, hbp⟩ : ∃ bp, bp = w5.heap.size := ⟨_, rfl⟩
    rw [← hX, ← hbp] at hmake
    have HF0 : Hid (PFill X bp n 0 ∧ Below (bx + 1) W X ∧ bx + 1 ≤ bp) := by
      have h5 := hB5.size
      have hs := HSZ.out
      refine ⟨⟨_, by rw [hX, hbp]; exact heap_new w5 _, (made_ints n).1, (made_ints n).2, fun i hi => absurd hi (by omega)⟩, ?_, by omega⟩
      rw [hX]; exact (hB5.mono (by omega)).alloc (by omega) _
    have Z : Hid (∀ wr, Below (bx + 1) W wr → wr.cell? ⟨bx, 0, none⟩ = some (.slice A n a) ∧ wr.cell? ⟨bx, 1, none⟩ = some (.slice B m b2)) := fun wr k => ⟨(k.cell (p := ⟨bx, 0, none⟩) (by show bx < bx + 1; omega)).trans z0, (k.cell (p := ⟨bx, 1, none⟩) (by show bx < bx + 1; omega)).trans z1⟩
    clear hB5 ok z0 z1 y1 hX hbp hti hz hsz hby
    go_wp2_with fail
    go_loopw [27] (fun v wr => ∃ i : Nat, v = .int .i64 i ∧ i ≤ n ∧ PFill wr bp n i ∧ Below (bx + 1) W wr) (fun v _ => n - (intOf v).toNat)
    case atStart => exact ⟨0, rfl, Nat.zero_le _, HF0.out.1, HF0.out.2.1⟩
    case round =>
      clear y0 hmake
      obtain ⟨i, rfl, hi, hf, hb⟩ := hrel
      by_cases hin : i < n
      · obtain ⟨⟨y, c1⟩, f1, hf2⟩ := hf.set hin
        have H9 : Hid (PFill (wr.setCell ⟨bp, i, none⟩ (.int .i64 (i : Nat))) bp n (i + 1) ∧ Below (bx + 1) W (wr.setCell ⟨bp, i, none⟩ (.int .i64 (i : Nat)))) := ⟨hf2, hb.setCell (p := ⟨bp, i, none⟩) HF0.out.2.2 _⟩
        clear hf hb hf2
        go_wp2_with fail
        go_roundw
        case rel => exact ⟨i + 1, by go_num, by omega, H9.out.1, H9.out.2⟩
        case measure => simp [intOf]; omega
      · have hie : i = n := by omega
        have H1 : Hid (PAt wr bp n (fun i => i) ∧ Below (bx + 1) W wr) := ⟨by rw [hie] at hf; exact hf.done, hb⟩
        have x1 := (Z.out wr hb).2
        have hge : decide (i < n) = false := by simp; omega
        clear hf hb hie hin hi
        go_wp2_with fail
        have HPL : Hid (∀ s W', HasN N s → Below (bx + 1) W W' → W.heap.size ≤ W'.heap.size → Calls Try.prog 59 #[.string s, .pointer (some ⟨bx, 0, none⟩)] W' fun e w' => e = .returned (.int .i64 (posN N s : Nat)) ∧ Below W'.heap.size W' w') := fun s W' hs k hz =>
          place_at ⟨A, N, a, B, M, b2⟩ _ HN.out bx s W' ((HROWN.out W' k).mono (by have := HSZ.out; omega)) (Z.out W' k).1 HOK.out hs
        go_loopw [38] (fun v wr => ∃ i : Nat, v = .int .i64 i ∧ i ≤ m ∧ (∃ p, PAt wr bp n p ∧ Is p ((eps N M).take i)) ∧ Below (bx + 1) W wr) (fun v _ => m - (intOf v).toNat)
        case atStart => exact ⟨0, rfl, Nat.zero_le _, ⟨_, H1.out.1, is_nil⟩, H1.out.2⟩
        case round =>
          clear x1
          obtain ⟨k, rfl, hk, ⟨p, hP, hI⟩, hb⟩ := hrel
          by_cases hkm : k < m
          · have hkM : k < M.length := by rw [← HML.out]; exact hkm
            obtain ⟨g, off, a1, n1, d1, a2, n2, d2, hA, hg, c0, c1, c2, c3, c4⟩ := eds_at (HROWE.out wr hb) hkM
            subst hA
            have hends := HOK.out.ends k hkM
            have htake := eps_take (N := N) hkM
            obtain ⟨xi, hxi⟩ : ∃ xi, xi = (ed M k).id := ⟨_, rfl⟩
            obtain ⟨xf, hxf⟩ : ∃ xf, xf = (ed M k).fr := ⟨_, rfl⟩
            obtain ⟨xt, hxt⟩ : ∃ xt, xt = (ed M k).tt := ⟨_, rfl⟩
            replace hends : HasN N xf ∧ HasN N xt := by rw [hxf, hxt]; exact hends
            rw [← hxf, ← hxt] at htake
            rw [← hxi] at c0
            rw [← hxf] at c1
            rw [← hxt] at c2
            obtain ⟨pf, hpf⟩ : ∃ pf, pf = posN N xf := ⟨_, rfl⟩
            obtain ⟨pt, hpt⟩ : ∃ pt, pt = posN N xt := ⟨_, rfl⟩
            have hpfn : pf < n := by rw [hpf, HNL.out]; exact (posN_is hends.1).1
            have hptn : pt < n := by rw [hpt, HNL.out]; exact (posN_is hends.2).1
            rw [← hpf, ← hpt] at htake
            obtain ⟨W2, hW2⟩ : ∃ W2, W2 = wr.alloc (.cells #[.string xi, .string xf, .string xt, .slice a1 n1 d1, .slice a2 n2 d2] 74) := ⟨_, rfl⟩
            obtain ⟨kb, hkb⟩ : ∃ kb, kb = wr.heap.size := ⟨_, rfl⟩
            have hB2 : Below wr.heap.size wr W2 := by rw [hW2]; exact Joins.below_alloc1 wr _
            have x1 : W2.cell? ⟨kb, 1, none⟩ = some (.string xf) := by rw [hW2, hkb, cell_of_row _ _ 1 _ _ _ (heap_new wr _)]; rfl
            have x2 : W2.cell? ⟨kb, 2, none⟩ = some (.string xt) := by rw [hW2, hkb, cell_of_row _ _ 2 _ _ _ (heap_new wr _)]; rfl
            have hbs := hb.size
            have hbsW : bx + 1 ≤ wr.heap.size := by have := HSZ.out; omega
            have H2 : Hid (PAt W2 bp n p ∧ Below (bx + 1) W W2 ∧ W.heap.size ≤ W2.heap.size ∧ bp < W2.heap.size ∧ kb < W2.heap.size) := ⟨hP.kept (hB2.block bp hP.lt), hb.trans (hB2.mono hbsW), by have := hB2.size; omega, Nat.lt_of_lt_of_le hP.lt hB2.size, by rw [hkb, hW2]; simp⟩
            have HENDS : Hid (HasN N xf ∧ HasN N xt) := hends
            have HTAKE := Lib.hid htake
            have HI := Lib.hid hI
            have HPF : Hid (posN N xf = pf) := hpf.symm
            have HPT : Hid (posN N xt = pt) := hpt.symm
            clear hP hI hb hxi hxf hxt hpf hpt hB2 hbs hbsW hends htake
            go_upto_region 14 with (fail)
            rw [← hW2, ← hkb]
            clear hW2 hkb c0 c1 c2 c3 c4
            have STEP : Hid (∀ W', Below W2.heap.size W2 W' → PAt W' bp n p ∧ Below (bx + 1) W W' ∧ W.heap.size ≤ W'.heap.size ∧ W'.cell? ⟨kb, 1, none⟩ = some (.string xf) ∧ W'.cell? ⟨kb, 2, none⟩ = some (.string xt)) := fun W' q => ⟨H2.out.1.kept (q.block bp H2.out.2.2.2.1), H2.out.2.1.trans (q.mono (by have := H2.out.2.2.1; have := HSZ.out; omega)), Nat.le_trans H2.out.2.2.1 q.size, (q.cell (p := ⟨kb, 1, none⟩) H2.out.2.2.2.2).trans x1, (q.cell (p := ⟨kb, 2, none⟩) H2.out.2.2.2.2).trans x2⟩
            have HQF : Hid (∀ W', Below W2.heap.size W2 W' → Calls Try.prog 59 #[.string xf, .pointer (some ⟨bx, 0, none⟩)] W' fun e w' => e = .returned (.int .i64 (pf : Nat)) ∧ Below W'.heap.size W' w') := fun W' q => by rw [← HPF.out]; exact HPL.out xf W' HENDS.out.1 (STEP.out W' q).2.1 (STEP.out W' q).2.2.1
            have HQT : Hid (∀ W', Below W2.heap.size W2 W' → Calls Try.prog 59 #[.string xt, .pointer (some ⟨bx, 0, none⟩)] W' fun e w' => e = .returned (.int .i64 (pt : Nat)) ∧ Below W'.heap.size W' w') := fun W' q => by rw [← HPT.out]; exact HPL.out xt W' HENDS.out.2 (STEP.out W' q).2.1 (STEP.out W' q).2.2.1
            go_region_with (first
              | (go_at_call 59; (with_reducible show Calls _ _ #[Value.string xf, _] (World.drew W2) _); refine (HQF.out _ (Below.refl _ _).drew).mono ?_; rintro e w6 ⟨rfl, b6⟩; have B6 := Lib.hid (Below.trans (Below.refl W2.heap.size W2).drew b6); obtain ⟨-, -, -, v1, v2⟩ := STEP.out w6 B6.out)
              | (go_at_call 59; (with_reducible show Calls _ _ #[Value.string xt, _] (World.drew W2) _); refine (HQT.out _ (Below.refl _ _).drew).mono ?_; rintro e w6 ⟨rfl, b6⟩; have B6 := Lib.hid (Below.trans (Below.refl W2.heap.size W2).drew b6); obtain ⟨-, -, -, v1, v2⟩ := STEP.out w6 B6.out)
              | (go_at_call 59; (with_reducible show Calls _ _ #[Value.string xt, _] w6 _); refine (HQT.out _ B6.out).mono ?_; rintro e w7 ⟨rfl, b7⟩; have B7 := Lib.hid (B6.out.trans (b7.mono B6.out.size)))
              | (go_at_call 59; (with_reducible show Calls _ _ #[Value.string xf, _] w6 _); refine (HQF.out _ B6.out).mono ?_; rintro e w7 ⟨rfl, b7⟩; have B7 := Lib.hid (B6.out.trans (b7.mono B6.out.size)))
              | (go_at_call 63; refine (join_any bp n n p _ pf pt w7 (STEP.out w7 B7.out).1 HI.out hpfn hptn (by omega)).mono ?_; rintro e w8 ⟨⟨rfl, k8⟩, b8⟩; rw [← HTAKE.out] at k8; have H8 := Lib.hid (And.intro k8 ((STEP.out w7 B7.out).2.1.trans (b8.below (fun j hj => (by show j ≠ bp; have := HF0.out.2.2; omega)) (by have := (STEP.out w7 B7.out).2.2.1; have := HSZ.out; omega)))); clear k8 b8))
            all_goals
              clear x1 x2 v1 v2
              go_wp2_with fail
              go_roundw
              case rel => exact ⟨k + 1, by go_num, by omega, H8.out.1, H8.out.2⟩
              case measure => simp [intOf]; omega
          · have hkE : k = m := by omega
            have H3 : Hid (PAt wr bp n p ∧ Is p (eps N M) ∧ Below (bx + 1) W wr) := ⟨hP, by rw [hkE, HML.out, ← eps_len N M, List.take_length] at hI; exact hI, hb⟩
            have x0 := (Z.out wr hb).1
            have hge2 : decide (k < m) = false := by simp; omega
            have hmk : ∀ (W : World), (Instr.makeMap 87 none).run Try.prog W = .ok (.map (some W.heap.size)) (W.alloc (.map #[] 0)) := fun W => rfl
            obtain ⟨X2, hX2⟩ : ∃ X2, X2 = wr.alloc (.map #[] 0) := ⟨_, rfl⟩
            obtain ⟨bm, hbm⟩ : ∃ bm, bm = wr.heap.size := ⟨_, rfl⟩
            obtain ⟨r, hr⟩ : ∃ r : Nat → Nat, r = fun j => rt p j := ⟨_, rfl⟩
            have HRR : Hid ((∀ i, r i ≤ i) ∧ (∀ i, r (r i) = r i) ∧ ∃ p, Is p (eps N M) ∧ ∀ j, r j = rt p j) := ⟨fun i => by rw [hr]; exact rt_le i, fun i => by rw [hr]; exact rt_rt H3.out.2.1.low i, p, H3.out.2.1, fun j => by rw [hr]⟩
            have hB2 : Below wr.heap.size wr X2 := by rw [hX2]; exact Joins.below_alloc1 wr _
            have hbs := hb.size
            have HG0 : Hid (Gs2 W bx bp bm n r (.slice none 0 0) [] [] X2) := by
              refine ⟨⟨p, hP.kept (hB2.block bp hP.lt), hI.low, fun j => by rw [hr]⟩, ⟨_, by rw [hX2, hbm]; exact made KI wr, fun j hj => by simp at hj⟩, ⟨[], World.ownsRow_nil _ _ _ _, ⟨rfl, fun j hj => by simp at hj, fun j hj => by simp at hj⟩⟩, hb.trans (hB2.mono (by have := HSZ.out; omega)), HF0.out.2.2, by rw [hbm]; exact hP.lt⟩
            have x0 := (Z.out X2 HG0.out.b).1
            clear hP hI hb hkE hkm hk hB2 hbs hr
            go_upto_region 18 with (fail)
            rw [← hX2, ← hbm]
            clear hX2 hbm hmk
            go_wp2_with fail
            go_loopw [10, 57] (fun o v wr => ∃ i : Nat, v = .int .i64 i ∧ i ≤ n ∧ Gs2 W bx bp bm n r o (grp (fun k => (nd N k).id) r i) (grp (fun k => (nd N k).id) r i) wr) (fun _ v _ => n - (intOf v).toNat)
            case atStart => exact ⟨0, rfl, Nat.zero_le _, HG0.out⟩
            case round =>
              clear x0
              obtain ⟨i, rfl, hi, hG⟩ := hrel
              obtain ⟨G, hGG⟩ : ∃ G : Grp, G = grp (fun k => (nd N k).id) r i := ⟨_, rfl⟩
              rw [← hGG] at hG
              have hGl : G.length ≤ i := by rw [hGG]; exact grp_len _ r HRR.out.1 HRR.out.2.1 i
              obtain ⟨vs0, o1, o2⟩ := hG.out
              obtain ⟨av, cv, hv0⟩ := slice_of_own o1
              subst hv0
              by_cases hin : i < n
              · have hiN : i < N.length := by rw [← HNL.out]; exact hin
                obtain ⟨g, off, a1, n1, d1, a2, n2, d2, hA, hg, c0, c1, c2⟩ := nds_at (HROWN.out wr hG.b) hiN
                subst hA
                obtain ⟨xi, hxi⟩ : ∃ xi, xi = (nd N i).id := ⟨_, rfl⟩
                rw [← hxi] at c0
                obtain ⟨W2, hW2⟩ : ∃ W2, W2 = wr.alloc (.cells #[.string xi, .slice a1 n1 d1, .slice a2 n2 d2] 59) := ⟨_, rfl⟩
                obtain ⟨kb, hkb⟩ : ∃ kb, kb = wr.heap.size := ⟨_, rfl⟩
                have hB2 : Below wr.heap.size wr W2 := by rw [hW2]; exact Joins.below_alloc1 wr _
                have x0 : W2.cell? ⟨kb, 0, none⟩ = some (.string xi) := by rw [hW2, hkb, cell_of_row _ _ 0 _ _ _ (heap_new wr _)]; rfl
                have hkW : kb < W2.heap.size := by rw [hkb, hW2]; simp
                have hG2 := hG.later hB2
                have hbmk : bm < kb := by rw [hkb]; exact hG.size
                have hVk : Hid (∀ x, (Value.slice av G.length cv).ownBlock = some x → x < kb) := fun x hx => by rw [hkb]; exact (o1.lt x hx).2
                obtain ⟨p1, q1, q2, q3⟩ := hG2.p
                have hroot := root_any bp n n p1 i W2 q1 q2 hin (by omega)
                rw [q3] at hroot
                have HG2 := Lib.hid hG2
                have HROOT := Lib.hid hroot
                have HQ3 := Lib.hid q3
                have HLST : Hid (∀ V w, Gs2 W bx bp bm n r V G G w → r i ≠ i → Gs2 W bx bp bm n r V (lst (fun k => (nd N k).id) r i) (lst (fun k => (nd N k).id) r i) w) := fun V w q z => by unfold lst; rw [if_neg z, ← hGG]; exact q
                have HLST2 : Hid (∀ V w, Gs2 W bx bp bm n r V (G ++ [(i, [])]) (G ++ [(i, [])]) w → r i = i → Gs2 W bx bp bm n r V (lst (fun k => (nd N k).id) r i) (lst (fun k => (nd N k).id) r i) w) := fun V w q z => by unfold lst; rw [if_pos z, ← hGG]; exact q
                have HFRESH : Hid (∀ j (q : j < G.length), (G[j]).1 ≠ i) := fun j q e => by
                  have hm : (G[j]).1 ∈ (grp (fun k => (nd N k).id) r i).map (·.1) := by rw [← hGG]; exact List.mem_map.2 ⟨_, List.getElem_mem q, rfl⟩
                  rw [grp_is _ r HRR.out.1 HRR.out.2.1 i, List.map_map] at hm
                  obtain ⟨c, hc, hce⟩ := List.mem_map.1 hm
                  have hcr := (List.mem_filter.1 hc).1
                  have hce : c = (G[j]).1 := hce
                  simp at hcr
                  omega
                have HXI := Lib.hid hxi
                have HIN : Hid (r i ≤ i ∧ i < n) := ⟨HRR.out.1 i, hin⟩
                obtain ⟨ri, hri⟩ : ∃ ri, ri = r i := ⟨_, rfl⟩
                rw [← hri] at HROOT HLST HLST2
                have HRI := Lib.hid hri
                have hri5 : ri ≤ 500 := by have := HIN.out.1; omega
                obtain ⟨gl, hgl⟩ : ∃ gl, gl = G.length := ⟨_, rfl⟩
                have hgl5 : gl ≤ 500 := by omega
                have HGL := Lib.hid hgl
                rw [← hgl]
                clear hG hGG o1 o2 hxi hB2 hG2 q1 q2 q3 hroot hri hgl hGl
                go_upto_region 21 with (fail)
                rw [← hW2, ← hkb]
                clear hW2 hkb c0 c1 c2
                go_upto_region 22 with (go_at_call 64; refine HROOT.out.mono ?_; rintro e w6 ⟨⟨p6, rfl, t1, t2, t3⟩, t4⟩; have HG6 := Lib.hid (HG2.out.root t4 t1 t2 (fun j => (t3 j).trans (HQ3.out j))); have x6 : w6.cell? ⟨kb, 0, none⟩ = some (.string xi) := (t4.cell hkW (by show kb ≠ bp; have := HG2.out.lb; omega) 0).trans x0; have hk6 : kb < w6.heap.size := Nat.lt_of_lt_of_le hkW t4.size; clear t1 t2 t3 t4)
                go_upto_if 67 with (fail)
                go_cut [10] from 67 to 74 (fun s10 wx => Gs2 W bx bp bm n r s10 (lst (fun k => (nd N k).id) r i) (lst (fun k => (nd N k).id) r i) wx ∧ wx.cell? ⟨kb, 0, none⟩ = some (.string xi) ∧ kb < wx.heap.size)
                case first =>
                  clear x0
                  by_cases hri0 : ri = i
                  · have hbe : ((ri : Int) == (i : Int)) = true := by simp; omega
                    have hri2 : r i = i := by rw [← HRI.out]; exact hri0
                    have HRI2 := Lib.hid hri2
                    obtain ⟨w3, u1, hG3, gk3⟩ := HG6.out.key i HFRESH.out
                    rw [← HGL.out] at u1
                    obtain ⟨ti2, hti, hz, hsz, hby⟩ := info_parts info_texts
                    obtain ⟨vs, o1, o2⟩ := hG3.out
                    have HO2 := Lib.hid o2
                    have HO1 := Lib.hid o1
                    have hG3' : Gs2 W bx bp bm n r (.slice av G.length cv) (G ++ [(i, [])]) G (w3.alloc (.cells #[.slice none 0 0] 56)) := hG3.later (Joins.below_alloc1 w3 _)
                    have HG3 := Lib.hid hG3'
                    have HOa := Lib.hid (own_later o1 (Joins.below_alloc1 w3 (.cells #[.slice none 0 0] 56)))
                    have HOb : Hid (Rows (w3.alloc (.cells #[.slice none 0 0] 56)) (bm + 1) (.slice av G.length cv) vs G) := o2.grown (row := none) ⟨(Joins.below_alloc1 w3 (.cells #[.slice none 0 0] 56)).os, (Joins.below_alloc1 w3 (.cells #[.slice none 0 0] 56)).tape, (Joins.below_alloc1 w3 (.cells #[.slice none 0 0] 56)).output, (Joins.below_alloc1 w3 (.cells #[.slice none 0 0] 56)).size, fun j hj _ => (Joins.below_alloc1 w3 (.cells #[.slice none 0 0] 56)).block j hj⟩ (by simp)
                    have hGl5 : G.length ≤ 500 := by rw [← HGL.out]; exact hgl5
                    have hvl : Hid (vs.length = G.length) := o2.len
                    have HS3 : Hid (bm + 1 ≤ (w3.alloc (.cells #[.slice none 0 0] 56)).heap.size) := hG3'.size
                    have HKB : Hid (w3.cell? ⟨kb, 0, none⟩ = some (.string xi) ∧ kb < w3.heap.size) := ⟨(gk3.cell_far ⟨kb, 0, none⟩ hk6 (fun e => by have : kb = bm := Option.some.inj e; omega)).trans x6, Nat.lt_of_lt_of_le hk6 gk3.size⟩
                    have HGLe : Hid (Value.slice av gl cv = .slice av G.length cv) := by show _ = _; rw [HGL.out]
                    clear hri0 hri2 hG3 o1 o2 hG3' gk3
                    go_wp2_with (at_builtin; go_must (refine wpList_append_own_at _ rfl _ _ 47 rfl (bm + 1) 56 ti2 (.slice none 0 0) 1 24 Try.underlying47 hti hz hsz hby rfl (by decide) (.slice av G.length cv) G.length vs HGLe.out HOa.out ⟨w3.heap.size, 0, none⟩ 1 1 [.slice none 0 0] rfl rfl (cell_one_new _ _ _) (fun x hx => by simp at hx; subst hx; rfl) (by unfold maxLen; omega) (by omega) HS3.out ?_); intro v4 w4 o4 g4 b4 d4)
                    have H9 : Hid (Gs2 W bx bp bm n r v4 (lst (fun k => (nd N k).id) r i) (lst (fun k => (nd N k).id) r i) w4 ∧ w4.cell? ⟨kb, 0, none⟩ = some (.string xi) ∧ kb < w4.heap.size) := by
                      have e1 := (HG3.out.app (i := i) HOb.out HOa.out o4 g4 d4)
                      refine ⟨HLST2.out _ _ e1 (HRI.out.trans HRI2.out), ?_, ?_⟩
                      · rw [g4.cell_far ⟨kb, 0, none⟩ (by have := HKB.out.2; simp; omega) (fun e => by have : kb < kb := hVk.out kb e.symm; omega)]
                        exact ((Joins.below_alloc1 w3 _).cell (p := ⟨kb, 0, none⟩) HKB.out.2).trans HKB.out.1
                      · have := g4.size; have := HKB.out.2; simp at *; omega
                    clear o4 g4 b4 d4 u1 x6
                    go_wp2_with fail
                    go_meet
                    exact H9.out
                  · have hbe : ((ri : Int) == (i : Int)) = false := by simp; omega
                    have H9 : Hid (Gs2 W bx bp bm n r (.slice av gl cv) (lst (fun k => (nd N k).id) r i) (lst (fun k => (nd N k).id) r i) w6 ∧ w6.cell? ⟨kb, 0, none⟩ = some (.string xi) ∧ kb < w6.heap.size) := by
                      have := HG6.out
                      rw [← HGL.out] at this
                      exact ⟨HLST.out _ _ this hri0, x6, hk6⟩
                    clear hri0
                    go_wp2_with fail
                    go_meet
                    exact H9.out
                case rest =>
                  obtain ⟨hL, y0, hkc⟩ := hcut
                  obtain ⟨j, hj, hj1, hj2⟩ := lst_at (fun k => (nd N k).id) r HRR.out.1 HRR.out.2.1 i
                  have hge := grp_ext (fun k => (nd N k).id) r i j hj hj1 hj2
                  have hlen : (lst (fun k => (nd N k).id) r i).length ≤ i + 1 := by
                    unfold lst
                    have := grp_len (fun k => (nd N k).id) r HRR.out.1 HRR.out.2.1 i
                    split
                    · simp; omega
                    · omega
                  have hrl := lst_rows (fun k => (nd N k).id) r HRR.out.1 HRR.out.2.1 i _ (List.getElem_mem hj)
                  obtain ⟨L, hLL⟩ : ∃ L, L = lst (fun k => (nd N k).id) r i := ⟨_, rfl⟩
                  simp only [← hLL] at hL hj hj1 hlen hrl hge
                  obtain ⟨mf, m1, m2⟩ := hL.met
                  obtain ⟨vs, o1, o2⟩ := hL.out
                  have hgV : ∃ gV capV, u10 = .slice (some ⟨gV, 0, none⟩) L.length capV := by
                    rcases o1.2 with ⟨_, h0⟩ | ⟨g, cap, cur, e, -⟩
                    · omega
                    · exact ⟨g, cap, e⟩
                  obtain ⟨gV, capV, hV⟩ := hgV
                  subst hV
                  obtain ⟨aj, cj, hvj⟩ := slice_of_own (o2.row j hj)
                  have hmj := m2 j hj
                  rw [hj1, ← HRI.out] at hmj
                  have hvsj : vs[j]? = some (vget vs j) := by
                    unfold vget
                    rw [List.getD_eq_getElem?_getD, List.getElem?_eq_getElem (by rw [o2.len]; exact hj)]; rfl
                  have c1 : wc.cell? ⟨gV, j, none⟩ = some (vget vs j) := by rw [o1.cellAt j (by omega)]; exact hvsj
                  have f1 := o1.frozenAt j
                  obtain ⟨rl, hrl2⟩ : ∃ rl, rl = (L[j].2).length := ⟨_, rfl⟩
                  rw [hvj, ← hrl2] at c1
                  have hgVlt := o1.lt gV rfl
                  have hgVne : Hid ((vget vs j).ownBlock ≠ some gV) := fun e => (o2.sep j hj gV e).1 rfl
                  have hvlt : Hid (∀ x, (vget vs j).ownBlock = some x → bm + 1 ≤ x) := fun x q => ((o2.row j hj).lt x q).1
                  have hY : Below wc.heap.size wc ((wc.alloc (.cells #[.string xi] 9)).drew) := bd wc _
                  have HML2 : Hid (∀ w', w'.heap[bm]? = wc.heap[bm]? → (Instr.lookup 87 (.map (some bm)) (.int .i64 (ri : Nat)) false).run Try.prog w' = .ok (.int .i64 (j : Nat)) w') := fun w' e => by
                    have := (m1.kept e).look Try.underlying87 (zero_int w') (ri : Int)
                    rw [hmj] at this
                    exact this
                  have hbm : bm < wc.heap.size := m1.lt
                  have lk1 : (Instr.lookup 87 (.map (some bm)) (.int .i64 (ri : Nat)) false).run Try.prog wc.drew = .ok (.int .i64 (j : Nat)) wc.drew := HML2.out _ rfl
                  have lk2 : (Instr.lookup 87 (.map (some bm)) (.int .i64 (ri : Nat)) false).run Try.prog ((wc.alloc (.cells #[.string xi] 9)).drew) = .ok (.int .i64 (j : Nat)) ((wc.alloc (.cells #[.string xi] 9)).drew) := HML2.out _ (hY.block bm hbm)
                  have c2 : (wc.alloc (.cells #[.string xi] 9)).cell? ⟨gV, j, none⟩ = some (.slice aj rl cj) := (hY.cell (p := ⟨gV, j, none⟩) hgVlt.2).trans c1
                  have HOW := Lib.hid (own_later (o2.row j hj) hY)
                  have HALL : Hid (Gs2 W bx bp bm n r (.slice (some ⟨gV, 0, none⟩) L.length capV) L L ((wc.alloc (.cells #[.string xi] 9)).drew) ∧ Rows ((wc.alloc (.cells #[.string xi] 9)).drew) (bm + 1) (.slice (some ⟨gV, 0, none⟩) L.length capV) vs L ∧ ((wc.alloc (.cells #[.string xi] 9)).drew).ownsRow (bm + 1) 56 1 (.slice (some ⟨gV, 0, none⟩) L.length capV) L.length vs) :=
                    ⟨hL.later hY, o2.grown (row := none) ⟨hY.os, hY.tape, hY.output, hY.size, fun j hj _ => hY.block j hj⟩ (by simp), own_later o1 hY⟩
                  obtain ⟨ti3, hti, hz, hsz, hby⟩ := info_parts info_text
                  have HVJ := Lib.hid hvj
                  obtain ⟨ll, hll⟩ : ∃ ll, ll = L.length := ⟨_, rfl⟩
                  have hjl : j < ll := by omega
                  have hll5 : ll ≤ 501 := by omega
                  have HSZ4 : Hid (bm + 1 ≤ ((wc.alloc (.cells #[.string xi] 9)).drew).heap.size ∧ gV < ((wc.alloc (.cells #[.string xi] 9)).drew).heap.size ∧ bm < ((wc.alloc (.cells #[.string xi] 9)).drew).heap.size) := by
                    have := hY.size
                    exact ⟨by omega, by omega, by omega⟩
                  have HGE := Lib.hid hge
                  have hrl5 : rl ≤ 501 := by omega
                  have HRL := Lib.hid hrl2
                  have HJ : Hid (∃ h : j < L.length, True) := ⟨hj, trivial⟩
                  rw [← hll]
                  have HLLe : Hid (Value.slice (some ⟨gV, 0, none⟩) ll capV = .slice (some ⟨gV, 0, none⟩) L.length capV) := by show _ = _; rw [hll]
                  have HXI2 : Hid (xi = (nd N i).id) := HXI.out
                  have HRJ : Hid (∀ (h : j < L.length), (L[j].2).length = rl) := fun h => hrl2.symm
                  have FIN : Hid (∀ v5 w5, w5.ownsRow (bm + 1) 9 1 v5 (rl + 1) ((L[j].2).map Value.string ++ [.string xi]) → ((wc.alloc (.cells #[.string xi] 9)).drew).grownBy w5 (vget vs j).ownBlock → (v5.ownBlock = (vget vs j).ownBlock ∨ v5.ownBlock = some ((wc.alloc (.cells #[.string xi] 9)).drew).heap.size) → Gs2 W bx bp bm n r (.slice (some ⟨gV, 0, none⟩) ll capV) (grp (fun k => (nd N k).id) r (i + 1)) (grp (fun k => (nd N k).id) r (i + 1)) (w5.setCell ⟨gV, j, none⟩ v5)) := fun v5 w5 k1 k2 k3 => by
                    have e := HALL.out.1.longer HALL.out.2.1 HALL.out.2.2 hj (s := xi) (v' := v5) (w4 := w5) (by rw [← hrl2]; exact k1) k2 k3
                    rw [hge, ← HXI2.out, hll]
                    exact e.keys
                  have HOWN : Hid (((wc.alloc (.cells #[.string xi] 9)).drew).ownsRow (bm + 1) 9 1 (.slice aj rl cj) rl ((L[j].2).map Value.string)) := by
                    have := HOW.out
                    rw [hvj, ← hrl2] at this
                    exact this
                  have HOB : Hid ((vget vs j).ownBlock = (Value.slice aj rl cj).ownBlock) := by show _ = _; rw [hvj, ← hrl2]
                  have HGVW : Hid (((wc.alloc (.cells #[.string xi] 9)).drew).cell? ⟨gV, j, none⟩ = some (.slice aj rl cj) ∧ ((wc.alloc (.cells #[.string xi] 9)).drew).frozen? ⟨gV, j, none⟩ = false ∧ ((wc.alloc (.cells #[.string xi] 9)).drew).heap[bm]? = wc.heap[bm]?) := ⟨c2, (World.frozen?_of_block (a := ⟨gV, j, none⟩) (hY.block gV hgVlt.2)).trans f1, hY.block bm hbm⟩
                  have HLEN : Hid (((L[j].2).map Value.string).length = rl) := by show _ = _; rw [List.length_map]; exact hrl2.symm
                  obtain ⟨tx, htx⟩ : ∃ tx, tx = (L[j].2).map Value.string := ⟨_, rfl⟩
                  rw [← htx] at FIN HOWN HLEN
                  obtain ⟨obj, hobj⟩ : ∃ obj, obj = (vget vs j).ownBlock := ⟨_, rfl⟩
                  rw [← hobj] at FIN hgVne hvlt HOB
                  clear hL hj1 hj2 hge hlen hrl m1 m2 o1 o2 hvj hmj hvsj hgVlt hY hbm HOW HALL HVJ HGE HRL HJ HRJ hrl2 hll hobj htx HLLe hLL hj
                  go_upto_region 25 with (fail)
                  go_region_law (refine step_app rfl (.tmp 84) (.tmp 87) 56 rfl (bm + 1) 9 ti3 (.string ⟨#[]⟩) 1 16 Try.underlying56 hti hz hsz hby rfl (by decide) (.slice aj rl cj) rl tx rfl HOWN.out ⟨wc.heap.size, 0, none⟩ 1 1 [.string xi] rfl rfl (World.news_of_block (w := (wc.alloc (.cells #[.string xi] 9)).drew) (heap_new wc _)) (by simp [Value.oneCell']) (by unfold maxLen; omega) (by omega) HSZ4.out.1 ?_; intro v9 w9 o9 g9 b9; obtain ⟨a9, c9, rfl⟩ := slice_of_own o9; have e9 : w9.heap[gV]? = ((wc.alloc (.cells #[.string xi] 9)).drew).heap[gV]? := g9.block gV HSZ4.out.2.1 (fun e => hgVne.out (HOB.out.trans e.symm)); have c3 := (World.cell?_of_block (a := ⟨gV, j, none⟩) e9).trans HGVW.out.1; have f3 := (World.frozen?_of_block (a := ⟨gV, j, none⟩) e9).trans HGVW.out.2.1; have lk3 := HML2.out w9 ((g9.block bm HSZ4.out.2.2 (fun e => by have := hvlt.out bm (HOB.out.trans e.symm); omega)).trans HGVW.out.2.2); have H9 := Lib.hid (FIN.out _ w9 o9 (by rw [HOB.out]; exact g9) (by rw [HOB.out]; exact b9)); clear e9 o9 g9 b9)
                  all_goals
                    clear lk1 lk2 c1 c2 y0 f1
                    go_wp2_with fail
                    go_roundw
                    case rel => exact ⟨i + 1, by go_num, by omega, H9.out⟩
                    case measure => simp [intOf]; omega
              · have hie : i = n := by omega
                have hge : decide (i < n) = false := by simp; omega
                have HEND : Hid (PartsR ⟨A, N, a, B, M, b2⟩ (.returned (.tuple #[.slice av G.length cv, .int .i64 0])) wr ∧ Below w.heap.size w wr) := by
                  refine ⟨⟨fun q => absurd HR.out.symm q, fun _ => ⟨_, r, bm + 1, vs0, rfl, HRR.out.2.2, ?_, ?_⟩⟩, HB.out.trans (hG.b.mono (by have := HSZ.out; omega))⟩
                  · have e : prt ⟨A, N, a, B, M, b2⟩ r = G := by unfold prt; rw [hGG, hie, HNL.out]
                    rw [e]; exact o1
                  · have e : prt ⟨A, N, a, B, M, b2⟩ r = G := by unfold prt; rw [hGG, hie, HNL.out]
                    rw [e]; exact o2
                obtain ⟨gl, hgl⟩ : ∃ gl, gl = G.length := ⟨_, rfl⟩
                rw [← hgl] at HEND ⊢
                clear hG hGG hGl o1 o2 hie hin hi hgl
                go_wp2_with fail
                go_ret2
                exact HEND.out
  · have e0 : (R != 0) = true := by simpa using r0
    have hpost : Hid (PartsR ⟨A, N, a, B, M, b2⟩ (.returned (.tuple #[.slice none 0 0, .int .i64 R])) w5) := ⟨fun _ => by rw [HR.out], fun q => absurd (HR.out.trans q) r0⟩
    clear r0 hB5
    go_wp2_with fail
    go_ret2
    exact ⟨hpost.out, HBW5.out⟩
end Go.Proofs.Ytpaegpbabfohcaa.Paths
