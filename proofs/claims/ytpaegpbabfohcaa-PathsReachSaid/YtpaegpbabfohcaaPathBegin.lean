/-
  A walk through a graph: paths.begin.
-/
import Derived.Test.YtpaegpbabfohcaaPathOn
import Derived.Test.YtpaegpbabfohcaaPathCheck
namespace Go.Proofs.Ytpaegpbabfohcaa.Paths
open Go.RowKit Go.Proofs.Ytpaegpbabfohcaa.WalkBytes Go.Proofs.Ytpaegpbabfohcaa.PathPure Go.Proofs.Ytpaegpbabfohcaa.MapAt
set_option linter.unusedVariables false
set_option linter.unusedSimpArgs false
set_option maxRecDepth 100000

def ids (N : List Nd) : List ByteArray := N.map (·.id)
theorem has_ids {N : List Nd} {s : ByteArray} : HasN N s ↔ s ∈ ids N := by
  unfold HasN ids
  rw [List.mem_map]
  constructor
  · rintro ⟨i, hi, e⟩
    refine ⟨nd N i, ?_, e⟩
    unfold nd
    rw [List.getD_eq_getElem?_getD, List.getElem?_eq_getElem hi]
    exact List.getElem_mem hi
  · rintro ⟨x, hx, e⟩
    obtain ⟨i, hi, ex⟩ := List.getElem_of_mem hx
    refine ⟨i, hi, ?_⟩
    unfold nd
    rw [List.getD_eq_getElem?_getD, List.getElem?_eq_getElem hi]
    show (N[i]).id = s
    rw [ex]; exact e
theorem egs_in {g : Gr} (h : GrOk g) : Within (egs g.E) (ids g.N) := by
  intro x hx
  unfold egs at hx
  obtain ⟨y, hy, rfl⟩ := List.mem_map.1 hx
  obtain ⟨i, hi, e⟩ := List.getElem_of_mem hy
  have := h.ends i hi
  have ey : ed g.E i = y := by
    unfold ed
    rw [List.getD_eq_getElem?_getD, List.getElem?_eq_getElem hi]
    exact e
  rw [ey] at this
  exact ⟨has_ids.1 this.1, has_ids.1 this.2⟩
theorem row_cells {w : World} {V : Value} {L : List Hop} (h : w.ownsRow 0 113 3 V L.length (hrow L)) {i : Nat} (hi : i < L.length) : ∃ g cap, V = .slice (some ⟨g, 0, none⟩) L.length cap ∧ w.cell? ⟨g, i * 3, none⟩ = some (.string (hop L i).id) ∧ w.cell? ⟨g, i * 3 + 1, none⟩ = some (.string (hop L i).edge) ∧ w.cell? ⟨g, i * 3 + 2, none⟩ = some (.int .i64 (hop L i).far) := by
  rcases h.2 with ⟨_, h0⟩ | ⟨g, cap, cur, rfl, hb, hg, hn, hm, hs, ht⟩
  · omega
  · have hx : ∀ j (u : Value), (hrow L)[j]? = some u → w.cell? ⟨g, j, none⟩ = some u := fun j u hj => by
      rw [← ht, List.getElem?_take] at hj
      split at hj
      · simp [World.cell?, hg]
        simpa using hj
      · cases hj
    have hr : ∀ (L : List Hop) i, i < L.length → ∀ j, j < 3 → (hrow L)[i * 3 + j]? = (hcells (hop L i))[j]? := by
      intro L
      induction L with
      | nil => intro i hi; simp at hi
      | cons x L ih =>
        intro i hi j hj
        unfold hrow
        rw [List.flatMap_cons]
        cases i with
        | zero =>
          rw [List.getElem?_append_left (by simp [hcells]; omega)]
          simp [hop]
        | succ i =>
          rw [List.getElem?_append_right (by simp [hcells]; omega)]
          have : (i + 1) * 3 + j - (hcells x).length = i * 3 + j := by simp [hcells]; omega
          rw [this]
          have := ih i (by simpa using hi) j hj
          unfold hrow at this
          rw [this]
          simp [hop]
    exact ⟨g, cap, rfl, hx _ _ (by rw [show i * 3 = i * 3 + 0 from rfl, hr L i hi 0 (by omega)]; rfl), hx _ _ (by rw [hr L i hi 1 (by omega)]; rfl), hx _ _ (by rw [hr L i hi 2 (by omega)]; rfl)⟩

/-- where the rounds end -/
structure Ends (E : List (Eg ByteArray)) (s : ByteArray) (T : Nat) : Prop where
  go : ∀ j, j < T → j < (steps E s j).length
  stop : (steps E s T).length ≤ T
/-- what begin tells -/
def BegR (g : Gr) (s : ByteArray) (w : World) (e : Ending) (w' : World) : Prop :=
  (graphWhy g ≠ 0 → e = .returned (.tuple #[.pointer none, .int .i64 (graphWhy g)])) ∧ (graphWhy g = 0 → ¬ HasN g.N s → e = .returned (.tuple #[.pointer none, .int .i64 9])) ∧
  (graphWhy g = 0 → HasN g.N s → ∃ b bm T, e = .returned (.tuple #[.pointer (some ⟨b, 0, none⟩), .int .i64 0]) ∧ Ends (egs g.E) s T ∧ Wk (fun k => k < w.heap.size) b bm g.n g.e (steps (egs g.E) s T) w')
set_option maxHeartbeats 6400000 in
theorem begin_any (g : Gr) (gn ge : Value) (hgn : gn = g.n) (hge : ge = g.e) (s : ByteArray) (w : World) (h : GrAt w.heap.size w g) (hcap : g.N.length ≤ g.a) :
    Calls Try.prog 70 #[.agg #[gn, ge], .string s] w fun e w' => BegR g s w e w' ∧ Below w.heap.size w w' := by
  have hgn' : ∃ A n a, gn = .slice A n a := ⟨_, _, _, hgn⟩
  have hge' : ∃ A n a, ge = .slice A n a := ⟨_, _, _, hge⟩
  obtain ⟨A, n, a, rfl⟩ := hgn'
  obtain ⟨B, m, b2, rfl⟩ := hge'
  have HN := Lib.hid hgn
  have HE := Lib.hid hge
  clear hgn hge
  obtain ⟨W, hW⟩ : ∃ W, W = w.alloc (.cells #[.slice A n a, .slice B m b2] 45) := ⟨_, rfl⟩
  obtain ⟨bx, hbx⟩ : ∃ bx, bx = w.heap.size := ⟨_, rfl⟩
  have hB : Below w.heap.size w W := by rw [hW]; exact Joins.below_alloc1 w _
  have hsz : W.heap.size = bx + 1 := by rw [hW, hbx]; simp
  have z0 : W.cell? ⟨bx, 0, none⟩ = some (.slice A n a) := by rw [hW, hbx, cell_of_row _ _ 0 _ _ _ (heap_new w _)]; rfl
  have z1 : W.cell? ⟨bx, 1, none⟩ = some (.slice B m b2) := by rw [hW, hbx, cell_of_row _ _ 1 _ _ _ (heap_new w _)]; rfl
  have HB := Lib.hid hB
  have HG : Hid (∀ w', Below w.heap.size w w' → w.heap.size ≤ w'.heap.size → GrAt w'.heap.size w' g) := fun w' k hs => (h.below k).mono hs
  have HG0 := Lib.hid h
  have hbW : bx < W.heap.size := by omega
  have HSZ : Hid (bx = w.heap.size ∧ W.heap.size = bx + 1) := ⟨hbx, hsz⟩
  have HCAP := Lib.hid hcap
  obtain ⟨R, hR⟩ : ∃ R, R = graphWhy g := ⟨_, rfl⟩
  have HR := Lib.hid hR
  clear h hB hsz hR hcap
  go_enter Try.func70, Try.ntmps70
  go_upto_region 1 with (fail)
  rw [← hW, ← hbx]
  clear hW hbx
  go_wp2_with fail
  refine (graphCheck_any g _ _ HN.out HE.out W (HG.out W HB.out HB.out.size)).mono ?_
  rintro e w5 ⟨rfl, hB5⟩
  rw [← HR.out]
  have HB5 : Hid (Below w.heap.size w w5) := HB.out.trans (hB5.mono HB.out.size)
  by_cases r0 : R = 0
  · subst r0
    have hok : GrOk g := gr_ok HR.out.symm
    have HOK := Lib.hid hok
    have y0 : w5.cell? ⟨bx, 0, none⟩ = some (.slice A n a) := (hB5.cell (p := ⟨bx, 0, none⟩) hbW).trans z0
    have y1 : w5.cell? ⟨bx, 1, none⟩ = some (.slice B m b2) := (hB5.cell (p := ⟨bx, 1, none⟩) hbW).trans z1
    have hb5 : bx < w5.heap.size := Nat.lt_of_lt_of_le hbW hB5.size
    clear z0 z1 hB5 hok
    go_wp2_with fail
    refine (getNode_any g _ _ HN.out HE.out s w5 (HG.out w5 HB5.out HB5.out.size) HOK.out HCAP.out).mono ?_
    rintro e w6 ⟨⟨id, a1, n1, d1, a2, n2, d2, q, rfl, hq⟩, hB6⟩
    have HQ := Lib.hid hq
    have HB6 : Hid (Below w.heap.size w w6) := HB5.out.trans (hB6.mono HB5.out.size)
    have y06 : w6.cell? ⟨bx, 0, none⟩ = some (.slice A n a) := (hB6.cell (p := ⟨bx, 0, none⟩) hb5).trans y0
    have y16 : w6.cell? ⟨bx, 1, none⟩ = some (.slice B m b2) := (hB6.cell (p := ⟨bx, 1, none⟩) hb5).trans y1
    have hb6 : bx < w6.heap.size := Nat.lt_of_lt_of_le hb5 hB6.size
    clear hq hB6 y0 y1
    cases q with
    | false =>
      have hpost : Hid (∀ w', Below w.heap.size w w' → BegR g s w (.returned (.tuple #[.pointer none, .int .i64 9])) w') := fun w' _ => ⟨fun q => absurd HR.out.symm q, fun _ _ => rfl, fun _ q => absurd (HQ.out.2 q) (by simp)⟩
      go_wp2_with fail
      go_ret2
      exact ⟨hpost.out _ (HB6.out.alloc (by have := HB6.out.size; omega) _), HB6.out.alloc (by have := HB6.out.size; omega) _⟩
    | true =>
      have hhas : Hid (HasN g.N s) := HQ.out.1 rfl
      go_upto_region 7 with (fail)
      obtain ⟨X, hX⟩ : ∃ X, X = w6.alloc (.cells #[.string id, .slice a1 n1 d1, .slice a2 n2 d2] 59) := ⟨_, rfl⟩
      rw [← hX]
      have hXB : Below w6.heap.size w6 X := by rw [hX]; exact Joins.below_alloc1 w6 _
      have HXB : Hid (Below w.heap.size w X) := HB6.out.trans (hXB.mono HB6.out.size)
      have x0 : X.cell? ⟨bx, 0, none⟩ = some (.slice A n a) := (hXB.cell (p := ⟨bx, 0, none⟩) hb6).trans y06
      have x1 : X.cell? ⟨bx, 1, none⟩ = some (.slice B m b2) := (hXB.cell (p := ⟨bx, 1, none⟩) hb6).trans y16
      clear hX hXB y06 y16
      have hmk : ∀ (W : World), (Instr.makeMap 102 none).run Try.prog W = .ok (.map (some W.heap.size)) (W.alloc (.map #[] 0)) := fun W => rfl
      go_upto_region 8 with (fail)
      obtain ⟨Y, hY⟩ : ∃ Y, Y = (X.alloc (.map #[] 0)).alloc (.cells #[.slice A n a, .slice B m b2, .slice none 0 0, .map (some X.heap.size)] 111) := ⟨_, rfl⟩
      rw [← hY]
      obtain ⟨bm, hbm⟩ : ∃ bm, bm = X.heap.size := ⟨_, rfl⟩
      obtain ⟨b, hb⟩ : ∃ b, b = X.heap.size + 1 := ⟨_, rfl⟩
      rw [← hb, ← hbm]
      have HWK : Hid (Wk (fun k => k < w.heap.size) b bm (.slice A n a) (.slice B m b2) [] Y ∧ Below w.heap.size w Y) := by
        have hs := HXB.out.size
        have s1 : (X.alloc (.map #[] 0)).heap.size = X.heap.size + 1 := by simp
        have hk := heap_new (X.alloc (.map #[] 0)) (.cells #[.slice A n a, .slice B m b2, .slice none 0 0, .map (some X.heap.size)] 111)
        rw [s1, ← hb, ← hbm] at hk
        rw [← hbm] at hY
        rw [← hY] at hk
        have hBY : Below w.heap.size w Y := by rw [hY]; exact (HXB.out.alloc hs _).alloc (by simp; omega) _
        have hm : MapAt KS Y bm (fun _ => none) := by rw [hY, hbm]; exact (made KS X).below (Joins.below_alloc1 _ _) (by simp)
        refine ⟨⟨(cell_of_row _ _ 0 _ _ _ hk).trans rfl, (cell_of_row _ _ 1 _ _ _ hk).trans rfl, (cell_of_row _ _ 3 _ _ _ hk).trans rfl, frozen_of_row _ _ 2 _ _ hk, ⟨.slice none 0 0, (cell_of_row _ _ 2 _ _ _ hk).trans rfl, World.ownsRow_nil _ _ _ _, fun e => (by cases e), fun e => (by cases e), fun k e => (by cases e)⟩, ⟨_, hm, fun s => .inl ⟨by simp, rfl⟩⟩, ⟨by omega, by omega, by omega, (Array.getElem?_eq_some_iff.1 hk).1⟩, fun k hk' => Nat.lt_of_lt_of_le hk' hBY.size⟩, hBY⟩
      clear hY hbm hb x0 x1 hb5 hb6 hmk
      go_wp2_with fail
      refine (arrive_any (fun k => k < w.heap.size) b bm _ _ [] ⟨s, ⟨#[]⟩, 0⟩ Y HWK.out.1 (by simp)).mono ?_
      rintro e w8 ⟨rfl, hw8, hk8⟩
      have H8 : Hid (Wk (fun k => k < w.heap.size) b bm (.slice A n a) (.slice B m b2) (steps (egs g.E) s 0) w8 ∧ Below w.heap.size w w8) := ⟨hw8, HWK.out.2.trans (hk8.below (fun k hk => hk) HWK.out.2.size)⟩
      clear hw8 hk8
      go_wp2_with fail
      clear hbW
      go_loopw [11] (fun v wr => ∃ i : Nat, v = .int .i64 i ∧ i ≤ 600 ∧ (∀ j, j < i → j < (steps (egs g.E) s j).length) ∧ Wk (fun k => k < w.heap.size) b bm (.slice A n a) (.slice B m b2) (steps (egs g.E) s i) wr ∧ Below w.heap.size w wr) (fun v _ => 600 - (intOf v).toNat)
      case atStart => exact ⟨0, rfl, by omega, fun j hj => absurd hj (by omega), H8.out.1, H8.out.2⟩
      case round =>
        obtain ⟨i, rfl, hi, hall, hwk, hbl⟩ := hrel
        have hin := egs_in HOK.out
        have hsI := has_ids.1 hhas.out
        have hidl : (ids g.N).length ≤ 500 := by unfold ids; rw [List.length_map]; exact HOK.out.n
        have hlen := steps_len hin hsI i
        have HALL := Lib.hid hall
        obtain ⟨Li, hLi⟩ : ∃ Li, Li = steps (egs g.E) s i := ⟨_, rfl⟩
        have hI := inv_steps (egs g.E) s i hall
        have hnext : onE (hop Li i) (egs g.E) Li = steps (egs g.E) s (i + 1) := by rw [hLi]; rfl
        rw [← hLi] at hwk hlen hI
        obtain ⟨V, r1, r2, r3, r4, r5⟩ := hwk.row
        obtain ⟨av, cv, rfl⟩ := slice_of_own r2
        obtain ⟨len, hlen2⟩ : ∃ len, len = Li.length := ⟨_, rfl⟩
        have HLEN := Lib.hid hlen2
        have hl5 : len ≤ 500 := by omega
        have r1' : wr.cell? ⟨b, 2, none⟩ = some (.slice av len cv) := by rw [hlen2]; exact r1
        by_cases hil : i < len
        · obtain ⟨g1, cap, hV, k0, k1, k2⟩ := row_cells r2 (show i < Li.length by omega)
          have hav : av = some ⟨g1, 0, none⟩ := by injection hV
          subst hav
          obtain ⟨h1, hh1⟩ : ∃ h1, h1 = hop Li i := ⟨_, rfl⟩
          have hfar := hI.far_le i (by omega)
          rw [← hh1] at k0 k1 k2 hnext hfar
          have hls : ∀ k, k ≤ g.E.length → (onE h1 ((egs g.E).take k) Li).length ≤ 1000 := fun k _ => by
            have := onE_len (E := (egs g.E).take k) (U := ids g.N) (fun x hx => hin x (List.mem_of_mem_take hx)) (H := h1) (L := Li) (by rw [hLi]; exact steps_nodup _ _ _) (by rw [hLi]; exact steps_in hin hsI i)
            omega
          have HC : Hid (Calls Try.prog 87 #[.pointer (some ⟨b, 0, none⟩), .agg #[.string h1.id, .string h1.edge, .int .i64 h1.far]] wr fun e w' => e = .returned (.tuple #[]) ∧ Wk (fun k => k < w.heap.size) b bm (.slice A n a) (.slice B m b2) (onE h1 (egs g.E) Li) w' ∧ Kp (fun k => k < w.heap.size) wr w') :=
            on_any (fun k => k < w.heap.size) b bm g _ _ HE.out Li h1 wr hwk w.heap.size (fun k hk => hk) (HG0.out.below hbl) HOK.out.e hls (by omega)
          have HNEXT := Lib.hid hnext
          have HBL := Lib.hid hbl
          have hil2 : i < Li.length := by omega
          have HNX : Hid (∀ j, j < i + 1 → j < (steps (egs g.E) s j).length) := fun j hj => by
            rcases Nat.lt_or_ge j i with q | q
            · exact HALL.out j q
            · rw [show j = i by omega, ← hLi]; exact hil2
          obtain ⟨f1, hf1⟩ : ∃ f1, f1 = h1.far := ⟨_, rfl⟩
          obtain ⟨d1', hd1⟩ : ∃ d1', d1' = h1.id := ⟨_, rfl⟩
          obtain ⟨e1, he1⟩ : ∃ e1, e1 = h1.edge := ⟨_, rfl⟩
          rw [← hf1] at k2 HC
          rw [← hd1] at k0 HC
          rw [← he1] at k1 HC
          clear hall hwk hbl hin hsI hidl hlen hLi hI hnext r1 r2 r3 r4 r5 hlen2 hV hh1 hfar hls hf1 hd1 he1 hil2
          go_wp2_with fail
          refine HC.out.mono ?_
          rintro e w9 ⟨rfl, k9, q9⟩
          have H9 : Hid (Wk (fun k => k < w.heap.size) b bm (.slice A n a) (.slice B m b2) (steps (egs g.E) s (i + 1)) w9 ∧ Below w.heap.size w w9) := ⟨by rw [← HNEXT.out]; exact k9, HBL.out.trans (q9.below (fun k hk => hk) HBL.out.size)⟩
          clear k9 q9 k0 k1 k2 r1'
          go_wp2_with fail
          go_roundw
          case rel => exact ⟨i + 1, by go_num, by omega, HNX.out, H9.out.1, H9.out.2⟩
          case measure => simp [intOf]; omega
        · have hge : decide (i < len) = false := by simp; omega
          have HEND : Hid (BegR g s w (.returned (.tuple #[.pointer (some ⟨b, 0, none⟩), .int .i64 0])) wr ∧ Below w.heap.size w wr) := by
            refine ⟨⟨fun q => absurd HR.out.symm q, fun _ q => absurd hhas.out q, fun _ _ => ⟨b, bm, i, rfl, ⟨hall, by rw [← hLi]; omega⟩, ?_⟩⟩, hbl⟩
            rw [← hLi, ← HN.out, ← HE.out]
            exact hwk
          clear hall hwk hbl hin hsI hidl hlen hLi hI hnext r1 r2 r3 r4 r5 hlen2 hil hi
          go_wp2_with fail
          go_ret2
          exact HEND.out
  · have e0 : (R != 0) = true := by simpa using r0
    have hpost : Hid (BegR g s w (.returned (.tuple #[.pointer none, .int .i64 R])) w5) := ⟨fun _ => by rw [HR.out], fun q => absurd (HR.out.trans q) r0, fun q => absurd (HR.out.trans q) r0⟩
    clear r0 hB5
    go_wp2_with fail
    go_ret2
    exact ⟨hpost.out, HB5.out⟩
end Go.Proofs.Ytpaegpbabfohcaa.Paths
