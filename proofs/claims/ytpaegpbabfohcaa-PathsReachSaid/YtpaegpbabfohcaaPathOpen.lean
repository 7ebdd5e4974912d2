/-
  graphs, opened from a reading.
-/
import Derived.Test.YtpaegpbabfohcaaPathGraph
import Derived.Lib.SmallJoins
import Derived.SliceStrings
import Derived.ChangeSlices
import Derived.Deep.Slices
import Derived.SizedLaws
import Derived.DataReads
namespace Go.Proofs.Ytpaegpbabfohcaa.Paths
open Go.RowKit Go.ChangeShapes Go.WideShapes Go.Deep Go.Proofs.Ytpaegpbabfohcaa.WalkBytes
set_option linter.unusedVariables false
set_option linter.unusedSimpArgs false
set_option maxRecDepth 100000
variable {H : Type} {enc : TypeId × Value → H} {W : World} {base : Nat} {spare : Nat → Bool} {held : Bool}

/-- what a reading weighs is within reach -/
def Reached (t : TypeId) (d : DataW H) : Prop := ∀ n ∈ d.weights Try.prog t, n ≤ reachBytes
theorem weightsAll_mem (t : TypeId) : ∀ {l : List (DataW H)} {d : DataW H}, d ∈ l → ∀ n ∈ d.weights Try.prog t, n ∈ DataW.weightsAll Try.prog t l
  | [], _, h, _, _ => by simp at h
  | a :: l, d, h, n, hn => by
    rw [DataW.weightsAll, List.mem_append]
    rcases List.mem_cons.1 h with rfl | h
    · exact .inl hn
    · exact .inr (weightsAll_mem t h n hn)
theorem reach_elem {t e : TypeId} (ht : Try.prog.underlying t = some (.slice e)) {es sp : List (DataW H)} (h : Reached t (.slice es sp)) {d : DataW H} (hd : d ∈ es) : Reached e d := fun n hn => h n (by
  simp only [DataW.weights, ht]
  exact List.mem_cons_of_mem _ (List.mem_append_left _ (weightsAll_mem e hd n hn)))
theorem reach_field {t : TypeId} {fs : Array Field} (ht : Try.prog.underlying t = some (.struct fs)) {ps : List (DataW H)} (h : Reached t (.agg ps)) {j : Nat} {t' : TypeId} {d : DataW H} (h1 : (fs.toList.map (·.type))[j]? = some t') (h2 : ps[j]? = some d) : Reached t' d := fun n hn => h n (by
  simp only [DataW.weights, ht]
  exact DataW.weights_mem_each h1 h2 n hn)
theorem reach_text {t : TypeId} {l : List UInt8} (h : Reached (H := H) t (.lit (.string l))) : l.length ≤ 9223372036854775806 := by
  have := h l.length (by simp [DataW.weights])
  unfold reachBytes at this
  omega
theorem addr_of {a : Addr} {v : Value} (h : W.cell? (a.add 0) = some v) : ∃ g off, a = ⟨g, off, none⟩ ∧ g < W.heap.size := by
  obtain ⟨g, off, spot⟩ := a
  have hs : spot = none := by simpa [Addr.add] using World.cell?_spot h
  subst hs
  refine ⟨g, off, rfl, ?_⟩
  unfold World.cell? at h
  rcases Nat.lt_or_ge g W.heap.size with q | q
  · exact q
  · simp [Addr.add, Array.getElem?_eq_none q] at h
theorem choose_below {α : Type} [Inhabited α] {n : Nat} {P : Nat → α → Prop} (h : ∀ i, i < n → ∃ a, P i a) : ∃ f : Nat → α, ∀ i, i < n → P i (f i) := by
  have : ∀ i, ∃ a, i < n → P i a := fun i => by
    by_cases hi : i < n
    · obtain ⟨a, ha⟩ := h i hi
      exact ⟨a, fun _ => ha⟩
    · exact ⟨default, fun k => absurd k hi⟩
  exact Classical.skolem.1 this
theorem strs_open {fuel : Nat} {cs : List Value} {x : DataW H × List MemPlace} (h : DataW.trod enc Try.prog W base spare held fuel 56 cs = some x) (hr : Reached 56 x.1) :
    ∃ A l c, cs = [.slice A l.length c] ∧ Strs W A l ∧ Bd W.heap.size A l ∧ (∀ s ∈ l, s.size ≤ 9223372036854775806) ∧ l.length ≤ 9223372036854775807 := by
  rcases open_strings Try.underlying56 Try.underlying9 (by kernel_rfl) h with ⟨rfl, _⟩ | ⟨a, len, cap, zs, rfl, _, hl, hm, hz, rfl, hc, hw⟩
  · exact ⟨none, [], 0, rfl, .inl rfl, by simp [Bd], by simp, by simp⟩
  · have hle : len ≤ zs.length := by rw [hz]; split <;> omega
    have hlen : (zs.take len).length = len := by simp; omega
    unfold maxLen at hm
    refine ⟨some a, zs.take len, cap, by rw [hlen], ?_, ?_, fun s hs => ?_, by omega⟩
    · rcases Nat.eq_zero_or_pos len with rfl | hp
      · left; simp
      · obtain ⟨g, off, rfl, hg⟩ := addr_of (hc 0 (by omega))
        refine .inr ⟨g, off, rfl, fun i hi => ?_⟩
        rw [hlen] at hi
        have := hc i (by omega)
        rw [Addr.add_lit] at this
        rw [this]
        simp [List.getD_eq_getElem?_getD, hi]
    · intro hne g off e
      rcases Nat.eq_zero_or_pos len with rfl | hp
      · simp at hne
      · obtain ⟨g', off', rfl, hg⟩ := addr_of (hc 0 (by omega))
        injection e with e
        injection e with e1 e2 _
        omega
    · have := reach_text (reach_elem Try.underlying56 hr (d := .lit (.string s.data.toList)) (by
        unfold strs
        exact List.mem_map.2 ⟨s, hs, rfl⟩))
      simpa using this
theorem prop_open {fuel : Nat} {cs : List Value} {x : DataW H × List MemPlace} (h : DataW.trod enc Try.prog W base spare held fuel 127 cs = some x) (hr : Reached 127 x.1) :
    ∃ q : Pr, cs = [.string q.key, .int .i64 q.k, .int .i64 q.n, .string q.t] ∧ q.key.size ≤ 9223372036854775806 := by
  obtain ⟨xs, n, _, rfl, hl, hlen, hf⟩ := DataW.trod_struct Try.underlying127 h
  have hC : Try.prog.cellsOf 127 = 4 := by kernel_rfl
  have k1 : Try.prog.cellsOf 9 = 1 := by kernel_rfl
  have k2 : Try.prog.cellsOf 125 = 3 := by kernel_rfl
  have k3 : Try.prog.cellsOf 3 = 1 := by kernel_rfl
  rw [hC] at hl
  match cs, hl, xs, hlen with
  | [c0, c1, c2, c3], _, [y0, y1], _ =>
    have g0 := hf 0 _ rfl
    have g1 := hf 1 _ rfl
    simp [k1, k2] at g0 g1
    obtain ⟨s, e0, d0, -⟩ := DataW.trod_string Try.underlying9 g0
    obtain ⟨xs2, n2, _, _, hl2, hlen2, hf2⟩ := DataW.trod_struct Try.underlying125 g1
    match xs2, hlen2 with
    | [z0, z1, z2], _ =>
      have f0 := hf2 0 _ rfl
      have f1 := hf2 1 _ rfl
      have f2 := hf2 2 _ rfl
      simp [k1, k3] at f0 f1 f2
      obtain ⟨i0, e1, -, -⟩ := DataW.trod_int Try.underlying3 f0
      obtain ⟨i1, e2, -, -⟩ := DataW.trod_int Try.underlying3 f1
      obtain ⟨t, e3, -, -⟩ := DataW.trod_string Try.underlying9 f2
      have hk := reach_field Try.underlying127 hr (j := 0) (d := y0.1) rfl rfl
      simp at e0 e1 e2 e3
      subst e0 e1 e2 e3
      rw [d0] at hk
      refine ⟨⟨s, i0, i1, t⟩, rfl, ?_⟩
      have := reach_text hk
      simpa using this
theorem props_open {fuel : Nat} {cs : List Value} {x : DataW H × List MemPlace} (h : DataW.trod enc Try.prog W base spare held fuel 57 cs = some x) (hr : Reached 57 x.1) :
    ∃ A l c, cs = [.slice A l.length c] ∧ Prs W A l ∧ Bd W.heap.size A l ∧ (∀ q ∈ l, q.key.size ≤ 9223372036854775806) ∧ l.length ≤ 9223372036854775807 := by
  rcases open_slice Try.underlying57 h with ⟨rfl, _⟩ | ⟨a, len, cap, m, n, D, Pl, rfl, _, hl, hm, hmm, rfl, hx⟩
  · exact ⟨none, [], 0, rfl, .inl rfl, by simp [Bd], by simp, by simp⟩
  · have hlm : len ≤ m := by rw [hmm]; split <;> omega
    unfold maxLen at hm
    have hC : Try.prog.cellsOf 127 = 4 := by kernel_rfl
    have each : ∀ i, i < len → ∃ q : Pr, (W.cell? ((a.add (i * 4)).add 0) = some (.string q.key) ∧ W.cell? ((a.add (i * 4)).add 1) = some (.int .i64 q.k) ∧ W.cell? ((a.add (i * 4)).add 2) = some (.int .i64 q.n) ∧ W.cell? ((a.add (i * 4)).add 3) = some (.string q.t)) ∧ q.key.size ≤ 9223372036854775806 := fun i hi => by
      obtain ⟨cs', h1, h2⟩ := hx i (by omega)
      rw [hC] at h1
      obtain ⟨_, hlen, hcell⟩ := World.cells?_some h1
      obtain ⟨q, rfl, hq⟩ := prop_open h2 (reach_elem Try.underlying57 hr (List.mem_map.2 ⟨i, by simp [hi], rfl⟩))
      exact ⟨q, ⟨hcell 0 (by omega), hcell 1 (by omega), hcell 2 (by omega), hcell 3 (by omega)⟩, hq⟩
    obtain ⟨f, hf⟩ := choose_below each
    have hlen : ((List.range len).map f).length = len := by simp
    refine ⟨some a, (List.range len).map f, cap, by rw [hlen], ?_, ?_, fun q hq => ?_, by rw [hlen]; omega⟩
    · rcases Nat.eq_zero_or_pos len with rfl | hp
      · left; rfl
      · have h0 := (hf 0 hp).1.1
        rw [Nat.zero_mul] at h0
        have ha : (a.add 0).add 0 = a.add 0 := by simp [Addr.add]
        rw [ha] at h0
        obtain ⟨g, off, rfl, hg⟩ := addr_of h0
        refine .inr ⟨g, off, rfl, fun k hk => ?_⟩
        rw [hlen] at hk
        have e : pr ((List.range len).map f) k = f k := by unfold pr; simp [List.getD_eq_getElem?_getD, hk]
        obtain ⟨⟨c1, c2, c3, c4⟩, c5⟩ := hf k hk
        rw [e]
        rw [Addr.add_lit, Addr.add_lit] at c1 c2 c3 c4
        exact ⟨c1, c2, c3, c4⟩
    · intro hne g off e
      rcases Nat.eq_zero_or_pos len with rfl | hp
      · simp at hne
      · have h0 := (hf 0 hp).1.1
        rw [Nat.zero_mul] at h0
        have ha : (a.add 0).add 0 = a.add 0 := by simp [Addr.add]
        rw [ha] at h0
        obtain ⟨g', off', rfl, hg⟩ := addr_of h0
        injection e with e
        injection e with e1 e2 _
        omega
    · obtain ⟨i, hi, rfl⟩ := List.mem_map.1 hq
      exact (hf i (by simpa using hi)).2
theorem node_open {fuel : Nat} {cs : List Value} {x : DataW H × List MemPlace} (h : DataW.trod enc Try.prog W base spare held fuel 59 cs = some x) (hr : Reached 59 x.1) :
    ∃ q : Nd, cs = [.string q.id, q.x.l, q.x.p] ∧ LpAt W.heap.size W q.x ∧ q.id.size ≤ 9223372036854775806 := by
  obtain ⟨xs, n, _, rfl, hl, hlen, hf⟩ := DataW.trod_struct Try.underlying59 h
  have hC : Try.prog.cellsOf 59 = 3 := by kernel_rfl
  have k1 : Try.prog.cellsOf 9 = 1 := by kernel_rfl
  have k2 : Try.prog.cellsOf 56 = 1 := by kernel_rfl
  have k3 : Try.prog.cellsOf 57 = 1 := by kernel_rfl
  rw [hC] at hl
  match cs, hl, xs, hlen with
  | [c0, c1, c2], _, [y0, y1, y2], _ =>
    have g0 := hf 0 _ rfl
    have g1 := hf 1 _ rfl
    have g2 := hf 2 _ rfl
    simp [k1, k2, k3] at g0 g1 g2
    obtain ⟨s, e0, d0, -⟩ := DataW.trod_string Try.underlying9 g0
    have r0 := reach_field Try.underlying59 hr (j := 0) (d := y0.1) rfl rfl
    have r1 := reach_field Try.underlying59 hr (j := 1) (d := y1.1) rfl rfl
    have r2 := reach_field Try.underlying59 hr (j := 2) (d := y2.1) rfl rfl
    obtain ⟨A, l, c, e1, a1, a2, a3, a4⟩ := strs_open g1 r1
    obtain ⟨B, p, b, e2, b1, b2, b3, b4⟩ := props_open g2 r2
    rw [d0] at r0
    have := reach_text r0
    simp at e0 e1 e2
    subst e0 e1 e2
    exact ⟨⟨s, ⟨A, l, c, B, p, b⟩⟩, rfl, ⟨a1, b1, a2, b2, a4, b4, a3, b3⟩, by simpa using this⟩
theorem edge_open {fuel : Nat} {cs : List Value} {x : DataW H × List MemPlace} (h : DataW.trod enc Try.prog W base spare held fuel 74 cs = some x) (hr : Reached 74 x.1) :
    ∃ q : Ed, cs = [.string q.id, .string q.fr, .string q.tt, q.x.l, q.x.p] ∧ LpAt W.heap.size W q.x ∧ q.id.size ≤ 9223372036854775806 ∧ q.fr.size ≤ 9223372036854775806 ∧ q.tt.size ≤ 9223372036854775806 := by
  obtain ⟨xs, n, _, rfl, hl, hlen, hf⟩ := DataW.trod_struct Try.underlying74 h
  have hC : Try.prog.cellsOf 74 = 5 := by kernel_rfl
  have k1 : Try.prog.cellsOf 9 = 1 := by kernel_rfl
  have k2 : Try.prog.cellsOf 56 = 1 := by kernel_rfl
  have k3 : Try.prog.cellsOf 57 = 1 := by kernel_rfl
  rw [hC] at hl
  match cs, hl, xs, hlen with
  | [c0, c1, c2, c3, c4], _, [y0, y1, y2, y3, y4], _ =>
    have g0 := hf 0 _ rfl
    have g1 := hf 1 _ rfl
    have g2 := hf 2 _ rfl
    have g3 := hf 3 _ rfl
    have g4 := hf 4 _ rfl
    simp [k1, k2, k3] at g0 g1 g2 g3 g4
    obtain ⟨s, e0, d0, -⟩ := DataW.trod_string Try.underlying9 g0
    obtain ⟨s1, f1, d1, -⟩ := DataW.trod_string Try.underlying9 g1
    obtain ⟨s2, f2, d2, -⟩ := DataW.trod_string Try.underlying9 g2
    have r0 := reach_field Try.underlying74 hr (j := 0) (d := y0.1) rfl rfl
    have q1 := reach_field Try.underlying74 hr (j := 1) (d := y1.1) rfl rfl
    have q2 := reach_field Try.underlying74 hr (j := 2) (d := y2.1) rfl rfl
    have r1 := reach_field Try.underlying74 hr (j := 3) (d := y3.1) rfl rfl
    have r2 := reach_field Try.underlying74 hr (j := 4) (d := y4.1) rfl rfl
    obtain ⟨A, l, c, e1, a1, a2, a3, a4⟩ := strs_open g3 r1
    obtain ⟨B, p, b, e2, b1, b2, b3, b4⟩ := props_open g4 r2
    rw [d0] at r0
    rw [d1] at q1
    rw [d2] at q2
    have t0 := reach_text r0
    have t1 := reach_text q1
    have t2 := reach_text q2
    simp at e0 f1 f2 e1 e2
    subst e0 f1 f2 e1 e2
    exact ⟨⟨s, s1, s2, ⟨A, l, c, B, p, b⟩⟩, rfl, ⟨a1, b1, a2, b2, a4, b4, a3, b3⟩, by simpa using t0, by simpa using t1, by simpa using t2⟩
theorem nodes_open {fuel : Nat} {cs : List Value} {x : DataW H × List MemPlace} (h : DataW.trod enc Try.prog W base spare held fuel 42 cs = some x) (hr : Reached 42 x.1) :
    ∃ A l c, cs = [.slice A l.length c] ∧ Nds W.heap.size W A l ∧ l.length ≤ c ∧ c ≤ 9223372036854775807 := by
  rcases open_slice Try.underlying42 h with ⟨rfl, _⟩ | ⟨a, len, cap, m, n, D, Pl, rfl, _, hl, hm, hmm, rfl, hx⟩
  · exact ⟨none, [], 0, rfl, .inl rfl, by simp, by simp⟩
  · have hlm : len ≤ m := by rw [hmm]; split <;> omega
    unfold maxLen at hm
    have hC : Try.prog.cellsOf 59 = 3 := by kernel_rfl
    have each : ∀ i, i < len → ∃ q : Nd, (W.cell? ((a.add (i * 3)).add 0) = some (.string q.id) ∧ W.cell? ((a.add (i * 3)).add 1) = some q.x.l ∧ W.cell? ((a.add (i * 3)).add 2) = some q.x.p) ∧ LpAt W.heap.size W q.x ∧ q.id.size ≤ 9223372036854775806 := fun i hi => by
      obtain ⟨cs', h1, h2⟩ := hx i (by omega)
      rw [hC] at h1
      obtain ⟨_, hlen, hcell⟩ := World.cells?_some h1
      obtain ⟨q, rfl, hq⟩ := node_open h2 (reach_elem Try.underlying42 hr (List.mem_map.2 ⟨i, by simp [hi], rfl⟩))
      exact ⟨q, ⟨hcell 0 (by omega), hcell 1 (by omega), hcell 2 (by omega)⟩, hq⟩
    obtain ⟨f, hf⟩ := choose_below each
    have hlen : ((List.range len).map f).length = len := by simp
    refine ⟨some a, (List.range len).map f, cap, by rw [hlen], ?_, by rw [hlen]; omega, hm⟩
    rcases Nat.eq_zero_or_pos len with rfl | hp
    · left; rfl
    · have h0 := (hf 0 hp).1.1
      rw [Nat.zero_mul] at h0
      have ha : (a.add 0).add 0 = a.add 0 := by simp [Addr.add]
      rw [ha] at h0
      obtain ⟨g, off, rfl, hg⟩ := addr_of h0
      refine .inr ⟨g, off, rfl, hg, fun k hk => ?_⟩
      rw [hlen] at hk
      have e : nd ((List.range len).map f) k = f k := by unfold nd; simp [List.getD_eq_getElem?_getD, hk]
      obtain ⟨⟨c1, c2, c3⟩, c4, c5⟩ := hf k hk
      rw [e]
      rw [Addr.add_lit, Addr.add_lit] at c1 c2 c3
      exact ⟨c1, c2, c3, c4, c5⟩
theorem edges_open {fuel : Nat} {cs : List Value} {x : DataW H × List MemPlace} (h : DataW.trod enc Try.prog W base spare held fuel 43 cs = some x) (hr : Reached 43 x.1) :
    ∃ A l c, cs = [.slice A l.length c] ∧ Eds W.heap.size W A l ∧ l.length ≤ c ∧ c ≤ 9223372036854775807 := by
  rcases open_slice Try.underlying43 h with ⟨rfl, _⟩ | ⟨a, len, cap, m, n, D, Pl, rfl, _, hl, hm, hmm, rfl, hx⟩
  · exact ⟨none, [], 0, rfl, .inl rfl, by simp, by simp⟩
  · have hlm : len ≤ m := by rw [hmm]; split <;> omega
    unfold maxLen at hm
    have hC : Try.prog.cellsOf 74 = 5 := by kernel_rfl
    have each : ∀ i, i < len → ∃ q : Ed, (W.cell? ((a.add (i * 5)).add 0) = some (.string q.id) ∧ W.cell? ((a.add (i * 5)).add 1) = some (.string q.fr) ∧ W.cell? ((a.add (i * 5)).add 2) = some (.string q.tt) ∧ W.cell? ((a.add (i * 5)).add 3) = some q.x.l ∧ W.cell? ((a.add (i * 5)).add 4) = some q.x.p) ∧ LpAt W.heap.size W q.x ∧ q.id.size ≤ 9223372036854775806 ∧ q.fr.size ≤ 9223372036854775806 ∧ q.tt.size ≤ 9223372036854775806 := fun i hi => by
      obtain ⟨cs', h1, h2⟩ := hx i (by omega)
      rw [hC] at h1
      obtain ⟨_, hlen, hcell⟩ := World.cells?_some h1
      obtain ⟨q, rfl, hq⟩ := edge_open h2 (reach_elem Try.underlying43 hr (List.mem_map.2 ⟨i, by simp [hi], rfl⟩))
      exact ⟨q, ⟨hcell 0 (by omega), hcell 1 (by omega), hcell 2 (by omega), hcell 3 (by omega), hcell 4 (by omega)⟩, hq⟩
    obtain ⟨f, hf⟩ := choose_below each
    have hlen : ((List.range len).map f).length = len := by simp
    refine ⟨some a, (List.range len).map f, cap, by rw [hlen], ?_, by rw [hlen]; omega, hm⟩
    rcases Nat.eq_zero_or_pos len with rfl | hp
    · left; rfl
    · have h0 := (hf 0 hp).1.1
      rw [Nat.zero_mul] at h0
      have ha : (a.add 0).add 0 = a.add 0 := by simp [Addr.add]
      rw [ha] at h0
      obtain ⟨g, off, rfl, hg⟩ := addr_of h0
      refine .inr ⟨g, off, rfl, hg, fun k hk => ?_⟩
      rw [hlen] at hk
      have e : ed ((List.range len).map f) k = f k := by unfold ed; simp [List.getD_eq_getElem?_getD, hk]
      obtain ⟨⟨c1, c2, c3, c4, c5⟩, c6⟩ := hf k hk
      rw [e]
      rw [Addr.add_lit, Addr.add_lit] at c1 c2 c3 c4 c5
      exact ⟨c1, c2, c3, c4, c5, c6⟩
theorem graph_open {fuel : Nat} {cs : List Value} {x : DataW H × List MemPlace} (h : DataW.trod enc Try.prog W base spare held fuel 45 cs = some x) (hr : Reached 45 x.1) :
    ∃ g : Gr, cs = [g.n, g.e] ∧ GrAt W.heap.size W g ∧ g.N.length ≤ g.a ∧ g.E.length ≤ g.b := by
  obtain ⟨xs, n, _, rfl, hl, hlen, hf⟩ := DataW.trod_struct Try.underlying45 h
  have hC : Try.prog.cellsOf 45 = 2 := by kernel_rfl
  have k1 : Try.prog.cellsOf 42 = 1 := by kernel_rfl
  have k2 : Try.prog.cellsOf 43 = 1 := by kernel_rfl
  rw [hC] at hl
  match cs, hl, xs, hlen with
  | [c0, c1], _, [y0, y1], _ =>
    have g0 := hf 0 _ rfl
    have g1 := hf 1 _ rfl
    simp [k1, k2] at g0 g1
    have r0 := reach_field Try.underlying45 hr (j := 0) (d := y0.1) rfl rfl
    have r1 := reach_field Try.underlying45 hr (j := 1) (d := y1.1) rfl rfl
    obtain ⟨A, l, c, e1, a1, a2, a3⟩ := nodes_open g0 r0
    obtain ⟨B, p, b, e2, b1, b2, b3⟩ := edges_open g1 r1
    simp at e1 e2
    subst e1 e2
    exact ⟨⟨A, l, c, B, p, b⟩, rfl, ⟨a1, b1, by show l.length ≤ _; omega, by show p.length ≤ _; omega⟩, a2, b2⟩
end Go.Proofs.Ytpaegpbabfohcaa.Paths
