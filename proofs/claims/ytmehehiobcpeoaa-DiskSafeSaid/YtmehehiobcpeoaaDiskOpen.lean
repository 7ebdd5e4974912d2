/-
  Calls, images, rows of these: opened from a reading.
-/
import Derived.Test.YtmehehiobcpeoaaWalkDiskM
import Derived.Lib.SmallJoins
import Derived.SliceStrings
import Derived.ChangeSlices
import Derived.Deep.Slices
import Derived.SizedLaws
import Derived.DataReads
namespace Go.Proofs.Ytmehehiobcpeoaa.Disk
open Go.RowKit Go.Proofs.Ytmehehiobcpeoaa.DiskRows Go.ChangeShapes Go.WideShapes Go.Deep
set_option linter.unusedVariables false
set_option linter.unusedSimpArgs false
set_option maxRecDepth 100000
variable {H : Type} {enc : TypeId × Value → H} {W : World} {base : Nat} {spare : Nat → Bool} {held : Bool}

/-- what a reading weighs is within reach -/
def Reach (t : TypeId) (d : DataW H) : Prop := ∀ n ∈ d.weights Try.prog t, n ≤ reachBytes
theorem addr_of {a : Addr} {v : Value} (h : W.cell? (a.add 0) = some v) : ∃ g off, a = ⟨g, off, none⟩ ∧ g < W.heap.size := by
  obtain ⟨g, off, spot⟩ := a
  have hs : spot = none := by simpa [Addr.add] using World.cell?_spot h
  subst hs
  refine ⟨g, off, rfl, ?_⟩
  unfold World.cell? at h
  rcases Nat.lt_or_ge g W.heap.size with q | q
  · exact q
  · simp [Addr.add, Array.getElem?_eq_none q] at h
theorem nums_open {fuel : Nat} {cs : List Value} {x : DataW H × List MemPlace} (h : DataW.trod enc Try.prog W base spare held fuel 37 cs = some x) :
    ∃ A n c K, cs = [.slice A n c] ∧ K.length = n ∧ Nums W A K ∧ (∀ z ∈ K, (Lit.int .i64 z).wf = true) ∧ n ≤ maxLen := by
  rcases open_ints Try.underlying37 Try.underlying3 (by kernel_rfl) h with ⟨rfl, _⟩ | ⟨a, len, cap, zs, rfl, _, hl, hm, hz, _, hc, hw⟩
  · exact ⟨none, 0, 0, [], rfl, rfl, .inl rfl, by simp, by simp⟩
  · have hle : len ≤ zs.length := by rw [hz]; split <;> omega
    have hlen : (zs.take len).length = len := by simp; omega
    refine ⟨some a, len, cap, zs.take len, rfl, hlen, ?_, fun z hz => hw z (List.mem_of_mem_take hz), by omega⟩
    rcases Nat.eq_zero_or_pos len with rfl | hp
    · left; simp
    · obtain ⟨g, off, rfl, hg⟩ := addr_of (hc 0 (by omega))
      refine .inr ⟨g, off, rfl, hg, fun i hi => ?_⟩
      rw [hlen] at hi
      have := hc i (by omega)
      rw [Addr.add_lit] at this
      rw [this]
      simp [List.getD_eq_getElem?_getD, hi]
theorem txs_open {fuel : Nat} {cs : List Value} {x : DataW H × List MemPlace} (h : DataW.trod enc Try.prog W base spare held fuel 29 cs = some x) (hr : Reach 29 x.1) :
    ∃ A n c l, cs = [.slice A n c] ∧ l.length = n ∧ Txs W A l ∧ (∀ s ∈ l, s.size ≤ maxLen) ∧ n * 16 ≤ reachBytes := by
  rcases open_strings Try.underlying29 Try.underlying9 (by kernel_rfl) h with ⟨rfl, _⟩ | ⟨a, len, cap, zs, rfl, _, hl, hm, hz, rfl, hc, hw⟩
  · exact ⟨none, 0, 0, [], rfl, rfl, .inl rfl, by simp, by simp⟩
  · have hle : len ≤ zs.length := by rw [hz]; split <;> omega
    have hlen : (zs.take len).length = len := by simp; omega
    have hb : Try.prog.bytesOf 9 = 16 := by kernel_rfl
    have hwt := hr _ (by simp only [DataW.weights, Try.underlying29]; exact List.mem_cons_self)
    refine ⟨some a, len, cap, zs.take len, rfl, hlen, ?_, fun z hz => hw z (List.mem_of_mem_take hz), ?_⟩
    · rcases Nat.eq_zero_or_pos len with rfl | hp
      · left; simp
      · obtain ⟨g, off, rfl, hg⟩ := addr_of (hc 0 (by omega))
        refine .inr ⟨g, off, rfl, hg, fun i hi => ?_⟩
        rw [hlen] at hi
        have := hc i (by omega)
        rw [Addr.add_lit] at this
        rw [this]
        simp [List.getD_eq_getElem?_getD, hi]
    · rw [hb] at hwt
      have : (strs (H := H) (zs.take len)).length = len := by simp [strs]; omega
      rw [this] at hwt
      exact Nat.le_trans (by rw [Nat.add_mul]; omega) hwt
/-- a call that was read -/
structure AcOk (W : World) (a : Ac) : Prop where
  text : a.text.size ≤ reachBytes
  kind : (Lit.int .i64 a.kind).wf = true
  place : (Lit.int .i64 a.place).wf = true
  n : (Lit.int .i64 a.n).wf = true
  kl : a.kl ≤ maxLen
  keep : ∃ K, K.length = a.kl ∧ Nums W a.ka K ∧ ∀ z ∈ K, (Lit.int .i64 z).wf = true
theorem act_open {fuel : Nat} {cs : List Value} {x : DataW H × List MemPlace} (h : DataW.trod enc Try.prog W base spare held fuel 39 cs = some x) (hr : Reach 39 x.1) :
    ∃ a : Ac, cs = a.cells ∧ AcOk W a := by
  obtain ⟨xs, n, _, rfl, hl, hlen, hf⟩ := DataW.trod_struct Try.underlying39 h
  have hC : Try.prog.cellsOf 39 = 6 := by kernel_rfl
  have k1 : Try.prog.cellsOf 3 = 1 := by kernel_rfl
  have k2 : Try.prog.cellsOf 9 = 1 := by kernel_rfl
  have k3 : Try.prog.cellsOf 4 = 1 := by kernel_rfl
  have k4 : Try.prog.cellsOf 37 = 1 := by kernel_rfl
  rw [hC] at hl
  match cs, hl, xs, hlen with
  | [c0, c1, c2, c3, c4, c5], _, [y0, y1, y2, y3, y4, y5], _ =>
    have g0 := hf 0 _ rfl
    have g1 := hf 1 _ rfl
    have g2 := hf 2 _ rfl
    have g3 := hf 3 _ rfl
    have g4 := hf 4 _ rfl
    have g5 := hf 5 _ rfl
    simp [k1, k2, k3, k4] at g0 g1 g2 g3 g4 g5
    obtain ⟨z0, e0, -, w0⟩ := DataW.trod_int Try.underlying3 g0
    obtain ⟨z1, e1, -, w1⟩ := DataW.trod_int Try.underlying3 g1
    obtain ⟨z2, e2, -, w2⟩ := DataW.trod_int Try.underlying3 g2
    obtain ⟨s, e3, hs, w3⟩ := DataW.trod_string Try.underlying9 g3
    obtain ⟨b, e4, -⟩ := DataW.trod_bool Try.underlying4 g4
    obtain ⟨A, n, c, K, e5, hK, hN, hw, hm⟩ := nums_open g5
    simp at e0 e1 e2 e3 e4 e5
    subst e0 e1 e2 e3 e4 e5
    refine ⟨⟨z0, z1, z2, s, b, A, n, c⟩, rfl, ⟨?_, w0, w1, w2, hm, K, hK, hN, hw⟩⟩
    have := hr s.data.toList.length (by
      simp only [DataW.weights, Try.underlying39, List.map_cons, hs]
      simp [DataW.weightsEach, DataW.weights])
    simpa using this
theorem choose_below {α : Type} [Inhabited α] {n : Nat} {P : Nat → α → Prop} (h : ∀ i, i < n → ∃ a, P i a) : ∃ f : Nat → α, ∀ i, i < n → P i (f i) := by
  have : ∀ i, ∃ a, i < n → P i a := fun i => by
    by_cases hi : i < n
    · obtain ⟨a, ha⟩ := h i hi
      exact ⟨a, fun _ => ha⟩
    · exact ⟨default, fun k => absurd k hi⟩
  exact Classical.skolem.1 this
instance : Inhabited Ac := ⟨⟨0, 0, 0, ByteArray.empty, false, none, 0, 0⟩⟩
theorem weightsAll_mem (t : TypeId) : ∀ {l : List (DataW H)} {d : DataW H}, d ∈ l → ∀ n ∈ d.weights Try.prog t, n ∈ DataW.weightsAll Try.prog t l
  | [], _, h, _, _ => by simp at h
  | a :: l, d, h, n, hn => by
    rw [DataW.weightsAll, List.mem_append]
    rcases List.mem_cons.1 h with rfl | h
    · exact .inl hn
    · exact .inr (weightsAll_mem t h n hn)
theorem reach_elem {t e : TypeId} (ht : Try.prog.underlying t = some (.slice e)) {es sp : List (DataW H)} (h : Reach t (.slice es sp)) {d : DataW H} (hd : d ∈ es) : Reach e d := fun n hn => h n (by
  simp only [DataW.weights, ht]
  exact List.mem_cons_of_mem _ (List.mem_append_left _ (weightsAll_mem e hd n hn)))
theorem acs_open {fuel : Nat} {cs : List Value} {x : DataW H × List MemPlace} (h : DataW.trod enc Try.prog W base spare held fuel 22 cs = some x) (hr : Reach 22 x.1) :
    ∃ A l c, cs = [.slice A l.length c] ∧ Acs W A l ∧ l.length ≤ maxLen ∧ ∀ a ∈ l, AcOk W a := by
  rcases open_slice Try.underlying22 h with ⟨rfl, _⟩ | ⟨a, len, cap, m, n, D, Pl, rfl, _, hl, hm, hmm, rfl, hx⟩
  · exact ⟨none, [], 0, rfl, .inl rfl, by simp, by simp⟩
  · have hlm : len ≤ m := by rw [hmm]; split <;> omega
    have hC : Try.prog.cellsOf 39 = 6 := by kernel_rfl
    have each : ∀ i, i < len → ∃ q : Ac, (∀ j, j < 6 → W.cell? ((a.add (i * 6)).add j) = q.cells[j]?) ∧ AcOk W q := fun i hi => by
      obtain ⟨cs', h1, h2⟩ := hx i (by omega)
      rw [hC] at h1
      obtain ⟨_, hlen, hcell⟩ := World.cells?_some h1
      obtain ⟨q, rfl, hq⟩ := act_open h2 (reach_elem Try.underlying22 hr (List.mem_map.2 ⟨i, by simp [hi], rfl⟩))
      exact ⟨q, hcell, hq⟩
    obtain ⟨f, hf⟩ := choose_below each
    have hlen : ((List.range len).map f).length = len := by simp
    refine ⟨some a, (List.range len).map f, cap, by rw [hlen], ?_, by rw [hlen]; omega, fun q hq => ?_⟩
    · rcases Nat.eq_zero_or_pos len with rfl | hp
      · left; rfl
      · have h0 := (hf 0 hp).1 0 (by omega)
        rw [Nat.zero_mul] at h0
        have ha : (a.add 0).add 0 = a.add 0 := by simp [Addr.add]
        rw [ha] at h0
        obtain ⟨g, off, rfl, hg⟩ := addr_of (h0.trans rfl)
        refine .inr ⟨g, off, rfl, hg, fun k hk j u hu => ?_⟩
        simp at hu
        rw [hlen] at hk
        have hj : j < 6 := by
          have := (List.getElem?_eq_some_iff.1 hu).1
          simpa [Ac.cells] using this
        have := (hf k hk).1 j hj
        rw [Addr.add_lit, Addr.add_lit] at this
        rw [this]
        exact hu
    · obtain ⟨i, hi, rfl⟩ := List.mem_map.1 hq
      exact (hf i (by simpa using hi)).2
theorem wrs_open {fuel : Nat} {cs : List Value} {x : DataW H × List MemPlace} (h : DataW.trod enc Try.prog W base spare held fuel 30 cs = some x) (hr : Reach 30 x.1) :
    ∃ A n c C, cs = [.slice A n c] ∧ C.length = n ∧ Wrs W A C ∧ (∀ q ∈ C, (Lit.int .i64 q.1).wf = true ∧ q.2.size ≤ maxLen) ∧ n * 24 ≤ reachBytes := by
  rcases open_slice Try.underlying30 h with ⟨rfl, _⟩ | ⟨a, len, cap, m, n, D, Pl, rfl, _, hl, hm, hmm, rfl, hx⟩
  · exact ⟨none, 0, 0, [], rfl, rfl, .inl rfl, by simp, by simp⟩
  · have hlm : len ≤ m := by rw [hmm]; split <;> omega
    have hC : Try.prog.cellsOf 65 = 2 := by kernel_rfl
    have hb : Try.prog.bytesOf 65 = 24 := by kernel_rfl
    have k1 : Try.prog.cellsOf 3 = 1 := by kernel_rfl
    have k2 : Try.prog.cellsOf 9 = 1 := by kernel_rfl
    have hwt := hr _ (by simp only [DataW.weights, Try.underlying30]; exact List.mem_cons_self)
    have each : ∀ i, i < len → ∃ q : Int × ByteArray, (W.cell? ((a.add (i * 2)).add 0) = some (.int .i64 q.1) ∧ W.cell? ((a.add (i * 2)).add 1) = some (.string q.2)) ∧ (Lit.int .i64 q.1).wf = true ∧ q.2.size ≤ maxLen := fun i hi => by
      obtain ⟨cs', h1, h2⟩ := hx i (by omega)
      rw [hC] at h1
      obtain ⟨_, hlen, hcell⟩ := World.cells?_some h1
      obtain ⟨xs, n, _, _, hl, hxl, hf⟩ := DataW.trod_struct Try.underlying65 h2
      match cs', hlen, xs, hxl with
      | [c0, c1], _, [y0, y1], _ =>
        have g0 := hf 0 _ rfl
        have g1 := hf 1 _ rfl
        simp [k1, k2] at g0 g1
        obtain ⟨z, e0, -, w0⟩ := DataW.trod_int Try.underlying3 g0
        obtain ⟨s, e1, -, w1⟩ := DataW.trod_string Try.underlying9 g1
        simp at e0 e1
        subst e0 e1
        exact ⟨(z, s), ⟨hcell 0 (by omega), hcell 1 (by omega)⟩, w0, w1⟩
    obtain ⟨f, hf⟩ := choose_below each
    have hlen : ((List.range len).map f).length = len := by simp
    refine ⟨some a, len, cap, (List.range len).map f, rfl, hlen, ?_, fun q hq => ?_, ?_⟩
    · rcases Nat.eq_zero_or_pos len with rfl | hp
      · left; rfl
      · have h0 := (hf 0 hp).1.1
        rw [Nat.zero_mul] at h0
        have ha : (a.add 0).add 0 = a.add 0 := by simp [Addr.add]
        rw [ha] at h0
        obtain ⟨g, off, rfl, hg⟩ := addr_of (h0.trans rfl)
        refine .inr ⟨g, off, rfl, hg, fun k hk => ?_⟩
        rw [hlen] at hk
        have := (hf k hk).1
        rw [Addr.add_lit, Addr.add_lit, Addr.add_lit, Nat.add_zero] at this
        have hg : ((List.range len).map f).getD k (0, ByteArray.empty) = f k := by simp [List.getD_eq_getElem?_getD, hk]
        rw [hg]
        exact this
    · obtain ⟨i, hi, rfl⟩ := List.mem_map.1 hq
      exact (hf i (by simpa using hi)).2
    · rw [hb] at hwt
      simp only [List.length_map, List.length_range] at hwt
      exact Nat.le_trans (by rw [Nat.add_mul]; omega) hwt
theorem image_open {fuel : Nat} {cs : List Value} {x : DataW H × List MemPlace} (h : DataW.trod enc Try.prog W base spare held fuel 32 cs = some x) (hr : Reach 32 x.1) :
    ∃ A n c A' n' c' l C, cs = [.slice A n c, .slice A' n' c'] ∧ l.length = n ∧ C.length = n' ∧ Txs W A l ∧ Wrs W A' C ∧ (∀ s ∈ l, s.size ≤ maxLen) ∧ (∀ q ∈ C, (Lit.int .i64 q.1).wf = true ∧ q.2.size ≤ maxLen) ∧ n * 16 ≤ reachBytes ∧ n' * 24 ≤ reachBytes := by
  obtain ⟨xs, n, _, rfl, hl, hlen, hf⟩ := DataW.trod_struct Try.underlying32 h
  have hC : Try.prog.cellsOf 32 = 2 := by kernel_rfl
  have k1 : Try.prog.cellsOf 29 = 1 := by kernel_rfl
  have k2 : Try.prog.cellsOf 30 = 1 := by kernel_rfl
  rw [hC] at hl
  match cs, hl, xs, hlen with
  | [c0, c1], _, [y0, y1], _ =>
    have g0 := hf 0 _ rfl
    have g1 := hf 1 _ rfl
    simp [k1, k2] at g0 g1
    have r0 : Reach 29 y0.1 := fun n hn => hr n (by
      simp only [DataW.weights, Try.underlying32, List.map_cons]
      simp [DataW.weightsEach, hn])
    have r1 : Reach 30 y1.1 := fun n hn => hr n (by
      simp only [DataW.weights, Try.underlying32, List.map_cons]
      simp [DataW.weightsEach, hn])
    obtain ⟨A, n, c, l, e0, a1, a2, a3, a4⟩ := txs_open g0 r0
    obtain ⟨A', n', c', C, e1, b1, b2, b3, b4⟩ := wrs_open g1 r1
    simp at e0 e1
    subst e0 e1
    exact ⟨A, n, c, A', n', c', l, C, rfl, a1, b1, a2, b2, a3, b3, a4, b4⟩
end Go.Proofs.Ytmehehiobcpeoaa.Disk
