/-
  Rows of records that come in; the walks of the journal's Tail and Rise.
-/
import Derived.Test.YtfbakelpplpomaaGreatDoorJournB
import Derived.Lib.SmallJoins
import Derived.ChangeSlices
import Derived.Deep.Slices
import Derived.SizedLaws
import Derived.DataReads
import Derived.Test.YtfbakelpplpomaaGreatDoorWalkDiskC
import Derived.SliceStrings
import Derived.Test.YtfbakelpplpomaaGreatDoorWalkDiskJ
namespace Go.Proofs.YtfbakelpplpomaaGreatDoor.Disk
open Go.RowKit Go.Proofs.YtfbakelpplpomaaGreatDoor.DiskRows
set_option linter.unusedVariables false
set_option linter.unusedSimpArgs false
set_option maxRecDepth 100000

/-- a record -/
structure Rx where
  e : Int
  q : Int
  k : Int
  N : ByteArray
  O : ByteArray
  M : ByteArray
  t : Int
  u : Int
instance : Inhabited Rx := ⟨⟨0, 0, 0, ByteArray.empty, ByteArray.empty, ByteArray.empty, 0, 0⟩⟩
def Rx.cells (r : Rx) : List Value := [.int .i64 r.e, .int .i64 r.q, .int .i64 r.k, .string r.N, .string r.O, .string r.M, .int .i64 r.t, .int .i64 r.u]
/-- a row of records lies there -/
def Rxs (w : World) (A : Option Addr) (l : List Rx) : Prop := l = [] ∨ ∃ g off, A = some ⟨g, off, none⟩ ∧ g < w.heap.size ∧ ∀ k (h : k < l.length) j u, (l[k].cells)[j]? = some u → w.cell? ⟨g, off + k * 8 + j, none⟩ = some u
theorem Rxs.later {w w' : World} {A : Option Addr} {l : List Rx} (h : Rxs w A l) (k : Below w.heap.size w w') : Rxs w' A l := by
  rcases h with rfl | ⟨g, off, rfl, hg, hc⟩
  · exact .inl rfl
  · exact .inr ⟨g, off, rfl, Nat.lt_of_lt_of_le hg k.size, fun i hi j u hu => by rw [k.cell (p := ⟨g, off + i * 8 + j, none⟩) hg]; exact hc i hi j u hu⟩
theorem Rxs.later' {w w' : World} {A : Option Addr} {l : List Rx} (h : Rxs w A l) (k : Below w.heap.size w w') : Rxs w' A l := h.later k
def lastT (t : Int) (l : List Rx) : Int := l.foldl (fun _ r => r.t) t
def lastU (u : Int) (l : List Rx) : Int := l.foldl (fun _ r => r.u) u
theorem lastT_take (t : Int) (l : List Rx) (k : Nat) (h : k < l.length) : lastT t (l.take (k + 1)) = l[k].t := by
  unfold lastT
  rw [List.take_succ_eq_append_getElem h, List.foldl_append]
  rfl
theorem lastU_take (t : Int) (l : List Rx) (k : Nat) (h : k < l.length) : lastU t (l.take (k + 1)) = l[k].u := by
  unfold lastU
  rw [List.take_succ_eq_append_getElem h, List.foldl_append]
  rfl
/-- does a record fall? -/
def falls (l : List Rx) (i : Nat) : Bool := match l[i]?, i with
  | some a, j + 1 => (match l[j]? with | some p => decide (a.t < p.t) || decide (a.u < p.u) | none => false)
  | _, _ => false
def riseK (l : List Rx) (k : Nat) : Bool := (List.range k).all fun i => !falls l i
theorem riseK_succ (l : List Rx) (k : Nat) : riseK l (k + 1) = (riseK l k && !falls l k) := by
  unfold riseK
  rw [List.range_succ, List.all_append]
  simp
theorem falls_zero (l : List Rx) : falls l 0 = false := by unfold falls; split <;> simp_all
theorem falls_succ (l : List Rx) (m : Nat) (h : m + 1 < l.length) : falls l (m + 1) = (decide (l[m + 1].t < l[m].t) || decide (l[m + 1].u < l[m].u)) := by
  unfold falls
  simp only [List.getElem?_eq_getElem h, List.getElem?_eq_getElem (show m < l.length by omega)]
theorem riseK_false {l : List Rx} {k n : Nat} (h : falls l k = true) (hk : k < n) : riseK l n = false := by
  unfold riseK
  rw [List.all_eq_false]
  exact ⟨k, List.mem_range.2 hk, by rw [h]; decide⟩
theorem riseK_small (l : List Rx) (h : l.length ≤ 1) : riseK l l.length = true := by
  have hc : l.length = 0 ∨ l.length = 1 := by omega
  rcases hc with hc | hc
  · rw [hc]; rfl
  · rw [hc, riseK_succ, falls_zero]; rfl
theorem belowN {B : Nat} {w w' : World} (h : Below B w w') (n : Nat) : Below B w (w'.drewN n) := ⟨h.os, h.tape, h.output, h.size, h.block⟩
end Go.Proofs.YtfbakelpplpomaaGreatDoor.Disk
namespace Go.Proofs.YtfbakelpplpomaaGreatDoor.Disk
open Go.RowKit Go.Proofs.YtfbakelpplpomaaGreatDoor.DiskRows Go.ChangeShapes Go.WideShapes Go.Deep
set_option linter.unusedVariables false
set_option linter.unusedSimpArgs false
set_option maxRecDepth 100000
variable {H : Type} {enc : TypeId × Value → H} {W : World} {base : Nat} {spare : Nat → Bool} {held : Bool}

theorem addr_of8 {a : Addr} {v : Value} (h : W.cell? (a.add 0) = some v) : ∃ g off, a = ⟨g, off, none⟩ ∧ g < W.heap.size := by
  obtain ⟨g, off, spot⟩ := a
  have hs : spot = none := by simpa [Addr.add] using World.cell?_spot h
  subst hs
  refine ⟨g, off, rfl, ?_⟩
  unfold World.cell? at h
  rcases Nat.lt_or_ge g W.heap.size with q | q
  · exact q
  · simp [Addr.add, Array.getElem?_eq_none q] at h
/-- what a record's reading says -/
structure RxOk (a : Rx) : Prop where
  e : (Lit.int .i64 a.e).wf = true
  q : (Lit.int .i64 a.q).wf = true
  k : (Lit.int .i64 a.k).wf = true
  t : (Lit.int .i64 a.t).wf = true
  u : (Lit.int .i64 a.u).wf = true
  N : a.N.size ≤ maxLen
  O : a.O.size ≤ maxLen
  M : a.M.size ≤ maxLen
theorem rec_open {fuel : Nat} {cs : List Value} {x : DataW H × List MemPlace} (h : DataW.trod enc Tryz.prog W base spare held fuel 24 cs = some x) :
    ∃ a : Rx, cs = a.cells ∧ RxOk a := by
  obtain ⟨xs, n, _, rfl, hl, hlen, hf⟩ := DataW.trod_struct Tryz.underlying24 h
  have hC : Tryz.prog.cellsOf 24 = 8 := by kernel_rfl
  have k1 : Tryz.prog.cellsOf 3 = 1 := by kernel_rfl
  have k2 : Tryz.prog.cellsOf 9 = 1 := by kernel_rfl
  rw [hC] at hl
  match cs, hl, xs, hlen with
  | [c0, c1, c2, c3, c4, c5, c6, c7], _, [y0, y1, y2, y3, y4, y5, y6, y7], _ =>
    have g0 := hf 0 _ rfl
    have g1 := hf 1 _ rfl
    have g2 := hf 2 _ rfl
    have g3 := hf 3 _ rfl
    have g4 := hf 4 _ rfl
    have g5 := hf 5 _ rfl
    have g6 := hf 6 _ rfl
    have g7 := hf 7 _ rfl
    simp [k1, k2] at g0 g1 g2 g3 g4 g5 g6 g7
    obtain ⟨z0, e0, -, w0⟩ := DataW.trod_int Tryz.underlying3 g0
    obtain ⟨z1, e1, -, w1⟩ := DataW.trod_int Tryz.underlying3 g1
    obtain ⟨z2, e2, -, w2⟩ := DataW.trod_int Tryz.underlying3 g2
    obtain ⟨s3, e3, -, w3⟩ := DataW.trod_string Tryz.underlying9 g3
    obtain ⟨s4, e4, -, w4⟩ := DataW.trod_string Tryz.underlying9 g4
    obtain ⟨s5, e5, -, w5⟩ := DataW.trod_string Tryz.underlying9 g5
    obtain ⟨z6, e6, -, w6⟩ := DataW.trod_int Tryz.underlying3 g6
    obtain ⟨z7, e7, -, w7⟩ := DataW.trod_int Tryz.underlying3 g7
    simp at e0 e1 e2 e3 e4 e5 e6 e7
    subst e0 e1 e2 e3 e4 e5 e6 e7
    exact ⟨⟨z0, z1, z2, s3, s4, s5, z6, z7⟩, rfl, ⟨w0, w1, w2, w6, w7, w3, w4, w5⟩⟩
theorem choose_below8 {α : Type} [Inhabited α] {n : Nat} {P : Nat → α → Prop} (h : ∀ i, i < n → ∃ a, P i a) : ∃ f : Nat → α, ∀ i, i < n → P i (f i) := by
  have : ∀ i, ∃ a, i < n → P i a := fun i => by
    by_cases hi : i < n
    · obtain ⟨a, ha⟩ := h i hi
      exact ⟨a, fun _ => ha⟩
    · exact ⟨default, fun k => absurd k hi⟩
  exact Classical.skolem.1 this
theorem recs_open {fuel : Nat} {cs : List Value} {x : DataW H × List MemPlace} (h : DataW.trod enc Tryz.prog W base spare held fuel 22 cs = some x) :
    ∃ A l c, cs = [.slice A l.length c] ∧ Rxs W A l ∧ l.length ≤ maxLen ∧ ∀ a ∈ l, RxOk a := by
  rcases open_slice Tryz.underlying22 h with ⟨rfl, _⟩ | ⟨a, len, cap, m, n, D, Pl, rfl, _, hl, hm, hmm, rfl, hx⟩
  · exact ⟨none, [], 0, rfl, .inl rfl, by simp, by simp⟩
  · have hlm : len ≤ m := by rw [hmm]; split <;> omega
    have hC : Tryz.prog.cellsOf 24 = 8 := by kernel_rfl
    have each : ∀ i, i < len → ∃ q : Rx, (∀ j, j < 8 → W.cell? ((a.add (i * 8)).add j) = q.cells[j]?) ∧ RxOk q := fun i hi => by
      obtain ⟨cs', h1, h2⟩ := hx i (by omega)
      rw [hC] at h1
      obtain ⟨_, hlen, hcell⟩ := World.cells?_some h1
      obtain ⟨q, rfl, hq⟩ := rec_open h2
      exact ⟨q, hcell, hq⟩
    obtain ⟨f, hf⟩ := choose_below8 each
    have hlen : ((List.range len).map f).length = len := by simp
    refine ⟨some a, (List.range len).map f, cap, by rw [hlen], ?_, by rw [hlen]; omega, fun q hq => ?_⟩
    · rcases Nat.eq_zero_or_pos len with rfl | hp
      · left; rfl
      · have h0 := (hf 0 hp).1 0 (by omega)
        rw [Nat.zero_mul] at h0
        have ha : (a.add 0).add 0 = a.add 0 := by simp [Addr.add]
        rw [ha] at h0
        obtain ⟨g, off, rfl, hg⟩ := addr_of8 (h0.trans rfl)
        refine .inr ⟨g, off, rfl, hg, fun k hk j u hu => ?_⟩
        simp at hu
        rw [hlen] at hk
        have hj : j < 8 := by
          have := (List.getElem?_eq_some_iff.1 hu).1
          simpa [Rx.cells] using this
        have := (hf k hk).1 j hj
        rw [Addr.add_lit, Addr.add_lit] at this
        rw [this]
        exact hu
    · obtain ⟨i, hi, rfl⟩ := List.mem_map.1 hq
      exact (hf i (by simpa using hi)).2
end Go.Proofs.YtfbakelpplpomaaGreatDoor.Disk
/-
  A row of numbers, opened from a reading.
-/
namespace Go.Proofs.YtfbakelpplpomaaGreatDoor.Disk
open Go.RowKit Go.Proofs.YtfbakelpplpomaaGreatDoor.DiskRows Go.ChangeShapes Go.WideShapes Go.Deep
set_option linter.unusedVariables false
set_option linter.unusedSimpArgs false
set_option maxRecDepth 100000
variable {H : Type} {enc : TypeId × Value → H} {W : World} {base : Nat} {spare : Nat → Bool} {held : Bool}

/-- what a reading weighs is within reach -/
def Reach (t : TypeId) (d : DataW H) : Prop := ∀ n ∈ d.weights Tryz.prog t, n ≤ reachBytes
theorem addr_of {a : Addr} {v : Value} (h : W.cell? (a.add 0) = some v) : ∃ g off, a = ⟨g, off, none⟩ ∧ g < W.heap.size := by
  obtain ⟨g, off, spot⟩ := a
  have hs : spot = none := by simpa [Addr.add] using World.cell?_spot h
  subst hs
  refine ⟨g, off, rfl, ?_⟩
  unfold World.cell? at h
  rcases Nat.lt_or_ge g W.heap.size with q | q
  · exact q
  · simp [Addr.add, Array.getElem?_eq_none q] at h
theorem nums_open {fuel : Nat} {cs : List Value} {x : DataW H × List MemPlace} (h : DataW.trod enc Tryz.prog W base spare held fuel 26 cs = some x) :
    ∃ A n c K, cs = [.slice A n c] ∧ K.length = n ∧ Nums W A K ∧ (∀ z ∈ K, (Lit.int .i64 z).wf = true) ∧ n ≤ maxLen := by
  rcases open_ints Tryz.underlying26 Tryz.underlying3 (by kernel_rfl) h with ⟨rfl, _⟩ | ⟨a, len, cap, zs, rfl, _, hl, hm, hz, _, hc, hw⟩
  · exact ⟨none, 0, 0, [], rfl, rfl, .inl rfl, by simp, by simp⟩
  · have hle : len ≤ zs.length := by rw [hz]; split <;> omega
    have hlen : (zs.take len).length = len := by simp; omega
    refine ⟨some a, len, cap, zs.take len, rfl, hlen, ?_, fun z hz => hw z (List.mem_of_mem_take hz), by omega⟩
    rcases Nat.eq_zero_or_pos len with rfl | hp
    · left; simp
    · obtain ⟨g, off, rfl, hg⟩ := addr_of (hc 0 (by omega))
      refine .inr ⟨g, off, rfl, hg, fun i hi => ?_⟩
      rw [hlen] at hi
      have := hc i (by omega)
      rw [Addr.add_lit] at this
      rw [this]
      simp [List.getD_eq_getElem?_getD, hi]
theorem wf_le {n : Int} (h : (Lit.int .i64 n).wf = true) : n ≤ 9223372036854775807 := by
  simp [Lit.wf, IntKind.wrap_i64] at h
  omega
end Go.Proofs.YtfbakelpplpomaaGreatDoor.Disk
/-
  A row of texts, opened from a reading.
-/
namespace Go.Proofs.YtfbakelpplpomaaGreatDoor.Disk
open Go.RowKit Go.Proofs.YtfbakelpplpomaaGreatDoor.DiskRows Go.ChangeShapes Go.WideShapes Go.Deep
set_option linter.unusedVariables false
set_option linter.unusedSimpArgs false
set_option maxRecDepth 100000
variable {H : Type} {enc : TypeId × Value → H} {W : World} {base : Nat} {spare : Nat → Bool} {held : Bool}

theorem txs_open0 {fuel : Nat} {cs : List Value} {x : DataW H × List MemPlace} (h : DataW.trod enc Tryz.prog W base spare held fuel 25 cs = some x) :
    ∃ A n c l, cs = [.slice A n c] ∧ l.length = n ∧ Txs W A l ∧ (∀ s ∈ l, s.size ≤ maxLen) ∧ n ≤ maxLen := by
  rcases open_strings Tryz.underlying25 Tryz.underlying9 (by kernel_rfl) h with ⟨rfl, _⟩ | ⟨a, len, cap, zs, rfl, _, hl, hm, hz, rfl, hc, hw⟩
  · exact ⟨none, 0, 0, [], rfl, rfl, .inl rfl, by simp, by simp⟩
  · have hle : len ≤ zs.length := by rw [hz]; split <;> omega
    have hlen : (zs.take len).length = len := by simp; omega
    refine ⟨some a, len, cap, zs.take len, rfl, hlen, ?_, fun z hz => hw z (List.mem_of_mem_take hz), by omega⟩
    rcases Nat.eq_zero_or_pos len with rfl | hp
    · left; simp
    · obtain ⟨g, off, rfl, hg⟩ := addr_of (hc 0 (by omega))
      refine .inr ⟨g, off, rfl, hg, fun i hi => ?_⟩
      rw [hlen] at hi
      have := hc i (by omega)
      rw [Addr.add_lit] at this
      rw [this]
      simp [List.getD_eq_getElem?_getD, hi]
end Go.Proofs.YtfbakelpplpomaaGreatDoor.Disk
