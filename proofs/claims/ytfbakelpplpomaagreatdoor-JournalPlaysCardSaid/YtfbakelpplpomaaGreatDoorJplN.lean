/-
  Rows of records that come in; the walks of the journal's Tail and Rise.
-/
import Derived.Test.YtfbakelpplpomaaGreatDoorJournB
import Derived.Lib.SmallJoins
import Derived.ChangeSlices
import Derived.Deep.Slices
import Derived.SizedLaws
import Derived.DataReads
import Derived.Test.YtfbakelpplpomaaGreatDoorWalkDiskC
import Derived.SliceStrings
import Derived.Test.YtfbakelpplpomaaGreatDoorWalkDiskJ
import Derived.Test.YtfbakelpplpomaaGreatDoorDiskMore
import Derived.Deep.QuietTactic
import Derived.BigQuiet
namespace Go.Proofs.YtfbakelpplpomaaGreatDoor.Disk
open Go.RowKit Go.Proofs.YtfbakelpplpomaaGreatDoor.DiskRows
set_option linter.unusedVariables false
set_option linter.unusedSimpArgs false
set_option maxRecDepth 100000

/-- a record -/
structure Rx where
  e : Int
  q : Int
  k : Int
  N : ByteArray
  O : ByteArray
  M : ByteArray
  t : Int
  u : Int
instance : Inhabited Rx := ⟨⟨0, 0, 0, ByteArray.empty, ByteArray.empty, ByteArray.empty, 0, 0⟩⟩
def Rx.cells (r : Rx) : List Value := [.int .i64 r.e, .int .i64 r.q, .int .i64 r.k, .string r.N, .string r.O, .string r.M, .int .i64 r.t, .int .i64 r.u]
/-- a row of records lies there -/
def Rxs (w : World) (A : Option Addr) (l : List Rx) : Prop := l = [] ∨ ∃ g off, A = some ⟨g, off, none⟩ ∧ g < w.heap.size ∧ ∀ k (h : k < l.length) j u, (l[k].cells)[j]? = some u → w.cell? ⟨g, off + k * 8 + j, none⟩ = some u
theorem Rxs.later {w w' : World} {A : Option Addr} {l : List Rx} (h : Rxs w A l) (k : Below w.heap.size w w') : Rxs w' A l := by
  rcases h with rfl | ⟨g, off, rfl, hg, hc⟩
  · exact .inl rfl
  · exact .inr ⟨g, off, rfl, Nat.lt_of_lt_of_le hg k.size, fun i hi j u hu => by rw [k.cell (p := ⟨g, off + i * 8 + j, none⟩) hg]; exact hc i hi j u hu⟩
theorem Rxs.later' {w w' : World} {A : Option Addr} {l : List Rx} (h : Rxs w A l) (k : Below w.heap.size w w') : Rxs w' A l := h.later k
def lastT (t : Int) (l : List Rx) : Int := l.foldl (fun _ r => r.t) t
def lastU (u : Int) (l : List Rx) : Int := l.foldl (fun _ r => r.u) u
theorem lastT_take (t : Int) (l : List Rx) (k : Nat) (h : k < l.length) : lastT t (l.take (k + 1)) = l[k].t := by
  unfold lastT
  rw [List.take_succ_eq_append_getElem h, List.foldl_append]
  rfl
theorem lastU_take (t : Int) (l : List Rx) (k : Nat) (h : k < l.length) : lastU t (l.take (k + 1)) = l[k].u := by
  unfold lastU
  rw [List.take_succ_eq_append_getElem h, List.foldl_append]
  rfl
/-- does a record fall? -/
def falls (l : List Rx) (i : Nat) : Bool := match l[i]?, i with
  | some a, j + 1 => (match l[j]? with | some p => decide (a.t < p.t) || decide (a.u < p.u) | none => false)
  | _, _ => false
def riseK (l : List Rx) (k : Nat) : Bool := (List.range k).all fun i => !falls l i
theorem riseK_succ (l : List Rx) (k : Nat) : riseK l (k + 1) = (riseK l k && !falls l k) := by
  unfold riseK
  rw [List.range_succ, List.all_append]
  simp
theorem falls_zero (l : List Rx) : falls l 0 = false := by unfold falls; split <;> simp_all
theorem falls_succ (l : List Rx) (m : Nat) (h : m + 1 < l.length) : falls l (m + 1) = (decide (l[m + 1].t < l[m].t) || decide (l[m + 1].u < l[m].u)) := by
  unfold falls
  simp only [List.getElem?_eq_getElem h, List.getElem?_eq_getElem (show m < l.length by omega)]
theorem riseK_false {l : List Rx} {k n : Nat} (h : falls l k = true) (hk : k < n) : riseK l n = false := by
  unfold riseK
  rw [List.all_eq_false]
  exact ⟨k, List.mem_range.2 hk, by rw [h]; decide⟩
theorem riseK_small (l : List Rx) (h : l.length ≤ 1) : riseK l l.length = true := by
  have hc : l.length = 0 ∨ l.length = 1 := by omega
  rcases hc with hc | hc
  · rw [hc]; rfl
  · rw [hc, riseK_succ, falls_zero]; rfl
theorem belowN {B : Nat} {w w' : World} (h : Below B w w') (n : Nat) : Below B w (w'.drewN n) := ⟨h.os, h.tape, h.output, h.size, h.block⟩
end Go.Proofs.YtfbakelpplpomaaGreatDoor.Disk
namespace Go.Proofs.YtfbakelpplpomaaGreatDoor.Disk
open Go.RowKit Go.Proofs.YtfbakelpplpomaaGreatDoor.DiskRows Go.ChangeShapes Go.WideShapes Go.Deep
set_option linter.unusedVariables false
set_option linter.unusedSimpArgs false
set_option maxRecDepth 100000
variable {H : Type} {enc : TypeId × Value → H} {W : World} {base : Nat} {spare : Nat → Bool} {held : Bool}

theorem addr_of8 {a : Addr} {v : Value} (h : W.cell? (a.add 0) = some v) : ∃ g off, a = ⟨g, off, none⟩ ∧ g < W.heap.size := by
  obtain ⟨g, off, spot⟩ := a
  have hs : spot = none := by simpa [Addr.add] using World.cell?_spot h
  subst hs
  refine ⟨g, off, rfl, ?_⟩
  unfold World.cell? at h
  rcases Nat.lt_or_ge g W.heap.size with q | q
  · exact q
  · simp [Addr.add, Array.getElem?_eq_none q] at h
/-- what a record's reading says -/
structure RxOk (a : Rx) : Prop where
  e : (Lit.int .i64 a.e).wf = true
  q : (Lit.int .i64 a.q).wf = true
  k : (Lit.int .i64 a.k).wf = true
  t : (Lit.int .i64 a.t).wf = true
  u : (Lit.int .i64 a.u).wf = true
  N : a.N.size ≤ maxLen
  O : a.O.size ≤ maxLen
  M : a.M.size ≤ maxLen
theorem rec_open {fuel : Nat} {cs : List Value} {x : DataW H × List MemPlace} (h : DataW.trod enc Tryz.prog W base spare held fuel 24 cs = some x) :
    ∃ a : Rx, cs = a.cells ∧ RxOk a := by
  obtain ⟨xs, n, _, rfl, hl, hlen, hf⟩ := DataW.trod_struct Tryz.underlying24 h
  have hC : Tryz.prog.cellsOf 24 = 8 := by kernel_rfl
  have k1 : Tryz.prog.cellsOf 3 = 1 := by kernel_rfl
  have k2 : Tryz.prog.cellsOf 9 = 1 := by kernel_rfl
  rw [hC] at hl
  match cs, hl, xs, hlen with
  | [c0, c1, c2, c3, c4, c5, c6, c7], _, [y0, y1, y2, y3, y4, y5, y6, y7], _ =>
    have g0 := hf 0 _ rfl
    have g1 := hf 1 _ rfl
    have g2 := hf 2 _ rfl
    have g3 := hf 3 _ rfl
    have g4 := hf 4 _ rfl
    have g5 := hf 5 _ rfl
    have g6 := hf 6 _ rfl
    have g7 := hf 7 _ rfl
    simp [k1, k2] at g0 g1 g2 g3 g4 g5 g6 g7
    obtain ⟨z0, e0, -, w0⟩ := DataW.trod_int Tryz.underlying3 g0
    obtain ⟨z1, e1, -, w1⟩ := DataW.trod_int Tryz.underlying3 g1
    obtain ⟨z2, e2, -, w2⟩ := DataW.trod_int Tryz.underlying3 g2
    obtain ⟨s3, e3, -, w3⟩ := DataW.trod_string Tryz.underlying9 g3
    obtain ⟨s4, e4, -, w4⟩ := DataW.trod_string Tryz.underlying9 g4
    obtain ⟨s5, e5, -, w5⟩ := DataW.trod_string Tryz.underlying9 g5
    obtain ⟨z6, e6, -, w6⟩ := DataW.trod_int Tryz.underlying3 g6
    obtain ⟨z7, e7, -, w7⟩ := DataW.trod_int Tryz.underlying3 g7
    simp at e0 e1 e2 e3 e4 e5 e6 e7
    subst e0 e1 e2 e3 e4 e5 e6 e7
    exact ⟨⟨z0, z1, z2, s3, s4, s5, z6, z7⟩, rfl, ⟨w0, w1, w2, w6, w7, w3, w4, w5⟩⟩
theorem choose_below8 {α : Type} [Inhabited α] {n : Nat} {P : Nat → α → Prop} (h : ∀ i, i < n → ∃ a, P i a) : ∃ f : Nat → α, ∀ i, i < n → P i (f i) := by
  have : ∀ i, ∃ a, i < n → P i a := fun i => by
    by_cases hi : i < n
    · obtain ⟨a, ha⟩ := h i hi
      exact ⟨a, fun _ => ha⟩
    · exact ⟨default, fun k => absurd k hi⟩
  exact Classical.skolem.1 this
theorem recs_open {fuel : Nat} {cs : List Value} {x : DataW H × List MemPlace} (h : DataW.trod enc Tryz.prog W base spare held fuel 22 cs = some x) :
    ∃ A l c, cs = [.slice A l.length c] ∧ Rxs W A l ∧ l.length ≤ maxLen ∧ ∀ a ∈ l, RxOk a := by
  rcases open_slice Tryz.underlying22 h with ⟨rfl, _⟩ | ⟨a, len, cap, m, n, D, Pl, rfl, _, hl, hm, hmm, rfl, hx⟩
  · exact ⟨none, [], 0, rfl, .inl rfl, by simp, by simp⟩
  · have hlm : len ≤ m := by rw [hmm]; split <;> omega
    have hC : Tryz.prog.cellsOf 24 = 8 := by kernel_rfl
    have each : ∀ i, i < len → ∃ q : Rx, (∀ j, j < 8 → W.cell? ((a.add (i * 8)).add j) = q.cells[j]?) ∧ RxOk q := fun i hi => by
      obtain ⟨cs', h1, h2⟩ := hx i (by omega)
      rw [hC] at h1
      obtain ⟨_, hlen, hcell⟩ := World.cells?_some h1
      obtain ⟨q, rfl, hq⟩ := rec_open h2
      exact ⟨q, hcell, hq⟩
    obtain ⟨f, hf⟩ := choose_below8 each
    have hlen : ((List.range len).map f).length = len := by simp
    refine ⟨some a, (List.range len).map f, cap, by rw [hlen], ?_, by rw [hlen]; omega, fun q hq => ?_⟩
    · rcases Nat.eq_zero_or_pos len with rfl | hp
      · left; rfl
      · have h0 := (hf 0 hp).1 0 (by omega)
        rw [Nat.zero_mul] at h0
        have ha : (a.add 0).add 0 = a.add 0 := by simp [Addr.add]
        rw [ha] at h0
        obtain ⟨g, off, rfl, hg⟩ := addr_of8 (h0.trans rfl)
        refine .inr ⟨g, off, rfl, hg, fun k hk j u hu => ?_⟩
        simp at hu
        rw [hlen] at hk
        have hj : j < 8 := by
          have := (List.getElem?_eq_some_iff.1 hu).1
          simpa [Rx.cells] using this
        have := (hf k hk).1 j hj
        rw [Addr.add_lit, Addr.add_lit] at this
        rw [this]
        exact hu
    · obtain ⟨i, hi, rfl⟩ := List.mem_map.1 hq
      exact (hf i (by simpa using hi)).2
end Go.Proofs.YtfbakelpplpomaaGreatDoor.Disk
/-
  A row of numbers, opened from a reading.
-/
namespace Go.Proofs.YtfbakelpplpomaaGreatDoor.Disk
open Go.RowKit Go.Proofs.YtfbakelpplpomaaGreatDoor.DiskRows Go.ChangeShapes Go.WideShapes Go.Deep
set_option linter.unusedVariables false
set_option linter.unusedSimpArgs false
set_option maxRecDepth 100000
variable {H : Type} {enc : TypeId × Value → H} {W : World} {base : Nat} {spare : Nat → Bool} {held : Bool}

/-- what a reading weighs is within reach -/
def Reach (t : TypeId) (d : DataW H) : Prop := ∀ n ∈ d.weights Tryz.prog t, n ≤ reachBytes
theorem addr_of {a : Addr} {v : Value} (h : W.cell? (a.add 0) = some v) : ∃ g off, a = ⟨g, off, none⟩ ∧ g < W.heap.size := by
  obtain ⟨g, off, spot⟩ := a
  have hs : spot = none := by simpa [Addr.add] using World.cell?_spot h
  subst hs
  refine ⟨g, off, rfl, ?_⟩
  unfold World.cell? at h
  rcases Nat.lt_or_ge g W.heap.size with q | q
  · exact q
  · simp [Addr.add, Array.getElem?_eq_none q] at h
theorem nums_open {fuel : Nat} {cs : List Value} {x : DataW H × List MemPlace} (h : DataW.trod enc Tryz.prog W base spare held fuel 26 cs = some x) :
    ∃ A n c K, cs = [.slice A n c] ∧ K.length = n ∧ Nums W A K ∧ (∀ z ∈ K, (Lit.int .i64 z).wf = true) ∧ n ≤ maxLen := by
  rcases open_ints Tryz.underlying26 Tryz.underlying3 (by kernel_rfl) h with ⟨rfl, _⟩ | ⟨a, len, cap, zs, rfl, _, hl, hm, hz, _, hc, hw⟩
  · exact ⟨none, 0, 0, [], rfl, rfl, .inl rfl, by simp, by simp⟩
  · have hle : len ≤ zs.length := by rw [hz]; split <;> omega
    have hlen : (zs.take len).length = len := by simp; omega
    refine ⟨some a, len, cap, zs.take len, rfl, hlen, ?_, fun z hz => hw z (List.mem_of_mem_take hz), by omega⟩
    rcases Nat.eq_zero_or_pos len with rfl | hp
    · left; simp
    · obtain ⟨g, off, rfl, hg⟩ := addr_of (hc 0 (by omega))
      refine .inr ⟨g, off, rfl, hg, fun i hi => ?_⟩
      rw [hlen] at hi
      have := hc i (by omega)
      rw [Addr.add_lit] at this
      rw [this]
      simp [List.getD_eq_getElem?_getD, hi]
theorem wf_le {n : Int} (h : (Lit.int .i64 n).wf = true) : n ≤ 9223372036854775807 := by
  simp [Lit.wf, IntKind.wrap_i64] at h
  omega
end Go.Proofs.YtfbakelpplpomaaGreatDoor.Disk
/-
  JournalPlays: the calls, as they come in; rows of them, opened from a reading.
-/
namespace Go.Proofs.YtfbakelpplpomaaGreatDoor.Disk
open Go.RowKit Go.Proofs.YtfbakelpplpomaaGreatDoor.DiskRows Go.ChangeShapes Go.WideShapes Go.Deep
set_option linter.unusedVariables false
set_option linter.unusedSimpArgs false
set_option maxRecDepth 100000
variable {H : Type} {enc : TypeId × Value → H} {W : World} {base : Nat} {spare : Nat → Bool} {held : Bool}

/-- a call to do -/
structure Jc where
  kind : Int
  n : Int
  half : Int
  epoch : Int
  r : Rx
  text : ByteArray
  ka : Option Addr
  kl : Nat
  kc : Nat
def Jc.cells (a : Jc) : List Value := [.int .i64 a.kind, .int .i64 a.n, .int .i64 a.half, .int .i64 a.epoch, .int .i64 a.r.e, .int .i64 a.r.q, .int .i64 a.r.k, .string a.r.N, .string a.r.O, .string a.r.M, .int .i64 a.r.t, .int .i64 a.r.u, .string a.text, .slice a.ka a.kl a.kc]
/-- a row of calls lies there -/
def Jcs (w : World) (A : Option Addr) (l : List Jc) : Prop := l = [] ∨ ∃ g off, A = some ⟨g, off, none⟩ ∧ g < w.heap.size ∧ ∀ k (h : k < l.length) j u, (l[k].cells)[j]? = some u → w.cell? ⟨g, off + k * 14 + j, none⟩ = some u
theorem Jcs.later {w w' : World} {A : Option Addr} {l : List Jc} (h : Jcs w A l) (k : Below w.heap.size w w') : Jcs w' A l := by
  rcases h with rfl | ⟨g, off, rfl, hg, hc⟩
  · exact .inl rfl
  · exact .inr ⟨g, off, rfl, Nat.lt_of_lt_of_le hg k.size, fun i hi j u hu => (k.cell (p := ⟨g, off + i * 14 + j, none⟩) hg).trans (hc i hi j u hu)⟩
/-- a call that was read -/
structure JcOk (W : World) (a : Jc) : Prop where
  text : a.text.size ≤ maxLen
  kind : (Lit.int .i64 a.kind).wf = true
  n : (Lit.int .i64 a.n).wf = true
  half : (Lit.int .i64 a.half).wf = true
  epoch : (Lit.int .i64 a.epoch).wf = true
  r : RxOk a.r
  kl : a.kl ≤ maxLen
  keep : ∃ K, K.length = a.kl ∧ Nums W a.ka K ∧ ∀ z ∈ K, (Lit.int .i64 z).wf = true
theorem JcOk.later {w w' : World} {a : Jc} (h : JcOk w a) (k : Below w.heap.size w w') : JcOk w' a := by
  obtain ⟨K, h1, h2, h3⟩ := h.keep
  exact ⟨h.text, h.kind, h.n, h.half, h.epoch, h.r, h.kl, K, h1, h2.later k, h3⟩
theorem jc_open {fuel : Nat} {cs : List Value} {x : DataW H × List MemPlace} (h : DataW.trod enc Tryz.prog W base spare held fuel 59 cs = some x) :
    ∃ a : Jc, cs = a.cells ∧ JcOk W a := by
  obtain ⟨xs, n, _, rfl, hl, hlen, hf⟩ := DataW.trod_struct Tryz.underlying59 h
  have hC : Tryz.prog.cellsOf 59 = 14 := by kernel_rfl
  have k1 : Tryz.prog.cellsOf 3 = 1 := by kernel_rfl
  have k2 : Tryz.prog.cellsOf 9 = 1 := by kernel_rfl
  have k3 : Tryz.prog.cellsOf 24 = 8 := by kernel_rfl
  have k4 : Tryz.prog.cellsOf 26 = 1 := by kernel_rfl
  rw [hC] at hl
  match cs, hl, xs, hlen with
  | [c0, c1, c2, c3, c4, c5, c6, c7, c8, c9, c10, c11, c12, c13], _, [y0, y1, y2, y3, y4, y5, y6], _ =>
    have g0 := hf 0 _ rfl
    have g1 := hf 1 _ rfl
    have g2 := hf 2 _ rfl
    have g3 := hf 3 _ rfl
    have g4 := hf 4 _ rfl
    have g5 := hf 5 _ rfl
    have g6 := hf 6 _ rfl
    simp [k1, k2, k3, k4] at g0 g1 g2 g3 g4 g5 g6
    obtain ⟨z0, e0, -, w0⟩ := DataW.trod_int Tryz.underlying3 g0
    obtain ⟨z1, e1, -, w1⟩ := DataW.trod_int Tryz.underlying3 g1
    obtain ⟨z2, e2, -, w2⟩ := DataW.trod_int Tryz.underlying3 g2
    obtain ⟨z3, e3, -, w3⟩ := DataW.trod_int Tryz.underlying3 g3
    obtain ⟨r, e4, w4⟩ := rec_open g4
    obtain ⟨s, e5, -, w5⟩ := DataW.trod_string Tryz.underlying9 g5
    obtain ⟨A, n, c, K, e6, hK, hN, hw, hm⟩ := nums_open g6
    simp [Rx.cells] at e0 e1 e2 e3 e4 e5 e6
    obtain ⟨e40, e41, e42, e43, e44, e45, e46, e47⟩ := e4
    subst e0 e1 e2 e3 e40 e41 e42 e43 e44 e45 e46 e47 e5 e6
    exact ⟨⟨z0, z1, z2, z3, r, s, A, n, c⟩, rfl, ⟨w5, w0, w1, w2, w3, w4, hm, K, hK, hN, hw⟩⟩
instance : Inhabited Jc := ⟨⟨0, 0, 0, 0, ⟨0, 0, 0, ByteArray.empty, ByteArray.empty, ByteArray.empty, 0, 0⟩, ByteArray.empty, none, 0, 0⟩⟩
theorem jcs_open {fuel : Nat} {cs : List Value} {x : DataW H × List MemPlace} (h : DataW.trod enc Tryz.prog W base spare held fuel 46 cs = some x) :
    ∃ A l c, cs = [.slice A l.length c] ∧ Jcs W A l ∧ l.length ≤ maxLen ∧ ∀ a ∈ l, JcOk W a := by
  rcases open_slice Tryz.underlying46 h with ⟨rfl, _⟩ | ⟨a, len, cap, m, n, D, Pl, rfl, _, hl, hm, hmm, rfl, hx⟩
  · exact ⟨none, [], 0, rfl, .inl rfl, by simp, by simp⟩
  · have hlm : len ≤ m := by rw [hmm]; split <;> omega
    have hC : Tryz.prog.cellsOf 59 = 14 := by kernel_rfl
    have each : ∀ i, i < len → ∃ q : Jc, (∀ j, j < 14 → W.cell? ((a.add (i * 14)).add j) = q.cells[j]?) ∧ JcOk W q := fun i hi => by
      obtain ⟨cs', h1, h2⟩ := hx i (by omega)
      rw [hC] at h1
      obtain ⟨_, hlen, hcell⟩ := World.cells?_some h1
      obtain ⟨q, rfl, hq⟩ := jc_open h2
      exact ⟨q, hcell, hq⟩
    obtain ⟨f, hf⟩ := choose_below8 each
    have hlen : ((List.range len).map f).length = len := by simp
    refine ⟨some a, (List.range len).map f, cap, by rw [hlen], ?_, by rw [hlen]; omega, fun q hq => ?_⟩
    · rcases Nat.eq_zero_or_pos len with rfl | hp
      · left; rfl
      · have h0 := (hf 0 hp).1 0 (by omega)
        rw [Nat.zero_mul] at h0
        have ha : (a.add 0).add 0 = a.add 0 := by simp [Addr.add]
        rw [ha] at h0
        obtain ⟨g, off, rfl, hg⟩ := addr_of8 (h0.trans rfl)
        refine .inr ⟨g, off, rfl, hg, fun k hk j u hu => ?_⟩
        simp at hu
        rw [hlen] at hk
        have hj : j < 14 := by
          have := (List.getElem?_eq_some_iff.1 hu).1
          simpa [Jc.cells] using this
        have := (hf k hk).1 j hj
        rw [Addr.add_lit, Addr.add_lit] at this
        rw [this]
        exact hu
    · obtain ⟨i, hi, rfl⟩ := List.mem_map.1 hq
      exact (hf i (by simpa using hi)).2
end Go.Proofs.YtfbakelpplpomaaGreatDoor.Disk
/-
  The walk of pleachplain.Bytes.
-/
namespace Go.Proofs.YtfbakelpplpomaaGreatDoor.Disk
open Go.RowKit Go.Proofs.YtfbakelpplpomaaGreatDoor.DiskRows
set_option linter.unusedVariables false
set_option linter.unusedSimpArgs false
set_option maxRecDepth 100000
theorem bminTwo (ats : Array TypeId) (ty : TypeId) (a b : Value) : Builtin.min_ ats ty #[a, b] = (Builtin.min2 a b >>= fun s => pure s) := by simp only [Builtin.min_, List.foldlM_cons, List.foldlM_nil]
theorem bminInt2 (k k' : IntKind) (x y : Int) : Builtin.min2 (.int k x) (.int k' y) = pure (.int k (if y < x then y else x)) := by simp only [Builtin.min2]
attribute [local go_sem] bminTwo

/-- how many bytes texts have, as long as that is below a million -/
def byV (n : Nat) : List ByteArray → Nat
  | [] => n
  | s :: l => if 1000000 ≤ n + min s.size 1000000 then n + min s.size 1000000 else byV (n + min s.size 1000000) l
theorem byV_le (l : List ByteArray) : ∀ n, n ≤ byV n l := by
  induction l with
  | nil => intro n; exact Nat.le_refl _
  | cons s l ih =>
    intro n
    rw [byV]
    split
    · omega
    · have := ih (n + min s.size 1000000)
      omega
theorem byV_small (l : List ByteArray) : ∀ n, byV n l ≤ 6000 → ∀ s ∈ l, s.size ≤ 6000 := by
  induction l with
  | nil => intro n _ s hs; cases hs
  | cons s l ih =>
    intro n hn t ht
    rw [byV] at hn
    split at hn
    · omega
    · have h1 := byV_le l (n + min s.size 1000000)
      rcases List.mem_cons.1 ht with rfl | ht
      · omega
      · exact ih _ hn t ht
theorem byV_bound (l : List ByteArray) : ∀ n, n < 1000000 → byV n l ≤ 2000000 := by
  induction l with
  | nil => intro n h; rw [byV]; omega
  | cons s l ih =>
    intro n h
    rw [byV]
    split
    · omega
    · exact ih _ (by omega)
theorem byV_step (l : List ByteArray) (k n : Nat) (h : k < l.length) : byV n (l.drop k) = if 1000000 ≤ n + min l[k].size 1000000 then n + min l[k].size 1000000 else byV (n + min l[k].size 1000000) (l.drop (k + 1)) := by
  rw [List.drop_eq_getElem_cons h, byV]
set_option maxHeartbeats 3200000 in
theorem bytes_any (A : Option Addr) (c : Nat) (l : List ByteArray) (w : World) (h : Txs w A l) (hl : (l.length : Int) ≤ 9223372036854775807) (hs : ∀ s ∈ l, (s.size : Int) ≤ 9223372036854775807) (r : Nat) (hr : byV 0 l = r) :
    Calls Tryz.prog 5 #[.slice A l.length c] w fun x w' => x = .returned (.int .i64 (r : Nat)) ∧ Below w.heap.size w w' := by
  have H := Lib.hid (And.intro h (And.intro hs hr))
  obtain ⟨n, hn⟩ : ∃ n, l.length = n := ⟨_, rfl⟩
  have HN := Lib.hid hn
  rw [hn] at hl ⊢
  clear h hs hr hn
  go_enter Tryz.func5, Tryz.ntmps5
  go_upto_region 3 with fail
  go_loopw [3, 8] (fun v i wr => ∃ k m : Nat, k ≤ n ∧ m < 1000000 ∧ i = .int .i64 k ∧ v = .int .i64 m ∧ Hid (byV m (l.drop k) = r) ∧ wr = w) (fun _ i _ => n - (intOf i).toNat)
  case atStart => exact ⟨0, 0, by omega, by omega, rfl, rfl, Lib.hid H.out.2.2, rfl⟩
  case round =>
    obtain ⟨k, m, hk, hm, rfl, rfl, HB, rfl⟩ := hrel
    have HK := Lib.hid (And.intro hk hm)
    by_cases hlt : k < n
    · have hql : k < l.length := by have := HN.out; omega
      obtain ⟨g, off, rfl, hg, hc⟩ : ∃ g off, A = some ⟨g, off, none⟩ ∧ g < wr.heap.size ∧ ∀ i, i < l.length → wr.cell? ⟨g, off + i, none⟩ = some (.string (l.getD i ByteArray.empty)) := by
        rcases H.out.1 with h | h
        · rw [h] at hql; simp at hql
        · exact h
      have q0 := hc k hql
      have e : l.getD k ByteArray.empty = l[k] := by simp [List.getD_eq_getElem?_getD, List.getElem?_eq_getElem hql]
      rw [e] at q0
      have hst := byV_step l k m hql
      rw [HB.out] at hst
      have hsz := H.out.2.1 _ (List.getElem_mem hql)
      generalize l[k] = s at q0 hst hsz
      obtain ⟨z, hz⟩ : ∃ z, min s.size 1000000 = z := ⟨_, rfl⟩
      rw [hz] at hst
      have n1 : Builtin.min2 (.int .i64 (s.size : Int)) (.int .i64 1000000) = pure (.int .i64 (z : Nat)) := by
        rw [bminInt2]; congr 2; split <;> omega
      have hkn : (k : Int) < (n : Int) := by omega
      have hzb : (z : Int) ≤ 1000000 := by omega
      have hmb : (m : Int) < 1000000 := by omega
      have hw1 : IntKind.i64.wrap ((m : Int) + (z : Int)) = (m : Int) + (z : Int) := by rw [IntKind.wrap_i64]; omega
      have hw2 : IntKind.i64.wrap ((k : Int) + 1) = (k : Int) + 1 := by rw [IntKind.wrap_i64]; omega
      have HS := Lib.hid hst
      clear hst e hz hsz hc hg hql
      by_cases g1 : 1000000 ≤ m + z
      · have d1 : decide ((1000000 : Int) ≤ (m : Int) + (z : Int)) = true := decide_eq_true (by omega)
        have hrz : r = m + z := by rw [HS.out, if_pos g1]
        have HR := Lib.hid hrz
        clear g1 hrz hk hlt hm
        go_wp2
        go_ret
        exact ⟨by show Ending.returned (Value.int .i64 ((m : Int) + (z : Int))) = _; rw [HR.out]; rfl, Below.refl _ _⟩
      · have d1 : decide ((1000000 : Int) ≤ (m : Int) + (z : Int)) = false := decide_eq_false (by omega)
        have hrz : byV (m + z) (l.drop (k + 1)) = r := by have := HS.out; rw [if_neg g1] at this; exact this.symm
        have HR := Lib.hid (And.intro hrz (show m + z < 1000000 by omega))
        have HL := Lib.hid hlt
        clear g1 hrz hk hlt hm
        go_wp2
        go_round
        case rel => exact ⟨k + 1, m + z, by have := HL.out; omega, HR.out.2, by go_num, by go_num, Lib.hid HR.out.1, by trivial⟩
        case measure => have := HL.out; simp [intOf]; omega
    · obtain rfl : k = n := by omega
      have hrz : m = r := by
        have := HB.out
        rw [List.drop_of_length_le (Nat.le_of_eq HN.out)] at this
        exact this
      have HR := Lib.hid hrz
      have hkk : ¬ (k : Int) < (k : Int) := by omega
      clear hrz hk hlt hm
      go_wp2
      go_ret
      exact ⟨by show Ending.returned (Value.int .i64 (m : Int)) = _; rw [HR.out], Below.refl _ _⟩
end Go.Proofs.YtfbakelpplpomaaGreatDoor.Disk
/-
  JournalPlays: whether calls are gone through.
-/
namespace Go.Proofs.YtfbakelpplpomaaGreatDoor.Disk
open Go.RowKit Go.Proofs.YtfbakelpplpomaaGreatDoor.DiskRows
set_option linter.unusedVariables false
set_option linter.unusedSimpArgs false
set_option maxRecDepth 100000
attribute [local go_sem] bminTwo

def Jc.load (a : Jc) : Nat := min a.text.size 10000 + min a.kl 10000 + min a.r.N.size 10000 + min a.r.O.size 10000 + min a.r.M.size 10000
def jloads (l : List Jc) : Nat := (l.map Jc.load).sum
theorem jloads_take (l : List Jc) (k : Nat) (h : k < l.length) : jloads (l.take (k + 1)) = jloads (l.take k) + l[k].load := by
  unfold jloads
  rw [List.take_succ_eq_append_getElem h, List.map_append, List.sum_append]
  simp
/-- so few, of so few bytes -/
def fewJ (l : List Jc) : Prop := l.length ≤ 30 ∧ jloads l ≤ 8000
instance (l : List Jc) : Decidable (fewJ l) := inferInstanceAs (Decidable (_ ∧ _))
theorem jload_mem {l : List Jc} {a : Jc} (h : a ∈ l) : a.load ≤ jloads l := by
  unfold jloads
  induction l with
  | nil => simp at h
  | cons x l ih =>
    rw [List.map_cons, List.sum_cons]
    rcases List.mem_cons.1 h with rfl | h
    · omega
    · have := ih h; omega
theorem jc_small {l : List Jc} (hf : fewJ l) {a : Jc} (h : a ∈ l) : a.r.N.size ≤ 8000 ∧ a.text.size ≤ 8000 := by
  have h1 := jload_mem h
  have h2 := hf.2
  unfold Jc.load at h1
  omega
set_option maxHeartbeats 3200000 in
theorem jfew_any (A : Option Addr) (c : Nat) (l : List Jc) (w : World) (h : Jcs w A l) (hl : (l.length : Int) ≤ 9223372036854775807) (hs : ∀ a ∈ l, (a.text.size : Int) ≤ 9223372036854775807 ∧ (a.kl : Int) ≤ 9223372036854775807 ∧ (a.r.N.size : Int) ≤ 9223372036854775807 ∧ (a.r.O.size : Int) ≤ 9223372036854775807 ∧ (a.r.M.size : Int) ≤ 9223372036854775807) :
    Calls Tryz.prog 18 #[.slice A l.length c] w fun x w' => x = .returned (.bool (decide (fewJ l))) ∧ Below w.heap.size w w' := by
  have H := Lib.hid h
  have HS := Lib.hid hs
  clear h hs
  go_enter Tryz.func18, Tryz.ntmps18
  go_upto_region 3 with fail
  go_loopw [3, 4] (fun v i wr => ∃ k : Nat, k ≤ l.length ∧ k ≤ 31 ∧ i = .int .i64 k ∧ v = .int .i64 (jloads (l.take k) : Nat) ∧ jloads (l.take k) ≤ k * 50000 ∧ Below w.heap.size w wr) (fun _ i _ => l.length - (intOf i).toNat)
  case atStart => exact ⟨0, by omega, by omega, rfl, rfl, by simp [jloads], Below.refl _ _⟩
  case round =>
    obtain ⟨k, hk, hk61, rfl, rfl, hld, bk⟩ := hrel
    have hki : (k : Int) ≤ 31 := by omega
    by_cases hlt : k < l.length
    · have hkl : (k : Int) < (l.length : Int) := by omega
      by_cases h60 : k ≤ 30
      · have h60i : (k : Int) ≤ 30 := by omega
        obtain ⟨g, off, rfl, hg, hc⟩ : ∃ g off, A = some ⟨g, off, none⟩ ∧ g < w.heap.size ∧ ∀ k (h : k < l.length) j u, (l[k].cells)[j]? = some u → w.cell? ⟨g, off + k * 14 + j, none⟩ = some u := by
          rcases H.out with h0 | h0
          · rw [h0] at hlt; simp at hlt
          · exact h0
        have q4 := (bk.cell (p := ⟨g, off + k * 14 + 4, none⟩) hg).trans (hc k hlt 4 _ rfl)
        have q5 := (bk.cell (p := ⟨g, off + k * 14 + 5, none⟩) hg).trans (hc k hlt 5 _ rfl)
        have q6 := (bk.cell (p := ⟨g, off + k * 14 + 6, none⟩) hg).trans (hc k hlt 6 _ rfl)
        have q7 := (bk.cell (p := ⟨g, off + k * 14 + 7, none⟩) hg).trans (hc k hlt 7 _ rfl)
        have q8 := (bk.cell (p := ⟨g, off + k * 14 + 8, none⟩) hg).trans (hc k hlt 8 _ rfl)
        have q9 := (bk.cell (p := ⟨g, off + k * 14 + 9, none⟩) hg).trans (hc k hlt 9 _ rfl)
        have q10 := (bk.cell (p := ⟨g, off + k * 14 + 10, none⟩) hg).trans (hc k hlt 10 _ rfl)
        have q11 := (bk.cell (p := ⟨g, off + k * 14 + 11, none⟩) hg).trans (hc k hlt 11 _ rfl)
        have q12 := (bk.cell (p := ⟨g, off + k * 14 + 12, none⟩) hg).trans (hc k hlt 12 _ rfl)
        have q13 := (bk.cell (p := ⟨g, off + k * 14 + 13, none⟩) hg).trans (hc k hlt 13 _ rfl)
        have hlk := jloads_take l k hlt
        have hsz := HS.out _ (List.getElem_mem hlt)
        generalize l[k] = a at q4 q5 q6 q7 q8 q9 q10 q11 q12 q13 hlk hsz
        obtain ⟨kd, nn, hf, ep, ⟨re, rq, rk, rN, rO, rM, rt, ru⟩, t, ka, kl, kc⟩ := a
        dsimp only at *
        obtain ⟨m1, hm1⟩ : ∃ m, min t.size 10000 = m := ⟨_, rfl⟩
        obtain ⟨m2, hm2⟩ : ∃ m, min kl 10000 = m := ⟨_, rfl⟩
        obtain ⟨m3, hm3⟩ : ∃ m, min rN.size 10000 = m := ⟨_, rfl⟩
        obtain ⟨m4, hm4⟩ : ∃ m, min rO.size 10000 = m := ⟨_, rfl⟩
        obtain ⟨m5, hm5⟩ : ∃ m, min rM.size 10000 = m := ⟨_, rfl⟩
        have n1 : Builtin.min2 (.int .i64 (t.size : Int)) (.int .i64 10000) = pure (.int .i64 (m1 : Nat)) := by
          rw [bminInt2]; congr 2; split <;> omega
        have n2 : Builtin.min2 (.int .i64 (kl : Int)) (.int .i64 10000) = pure (.int .i64 (m2 : Nat)) := by
          rw [bminInt2]; congr 2; split <;> omega
        have n3 : Builtin.min2 (.int .i64 (rN.size : Int)) (.int .i64 10000) = pure (.int .i64 (m3 : Nat)) := by
          rw [bminInt2]; congr 2; split <;> omega
        have n4 : Builtin.min2 (.int .i64 (rO.size : Int)) (.int .i64 10000) = pure (.int .i64 (m4 : Nat)) := by
          rw [bminInt2]; congr 2; split <;> omega
        have n5 : Builtin.min2 (.int .i64 (rM.size : Int)) (.int .i64 10000) = pure (.int .i64 (m5 : Nat)) := by
          rw [bminInt2]; congr 2; split <;> omega
        simp only [Jc.load, hm1, hm2, hm3, hm4, hm5] at hlk
        have hmm : m1 ≤ 10000 ∧ m2 ≤ 10000 ∧ m3 ≤ 10000 ∧ m4 ≤ 10000 ∧ m5 ≤ 10000 := by omega
        have HLK := Lib.hid (And.intro hlk (And.intro hmm hld))
        obtain ⟨v, hv⟩ : ∃ v, jloads (l.take k) = v := ⟨_, rfl⟩
        rw [hv] at HLK ⊢
        obtain ⟨s2, hs2⟩ : ∃ s : Nat, m1 + m2 = s := ⟨_, rfl⟩
        obtain ⟨s3, hs3⟩ : ∃ s : Nat, s2 + m3 = s := ⟨_, rfl⟩
        obtain ⟨s4, hs4⟩ : ∃ s : Nat, s3 + m4 = s := ⟨_, rfl⟩
        obtain ⟨s5, hs5⟩ : ∃ s : Nat, s4 + m5 = s := ⟨_, rfl⟩
        obtain ⟨s6, hs6⟩ : ∃ s : Nat, v + s5 = s := ⟨_, rfl⟩
        have hw1 : IntKind.i64.wrap ((m1 : Int) + (m2 : Int)) = (s2 : Int) := by rw [IntKind.wrap_i64]; omega
        have hw2 : IntKind.i64.wrap ((s2 : Int) + (m3 : Int)) = (s3 : Int) := by rw [IntKind.wrap_i64]; omega
        have hw3 : IntKind.i64.wrap ((s3 : Int) + (m4 : Int)) = (s4 : Int) := by rw [IntKind.wrap_i64]; omega
        have hw4 : IntKind.i64.wrap ((s4 : Int) + (m5 : Int)) = (s5 : Int) := by rw [IntKind.wrap_i64]; omega
        have hw5 : IntKind.i64.wrap ((v : Int) + (s5 : Int)) = (s6 : Int) := by rw [IntKind.wrap_i64]; omega
        have HSS := Lib.hid (And.intro hs2 (And.intro hs3 (And.intro hs4 (And.intro hs5 hs6))))
        clear hc hsz hm1 hm2 hm3 hm4 hm5 hlk hmm hld hv hs2 hs3 hs4 hs5 hs6
        have hgw : g < wr.heap.size := Nat.lt_of_lt_of_le hg bk.size
        have hb := Joins.below_alloc1 wr (.cells #[.int .i64 re, .int .i64 rq, .int .i64 rk, .string rN, .string rO, .string rM, .int .i64 rt, .int .i64 ru] 24)
        have hbw := bk.trans (hb.mono bk.size)
        have p12 := (hb.cell (p := ⟨g, off + k * 14 + 12, none⟩) hgw).trans q12
        have p13 := (hb.cell (p := ⟨g, off + k * 14 + 13, none⟩) hgw).trans q13
        have hg9 := heap_alloc_last wr (.cells #[.int .i64 re, .int .i64 rq, .int .i64 rk, .string rN, .string rO, .string rM, .int .i64 rt, .int .i64 ru] 24)
        have p3 := (cell_of_row _ wr.heap.size 3 _ _ _ hg9).trans rfl
        have p4 := (cell_of_row _ wr.heap.size 4 _ _ _ hg9).trans rfl
        have p5 := (cell_of_row _ wr.heap.size 5 _ _ _ hg9).trans rfl
        have HBW := Lib.hid hbw
        clear hb hbw hg9 hgw bk
        go_upto_region 6 with fail
        generalize wr.heap.size = gr at *
        generalize World.alloc wr _ = w9 at *
        clear q4 q5 q6 q7 q8 q9 q10 q11 q12 q13
        go_quiet (fail)
        go_wp2
        refine ⟨⟨k + 1, by omega, by omega, by go_num, ?_, ?_, belowN HBW.out _⟩, by simp [intOf]; omega⟩
        · rw [HLK.out.1]; have := HSS.out; congr 1; omega
        · have := HLK.out; omega
      · have hk2 : k = 31 := by omega
        have h60i : ¬ (k : Int) ≤ 30 := by omega
        have h60j : ¬ (l.length : Int) ≤ 30 := by omega
        have e : decide (fewJ l) = false := decide_eq_false (fun h => by have := h.1; omega)
        have E := Lib.hid e
        clear e
        obtain ⟨v, hv⟩ : ∃ v, jloads (l.take k) = v := ⟨_, rfl⟩
        rw [hv]
        go_wp2
        go_ret
        exact ⟨by rw [E.out]; first | done | rfl, bk⟩
    · have hkl : k = l.length := by omega
      subst hkl
      rw [List.take_length] at hld ⊢
      obtain ⟨v, hv⟩ : ∃ v, jloads l = v := ⟨_, rfl⟩
      rw [hv] at hld ⊢
      by_cases h60 : (l.length : Int) ≤ 30
      · by_cases hn : (v : Int) ≤ 8000
        · have e : decide (fewJ l) = true := decide_eq_true ⟨by omega, by omega⟩
          have E := Lib.hid e
          clear e hld hv
          go_wp2
          go_ret
          exact ⟨by rw [E.out]; first | done | rfl | simp [hn], bk⟩
        · have e : decide (fewJ l) = false := decide_eq_false (fun h => by have := h.2; omega)
          have E := Lib.hid e
          clear e hld hv
          go_wp2
          go_ret
          exact ⟨by rw [E.out]; first | done | rfl | simp [hn], bk⟩
      · have e : decide (fewJ l) = false := decide_eq_false (fun h => by have := h.1; omega)
        have E := Lib.hid e
        clear e hld hv
        go_wp2
        go_ret
        exact ⟨by rw [E.out]; first | done | rfl, bk⟩
end Go.Proofs.YtfbakelpplpomaaGreatDoor.Disk
