/-
  Rows of records that come in; the walks of the journal's Tail and Rise.
-/
import Derived.Test.YtfbakelpplpomaaDoorJournB
import Derived.Lib.SmallJoins
import Derived.ChangeSlices
import Derived.Deep.Slices
import Derived.SizedLaws
import Derived.DataReads
namespace Go.Proofs.YtfbakelpplpomaaDoor.Disk
open Go.RowKit Go.Proofs.YtfbakelpplpomaaDoor.DiskRows
set_option linter.unusedVariables false
set_option linter.unusedSimpArgs false
set_option maxRecDepth 100000

/-- a record -/
structure Rx where
  e : Int
  q : Int
  k : Int
  N : ByteArray
  O : ByteArray
  M : ByteArray
  t : Int
  u : Int
instance : Inhabited Rx := ⟨⟨0, 0, 0, ByteArray.empty, ByteArray.empty, ByteArray.empty, 0, 0⟩⟩
def Rx.cells (r : Rx) : List Value := [.int .i64 r.e, .int .i64 r.q, .int .i64 r.k, .string r.N, .string r.O, .string r.M, .int .i64 r.t, .int .i64 r.u]
/-- a row of records lies there -/
def Rxs (w : World) (A : Option Addr) (l : List Rx) : Prop := l = [] ∨ ∃ g off, A = some ⟨g, off, none⟩ ∧ g < w.heap.size ∧ ∀ k (h : k < l.length) j u, (l[k].cells)[j]? = some u → w.cell? ⟨g, off + k * 8 + j, none⟩ = some u
theorem Rxs.later {w w' : World} {A : Option Addr} {l : List Rx} (h : Rxs w A l) (k : Below w.heap.size w w') : Rxs w' A l := by
  rcases h with rfl | ⟨g, off, rfl, hg, hc⟩
  · exact .inl rfl
  · exact .inr ⟨g, off, rfl, Nat.lt_of_lt_of_le hg k.size, fun i hi j u hu => by rw [k.cell (p := ⟨g, off + i * 8 + j, none⟩) hg]; exact hc i hi j u hu⟩
theorem Rxs.later' {w w' : World} {A : Option Addr} {l : List Rx} (h : Rxs w A l) (k : Below w.heap.size w w') : Rxs w' A l := h.later k
def lastT (t : Int) (l : List Rx) : Int := l.foldl (fun _ r => r.t) t
def lastU (u : Int) (l : List Rx) : Int := l.foldl (fun _ r => r.u) u
theorem lastT_take (t : Int) (l : List Rx) (k : Nat) (h : k < l.length) : lastT t (l.take (k + 1)) = l[k].t := by
  unfold lastT
  rw [List.take_succ_eq_append_getElem h, List.foldl_append]
  rfl
theorem lastU_take (t : Int) (l : List Rx) (k : Nat) (h : k < l.length) : lastU t (l.take (k + 1)) = l[k].u := by
  unfold lastU
  rw [List.take_succ_eq_append_getElem h, List.foldl_append]
  rfl
/-- does a record fall? -/
def falls (l : List Rx) (i : Nat) : Bool := match l[i]?, i with
  | some a, j + 1 => (match l[j]? with | some p => decide (a.t < p.t) || decide (a.u < p.u) | none => false)
  | _, _ => false
def riseK (l : List Rx) (k : Nat) : Bool := (List.range k).all fun i => !falls l i
theorem riseK_succ (l : List Rx) (k : Nat) : riseK l (k + 1) = (riseK l k && !falls l k) := by
  unfold riseK
  rw [List.range_succ, List.all_append]
  simp
theorem falls_zero (l : List Rx) : falls l 0 = false := by unfold falls; split <;> simp_all
theorem falls_succ (l : List Rx) (m : Nat) (h : m + 1 < l.length) : falls l (m + 1) = (decide (l[m + 1].t < l[m].t) || decide (l[m + 1].u < l[m].u)) := by
  unfold falls
  simp only [List.getElem?_eq_getElem h, List.getElem?_eq_getElem (show m < l.length by omega)]
theorem riseK_false {l : List Rx} {k n : Nat} (h : falls l k = true) (hk : k < n) : riseK l n = false := by
  unfold riseK
  rw [List.all_eq_false]
  exact ⟨k, List.mem_range.2 hk, by rw [h]; decide⟩
set_option maxHeartbeats 3200000 in
theorem jtail_any (A : Option Addr) (c : Nat) (l : List Rx) (t u : Int) (w : World) (h : Rxs w A l) (hl : (l.length : Int) ≤ 1000000) :
    Calls Tryd.prog 10 #[.int .i64 t, .int .i64 u, .slice A l.length c] w fun x w' => x = .returned (.tuple #[.int .i64 (lastT t l), .int .i64 (lastU u l)]) ∧ Below w.heap.size w w' := by
  by_cases h0 : l.length = 0
  · obtain rfl : l = [] := List.eq_nil_of_length_eq_zero h0
    clear h
    go_enter Tryd.func10, Tryd.ntmps10
    go_wp2
    go_ret2
    exact ⟨rfl, Below.refl _ _⟩
  · obtain ⟨m, hm⟩ : ∃ m, l.length = m + 1 := ⟨l.length - 1, by omega⟩
    have hml : m < l.length := by omega
    obtain ⟨g, off, rfl, hg, hc⟩ : ∃ g off, A = some ⟨g, off, none⟩ ∧ g < w.heap.size ∧ ∀ k (h : k < l.length) j u, (l[k].cells)[j]? = some u → w.cell? ⟨g, off + k * 8 + j, none⟩ = some u := by
      rcases h with h | h
      · rw [h] at h0; simp at h0
      · exact h
    have q0 := hc m hml 0 _ rfl
    have q1 := hc m hml 1 _ rfl
    have q2 := hc m hml 2 _ rfl
    have q3 := hc m hml 3 _ rfl
    have q4 := hc m hml 4 _ rfl
    have q5 := hc m hml 5 _ rfl
    have q6 := hc m hml 6 _ rfl
    have q7 := hc m hml 7 _ rfl
    rw [Nat.add_zero] at q0
    have e1 : lastT t l = l[m].t := by
      have := lastT_take t l m hml
      rwa [← hm, List.take_length] at this
    have e2 : lastU u l = l[m].u := by
      have := lastU_take u l m hml
      rwa [← hm, List.take_length] at this
    have HE := Lib.hid (And.intro e1 e2)
    obtain ⟨r, hr⟩ : ∃ r, l[m] = r := ⟨_, rfl⟩
    rw [hr] at q0 q1 q2 q3 q4 q5 q6 q7 HE
    obtain ⟨re, rq, rk, rN, rO, rM, rt, ru⟩ := r
    dsimp only at q0 q1 q2 q3 q4 q5 q6 q7
    obtain ⟨n, hn⟩ : ∃ n, l.length = n := ⟨_, rfl⟩
    rw [hn] at hm hl ⊢
    have hb := Joins.below_alloc1 w (.cells #[.int .i64 re, .int .i64 rq, .int .i64 rk, .string rN, .string rO, .string rM, .int .i64 rt, .int .i64 ru] 23)
    have HB := Lib.hid hb
    have hw1 : IntKind.i64.wrap ((n : Int) - 1) = (m : Int) := by rw [IntKind.wrap_i64]; omega
    have hmn : (m : Int) < (n : Int) := by omega
    have hn0 : ((n : Int) == 0) = false := by simp; omega
    have hn1 : decide (n = 0) = false := by simp; omega
    clear hc hml h0 e1 e2 hr hn hb h hg hm
    go_enter Tryd.func10, Tryd.ntmps10
    go_upto_region 4 with fail
    go_region
    go_wp2
    go_ret2
    exact ⟨by show Ending.returned (Value.tuple #[.int .i64 rt, .int .i64 ru]) = _; rw [HE.out.1, HE.out.2], HB.out.drew⟩
theorem riseK_small (l : List Rx) (h : l.length ≤ 1) : riseK l l.length = true := by
  have hc : l.length = 0 ∨ l.length = 1 := by omega
  rcases hc with hc | hc
  · rw [hc]; rfl
  · rw [hc, riseK_succ, falls_zero]; rfl
theorem belowN {B : Nat} {w w' : World} (h : Below B w w') (n : Nat) : Below B w (w'.drewN n) := ⟨h.os, h.tape, h.output, h.size, h.block⟩
set_option maxHeartbeats 3200000 in
theorem jrise_any (A : Option Addr) (c : Nat) (l : List Rx) (w : World) (h : Rxs w A l) (hl : (l.length : Int) ≤ 1000000) :
    Calls Tryd.prog 11 #[.slice A l.length c] w fun x w' => x = .returned (.bool (riseK l l.length)) ∧ Below w.heap.size w w' := by
  have H := Lib.hid h
  obtain ⟨n, hn⟩ : ∃ n, l.length = n := ⟨_, rfl⟩
  have HN := Lib.hid hn
  rw [hn] at hl ⊢
  clear h hn
  go_enter Tryd.func11, Tryd.ntmps11
  go_upto_region 2 with fail
  go_loopw [3] (fun i wr => ∃ k : Nat, 1 ≤ k ∧ (k ≤ n ∨ k = 1) ∧ i = .int .i64 k ∧ Hid (riseK l k = true) ∧ Below w.heap.size w wr) (fun i _ => n + 1 - (intOf i).toNat)
  case atStart => exact ⟨1, by omega, .inr rfl, rfl, Lib.hid (by rw [riseK_succ, falls_zero]; rfl), Below.refl _ _⟩
  case round =>
    obtain ⟨k, hk1, hk, rfl, HK, bk⟩ := hrel
    obtain ⟨m, rfl⟩ : ∃ m, k = m + 1 := ⟨k - 1, by omega⟩
    by_cases hlt : m + 1 < n
    · have hm1 : m + 1 < l.length := by have := HN.out; omega
      have hm0 : m < l.length := by omega
      obtain ⟨g, off, rfl, hg, hc⟩ : ∃ g off, A = some ⟨g, off, none⟩ ∧ g < w.heap.size ∧ ∀ k (h : k < l.length) j u, (l[k].cells)[j]? = some u → w.cell? ⟨g, off + k * 8 + j, none⟩ = some u := by
        rcases H.out with h | h
        · rw [h] at hm0; simp at hm0
        · exact h
      have q6 := (bk.cell (p := ⟨g, off + (m + 1) * 8 + 6, none⟩) hg).trans (hc (m + 1) hm1 6 _ rfl)
      have q7 := (bk.cell (p := ⟨g, off + (m + 1) * 8 + 7, none⟩) hg).trans (hc (m + 1) hm1 7 _ rfl)
      have p6 := (bk.cell (p := ⟨g, off + m * 8 + 6, none⟩) hg).trans (hc m hm0 6 _ rfl)
      have p7 := (bk.cell (p := ⟨g, off + m * 8 + 7, none⟩) hg).trans (hc m hm0 7 _ rfl)
      have hf := falls_succ l m hm1
      have HF := Lib.hid hf
      obtain ⟨a, ha⟩ : ∃ a, l[m + 1].t = a := ⟨_, rfl⟩
      obtain ⟨a', ha'⟩ : ∃ a, l[m + 1].u = a := ⟨_, rfl⟩
      obtain ⟨p, hp⟩ : ∃ a, l[m].t = a := ⟨_, rfl⟩
      obtain ⟨p', hp'⟩ : ∃ a, l[m].u = a := ⟨_, rfl⟩
      rw [ha] at q6 HF
      rw [ha'] at q7 HF
      rw [hp] at p6 HF
      rw [hp'] at p7 HF
      have HB := Lib.hid bk
      obtain ⟨k, hkk⟩ : ∃ k, m + 1 = k := ⟨_, rfl⟩
      rw [hkk] at q6 q7 HF HK hlt ⊢
      have hw1 : IntKind.i64.wrap ((k : Int) - 1) = (m : Int) := by rw [IntKind.wrap_i64]; omega
      have hw2 : IntKind.i64.wrap ((k : Int) + 1) = ((k + 1 : Nat) : Int) := by rw [IntKind.wrap_i64]; omega
      have hki : (k : Int) < (n : Int) := by omega
      have hmi : (m : Int) < (n : Int) := by omega
      have HKM := Lib.hid (And.intro hkk hk)
      clear hc hm1 hm0 hf ha ha' hp hp' bk hkk hk1 hk hg
      have hlt2 : k < n := by omega
      clear hlt
      by_cases d1 : a < p
      · have d1b : decide (a < p) = true := decide_eq_true d1
        have hb : riseK l n = false := riseK_false (by rw [HF.out, d1b]; rfl) hlt2
        have HD := Lib.hid hb
        clear d1 hlt2 hb
        go_upto_region 4 with fail
        go_quiet (fail)
        go_wp2
        go_ret
        exact ⟨by show Ending.returned (Value.bool false) = _; rw [HD.out], belowN HB.out _⟩
      · have d1b : decide (a < p) = false := decide_eq_false d1
        by_cases d2 : a' < p'
        · have d2b : decide (a' < p') = true := decide_eq_true d2
          have hb : riseK l n = false := riseK_false (by rw [HF.out, d1b, d2b]; rfl) hlt2
          have HD := Lib.hid hb
          clear d1 d2 hlt2 hb
          go_upto_region 4 with fail
          go_quiet (fail)
          go_wp2
          go_ret
          exact ⟨by show Ending.returned (Value.bool false) = _; rw [HD.out], belowN HB.out _⟩
        · have d2b : decide (a' < p') = false := decide_eq_false d2
          have hb : riseK l (k + 1) = true := by rw [riseK_succ, HK.out, HF.out, d1b, d2b]; rfl
          have HD := Lib.hid hb
          clear d1 d2 hb
          go_upto_region 4 with fail
          go_quiet (fail)
          go_wp2
          go_round
          case rel => exact ⟨k + 1, by omega, .inl (by omega), rfl, HD.out, belowN HB.out _⟩
          case measure => simp [intOf]; omega
    · have hb : riseK l n = true := by
        rcases Nat.lt_or_ge n 2 with g | g
        · have := riseK_small l (by have := HN.out; omega)
          rwa [HN.out] at this
        · obtain rfl : n = m + 1 := by omega
          exact HK.out
      have HD := Lib.hid hb
      clear hb
      have hki : ¬ ((m + 1 : Nat) : Int) < (n : Int) := by omega
      obtain ⟨k, hkk⟩ : ∃ k, m + 1 = k := ⟨_, rfl⟩
      rw [hkk] at hki hlt ⊢
      clear HK hkk hk hk1
      go_wp2
      go_ret
      exact ⟨by show Ending.returned (Value.bool true) = _; rw [HD.out], bk⟩
end Go.Proofs.YtfbakelpplpomaaDoor.Disk
namespace Go.Proofs.YtfbakelpplpomaaDoor.Disk
open Go.RowKit Go.Proofs.YtfbakelpplpomaaDoor.DiskRows Go.ChangeShapes Go.WideShapes Go.Deep
set_option linter.unusedVariables false
set_option linter.unusedSimpArgs false
set_option maxRecDepth 100000
variable {H : Type} {enc : TypeId × Value → H} {W : World} {base : Nat} {spare : Nat → Bool} {held : Bool}

theorem addr_of8 {a : Addr} {v : Value} (h : W.cell? (a.add 0) = some v) : ∃ g off, a = ⟨g, off, none⟩ ∧ g < W.heap.size := by
  obtain ⟨g, off, spot⟩ := a
  have hs : spot = none := by simpa [Addr.add] using World.cell?_spot h
  subst hs
  refine ⟨g, off, rfl, ?_⟩
  unfold World.cell? at h
  rcases Nat.lt_or_ge g W.heap.size with q | q
  · exact q
  · simp [Addr.add, Array.getElem?_eq_none q] at h
/-- what a record's reading says -/
structure RxOk (a : Rx) : Prop where
  e : (Lit.int .i64 a.e).wf = true
  q : (Lit.int .i64 a.q).wf = true
  k : (Lit.int .i64 a.k).wf = true
  t : (Lit.int .i64 a.t).wf = true
  u : (Lit.int .i64 a.u).wf = true
  N : a.N.size ≤ maxLen
  O : a.O.size ≤ maxLen
  M : a.M.size ≤ maxLen
theorem rec_open {fuel : Nat} {cs : List Value} {x : DataW H × List MemPlace} (h : DataW.trod enc Tryd.prog W base spare held fuel 23 cs = some x) :
    ∃ a : Rx, cs = a.cells ∧ RxOk a := by
  obtain ⟨xs, n, _, rfl, hl, hlen, hf⟩ := DataW.trod_struct Tryd.underlying23 h
  have hC : Tryd.prog.cellsOf 23 = 8 := by kernel_rfl
  have k1 : Tryd.prog.cellsOf 3 = 1 := by kernel_rfl
  have k2 : Tryd.prog.cellsOf 9 = 1 := by kernel_rfl
  rw [hC] at hl
  match cs, hl, xs, hlen with
  | [c0, c1, c2, c3, c4, c5, c6, c7], _, [y0, y1, y2, y3, y4, y5, y6, y7], _ =>
    have g0 := hf 0 _ rfl
    have g1 := hf 1 _ rfl
    have g2 := hf 2 _ rfl
    have g3 := hf 3 _ rfl
    have g4 := hf 4 _ rfl
    have g5 := hf 5 _ rfl
    have g6 := hf 6 _ rfl
    have g7 := hf 7 _ rfl
    simp [k1, k2] at g0 g1 g2 g3 g4 g5 g6 g7
    obtain ⟨z0, e0, -, w0⟩ := DataW.trod_int Tryd.underlying3 g0
    obtain ⟨z1, e1, -, w1⟩ := DataW.trod_int Tryd.underlying3 g1
    obtain ⟨z2, e2, -, w2⟩ := DataW.trod_int Tryd.underlying3 g2
    obtain ⟨s3, e3, -, w3⟩ := DataW.trod_string Tryd.underlying9 g3
    obtain ⟨s4, e4, -, w4⟩ := DataW.trod_string Tryd.underlying9 g4
    obtain ⟨s5, e5, -, w5⟩ := DataW.trod_string Tryd.underlying9 g5
    obtain ⟨z6, e6, -, w6⟩ := DataW.trod_int Tryd.underlying3 g6
    obtain ⟨z7, e7, -, w7⟩ := DataW.trod_int Tryd.underlying3 g7
    simp at e0 e1 e2 e3 e4 e5 e6 e7
    subst e0 e1 e2 e3 e4 e5 e6 e7
    exact ⟨⟨z0, z1, z2, s3, s4, s5, z6, z7⟩, rfl, ⟨w0, w1, w2, w6, w7, w3, w4, w5⟩⟩
theorem choose_below8 {α : Type} [Inhabited α] {n : Nat} {P : Nat → α → Prop} (h : ∀ i, i < n → ∃ a, P i a) : ∃ f : Nat → α, ∀ i, i < n → P i (f i) := by
  have : ∀ i, ∃ a, i < n → P i a := fun i => by
    by_cases hi : i < n
    · obtain ⟨a, ha⟩ := h i hi
      exact ⟨a, fun _ => ha⟩
    · exact ⟨default, fun k => absurd k hi⟩
  exact Classical.skolem.1 this
theorem recs_open {fuel : Nat} {cs : List Value} {x : DataW H × List MemPlace} (h : DataW.trod enc Tryd.prog W base spare held fuel 28 cs = some x) :
    ∃ A l c, cs = [.slice A l.length c] ∧ Rxs W A l ∧ l.length ≤ maxLen ∧ ∀ a ∈ l, RxOk a := by
  rcases open_slice Tryd.underlying28 h with ⟨rfl, _⟩ | ⟨a, len, cap, m, n, D, Pl, rfl, _, hl, hm, hmm, rfl, hx⟩
  · exact ⟨none, [], 0, rfl, .inl rfl, by simp, by simp⟩
  · have hlm : len ≤ m := by rw [hmm]; split <;> omega
    have hC : Tryd.prog.cellsOf 23 = 8 := by kernel_rfl
    have each : ∀ i, i < len → ∃ q : Rx, (∀ j, j < 8 → W.cell? ((a.add (i * 8)).add j) = q.cells[j]?) ∧ RxOk q := fun i hi => by
      obtain ⟨cs', h1, h2⟩ := hx i (by omega)
      rw [hC] at h1
      obtain ⟨_, hlen, hcell⟩ := World.cells?_some h1
      obtain ⟨q, rfl, hq⟩ := rec_open h2
      exact ⟨q, hcell, hq⟩
    obtain ⟨f, hf⟩ := choose_below8 each
    have hlen : ((List.range len).map f).length = len := by simp
    refine ⟨some a, (List.range len).map f, cap, by rw [hlen], ?_, by rw [hlen]; omega, fun q hq => ?_⟩
    · rcases Nat.eq_zero_or_pos len with rfl | hp
      · left; rfl
      · have h0 := (hf 0 hp).1 0 (by omega)
        rw [Nat.zero_mul] at h0
        have ha : (a.add 0).add 0 = a.add 0 := by simp [Addr.add]
        rw [ha] at h0
        obtain ⟨g, off, rfl, hg⟩ := addr_of8 (h0.trans rfl)
        refine .inr ⟨g, off, rfl, hg, fun k hk j u hu => ?_⟩
        simp at hu
        rw [hlen] at hk
        have hj : j < 8 := by
          have := (List.getElem?_eq_some_iff.1 hu).1
          simpa [Rx.cells] using this
        have := (hf k hk).1 j hj
        rw [Addr.add_lit, Addr.add_lit] at this
        rw [this]
        exact hu
    · obtain ⟨i, hi, rfl⟩ := List.mem_map.1 hq
      exact (hf i (by simpa using hi)).2
end Go.Proofs.YtfbakelpplpomaaDoor.Disk
