/-
  JournalAll: the walks of the document's areas, of Same, of Bytes.
-/
import Derived.Test.YtfbakelpplpomaaGreatDoorJournC
import Derived.Laws.StructEq
import Derived.Deep.QuietTactic
import Derived.BigQuiet
namespace Go.Proofs.YtfbakelpplpomaaGreatDoor.Disk
open Go.RowKit Go.Proofs.YtfbakelpplpomaaGreatDoor.DiskRows
open Pl.Seat (Rec)
set_option linter.unusedVariables false
set_option linter.unusedSimpArgs false
set_option maxRecDepth 100000

theorem refHalf_ok (n v : Nat) (w : World) (h : 16 ≤ n ∧ n ≤ 4096) (hv : halfV n = v) :
    Calls Tryz.prog 10 #[.int .i64 n] w fun x w' => x = .returned (.int .i64 (v : Nat)) ∧ w = w' := by
  have h1 : (16 : Int) ≤ (n : Int) := by omega
  have h2 : (n : Int) ≤ 4096 := by omega
  have hw1 : IntKind.i64.wrap ((n : Int) - 2) = (n : Int) - 2 := by rw [IntKind.wrap_i64]; omega
  have hq : Int.tdiv ((n : Int) - 2) 2 = (v : Int) := by
    rw [Int.tdiv_eq_ediv_of_nonneg (by omega)]
    unfold halfV at hv
    omega
  have hvb : (v : Int) ≤ 4096 := by unfold halfV at hv; omega
  clear h hv
  go_enter Tryz.func10, Tryz.ntmps10
  go_wp2
  go_ret
  exact ⟨rfl, rfl⟩
theorem refFirst_ok (n half f : Nat) (w : World) (h : 16 ≤ n ∧ n ≤ 4096) (hh : half ≤ 1) (hf : firstV n half = f) :
    Calls Tryz.prog 45 #[.int .i64 n, .int .i64 half] w fun x w' => x = .returned (.int .i64 (f : Nat)) ∧ w = w' := by
  obtain ⟨v, hv⟩ : ∃ v, halfV n = v := ⟨_, rfl⟩
  have HC := Lib.hid (refHalf_ok n v w h hv)
  have hvb : v ≤ 4096 := by rw [← hv]; unfold halfV; omega
  have hvi : (v : Int) ≤ 4096 := by omega
  unfold firstV at hf
  rw [hv] at hf
  clear h hv hvb
  have hc : half = 0 ∨ half = 1 := by omega
  rcases hc with rfl | rfl
  · rw [if_neg (by decide)] at hf
    subst hf
    go_enter Tryz.func45, Tryz.ntmps45
    go_wp2
    go_ret
    exact ⟨rfl, rfl⟩
  · rw [if_pos rfl] at hf
    have hfi : (2 : Int) + (v : Int) = (f : Int) := by omega
    have hw1 : IntKind.i64.wrap ((2 : Int) + (v : Int)) = (f : Int) := by rw [hfi, IntKind.wrap_i64]; omega
    clear hf
    go_enter Tryz.func45, Tryz.ntmps45
    go_wp2_with fail
    refine HC.out.mono ?_
    rintro x w1 ⟨rfl, rfl⟩
    go_wp2
    go_ret
    exact ⟨rfl, rfl⟩
theorem refPlace_ok (n half seq p : Nat) (w : World) (h : 16 ≤ n ∧ n ≤ 4096) (hh : half ≤ 1) (hs : seq < halfV n) (hp : placeV n half seq = p) :
    Calls Tryz.prog 12 #[.int .i64 n, .int .i64 half, .int .i64 seq] w fun x w' => x = .returned (.int .i64 (p : Nat)) ∧ w = w' := by
  obtain ⟨v, hv⟩ : ∃ v, halfV n = v := ⟨_, rfl⟩
  obtain ⟨f, hf⟩ : ∃ f, firstV n half = f := ⟨_, rfl⟩
  have HH := Lib.hid (fun W => refHalf_ok n v W h hv)
  have HF := Lib.hid (fun W => refFirst_ok n half f W h hh hf)
  have hvb : v ≤ 4096 := by rw [← hv]; unfold halfV; omega
  have hfb : f ≤ 4200 ∧ 2 ≤ f := by rw [← hf]; unfold firstV; rw [hv]; split <;> omega
  unfold placeV at hp
  rw [hv] at hs
  rw [hv, hf] at hp
  have e1 : (f : Int) + (v : Int) - 1 - (seq : Int) = (p : Int) := by omega
  have h3 : (v : Int) ≤ 4096 := by omega
  have h4 : (f : Int) ≤ 4200 := by omega
  have hw1 : IntKind.i64.wrap ((f : Int) + (v : Int)) = (f : Int) + (v : Int) := by rw [IntKind.wrap_i64]; omega
  have hw2 : IntKind.i64.wrap ((f : Int) + (v : Int) - 1) = (f : Int) + (v : Int) - 1 := by rw [IntKind.wrap_i64]; omega
  have hw3 : IntKind.i64.wrap ((f : Int) + (v : Int) - 1 - (seq : Int)) = (p : Int) := by rw [e1, IntKind.wrap_i64]; omega
  clear h hh hs hp hv hf hvb hfb e1
  go_enter Tryz.func12, Tryz.ntmps12
  go_wp2_with fail
  refine (HF.out _).mono ?_
  rintro x w1 ⟨rfl, rfl⟩
  go_wp2_with fail
  refine (HH.out _).mono ?_
  rintro x w1 ⟨rfl, rfl⟩
  go_wp2
  go_ret
  exact ⟨rfl, rfl⟩
/-- a row of records lies there -/
def RecRow (w : World) (A : Option Addr) (l : List Rec) : Prop := l = [] ∨ ∃ g off, A = some ⟨g, off, none⟩ ∧ g < w.heap.size ∧ ∀ k (h : k < l.length) j u, (rcells l[k])[j]? = some u → w.cell? ⟨g, off + k * 8 + j, none⟩ = some u
theorem RecRow.later {w w' : World} {A : Option Addr} {l : List Rec} (h : RecRow w A l) (k : Below w.heap.size w w') : RecRow w' A l := by
  rcases h with rfl | ⟨g, off, rfl, hg, hc⟩
  · exact .inl rfl
  · exact .inr ⟨g, off, rfl, Nat.lt_of_lt_of_le hg k.size, fun i hi j u hu => by rw [k.cell (p := ⟨g, off + i * 8 + j, none⟩) hg]; exact hc i hi j u hu⟩
theorem rvs_get (l : List Rec) : ∀ (k : Nat) (h : k < l.length) j u, (rcells l[k])[j]? = some u → (rvs l)[k * 8 + j]? = some u := by
  induction l with
  | nil => intro k h; simp at h
  | cons x l ih =>
    intro k h j u hu
    rw [rvs_cons]
    cases k with
    | zero =>
      have hj : j < (rcells x).length := (List.getElem?_eq_some_iff.1 hu).1
      rw [List.getElem?_append_left (by simpa using hj)]
      simpa using hu
    | succ k =>
      have hl : (rcells x).length = 8 := rfl
      rw [List.getElem?_append_right (by rw [hl]; omega), hl, show (k + 1) * 8 + j - 8 = k * 8 + j by omega]
      exact ih k (by simpa using h) j u hu
/-- a row of its own, read -/
theorem RecRow.of_own {w : World} {base n : Nat} {v : Value} {l : List Rec} (h : w.ownsRow base 24 8 v n (rvs l)) : ∃ A c, v = .slice A l.length c ∧ RecRow w A l := by
  have hn : l.length = n := by have := h.1; rw [rvs_length] at this; omega
  rcases h.2 with ⟨rfl, h0⟩ | ⟨g, cap, cur, rfl, hb, hg, hnc, hm, hs, ht⟩
  · have : l = [] := List.eq_nil_of_length_eq_zero (by omega)
    subst this
    exact ⟨none, 0, by simp, .inl rfl⟩
  · refine ⟨some ⟨g, 0, none⟩, cap, by rw [hn], .inr ⟨g, 0, rfl, (Array.getElem?_eq_some_iff.1 hg).1, fun k hk j u hu => ?_⟩⟩
    have := rvs_get l k hk j u hu
    rw [← ht, List.getElem?_take] at this
    split at this
    · rw [cell_of_row w g _ cur _ _ hg, ← this, Nat.zero_add]
      simp
    · cases this
theorem bsq (l m : List UInt8) : ((WalkVar.bs l).toList = (WalkVar.bs m).toList) = (l = m) := by
  rw [ByteArray.toList_eq, ByteArray.toList_eq, WalkVar.bs_list, WalkVar.bs_list]
theorem neqRec (x y : Rec) (w : World) : (binOp .neq 24 (.agg (rcells x).toArray) (.agg (rcells y).toArray)).run Tryz.prog w = .ok (.bool (!decide (x = y))) w := by
  have u3 := Tryz.underlying3
  have a3 := Tryz.isAgg3
  have z3 := Tryz.sizeOf3
  have u9 := Tryz.underlying9
  have a9 := Tryz.isAgg9
  have z9 := Tryz.sizeOf9
  have hS : Tryz.prog.underlying 24 = some (.struct (Tryz.prog.fieldsOf 24)) := by kernel_rfl
  have hp : Tryz.prog.stoodInHeld 24 = false := by kernel_rfl
  obtain ⟨e, q, k, N, O, M, t, u⟩ := x
  obtain ⟨e', q', k', N', O', M', t', u'⟩ := y
  simp only [rcells]
  rw [run_neq_struct, show (10000 : Nat) = 9999 + 1 from rfl, run_equalIn_agg w 9999 24 _ _ hS hp]
  simp only [Program.fieldsOf, Tryz.underlying24]
  go_simp
  simp only [bsq]
  by_cases h1 : e = e' <;> by_cases h2 : q = q' <;> by_cases h3 : k = k' <;> by_cases h4 : N = N' <;> by_cases h5 : O = O' <;> by_cases h6 : M = M' <;> by_cases h7 : t = t' <;> by_cases h8 : u = u' <;> simp [h1, h2, h3, h4, h5, h6, h7, h8]
end Go.Proofs.YtfbakelpplpomaaGreatDoor.Disk
/-
  The walk of Same: are two rows of records the same?
-/
namespace Go.Proofs.YtfbakelpplpomaaGreatDoor.Disk
open Go.RowKit Go.Proofs.YtfbakelpplpomaaGreatDoor.DiskRows
open Pl.Seat (Rec)
set_option linter.unusedVariables false
set_option linter.unusedSimpArgs false
set_option maxRecDepth 100000

theorem belowNq {B : Nat} {w w' : World} (h : Below B w w') (n : Nat) : Below B w (w'.drewN n) := ⟨h.os, h.tape, h.output, h.size, h.block⟩
theorem recs_eq {l m : List Rec} (hl : l.length = m.length) (h : ∀ i (h1 : i < l.length) (h2 : i < m.length), l[i] = m[i]) : l = m := List.ext_getElem hl h
set_option maxHeartbeats 6400000 in
theorem refSame_any (A B : Option Addr) (c c' : Nat) (l m : List Rec) (w : World) (hA : RecRow w A l) (hB : RecRow w B m) (hl : (l.length : Int) ≤ 1000000) (hm : (m.length : Int) ≤ 1000000) (r : Bool) (hr : decide (l = m) = r) :
    Calls Tryz.prog 17 #[.slice A l.length c, .slice B m.length c'] w fun x w' => x = .returned (.bool r) ∧ Below w.heap.size w w' := by
  by_cases hlen : l.length = m.length
  · have HL := Lib.hid (And.intro hA (And.intro hB (And.intro hlen hr)))
    obtain ⟨n, hn⟩ : ∃ n, l.length = n := ⟨_, rfl⟩
    have HN := Lib.hid hn
    rw [← hlen, hn]
    rw [hn] at hl
    clear hA hB hm hr hn hlen
    go_enter Tryz.func17, Tryz.ntmps17
    go_upto_region 4 with fail
    go_loopw [13] (fun i wr => ∃ k : Nat, k ≤ n ∧ i = .int .i64 k ∧ Hid (∀ i (h1 : i < l.length) (h2 : i < m.length), i < k → l[i] = m[i]) ∧ Below w.heap.size w wr) (fun i _ => n - (intOf i).toNat)
    case atStart => exact ⟨0, by omega, rfl, Lib.hid (fun i _ _ hi => absurd hi (by omega)), Below.refl _ _⟩
    case round =>
      obtain ⟨k, hk, rfl, HE, bk⟩ := hrel
      have HBk := Lib.hid bk
      by_cases hlt : k < n
      · have hql : k < l.length := by have := HN.out; omega
        have hpl : k < m.length := by have := HN.out; have := HL.out.2.2.1; omega
        obtain ⟨g, off, rfl, hg, hc⟩ : ∃ g off, A = some ⟨g, off, none⟩ ∧ g < w.heap.size ∧ ∀ k (h : k < l.length) j u, (rcells l[k])[j]? = some u → w.cell? ⟨g, off + k * 8 + j, none⟩ = some u := by
          rcases HL.out.1 with h | h
          · rw [h] at hql; simp at hql
          · exact h
        obtain ⟨g', off', rfl, hg', hc'⟩ : ∃ g off, B = some ⟨g, off, none⟩ ∧ g < w.heap.size ∧ ∀ k (h : k < m.length) j u, (rcells m[k])[j]? = some u → w.cell? ⟨g, off + k * 8 + j, none⟩ = some u := by
          rcases HL.out.2.1 with h | h
          · rw [h] at hpl; simp at hpl
          · exact h
        have q0 := (bk.cell (p := ⟨g, off + k * 8 + 0, none⟩) hg).trans (hc k hql 0 _ rfl)
        have q1 := (bk.cell (p := ⟨g, off + k * 8 + 1, none⟩) hg).trans (hc k hql 1 _ rfl)
        have q2 := (bk.cell (p := ⟨g, off + k * 8 + 2, none⟩) hg).trans (hc k hql 2 _ rfl)
        have q3 := (bk.cell (p := ⟨g, off + k * 8 + 3, none⟩) hg).trans (hc k hql 3 _ rfl)
        have q4 := (bk.cell (p := ⟨g, off + k * 8 + 4, none⟩) hg).trans (hc k hql 4 _ rfl)
        have q5 := (bk.cell (p := ⟨g, off + k * 8 + 5, none⟩) hg).trans (hc k hql 5 _ rfl)
        have q6 := (bk.cell (p := ⟨g, off + k * 8 + 6, none⟩) hg).trans (hc k hql 6 _ rfl)
        have q7 := (bk.cell (p := ⟨g, off + k * 8 + 7, none⟩) hg).trans (hc k hql 7 _ rfl)
        rw [Nat.add_zero] at q0
        have p0 := (bk.cell (p := ⟨g', off' + k * 8 + 0, none⟩) hg').trans (hc' k hpl 0 _ rfl)
        have p1 := (bk.cell (p := ⟨g', off' + k * 8 + 1, none⟩) hg').trans (hc' k hpl 1 _ rfl)
        have p2 := (bk.cell (p := ⟨g', off' + k * 8 + 2, none⟩) hg').trans (hc' k hpl 2 _ rfl)
        have p3 := (bk.cell (p := ⟨g', off' + k * 8 + 3, none⟩) hg').trans (hc' k hpl 3 _ rfl)
        have p4 := (bk.cell (p := ⟨g', off' + k * 8 + 4, none⟩) hg').trans (hc' k hpl 4 _ rfl)
        have p5 := (bk.cell (p := ⟨g', off' + k * 8 + 5, none⟩) hg').trans (hc' k hpl 5 _ rfl)
        have p6 := (bk.cell (p := ⟨g', off' + k * 8 + 6, none⟩) hg').trans (hc' k hpl 6 _ rfl)
        have p7 := (bk.cell (p := ⟨g', off' + k * 8 + 7, none⟩) hg').trans (hc' k hpl 7 _ rfl)
        rw [Nat.add_zero] at p0
        have hkn : (k : Int) < (n : Int) := by omega
        have hw2 : IntKind.i64.wrap ((k : Int) + 1) = ((k + 1 : Nat) : Int) := by rw [IntKind.wrap_i64]; omega
        have hnx : l[k] = m[k] → ∀ i (h1 : i < l.length) (h2 : i < m.length), i < k + 1 → l[i] = m[i] := fun e i h1 h2 hi => by
          rcases Nat.lt_or_ge i k with g | g
          · exact HE.out i h1 h2 g
          · obtain rfl : i = k := by omega
            exact e
        have hno : l[k] ≠ m[k] → r = false := fun e => by
          rw [← HL.out.2.2.2]
          exact decide_eq_false (fun h => e (by simp [h]))
        have hne := fun W => neqRec l[k] m[k] W
        generalize l[k] = x at q0 q1 q2 q3 q4 q5 q6 q7 hnx hno hne
        generalize m[k] = y at p0 p1 p2 p3 p4 p5 p6 p7 hnx hno hne
        have HX := Lib.hid (And.intro hnx hno)
        have HK := Lib.hid (And.intro hlt hk)
        by_cases e : x = y
        · have hd : decide (x = y) = true := decide_eq_true e
          rw [hd] at hne
          have HE2 := Lib.hid (HX.out.1 e)
          obtain ⟨x0, x1, x2, x3, x4, x5, x6, x7⟩ := x
          obtain ⟨y0, y1, y2, y3, y4, y5, y6, y7⟩ := y
          simp only [rcells] at hne
          clear e hd hnx hno HX hc hc' hg hg' hql hpl bk hlt hk HE
          go_upto_region 6 with fail
          go_quiet (fail)
          go_wp2
          go_round
          case rel => exact ⟨k + 1, by have := HK.out; omega, rfl, HE2, belowNq HBk.out _⟩
          case measure => have := HK.out; simp [intOf]; omega
        · have hd : decide (x = y) = false := decide_eq_false e
          rw [hd] at hne
          have HE2 := Lib.hid (HX.out.2 e)
          obtain ⟨x0, x1, x2, x3, x4, x5, x6, x7⟩ := x
          obtain ⟨y0, y1, y2, y3, y4, y5, y6, y7⟩ := y
          simp only [rcells] at hne
          clear e hd hnx hno HX hc hc' hg hg' hql hpl bk hlt hk HE
          go_upto_region 6 with fail
          go_quiet (fail)
          go_wp2
          go_ret
          exact ⟨by show Ending.returned (Value.bool false) = _; rw [HE2.out], belowNq HBk.out _⟩
      · obtain rfl : k = n := by omega
        have hkk : ¬ (k : Int) < (k : Int) := by omega
        have hr1 : r = true := by
          rw [← HL.out.2.2.2]
          exact decide_eq_true (recs_eq HL.out.2.2.1 (fun i h1 h2 => HE.out i h1 h2 (by have := HN.out; omega)))
        have HR := Lib.hid hr1
        clear hr1 bk hlt hk HE
        go_wp2
        go_ret
        exact ⟨by show Ending.returned (Value.bool true) = _; rw [HR.out], HBk.out⟩
  · have hr1 : r = false := by rw [← hr]; exact decide_eq_false (fun h => hlen (by rw [h]))
    have HR := Lib.hid hr1
    obtain ⟨n, hn⟩ : ∃ n, l.length = n := ⟨_, rfl⟩
    obtain ⟨n', hn'⟩ : ∃ n, m.length = n := ⟨_, rfl⟩
    rw [hn, hn'] at hlen ⊢
    have hb : ((n : Int) == (n' : Int)) = false := by simp; omega
    have hb2 : ((n : Int) != (n' : Int)) = true := by simp; omega
    clear hn hn' hl hm hA hB hr hr1
    go_enter Tryz.func17, Tryz.ntmps17
    go_wp2
    go_ret
    exact ⟨by show Ending.returned (Value.bool false) = _; rw [HR.out], Below.refl _ _⟩
end Go.Proofs.YtfbakelpplpomaaGreatDoor.Disk
