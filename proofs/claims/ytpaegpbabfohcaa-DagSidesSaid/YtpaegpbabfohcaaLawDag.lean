/-
  dag: the laws' walks: what they share, DagBase.
-/
import Derived.Test.YtpaegpbabfohcaaDagAwake
namespace Go.Proofs.Ytpaegpbabfohcaa.WalkDag
open Go.RowKit Go.Proofs.Ytpaegpbabfohcaa.HeapPure Go.Proofs.Ytpaegpbabfohcaa.HeapA Go.Proofs.Ytpaegpbabfohcaa.MapAt Go.Proofs.Ytpaegpbabfohcaa.DagPure Go.Proofs.Ytpaegpbabfohcaa.WalkInts
set_option linter.unusedVariables false
set_option linter.unusedSimpArgs false
set_option maxRecDepth 100000

/-- a slice that reads as o -/
def Rd (w : World) (v : Value) (o : List Int) : Prop := ∃ A c, v = .slice A o.length c ∧ Ints w A o ∧ (∀ g off, A = some ⟨g, off, none⟩ → g < w.heap.size) ∧ o.length ≤ 1000
theorem Rd.below {w w' : World} {v : Value} {o : List Int} (h : Rd w v o) (b : Below w.heap.size w w') : Rd w' v o := by
  obtain ⟨A, c, rfl, h1, h2, h3⟩ := h
  exact ⟨A, c, rfl, h1.below b h2, fun g off e => Nat.lt_of_lt_of_le (h2 g off e) b.size, h3⟩
theorem Rd.of {w : World} {H : Nat} {v : Value} {o : List Int} (h : Own w H v o) (hl : o.length ≤ 1000) : Rd w v o := by
  obtain ⟨A, c, rfl, h1, h2, -, -⟩ := own_reads h
  exact ⟨A, c, rfl, h1, fun g off e => (h2 g off e).2, hl⟩
theorem intsR (v u : Value) (a b : List Int) (w : World) (hv : Rd w v a) (hu : Rd w u b) : Calls Try.prog 16 #[v, u] w fun e w' => e = .returned (.bool (a == b)) ∧ Below w.heap.size w w' := by
  obtain ⟨A, c, rfl, h1, -, h3⟩ := hv
  obtain ⟨B, d, rfl, g1, -, g3⟩ := hu
  exact ints_any A B c d a b w h1 g1 (by omega) (by omega)
theorem why_uniq {l : List Kn} {fs : List Int} {r s : Int} (h : Why l fs r) (k : Why l fs s) : r = s := by
  rcases h with ⟨h1, rfl⟩ | ⟨h1, ⟨f, hf, hn⟩, rfl⟩ | ⟨h1, h2, rfl⟩ <;> rcases k with ⟨k1, rfl⟩ | ⟨k1, ⟨f', hf', hn'⟩, rfl⟩ | ⟨k1, k2, rfl⟩
  · rfl
  · exact absurd k1 h1
  · exact absurd k1 h1
  · exact absurd h1 k1
  · rfl
  · exact absurd (k2 f hf) hn
  · exact absurd h1 k1
  · exact absurd (h2 f' hf') hn'
  · rfl
theorem why_zero {l : List Kn} {fs : List Int} {r : Int} (h : Why l fs r) (hr : r = 0) : Ok l ∧ ∀ f ∈ fs, Has l f := by
  subst hr
  rcases h with ⟨_, h⟩ | ⟨_, _, h⟩ | ⟨h1, h2, _⟩
  · cases h
  · cases h
  · exact ⟨h1, h2⟩
theorem rev_len (l : List Kn) : (rev l).length = l.length := by unfold rev; simp
theorem back_len (l : List Kn) (n : Int) : (back (rev l) n).length ≤ l.length := by
  unfold back
  rw [List.length_map]
  have := List.length_filter_le (fun k => ofGo (rev l) [n] k.n) (rev l)
  rw [rev_len] at this
  exact this
theorem common_len (l : List Kn) (a b : Int) : (common (rev l) a b).length ≤ l.length := by
  unfold common
  rw [List.length_map]
  have := List.length_filter_le (fun k => ofGo (rev l) [a] k.n && ofGo (rev l) [b] k.n) (rev l)
  rw [rev_len] at this
  exact this
theorem best_len (l : List Kn) (a b : Int) : (best (rev l) a b).length ≤ l.length := by
  unfold best
  have := List.length_filter_le (isBest (rev l) a b) (common (rev l) a b).reverse
  rw [List.length_reverse] at this
  exact Nat.le_trans this (common_len l a b)
theorem tips_len (l : List Kn) : (tips l).length ≤ l.length := by
  unfold tips
  rw [List.length_map]
  exact List.length_filter_le _ _
theorem beq_self' (a : List Int) : (a == a) = true := beq_self_eq_true a
theorem rd_slice {w : World} {v : Value} {o : List Int} (h : Rd w v o) : ∃ A c, v = .slice A o.length c := by
  obtain ⟨A, c, e, _⟩ := h
  exact ⟨A, c, e⟩

set_option maxHeartbeats 3200000 in
theorem dagBase_walk (A : Option Addr) (c : Nat) (l : List Kn) (a b : Int) (w : World) (h : Knots w.heap.size w A l) (hcap : l.length ≤ c) (hc : c ≤ maxLen) :
    Calls Try.prog 3 #[.slice A l.length c, .int .i64 a, .int .i64 b] w fun e w' => e = .returned (.bool true) ∧ Below w.heap.size w w' := by
  unfold maxLen at hc
  have HK := Lib.hid h
  have hm9 : l.length ≤ 9223372036854775807 := by omega
  clear h
  go_enter Try.func3, Try.ntmps3
  go_wp2_with fail
  refine (few_any A c l w HK.out hm9).mono ?_
  rintro e w0 ⟨⟨r, rfl, hr⟩, hB0⟩
  have HR := Lib.hid hr
  clear hr
  have HB0 := Lib.hid hB0
  clear hB0
  cases r with
  | false =>
    go_wp2_with fail
    refine (awake_any w0).mono ?_
    rintro e w1 ⟨rfl, hB1⟩
    have HB1 := Lib.hid (HB0.out.trans (hB1.mono HB0.out.size))
    clear hB1
    go_wp2_with fail
    go_ret
    exact ⟨rfl, HB1.out⟩
  | true =>
    have HF : Hid (Few l) := HR.out.1 rfl
    have hl100 : l.length ≤ 100 := by have := HF.out.1; omega
    have HK0 : Hid (∀ w1, Below w.heap.size w w1 → Knots w1.heap.size w1 A l) := fun w1 b1 => (HK.out.below b1).mono b1.size
    go_wp2_with fail
    refine (common_any A c l a b w0 (HK0.out w0 HB0.out) hl100).mono ?_
    rintro e w1 ⟨⟨r, v1, o1, rfl, h1, own1, n1, z1⟩, b1⟩
    have HB1 : Hid (Below w.heap.size w w1) := HB0.out.trans (b1.mono HB0.out.size)
    have H1 := Lib.hid h1
    have N1 := Lib.hid n1
    have Z1 := Lib.hid z1
    have hlen1 : o1.length ≤ 1000 := by
      by_cases hr : r = 0
      · rw [z1 hr]; have := common_len l a b; omega
      · rw [n1 hr]; simp
    have R1 : Hid (Rd w1 v1 o1) := Rd.of own1 hlen1
    clear h1 n1 z1 own1 hlen1 b1
    go_wp2_with fail
    refine (best_any A c l a b w1 (HK0.out w1 HB1.out) hl100).mono ?_
    rintro e w2 ⟨⟨r', v2, o2, rfl, h2, own2, n2, z2⟩, b2⟩
    obtain rfl := why_uniq H1.out h2
    have HB2 : Hid (Below w.heap.size w w2) := HB1.out.trans (b2.mono HB1.out.size)
    have N2 := Lib.hid n2
    have Z2 := Lib.hid z2
    have hlen2 : o2.length ≤ 1000 := by
      by_cases hr : r = 0
      · rw [z2 hr]; have := best_len l a b; omega
      · rw [n2 hr]; simp
    have R2 : Hid (Rd w2 v2 o2) := Rd.of own2 hlen2
    have R1 : Hid (Rd w2 v1 o1) := R1.out.below b2
    clear h2 n2 z2 own2 hlen2 b2
    go_wp2_with fail
    refine (base_any A c l a b w2 (HK0.out w2 HB2.out) hl100).mono ?_
    rintro e w3 ⟨⟨r', x, s, rfl, h3, n3, z3⟩, b3⟩
    obtain rfl := why_uniq H1.out h3
    have HB3 : Hid (Below w.heap.size w w3) := HB2.out.trans (b3.mono HB2.out.size)
    have N3 := Lib.hid n3
    have Z3 := Lib.hid z3
    have R2 : Hid (Rd w3 v2 o2) := R2.out.below b3
    have R1 : Hid (Rd w3 v1 o1) := R1.out.below b3
    clear h3 n3 z3 b3
    go_wp2_with fail
    refine (wrong_any A c l a b w3 (HK0.out w3 HB3.out) hl100 hcap hc).mono ?_
    rintro e w4 ⟨⟨r', rfl, h4⟩, b4⟩
    obtain rfl := why_uniq H1.out h4
    have HB4 : Hid (Below w.heap.size w w4) := HB3.out.trans (b4.mono HB3.out.size)
    have R2 : Hid (Rd w4 v2 o2) := R2.out.below b4
    have R1 : Hid (Rd w4 v1 o1) := R1.out.below b4
    clear h4 b4
    obtain ⟨A1, c1, rfl⟩ := rd_slice R1.out
    obtain ⟨A2, c2, rfl⟩ := rd_slice R2.out
    by_cases hr : r = 0
    · obtain rfl : r = 0 := hr
      obtain rfl := Z1.out rfl
      obtain rfl := Z2.out rfl
      have hz := Z3.out rfl
      have HZ := Lib.hid hz
      clear hz
      go_wp2_with fail
      refine (bestR_any A c l a b w4 (HK0.out w4 HB4.out) HF.out).mono ?_
      rintro e w5 ⟨⟨v5, o5, rfl, own5, rfl⟩, b5⟩
      have HB5 : Hid (Below w.heap.size w w5) := HB4.out.trans (b5.mono HB4.out.size)
      have R5 : Hid (Rd w5 v5 (best (rev l) a b)) := Rd.of own5 (by have := best_len l a b; omega)
      have R2 := Lib.hid (R2.out.below b5)
      have R1 := Lib.hid (R1.out.below b5)
      clear own5 b5
      obtain ⟨A5, c5, rfl⟩ := rd_slice R5.out
      go_wp2_with fail
      refine (commonR_any A c l a b w5 (HK0.out w5 HB5.out) HF.out).mono ?_
      rintro e w6 ⟨⟨v6, o6, rfl, own6, rfl⟩, b6⟩
      have HB6 : Hid (Below w.heap.size w w6) := HB5.out.trans (b6.mono HB5.out.size)
      have R6 : Hid (Rd w6 v6 (common (rev l) a b)) := Rd.of own6 (by have := common_len l a b; omega)
      have R5 := Lib.hid (R5.out.below b6)
      have R2 := Lib.hid (R2.out.below b6)
      have R1 := Lib.hid (R1.out.below b6)
      clear own6 b6
      go_wp2_with fail
      refine (intsR _ _ _ _ w6 R1.out R6.out).mono ?_
      rintro e w7 ⟨rfl, b7⟩
      rw [beq_self']
      have HB7 : Hid (Below w.heap.size w w7) := HB6.out.trans (b7.mono HB6.out.size)
      have R5 := Lib.hid (R5.out.below b7)
      have R2 := Lib.hid (R2.out.below b7)
      clear b7
      go_wp2_with fail
      refine (intsR _ _ _ _ w7 R2.out R5.out).mono ?_
      rintro e w8 ⟨rfl, b8⟩
      rw [beq_self']
      have HB8 : Hid (Below w.heap.size w w8) := HB7.out.trans (b8.mono HB7.out.size)
      have R5 := Lib.hid (R5.out.below b8)
      clear b8
      obtain ⟨B, hB⟩ : ∃ B, B = best (rev l) a b := ⟨_, rfl⟩
      rw [← hB] at R5 HZ
      rw [← hB]
      clear R1 R2 R6 hB
      by_cases hB0 : B = []
      · obtain ⟨rfl, rfl⟩ := HZ.out.1 hB0
        have HBN := Lib.hid hB0
        have d0 : ((B.length : Int) == 0) = true := by rw [hB0]; rfl
        clear hB0
        go_wp2_with fail
        refine (awake_any w8).mono ?_
        rintro e w9 ⟨rfl, b9⟩
        have HB9 : Hid (Below w.heap.size w w9) := HB8.out.trans (b9.mono HB8.out.size)
        clear b9
        go_wp2_with fail
        go_ret
        exact ⟨rfl, HB9.out⟩
      · obtain ⟨hx, rfl⟩ := HZ.out.2 hB0
        have hp : 0 < B.length := List.length_pos_iff.2 hB0
        have d0 : ((B.length : Int) == 0) = false := beq_eq_false_iff_ne.2 (by omega)
        obtain ⟨A5', c5', e5, hi5, -, -⟩ := R5.out
        injection e5 with e51 e52 e53
        subst e51 e53
        rcases hi5 with hn | ⟨g, off, rfl, hcell⟩
        · exact absurd hn hB0
        · have hc0 := hcell 0 hp
          rw [Nat.add_zero, ← hx] at hc0
          clear hcell e52 hB0 hx
          go_wp2_with fail
          refine (awake_any w8).mono ?_
          rintro e w9 ⟨rfl, b9⟩
          have HB9 : Hid (Below w.heap.size w w9) := HB8.out.trans (b9.mono HB8.out.size)
          clear b9
          go_wp2_with fail
          go_ret
          exact ⟨rfl, HB9.out⟩
    · obtain rfl := N1.out hr
      obtain rfl := N2.out hr
      have d0 : (r != 0) = true := by simpa using hr
      obtain ⟨rfl, rfl⟩ := N3.out hr
      clear hr
      go_wp2_with fail
      refine (awake_any w4).mono ?_
      rintro e w9 ⟨rfl, b9⟩
      have HB9 : Hid (Below w.heap.size w w9) := HB4.out.trans (b9.mono HB4.out.size)
      clear b9
      go_wp2_with fail
      go_ret
      exact ⟨rfl, HB9.out⟩
end Go.Proofs.Ytpaegpbabfohcaa.WalkDag
