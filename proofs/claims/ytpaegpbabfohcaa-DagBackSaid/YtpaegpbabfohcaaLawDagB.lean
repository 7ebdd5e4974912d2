/-
  dag: the laws' walks: DagSides, DagBack.
-/
import Derived.Test.YtpaegpbabfohcaaLawDag
namespace Go.Proofs.Ytpaegpbabfohcaa.WalkDag
open Go.RowKit Go.Proofs.Ytpaegpbabfohcaa.HeapPure Go.Proofs.Ytpaegpbabfohcaa.HeapA Go.Proofs.Ytpaegpbabfohcaa.MapAt Go.Proofs.Ytpaegpbabfohcaa.DagPure Go.Proofs.Ytpaegpbabfohcaa.WalkInts
set_option linter.unusedVariables false
set_option linter.unusedSimpArgs false
set_option maxRecDepth 100000

theorem mem_back {t : List K} {n x : Int} : x ∈ back t n ↔ ofGo t [n] x = true := by
  unfold back
  constructor
  · intro h
    obtain ⟨k, hk, rfl⟩ := List.mem_map.1 h
    exact (List.mem_filter.1 hk).2
  · intro h
    obtain ⟨k, hk, rfl⟩ := ofGo_mem h
    exact List.mem_map.2 ⟨k, List.mem_filter.2 ⟨hk, h⟩, rfl⟩
theorem closed_lt {t : List K} (hF : Falls t) (hC : Closed t) : ∀ k ∈ t, ∀ p ∈ k.ps, p < k.n := by
  induction t with
  | nil => intro k hk; cases hk
  | cons a t ih =>
    intro k hk p hp
    rcases List.mem_cons.1 hk with rfl | hk
    · obtain ⟨y, hy, rfl⟩ := hC.1 p hp
      exact hF.1 y hy
    · exact ih hF.2 hC.2 k hk p hp
theorem Rd.one (w : World) (x : Int) : Rd (w.alloc (.cells #[.int .i64 x] 3)) (.slice (some ⟨w.heap.size, 0, none⟩) 1 1) [x] :=
  Rd.of (Own.one w x) (by simp)

set_option maxHeartbeats 3200000 in
theorem dagSides_walk (A : Option Addr) (c : Nat) (l : List Kn) (a b : Int) (w : World) (h : Knots w.heap.size w A l) (hcap : l.length ≤ c) (hc : c ≤ maxLen) :
    Calls Try.prog 4 #[.slice A l.length c, .int .i64 a, .int .i64 b] w fun e w' => e = .returned (.bool true) ∧ Below w.heap.size w w' := by
  unfold maxLen at hc
  have HK := Lib.hid h
  have hm9 : l.length ≤ 9223372036854775807 := by omega
  clear h
  go_enter Try.func4, Try.ntmps4
  go_wp2_with fail
  refine (few_any A c l w HK.out hm9).mono ?_
  rintro e w0 ⟨⟨r, rfl, hr⟩, hB0⟩
  have HR := Lib.hid hr
  clear hr
  have HB0 := Lib.hid hB0
  clear hB0
  cases r with
  | false =>
    go_wp2_with fail
    refine (awake_any w0).mono ?_
    rintro e w1 ⟨rfl, hB1⟩
    have HB1 := Lib.hid (HB0.out.trans (hB1.mono HB0.out.size))
    clear hB1
    go_wp2_with fail
    go_ret
    exact ⟨rfl, HB1.out⟩
  | true =>
    have HF : Hid (Few l) := HR.out.1 rfl
    have hl100 : l.length ≤ 100 := by have := HF.out.1; omega
    have HK0 : Hid (∀ w1, Below w.heap.size w w1 → Knots w1.heap.size w1 A l) := fun w1 b1 => (HK.out.below b1).mono b1.size
    go_wp2_with fail
    refine (wrong_any A c l a b w0 (HK0.out w0 HB0.out) hl100 hcap hc).mono ?_
    rintro e w1 ⟨⟨r, rfl, h1⟩, b1⟩
    have HB1 : Hid (Below w.heap.size w w1) := HB0.out.trans (b1.mono HB0.out.size)
    clear b1
    by_cases hr : r = 0
    · obtain ⟨hok, hhas⟩ := why_zero h1 hr
      obtain rfl : r = 0 := hr
      have HOK := Lib.hid hok
      have ha : Hid (Has l a) := hhas a (by simp)
      have hb : Hid (Has l b) := hhas b (by simp)
      clear hok hhas h1
      go_wp2_with fail
      refine (best_any A c l a b w1 (HK0.out w1 HB1.out) hl100).mono ?_
      rintro e w2 ⟨⟨r, v2, o2, rfl, h2, own2, n2, z2⟩, b2⟩
      obtain rfl : r = 0 := why_uniq h2 (.inr (.inr ⟨HOK.out, fun f hf => by simp at hf; rcases hf with rfl | rfl; exact ha.out; exact hb.out, rfl⟩))
      obtain rfl := z2 rfl
      have HB2 : Hid (Below w.heap.size w w2) := HB1.out.trans (b2.mono HB1.out.size)
      have R2 : Hid (Rd w2 v2 (best (rev l) a b)) := Rd.of own2 (by have := best_len l a b; omega)
      clear h2 n2 z2 own2 b2
      go_wp2_with fail
      refine (best_any A c l b a w2 (HK0.out w2 HB2.out) hl100).mono ?_
      rintro e w3 ⟨⟨r, v3, o3, rfl, h3, own3, n3, z3⟩, b3⟩
      obtain rfl : r = 0 := why_uniq h3 (.inr (.inr ⟨HOK.out, fun f hf => by simp at hf; rcases hf with rfl | rfl; exact hb.out; exact ha.out, rfl⟩))
      obtain rfl := z3 rfl
      have HB3 : Hid (Below w.heap.size w w3) := HB2.out.trans (b3.mono HB2.out.size)
      have R3 : Hid (Rd w3 v3 (best (rev l) a b)) := by
        have := Rd.of own3 (by have := best_len l b a; omega)
        rw [best_comm] at this
        exact this
      have R2 := Lib.hid (R2.out.below b3)
      clear h3 n3 z3 own3 b3
      go_wp2_with fail
      refine (of_any A c l a b w3 (HK0.out w3 HB3.out) hl100).mono ?_
      rintro e w4 ⟨⟨r1, r2, bb, s, rfl, h4, n4, z4⟩, b4⟩
      obtain rfl : r1 = 0 := why_uniq h4 (.inr (.inr ⟨HOK.out, fun f hf => by simp at hf; subst hf; exact hb.out, rfl⟩))
      obtain ⟨h5, rfl, n5, z5⟩ := z4 rfl
      obtain rfl : s = 0 := why_uniq h5 (.inr (.inr ⟨HOK.out, fun f hf => by simp at hf; subst hf; exact ha.out, rfl⟩))
      have hbb := z5 rfl
      have HB4 : Hid (Below w.heap.size w w4) := HB3.out.trans (b4.mono HB3.out.size)
      have R3 := Lib.hid (R3.out.below b4)
      have R2 := Lib.hid (R2.out.below b4)
      have HBB : Hid (bb = true → best (rev l) a b = [b]) := fun e => by
        rw [e] at hbb
        have hm := of_decide_eq_true hbb.symm
        obtain ⟨f1, f2⟩ := ok_falls HOK.out
        exact best_one f1 (closed_lt f1 f2) (mem_back.1 hm)
      clear h4 n4 z4 h5 n5 z5 hbb b4
      go_wp2_with fail
      refine (intsR _ _ _ _ w4 R2.out R3.out).mono ?_
      rintro e w5 ⟨rfl, b5⟩
      rw [beq_self']
      have HB5 : Hid (Below w.heap.size w w5) := HB4.out.trans (b5.mono HB4.out.size)
      have R2 := Lib.hid (R2.out.below b5)
      clear b5
      cases bb with
      | false =>
        go_wp2_with fail
        refine (awake_any w5).mono ?_
        rintro e w9 ⟨rfl, b9⟩
        have HB9 : Hid (Below w.heap.size w w9) := HB5.out.trans (b9.mono HB5.out.size)
        clear b9
        go_wp2_with fail
        go_ret
        exact ⟨rfl, HB9.out⟩
      | true =>
        have he := HBB.out rfl
        rw [he] at R2
        have R6 := Lib.hid (R2.out.below (Joins.below_alloc1 w5 (.cells #[.int .i64 b] 3)))
        have R7 := Lib.hid (Rd.one w5 b)
        have HB6 : Hid (Below w.heap.size w (w5.alloc (.cells #[.int .i64 b] 3))) := HB5.out.trans ((Joins.below_alloc1 w5 _).mono HB5.out.size)
        clear he
        go_wp2_with fail
        refine (intsR _ _ _ _ _ R6.out R7.out).mono ?_
        rintro e w7 ⟨rfl, b7⟩
        rw [beq_self']
        have HB7 : Hid (Below w.heap.size w w7) := HB6.out.trans (b7.mono HB6.out.size)
        clear b7
        go_wp2_with fail
        refine (awake_any w7).mono ?_
        rintro e w9 ⟨rfl, b9⟩
        have HB9 : Hid (Below w.heap.size w w9) := HB7.out.trans (b9.mono HB7.out.size)
        clear b9
        go_wp2_with fail
        go_ret
        exact ⟨rfl, HB9.out⟩
    · have d0 : (r != 0) = true := by simpa using hr
      clear hr h1
      go_wp2_with fail
      refine (awake_any w1).mono ?_
      rintro e w9 ⟨rfl, b9⟩
      have HB9 : Hid (Below w.heap.size w w9) := HB1.out.trans (b9.mono HB1.out.size)
      clear b9
      go_wp2_with fail
      go_ret
      exact ⟨rfl, HB9.out⟩

theorem why_two {l : List Kn} {n r s : Int} (h : Why l [n] r) (k : Why l [n, n] s) : r = s := by
  refine why_uniq h ?_
  rcases k with ⟨k1, e⟩ | ⟨k1, ⟨f, hf, hn⟩, e⟩ | ⟨k1, k2, e⟩
  · exact .inl ⟨k1, e⟩
  · exact .inr (.inl ⟨k1, ⟨f, by simp at hf ⊢; exact hf, hn⟩, e⟩)
  · exact .inr (.inr ⟨k1, fun f hf => k2 f (by simp at hf ⊢; exact hf), e⟩)

theorem why_ok9 {l : List Kn} {fs : List Int} {r : Int} (h : Why l fs r) (hok : Ok l) (hr : r ≠ 0) : r = 9 := by
  rcases h with ⟨k, _⟩ | ⟨_, _, e⟩ | ⟨_, _, e⟩
  · exact absurd hok k
  · exact e
  · exact absurd e hr
theorem why_bad {l : List Kn} {fs : List Int} {r : Int} (h : Why l fs r) (hok : ¬ Ok l) : r = 3 := by
  rcases h with ⟨_, e⟩ | ⟨k, _⟩ | ⟨k, _⟩
  · exact e
  · exact absurd k hok
  · exact absurd k hok
set_option maxHeartbeats 6400000 in
theorem dagBack_walk (A : Option Addr) (c : Nat) (l : List Kn) (n x : Int) (w : World) (h : Knots w.heap.size w A l) (hcap : l.length ≤ c) (hc : c ≤ maxLen) :
    Calls Try.prog 5 #[.slice A l.length c, .int .i64 n, .int .i64 x] w fun e w' => e = .returned (.bool true) ∧ Below w.heap.size w w' := by
  unfold maxLen at hc
  have HK := Lib.hid h
  have hm9 : l.length ≤ 9223372036854775807 := by omega
  clear h
  go_enter Try.func5, Try.ntmps5
  go_wp2_with fail
  refine (few_any A c l w HK.out hm9).mono ?_
  rintro e w0 ⟨⟨r, rfl, hr⟩, hB0⟩
  have HR := Lib.hid hr
  clear hr
  have HB0 := Lib.hid hB0
  clear hB0
  cases r with
  | false =>
    go_wp2_with fail
    refine (awake_any w0).mono ?_
    rintro e w9 ⟨rfl, b9⟩
    have HB9 : Hid (Below w.heap.size w w9) := HB0.out.trans (b9.mono HB0.out.size)
    clear b9
    go_wp2_with fail
    go_ret
    exact ⟨rfl, HB9.out⟩
  | true =>
    have HF : Hid (Few l) := HR.out.1 rfl
    have hl100 : l.length ≤ 100 := by have := HF.out.1; omega
    have HK0 : Hid (∀ w1, Below w.heap.size w w1 → Knots w1.heap.size w1 A l) := fun w1 b1 => (HK.out.below b1).mono b1.size
    go_wp2_with fail
    refine (back_any A c l n w0 (HK0.out w0 HB0.out) hl100).mono ?_
    rintro e w1 ⟨⟨ra, va, oa, rfl, h1, own1, n1, z1⟩, b1⟩
    have HB1 : Hid (Below w.heap.size w w1) := HB0.out.trans (b1.mono HB0.out.size)
    have H1 := Lib.hid h1
    have N1 := Lib.hid n1
    have Z1 := Lib.hid z1
    have hlen1 : oa.length ≤ 1000 := by
      by_cases hr : ra = 0
      · rw [z1 hr]; have := back_len l n; omega
      · rw [(n1 hr).2]; simp
    have R1 : Hid (Rd w1 va oa) := Rd.of own1 hlen1
    clear h1 n1 z1 own1 hlen1 b1
    go_wp2_with fail
    refine (of_any A c l n x w1 (HK0.out w1 HB1.out) hl100).mono ?_
    rintro e w2 ⟨⟨r1, r2, bb, s, rfl, h2, n2, z2⟩, b2⟩
    have HB2 : Hid (Below w.heap.size w w2) := HB1.out.trans (b2.mono HB1.out.size)
    have H2 := Lib.hid h2
    have N2 := Lib.hid n2
    have Z2 := Lib.hid z2
    have R1 := Lib.hid (R1.out.below b2)
    clear h2 n2 z2 b2
    go_wp2_with fail
    refine (tips_any A c l w2 (HK0.out w2 HB2.out) hl100).mono ?_
    rintro e w3 ⟨⟨rt, vt, ot, rfl, h3, own3, n3, z3⟩, b3⟩
    have HB3 : Hid (Below w.heap.size w w3) := HB2.out.trans (b3.mono HB2.out.size)
    have H3 := Lib.hid h3
    have N3 := Lib.hid n3
    have Z3 := Lib.hid z3
    have hlen3 : ot.length ≤ 1000 := by
      by_cases hr : rt = 0
      · rw [z3 hr]; have := tips_len l; omega
      · rw [n3 hr]; simp
    have R3 : Hid (Rd w3 vt ot) := Rd.of own3 hlen3
    have R1 := Lib.hid (R1.out.below b3)
    clear h3 n3 z3 own3 hlen3 b3
    go_wp2_with fail
    refine (is_any A c l w3 (HK0.out w3 HB3.out) hl100 hcap hc).mono ?_
    rintro e w4 ⟨⟨r, rfl, h4⟩, b4⟩
    have HB4 : Hid (Below w.heap.size w w4) := HB3.out.trans (b4.mono HB3.out.size)
    have H4 := Lib.hid h4
    have R3 := Lib.hid (R3.out.below b4)
    have R1 := Lib.hid (R1.out.below b4)
    clear h4 b4
    obtain ⟨A1, c1, rfl⟩ := rd_slice R1.out
    obtain ⟨A3, c3, rfl⟩ := rd_slice R3.out
    cases r with
    | false =>
      have hno : Hid (¬ Ok l) := fun k => by have := H4.out.2 k; cases this
      obtain rfl : ra = 3 := why_bad H1.out hno.out
      obtain rfl : r1 = 3 := why_bad H2.out hno.out
      obtain ⟨rfl, rfl⟩ := N2.out (by decide)
      obtain ⟨-, rfl⟩ := N1.out (by decide)
      obtain rfl : rt = 3 := by
        rcases H3.out with ⟨_, e⟩ | ⟨k, _⟩
        · exact e
        · exact absurd k hno.out
      obtain rfl := N3.out (by decide)
      clear R1 R3
      go_wp2_with fail
      refine (check_any A c l w4 (HK0.out w4 HB4.out) hl100).mono ?_
      rintro e w5 ⟨⟨r5, rfl, h5⟩, b5⟩
      obtain rfl : r5 = 3 := by
        rcases h5 with ⟨k, _⟩ | ⟨_, e⟩
        · exact absurd k hno.out
        · exact e
      have HB5 : Hid (Below w.heap.size w w5) := HB4.out.trans (b5.mono HB4.out.size)
      clear h5 b5
      go_wp2_with fail
      refine (wrong_any A c l n n w5 (HK0.out w5 HB5.out) hl100 hcap hc).mono ?_
      rintro e w6 ⟨⟨r6, rfl, h6⟩, b6⟩
      obtain rfl : r6 = 3 := why_bad h6 hno.out
      have HB6 : Hid (Below w.heap.size w w6) := HB5.out.trans (b6.mono HB5.out.size)
      clear h6 b6
      go_wp2_with fail
      refine (awake_any w6).mono ?_
      rintro e w9 ⟨rfl, b9⟩
      have HB9 : Hid (Below w.heap.size w w9) := HB6.out.trans (b9.mono HB6.out.size)
      clear b9
      go_wp2_with fail
      go_ret
      exact ⟨rfl, HB9.out⟩
    | true =>
      have hok : Hid (Ok l) := H4.out.1 rfl
      obtain rfl : rt = 0 := by
        rcases H3.out with ⟨k, _⟩ | ⟨_, e⟩
        · exact absurd hok.out k
        · exact e
      obtain rfl := Z3.out rfl
      go_wp2_with fail
      refine (check_any A c l w4 (HK0.out w4 HB4.out) hl100).mono ?_
      rintro e w5 ⟨⟨r5, rfl, h5⟩, b5⟩
      obtain rfl : r5 = 0 := by
        rcases h5 with ⟨_, e⟩ | ⟨k, _⟩
        · exact e
        · exact absurd hok.out k
      have HB5 : Hid (Below w.heap.size w w5) := HB4.out.trans (b5.mono HB4.out.size)
      have R3 := Lib.hid (R3.out.below b5)
      have R1 := Lib.hid (R1.out.below b5)
      clear h5 b5
      go_wp2_with fail
      refine (tipsR_any A c l w5 (HK0.out w5 HB5.out) HF.out).mono ?_
      rintro e w6 ⟨⟨v6, o6, rfl, own6, rfl⟩, b6⟩
      have HB6 : Hid (Below w.heap.size w w6) := HB5.out.trans (b6.mono HB5.out.size)
      have R6 : Hid (Rd w6 v6 (tips l)) := Rd.of own6 (by have := tips_len l; omega)
      have R3 := Lib.hid (R3.out.below b6)
      have R1 := Lib.hid (R1.out.below b6)
      clear own6 b6
      go_wp2_with fail
      refine (intsR _ _ _ _ w6 R3.out R6.out).mono ?_
      rintro e w7 ⟨rfl, b7⟩
      rw [beq_self']
      have HB7 : Hid (Below w.heap.size w w7) := HB6.out.trans (b7.mono HB6.out.size)
      have R1 := Lib.hid (R1.out.below b7)
      clear b7 R3 R6
      go_wp2_with fail
      refine (wrong_any A c l n n w7 (HK0.out w7 HB7.out) hl100 hcap hc).mono ?_
      rintro e w8 ⟨⟨r8, rfl, h8⟩, b8⟩
      obtain rfl : ra = r8 := why_two H1.out h8
      have HB8 : Hid (Below w.heap.size w w8) := HB7.out.trans (b8.mono HB7.out.size)
      have R1 := Lib.hid (R1.out.below b8)
      clear h8 b8
      by_cases hr : ra = 0
      · obtain rfl : ra = 0 := hr
        obtain rfl := Z1.out rfl
        go_wp2_with fail
        refine (wrong_any A c l x x w8 (HK0.out w8 HB8.out) hl100 hcap hc).mono ?_
        rintro e w10 ⟨⟨r10, rfl, h10⟩, b10⟩
        obtain rfl : r1 = r10 := why_two H2.out h10
        have HB10 : Hid (Below w.heap.size w w10) := HB8.out.trans (b10.mono HB8.out.size)
        have R1 := Lib.hid (R1.out.below b10)
        clear h10 b10
        by_cases hr1 : r1 = 0
        · obtain rfl : r1 = 0 := hr1
          obtain ⟨h11, rfl, n11, z11⟩ := Z2.out rfl
          obtain rfl : s = 0 := why_uniq h11 H1.out
          have hbb := z11 rfl
          obtain ⟨q, hq⟩ : ∃ q, q = ofGo (rev l) [n] x := ⟨_, rfl⟩
          obtain rfl : bb = q := by
            rw [hbb, hq, Bool.eq_iff_iff, decide_eq_true_iff, mem_back]
          have HQ := Lib.hid hq
          clear h11 n11 z11 hbb hq
          go_wp2_with fail
          refine (backR_any A c l n w10 (HK0.out w10 HB10.out) HF.out).mono ?_
          rintro e w11 ⟨⟨v11, o11, rfl, own11, rfl⟩, b11⟩
          have HB11 : Hid (Below w.heap.size w w11) := HB10.out.trans (b11.mono HB10.out.size)
          have R11 : Hid (Rd w11 v11 (back (rev l) n)) := Rd.of own11 (by have := back_len l n; omega)
          have R1 := Lib.hid (R1.out.below b11)
          clear own11 b11
          go_wp2_with fail
          refine (intsR _ _ _ _ w11 R1.out R11.out).mono ?_
          rintro e w12 ⟨rfl, b12⟩
          rw [beq_self']
          have HB12 : Hid (Below w.heap.size w w12) := HB11.out.trans (b12.mono HB11.out.size)
          clear b12 R1 R11
          go_wp2_with fail
          refine (ofR_any A c l.length l n x w12 (HK0.out w12 HB12.out) rfl HF.out).mono ?_
          rintro e w13 ⟨rfl, b13⟩
          rw [← HQ.out]
          have HB13 : Hid (Below w.heap.size w w13) := HB12.out.trans (b13.mono HB12.out.size)
          have hbq : (bb == bb) = true := beq_self_eq_true bb
          clear b13
          go_wp2_with fail
          refine (awake_any w13).mono ?_
          rintro e w9 ⟨rfl, b9⟩
          have HB9 : Hid (Below w.heap.size w w9) := HB13.out.trans (b9.mono HB13.out.size)
          clear b9
          go_wp2_with fail
          go_ret
          exact ⟨rfl, HB9.out⟩
        · have d0 : (r1 != 0) = true := by simpa using hr1
          obtain ⟨rfl, rfl⟩ := N2.out hr1
          clear hr1
          go_wp2_with fail
          refine (backR_any A c l n w10 (HK0.out w10 HB10.out) HF.out).mono ?_
          rintro e w11 ⟨⟨v11, o11, rfl, own11, rfl⟩, b11⟩
          have HB11 : Hid (Below w.heap.size w w11) := HB10.out.trans (b11.mono HB10.out.size)
          have R11 : Hid (Rd w11 v11 (back (rev l) n)) := Rd.of own11 (by have := back_len l n; omega)
          have R1 := Lib.hid (R1.out.below b11)
          clear own11 b11
          go_wp2_with fail
          refine (intsR _ _ _ _ w11 R1.out R11.out).mono ?_
          rintro e w12 ⟨rfl, b12⟩
          rw [beq_self']
          have HB12 : Hid (Below w.heap.size w w12) := HB11.out.trans (b12.mono HB11.out.size)
          clear b12 R1 R11
          go_wp2_with fail
          refine (awake_any w12).mono ?_
          rintro e w9 ⟨rfl, b9⟩
          have HB9 : Hid (Below w.heap.size w w9) := HB12.out.trans (b9.mono HB12.out.size)
          clear b9
          go_wp2_with fail
          go_ret
          exact ⟨rfl, HB9.out⟩
      · have hs : s = ra ∧ bb = false := by
          have e9 := why_ok9 H1.out hok.out hr
          by_cases hr1 : r1 = 0
          · obtain ⟨h11, e, n11, -⟩ := Z2.out hr1
            have := why_uniq h11 H1.out
            exact ⟨by rw [e, this], n11 (by rw [this]; exact hr)⟩
          · obtain ⟨e1, e2⟩ := N2.out hr1
            exact ⟨by rw [e2, e9]; exact why_ok9 H2.out hok.out hr1, e1⟩
        have d0 : (ra != 0) = true := by simpa using hr
        obtain ⟨-, rfl⟩ := N1.out hr
        obtain ⟨rfl, rfl⟩ := hs
        clear hr R1
        go_wp2_with fail
        refine (awake_any w8).mono ?_
        rintro e w9 ⟨rfl, b9⟩
        have HB9 : Hid (Below w.heap.size w w9) := HB8.out.trans (b9.mono HB8.out.size)
        clear b9
        go_wp2_with fail
        go_ret
        exact ⟨rfl, HB9.out⟩
end Go.Proofs.Ytpaegpbabfohcaa.WalkDag
