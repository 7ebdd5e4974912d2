/-
  The walk of JournalTells.
-/
import Derived.Test.YtfbakelpplpomaaDoorJournJ
import Derived.Test.YtfbakelpplpomaaDoorRecs
namespace Go.Proofs.YtfbakelpplpomaaDoor.Disk
open Go.RowKit Go.Proofs.YtfbakelpplpomaaDoor.DiskRows Go.Proofs.YtfbakelpplpomaaDoor.WalkCrc
set_option linter.unusedVariables false
set_option linter.unusedSimpArgs false
set_option maxRecDepth 100000

set_option maxHeartbeats 12800000 in
theorem journalTells_walk (A : Option Addr) (c : Nat) (l : List Rx) (t u : Int) (w : World) (ht : Tab w) (h : Rxs w A l) (hl : (l.length : Int) ≤ 9223372036854775807) :
    Calls Tryd.prog 4 #[.slice A l.length c, .int .i64 t, .int .i64 u] w fun x w' => x = .returned (.bool true) ∧ Below w.heap.size w w' := by
  have H := Lib.hid h
  have HT := Lib.hid ht
  obtain ⟨n, hn⟩ : ∃ n, l.length = n := ⟨_, rfl⟩
  have HN := Lib.hid hn
  rw [hn] at hl ⊢
  clear h hn ht
  by_cases h1 : 100 < n
  · have h1i : (100 : Int) < (n : Int) := by omega
    clear h1
    go_enter Tryd.func4, Tryd.ntmps4
    go_wp2_with fail
    refine (awake38_any w HT.out).mono ?_
    rintro x w1 ⟨rfl, b1⟩
    go_wp2
    go_ret
    exact ⟨rfl, b1⟩
  · have h1i : (n : Int) ≤ 100 := by omega
    have HL1 := Lib.hid h1
    clear h1 hl
    go_enter Tryd.func4, Tryd.ntmps4
    go_upto_region 6 with fail
    go_loopw [7, 8, 9, 22] (fun a b r i wr => ∃ k : Nat, k ≤ n ∧ i = .int .i64 k ∧ (∃ a', a = .int .i64 a' ∧ Hid (lastT t (l.take k) = a')) ∧ (∃ b', b = .int .i64 b' ∧ Hid (lastU u (l.take k) = b')) ∧ (∃ r', r = .bool r' ∧ Hid (riseK l k = r')) ∧ Below w.heap.size w wr) (fun _ _ _ i _ => n - (intOf i).toNat)
    case atStart => exact ⟨0, by omega, rfl, ⟨_, rfl, Lib.hid rfl⟩, ⟨_, rfl, Lib.hid rfl⟩, ⟨_, rfl, Lib.hid rfl⟩, Below.refl _ _⟩
    case round =>
      obtain ⟨k, hk, rfl, ⟨a', rfl, HA⟩, ⟨b', rfl, HB⟩, ⟨r', rfl, HR⟩, bk⟩ := hrel
      have HBk := Lib.hid bk
      by_cases hlt : k < n
      · have hkl : k < l.length := by have := HN.out; omega
        obtain ⟨g, off, rfl, hg, hc⟩ : ∃ g off, A = some ⟨g, off, none⟩ ∧ g < w.heap.size ∧ ∀ k (h : k < l.length) j u, (l[k].cells)[j]? = some u → w.cell? ⟨g, off + k * 8 + j, none⟩ = some u := by
          rcases H.out with h | h
          · rw [h] at hkl; simp at hkl
          · exact h
        have q0 := (bk.cell (p := ⟨g, off + k * 8 + 0, none⟩) hg).trans (hc k hkl 0 _ rfl)
        have q1 := (bk.cell (p := ⟨g, off + k * 8 + 1, none⟩) hg).trans (hc k hkl 1 _ rfl)
        have q2 := (bk.cell (p := ⟨g, off + k * 8 + 2, none⟩) hg).trans (hc k hkl 2 _ rfl)
        have q3 := (bk.cell (p := ⟨g, off + k * 8 + 3, none⟩) hg).trans (hc k hkl 3 _ rfl)
        have q4 := (bk.cell (p := ⟨g, off + k * 8 + 4, none⟩) hg).trans (hc k hkl 4 _ rfl)
        have q5 := (bk.cell (p := ⟨g, off + k * 8 + 5, none⟩) hg).trans (hc k hkl 5 _ rfl)
        have q6 := (bk.cell (p := ⟨g, off + k * 8 + 6, none⟩) hg).trans (hc k hkl 6 _ rfl)
        have q7 := (bk.cell (p := ⟨g, off + k * 8 + 7, none⟩) hg).trans (hc k hkl 7 _ rfl)
        rw [Nat.add_zero] at q0
        have hLT := lastT_take t l k hkl
        have hLU := lastU_take u l k hkl
        have hRS := riseK_succ l k
        rw [HR.out] at hRS
        have hgw : g < wr.heap.size := Nat.lt_of_lt_of_le hg bk.size
        have hkn : (k : Int) < (n : Int) := by omega
        have hw2 : IntKind.i64.wrap ((k : Int) + 1) = ((k + 1 : Nat) : Int) := by rw [IntKind.wrap_i64]; omega
        have HMS := Lib.hid (And.intro hlt hk)
        generalize hrr : l[k] = rr at q0 q1 q2 q3 q4 q5 q6 q7 hLT hLU
        obtain ⟨re, rq, rk, rN, rO, rM, rt, ru⟩ := rr
        dsimp only at q0 q1 q2 q3 q4 q5 q6 q7 hLT hLU
        have HB1 := Lib.hid (bk.trans ((Joins.below_alloc1 wr (.cells #[.int .i64 re, .int .i64 rq, .int .i64 rk, .string rN, .string rO, .string rM, .int .i64 rt, .int .i64 ru] 23)).mono bk.size))
        have hz1 : wr.heap.size < (wr.alloc (.cells #[.int .i64 re, .int .i64 rq, .int .i64 rk, .string rN, .string rO, .string rM, .int .i64 rt, .int .i64 ru] 23)).heap.size := by simp
        have c6 : (wr.alloc (.cells #[.int .i64 re, .int .i64 rq, .int .i64 rk, .string rN, .string rO, .string rM, .int .i64 rt, .int .i64 ru] 23)).cell? ⟨wr.heap.size, 6, none⟩ = some (.int .i64 rt) := (cell_of_row _ _ 6 _ _ _ (heap_alloc_last _ _)).trans rfl
        have c7 : (wr.alloc (.cells #[.int .i64 re, .int .i64 rq, .int .i64 rk, .string rN, .string rO, .string rM, .int .i64 rt, .int .i64 ru] 23)).cell? ⟨wr.heap.size, 7, none⟩ = some (.int .i64 ru) := (cell_of_row _ _ 7 _ _ _ (heap_alloc_last _ _)).trans rfl
        obtain ⟨hF1, hF2⟩ : (k = 0 ∨ ∃ m, k = m + 1 ∧ True) ∧ True := ⟨by rcases Nat.eq_zero_or_pos k with h | h; exact .inl h; exact .inr ⟨k - 1, by omega, trivial⟩, trivial⟩
        rcases hF1 with hk0 | ⟨m, hkm, -⟩
        · have g0 : decide (0 < k) = false := by simp; omega
          have hfz : falls l k = false := by rw [hk0]; exact falls_zero l
          rw [hfz] at hRS
          have HF := Lib.hid (And.intro hLT (And.intro hLU hRS))
          clear hLT hLU hRS hc hkl hg bk hlt hk hgw hk0 hfz hrr hF2
          go_upto_region 8 with fail
          generalize wr.alloc (.cells #[.int .i64 re, .int .i64 rq, .int .i64 rk, .string rN, .string rO, .string rM, .int .i64 rt, .int .i64 ru] 23) = wq at *
          clear q0 q1 q2 q3 q4 q5 q6 q7
          go_quiet (fail)
          go_upto_region 10 with fail
          obtain ⟨w2, hw2⟩ : ∃ w2, wq.drewN nq = w2 := ⟨_, rfl⟩
          have d6 : w2.cell? ⟨wr.heap.size, 6, none⟩ = some (.int .i64 rt) := by rw [← hw2]; exact c6
          have d7 : w2.cell? ⟨wr.heap.size, 7, none⟩ = some (.int .i64 ru) := by rw [← hw2]; exact c7
          have HB2 := Lib.hid (show Below w.heap.size w w2 by rw [← hw2]; exact belowN HB1.out _)
          rw [hw2]
          clear hw2 c6 c7
          go_quiet (fail)
          go_wp2
          go_round
          case rel => exact ⟨k + 1, by have := HMS.out; omega, rfl, ⟨_, rfl, Lib.hid HF.out.1⟩, ⟨_, rfl, Lib.hid HF.out.2.1⟩, ⟨_, rfl, Lib.hid (HF.out.2.2.trans (by simp))⟩, belowN HB2.out _⟩
          case measure => have := HMS.out; simp [intOf]; omega
        · have g0 : decide (0 < k) = true := by simp; omega
          have hm0 : m < l.length := by omega
          have hfs := falls_succ l m (by omega)
          have hfk : falls l k = (decide (l[k].t < l[m].t) || decide (l[k].u < l[m].u)) := by subst hkm; exact hfs
          rw [hrr] at hfk
          dsimp only at hfk
          have hbq := Joins.below_alloc1 wr (.cells #[.int .i64 re, .int .i64 rq, .int .i64 rk, .string rN, .string rO, .string rM, .int .i64 rt, .int .i64 ru] 23)
          have p6 := (hbq.cell (p := ⟨g, off + m * 8 + 6, none⟩) hgw).trans ((bk.cell (p := ⟨g, off + m * 8 + 6, none⟩) hg).trans (hc m hm0 6 _ rfl))
          have p7 := (hbq.cell (p := ⟨g, off + m * 8 + 7, none⟩) hgw).trans ((bk.cell (p := ⟨g, off + m * 8 + 7, none⟩) hg).trans (hc m hm0 7 _ rfl))
          obtain ⟨pt, hpt⟩ : ∃ a, l[m].t = a := ⟨_, rfl⟩
          obtain ⟨pu, hpu⟩ : ∃ a, l[m].u = a := ⟨_, rfl⟩
          rw [hpt] at p6 hfk
          rw [hpu] at p7 hfk
          rw [hfk] at hRS
          have hw1 : IntKind.i64.wrap ((k : Int) - 1) = (m : Int) := by rw [IntKind.wrap_i64]; omega
          have hmi : (m : Int) < (n : Int) := by omega
          clear hfs hfk hm0 hbq hkm hpt hpu hc hkl hg bk hlt hk hgw hrr hF2
          by_cases d1 : rt < pt
          · have d1b : decide (rt < pt) = true := decide_eq_true d1
            rw [d1b] at hRS
            have HF := Lib.hid (And.intro hLT (And.intro hLU hRS))
            clear hLT hLU hRS d1
            go_upto_region 8 with fail
            generalize wr.alloc (.cells #[.int .i64 re, .int .i64 rq, .int .i64 rk, .string rN, .string rO, .string rM, .int .i64 rt, .int .i64 ru] 23) = wq at *
            clear q0 q1 q2 q3 q4 q5 q6 q7
            go_quiet (fail)
            go_upto_region 10 with fail
            obtain ⟨w2, hw2⟩ : ∃ w2, wq.drewN nq = w2 := ⟨_, rfl⟩
            have d6 : w2.cell? ⟨wr.heap.size, 6, none⟩ = some (.int .i64 rt) := by rw [← hw2]; exact c6
            have d7 : w2.cell? ⟨wr.heap.size, 7, none⟩ = some (.int .i64 ru) := by rw [← hw2]; exact c7
            have HB2 := Lib.hid (show Below w.heap.size w w2 by rw [← hw2]; exact belowN HB1.out _)
            rw [hw2]
            clear hw2 c6 c7
            go_quiet (fail)
            go_wp2
            go_round
            case rel => exact ⟨k + 1, by have := HMS.out; omega, rfl, ⟨_, rfl, Lib.hid HF.out.1⟩, ⟨_, rfl, Lib.hid HF.out.2.1⟩, ⟨_, rfl, Lib.hid (HF.out.2.2.trans (by simp))⟩, belowN HB2.out _⟩
            case measure => have := HMS.out; simp [intOf]; omega
          · have d1b : decide (rt < pt) = false := decide_eq_false d1
            by_cases d2 : ru < pu
            · have d2b : decide (ru < pu) = true := decide_eq_true d2
              rw [d1b, d2b] at hRS
              have HF := Lib.hid (And.intro hLT (And.intro hLU hRS))
              clear hLT hLU hRS d1 d2
              go_upto_region 8 with fail
              generalize wr.alloc (.cells #[.int .i64 re, .int .i64 rq, .int .i64 rk, .string rN, .string rO, .string rM, .int .i64 rt, .int .i64 ru] 23) = wq at *
              clear q0 q1 q2 q3 q4 q5 q6 q7
              go_quiet (fail)
              go_upto_region 10 with fail
              obtain ⟨w2, hw2⟩ : ∃ w2, wq.drewN nq = w2 := ⟨_, rfl⟩
              have d6 : w2.cell? ⟨wr.heap.size, 6, none⟩ = some (.int .i64 rt) := by rw [← hw2]; exact c6
              have d7 : w2.cell? ⟨wr.heap.size, 7, none⟩ = some (.int .i64 ru) := by rw [← hw2]; exact c7
              have HB2 := Lib.hid (show Below w.heap.size w w2 by rw [← hw2]; exact belowN HB1.out _)
              rw [hw2]
              clear hw2 c6 c7
              go_quiet (fail)
              go_wp2
              go_round
              case rel => exact ⟨k + 1, by have := HMS.out; omega, rfl, ⟨_, rfl, Lib.hid HF.out.1⟩, ⟨_, rfl, Lib.hid HF.out.2.1⟩, ⟨_, rfl, Lib.hid (HF.out.2.2.trans (by simp))⟩, belowN HB2.out _⟩
              case measure => have := HMS.out; simp [intOf]; omega
            · have d2b : decide (ru < pu) = false := decide_eq_false d2
              rw [d1b, d2b] at hRS
              have HF := Lib.hid (And.intro hLT (And.intro hLU hRS))
              clear hLT hLU hRS d1 d2
              go_upto_region 8 with fail
              generalize wr.alloc (.cells #[.int .i64 re, .int .i64 rq, .int .i64 rk, .string rN, .string rO, .string rM, .int .i64 rt, .int .i64 ru] 23) = wq at *
              clear q0 q1 q2 q3 q4 q5 q6 q7
              go_quiet (fail)
              go_upto_region 10 with fail
              obtain ⟨w2, hw2⟩ : ∃ w2, wq.drewN nq = w2 := ⟨_, rfl⟩
              have d6 : w2.cell? ⟨wr.heap.size, 6, none⟩ = some (.int .i64 rt) := by rw [← hw2]; exact c6
              have d7 : w2.cell? ⟨wr.heap.size, 7, none⟩ = some (.int .i64 ru) := by rw [← hw2]; exact c7
              have HB2 := Lib.hid (show Below w.heap.size w w2 by rw [← hw2]; exact belowN HB1.out _)
              rw [hw2]
              clear hw2 c6 c7
              go_quiet (fail)
              go_wp2
              go_round
              case rel => exact ⟨k + 1, by have := HMS.out; omega, rfl, ⟨_, rfl, Lib.hid HF.out.1⟩, ⟨_, rfl, Lib.hid HF.out.2.1⟩, ⟨_, rfl, Lib.hid (HF.out.2.2.trans (by simp))⟩, belowN HB2.out _⟩
              case measure => have := HMS.out; simp [intOf]; omega
      · obtain rfl : k = n := by omega
        have hkl : ¬ ((k : Nat) : Int) < (k : Int) := by omega
        have e1 : lastT t l = a' := by have := HA.out; rwa [List.take_of_length_le (Nat.le_of_eq HN.out)] at this
        have e2 : lastU u l = b' := by have := HB.out; rwa [List.take_of_length_le (Nat.le_of_eq HN.out)] at this
        have e3 : riseK l l.length = r' := by rw [HN.out]; exact HR.out
        have hjt := jtail_any A c l t u wr (H.out.later bk) (by rw [HN.out]; omega)
        rw [e1, e2, HN.out] at hjt
        have hjr := fun (W : World) (hB : Below w.heap.size w W) => jrise_any A c l W (H.out.later hB) (by rw [HN.out]; omega)
        rw [e3] at hjr
        simp only [HN.out] at hjr
        have HJt := Lib.hid hjt
        have HJr := Lib.hid hjr
        clear e1 e2 e3 hjt hjr hlt hk bk
        go_wp2_with fail
        refine HJt.out.mono ?_
        rintro x w1 ⟨rfl, b1⟩
        have HB2 := Lib.hid (HBk.out.trans (b1.mono HBk.out.size))
        clear b1
        go_wp2_with fail
        refine (HJr.out w1 HB2.out).mono ?_
        rintro x w2 ⟨rfl, b2⟩
        have HB3 := Lib.hid (HB2.out.trans (b2.mono HB2.out.size))
        clear b2
        have hrr : (r' == r') = true := by simp
        go_wp2_with fail
        refine (awake38_any w2 (HT.out.below HB3.out HT.out.lt)).mono ?_
        rintro x w3 ⟨rfl, b3⟩
        have HB4 := Lib.hid (HB3.out.trans (b3.mono HB3.out.size))
        clear b3
        go_wp2
        go_ret
        exact ⟨rfl, HB4.out⟩
end Go.Proofs.YtfbakelpplpomaaDoor.Disk
