/-
  The walks of CutEnds, CutRest.
-/
import Derived.Test.YtfnjcobgbdioeaaLawCut
namespace Go.Proofs.Ytfnjcobgbdioeaa.WalkCut
open Go.RowKit Go.Proofs.Ytfnjcobgbdioeaa.WalkRoll Go.Proofs.Ytfnjcobgbdioeaa.WalkBytes Go.Proofs.Ytfnjcobgbdioeaa.WalkInts
set_option linter.unusedVariables false
set_option linter.unusedSimpArgs false

theorem ints_same (A B : Option Addr) (c d n m : Nat) (a : List Int) (w : World) (hA : Ints w A a) (hB : Ints w B a) (hn : a.length = n) (hm : a.length = m) (ha : a.length ≤ 9223372036854775807) :
    Calls Try.prog 14 #[.slice A n c, .slice B m d] w fun e w' => e = .returned (.bool true) ∧ Below w.heap.size w w' := by
  subst hn; subst hm
  have := ints_any A B c d a a w hA hB ha ha
  simpa using this

set_option maxHeartbeats 6400000 in
theorem cutEnds_walk (level at' : Int) (A : Option Addr) (len c : Nat) (ss : List ByteArray) (w : World) (hA0 : StrsArg w A len ss) (hl : len ≤ c) (hc : c ≤ 9223372036854775807) :
    Calls Try.prog 6 #[.int .i64 level, .slice A len c, .int .i64 at'] w fun e w' => e = .returned (.bool true) ∧ Below w.heap.size w w' := by
  obtain ⟨hA, rfl, hs, hlt⟩ := hA0.out
  have HF := Lib.hid (few_any A c ss w hA (by omega) hs)
  cases hv : fewB ss
  · rw [hv] at HF
    go_enter Try.func6, Try.ntmps6
    go_wp2_with (first | (go_at_call 7; refine HF.out.mono ?_; rintro e w1 ⟨rfl, rfl⟩) | (go_at_call 8; refine (awake_any _).mono ?_; rintro e w2 ⟨rfl, hB⟩))
    go_ret
    exact ⟨rfl, hB⟩
  · rw [hv] at HF
    obtain ⟨hl2, hs2⟩ := few_out hv
    clear hs hv
    obtain ⟨i0, hi, hz0, hz1, hz2⟩ := info_parts info_int
    have HR := Lib.hid (refEnds_any level A c ss w hA hlt hl2 hs2 hl hc)
    have hlb : ∀ w1, Below w.heap.size w w1 → Strs w1 A ss := fun w1 h => hA.below h hlt
    have hlb2 : ∀ w1, Below w.heap.size w w1 → ∀ b off, A = some ⟨b, off, none⟩ → ss ≠ [] → b < w1.heap.size := fun w1 h b off e1 e2 => Nat.lt_of_lt_of_le (hlt b off e1 e2) h.size
    have HE := Lib.hid (fun w1 (h : Below w.heap.size w w1) => ends_any level A c ss w1 (hlb w1 h) (hlb2 w1 h) hl2 hs2)
    have HZ := Lib.hid (fun w1 (h : Below w.heap.size w w1) => sizes_any level A c ss w1 (hlb w1 h) (hlb2 w1 h) hl2 hs2)
    have HM := Lib.hid (fun w1 (h : Below w.heap.size w w1) => same_any level at' A c ss w1 (hlb w1 h) (hlb2 w1 h) hl2 hs2)
    have hle := toI_bd _ _ (cuts_le level ss)
    have hlen : (toI (cuts level ss)).length ≤ 200 := by rw [toI_length]; have := cuts_length level ss; omega
    clear hlb hlb2 hs2 hA hlt
    generalize toI (cuts level ss) = l at *
    go_enter Try.func6, Try.ntmps6
    go_wp2_with (go_at_call 7; refine HF.out.mono ?_; rintro e w1 ⟨rfl, rfl⟩)
    refine HR.out.mono ?_
    rintro e w1 ⟨v, rfl, hO, hB⟩
    obtain ⟨A1, c1, rfl, hI, hIb, _, _⟩ := own_reads hO
    clear HR HF
    go_wp2
    go_loopw [8, 9, 10, 24] (fun out was is i wr => ∃ (k : Nat) (p : Int) (o : List Int), k ≤ l.length ∧ o.length = k ∧ 0 ≤ p ∧ p ≤ 200 ∧ i = .int .i64 k ∧ was = .int .i64 p ∧ is = .bool (at' == 0 || (l.take k).contains at') ∧ Own wr w1.heap.size out o ∧ Below w1.heap.size w1 wr ∧ Hid (diffs 0 l = o ++ diffs p (l.drop k))) (fun _ _ _ i _ => l.length - (intOf i).toNat)
    case atStart => exact ⟨0, 0, [], by omega, by simp, by omega, by omega, rfl, rfl, by simp, Own.nil _ _, Below.refl _ _, by show _ = _; simp⟩
    case round =>
      obtain ⟨k, p, o, hk, ho, p0, p1, rfl, rfl, rfl, hO2, hB2, HR⟩ := hrel
      by_cases hk2 : k < l.length
      · obtain ⟨g, off, rfl⟩ := hI.addr (by rintro rfl; simp at hk2)
        have hck := hI.cell hk2
        have hg0 := (hIb g off rfl).2
        have hck1 : wr.cell? ⟨g, off + k, none⟩ = some (.int .i64 (l.getD k 0)) := by rw [hB2.cell (p := ⟨g, off + k, none⟩) hg0]; exact hck
        obtain ⟨x0, x1⟩ := hle k hk2
        have hst := HR.out
        rw [dropI l k hk2] at hst
        simp only [diffs] at hst
        have htk : (at' == 0 || (l.take (k + 1)).contains at') = ((at' == 0 || (l.take k).contains at') || (l.getD k 0 == at')) := by
          rw [takeI l k hk2]
          rw [Bool.or_assoc]
          congr 1
          rw [Bool.eq_iff_iff]
          simp only [List.contains_eq_mem, decide_eq_true_eq, List.mem_append, List.mem_singleton, Bool.or_eq_true, beq_iff_eq]
          exact or_congr Iff.rfl eq_comm
        clear hck HR hle hI
        generalize l.getD k 0 = x at *
        have HS : Hid (diffs 0 l = (o ++ [x - p]) ++ diffs x (l.drop (k + 1))) := by show _ = _; rw [hst]; simp
        have HT := Lib.hid htk
        have x2 : x ≤ 200 := by omega
        have hsl := hB2.size
        have hOlt := hO2.lt
        have HX : Hid (k + 1 ≤ l.length) := (by omega : k + 1 ≤ l.length)
        clear hst htk
        generalize (at' == 0 || (l.take k).contains at') = is at *
        cases is
        all_goals
          go_wp2_with (at_builtin; go_must (refine wpList_append_own _ rfl _ _ 31 rfl w1.heap.size 3 i0 (.int .i64 0) 1 8 Try.underlying31 hi hz0 hz1 hz2 rfl (by decide) _ _ _ rfl (World.ownsRow.alloc hO2 _) ⟨wr.heap.size, 0, none⟩ 1 1 [.int .i64 (x - p)] rfl rfl (cell_one_new _ _ _) (fun x hx => by simp at hx; subst hx; rfl) (by unfold maxLen; omega) (by omega) (by simp; omega) ?_); intro v' w2 hO3 hgrow _)
          go_roundw
          case rel =>
            refine ⟨k + 1, x, o ++ [x - p], HX.out, by simp [ho], x0, x2, by go_num, rfl, by rw [HT.out]; simp, Own.app hO3, ?_, HS⟩
            exact (hB2.alloc (by omega) _).grown hgrow (by simp; omega) (fun k e => (hOlt k e).1)
          case measure => simp [intOf]; omega
      · have hke : k = l.length := by omega
        have hst := HR.out
        rw [hke, List.drop_of_length_le (Nat.le_refl _)] at hst
        simp only [diffs, List.append_nil] at hst
        rw [hke, List.take_length]
        have hB3 := hB.trans (hB2.mono hB.size)
        obtain ⟨A3, c3, rfl, hJ, hJb, _, _⟩ := own_reads hO2
        have HDL := Lib.hid (show o.length = (diffs 0 l).length by rw [hst])
        have HDI := Lib.hid (fun W A (h : Ints W A (diffs 0 l)) => (by rw [hst] at h; exact h : Ints W A o))
        have hI1 := hI.below hB2 (fun g off e => (hIb g off e).2)
        have hs1 := hB.size
        have hs2 := hB2.size
        have ht : ((k : Nat) : Int) < (l.length : Int) ↔ False := by simp; omega
        clear HR hle hst
        subst hke
        generalize (at' == 0 || l.contains at') = is at *
        go_wp2_with fail
        refine (HE.out _ hB3).mono ?_
        rintro e w2 ⟨v2, rfl, hO4, hB4⟩
        obtain ⟨A4, c4, rfl, hK, hKb, _, _⟩ := own_reads hO4
        go_wp2_with fail
        refine (ints_same _ _ _ _ _ _ l _ hK (hI1.below hB4 (fun g off e => by have := (hIb g off e).2; omega)) rfl rfl (by omega)).mono ?_
        rintro e w3 ⟨rfl, hB5⟩
        have hs4 := hB4.size
        have hs5 := hB5.size
        have hB6 := hB3.trans ((hB4.mono (by omega)).trans (hB5.mono (by omega)) : Below w.heap.size wr w3)
        go_wp2_with fail
        refine (HZ.out _ hB6).mono ?_
        rintro e w4 ⟨v4, rfl, hO6, hB7⟩
        obtain ⟨A6, c6, rfl, hL, hLb, _, _⟩ := own_reads hO6
        have hs7 := hB7.size
        have hJ1 : Ints w4 A3 o := hJ.below (B := wr.heap.size) (hB4.trans ((hB5.mono (by omega)).trans (hB7.mono (by omega)))) (fun g off e => by have := (hJb g off e).2; omega)
        have hL1 := HDI.out _ _ hL
        obtain ⟨n6, h6⟩ : ∃ n6, (diffs 0 l).length = n6 := ⟨_, rfl⟩
        rw [h6]
        go_wp2_with fail
        refine (ints_same _ _ _ _ n6 _ o _ hL1 hJ1 (by rw [← h6]; exact HDL.out) ho (by omega)).mono ?_
        rintro e w5 ⟨rfl, hB8⟩
        have hs8 := hB8.size
        have hB9 := hB6.trans ((hB7.mono (by omega)).trans (hB8.mono (by omega)) : Below w.heap.size w3 w5)
        go_wp2_with fail
        refine (HM.out _ hB9).mono ?_
        rintro e w6 ⟨rfl, hB10⟩
        have hs10 := hB10.size
        go_wp2_with (go_at_call 8; refine (awake_any _).mono ?_; rintro e w7 ⟨rfl, hB11⟩)
        go_ret
        exact ⟨by simp, hB9.trans ((hB10.mono (by omega)).trans (hB11.mono (by omega)))⟩
end Go.Proofs.Ytfnjcobgbdioeaa.WalkCut
