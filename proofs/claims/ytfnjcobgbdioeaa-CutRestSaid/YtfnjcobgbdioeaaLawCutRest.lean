/-
  The walk of CutRest.
-/
import Derived.Test.YtfnjcobgbdioeaaLawCutEnds
import Derived.Laws.OwnMore
import Derived.Deep.RegionWith
namespace Go.Proofs.Ytfnjcobgbdioeaa.WalkCut
open Go.RowKit Go.Proofs.Ytfnjcobgbdioeaa.WalkRoll Go.Proofs.Ytfnjcobgbdioeaa.WalkBytes Go.Proofs.Ytfnjcobgbdioeaa.WalkInts
set_option linter.unusedVariables false
set_option linter.unusedSimpArgs false

theorem Own.put {w : World} {base g cap n : Nat} {l : List Int} (h : Own w base (.slice (some ⟨g, 0, none⟩) n cap) l) (k : Nat) (x : Int) :
    Own (w.setCell ⟨g, k, none⟩ (.int .i64 x)) base (.slice (some ⟨g, 0, none⟩) n cap) (l.set k x) ∧ w.grownBy (w.setCell ⟨g, k, none⟩ (.int .i64 x)) (some g) := by
  have hn : l.length = n := by
    rcases h.2 with ⟨h1, h2⟩ | ⟨g', cap', cur, h', _⟩
    · cases h1
    · injection h' with _ h2 _; exact h2.symm
  have h2 : w.ownsRow base 3 1 (.slice (some ⟨g, 0, none⟩) n cap) n (nums l) := by have h0 := h; unfold Own at h0; rw [hn] at h0; exact h0
  have hs := h2.stored k (.int .i64 x)
  have he : (nums l).set k (.int .i64 x) = nums (l.set k x) := by simp [nums, List.map_set]
  rw [he] at hs
  refine ⟨?_, hs.2⟩
  unfold Own
  rw [List.length_set, hn]
  exact hs.1
theorem Own.fz {w : World} {base g cap n : Nat} {l : List Int} (h : Own w base (.slice (some ⟨g, 0, none⟩) n cap) l) (o : Nat) : w.frozen? ⟨g, o, none⟩ = false := by
  rcases h.2 with ⟨h', _⟩ | ⟨g', cap', cur, h', _, hh, _⟩
  · cases h'
  · have : g = g' := by injection h' with h'; injection h' with h'; injection h' with h'
    subst this
    simp [World.frozen?, hh]

theorem Own.cap {w : World} {base n c : Nat} {A : Option Addr} {l : List Int} (h : Own w base (.slice A n c) l) : l.length ≤ c := by
  rcases h.2 with ⟨h', h2⟩ | ⟨g', cap', cur, h', _, _, hc, _⟩
  · rw [h2]; exact Nat.zero_le _
  · have e := (Value.slice.inj h').2.2
    rw [e]; exact hc

/-- behind an end a row is cut as what is left of it alone -/
theorem cuts_rest (level : Int) (ss : List ByteArray) (k : Nat) (h : k < (cuts level ss).length) :
    (cuts level ss).getD k 0 ≤ ss.length ∧ (toI (cuts level (ss.drop ((cuts level ss).getD k 0)))).map (· + (((cuts level ss).getD k 0 : Nat) : Int)) = (toI (cuts level ss)).drop (k + 1) := by
  have e := Pl.Cut.ends_go (ss.map (hit level)).length 0 (ss.map (hit level)) (Nat.le_refl _)
  have hr := Pl.Cut.ends_rest (ss.map (hit level)).length 0 (ss.map (hit level)) k (Nat.le_refl _) (by rw [e]; exact h)
  rw [e] at hr
  obtain ⟨_, h2, h3⟩ := hr
  have hc : Pl.Cut.go 0 0 (ss.map (hit level)) = cuts level ss := rfl
  rw [hc] at h2 h3
  refine ⟨by simpa using h2, ?_⟩
  generalize (cuts level ss).getD k 0 = a at *
  have hs := Pl.Cut.go_shift ((ss.drop a).map (hit level)) 0 0 a
  unfold toI
  rw [← List.map_drop, h3, Nat.sub_zero, ← List.map_drop]
  rw [Nat.zero_add] at hs
  rw [hs]
  show List.map _ (List.map _ (Pl.Cut.go 0 0 ((ss.drop a).map (hit level)))) = _
  rw [List.map_map, List.map_map]
  simp [Function.comp_def]

/-- the first k numbers have been moved -/
def moved (R : List Int) (c : Int) (k : Nat) : List Int := (R.take k).map (· + c) ++ R.drop k
theorem moved_length (R : List Int) (c : Int) (k : Nat) : (moved R c k).length = R.length := by simp [moved]; omega
theorem moved_at (R : List Int) (c : Int) (k : Nat) (h : k < R.length) : (moved R c k).getD k 0 = R.getD k 0 := by
  unfold moved
  rw [List.getD_eq_getElem?_getD, List.getElem?_append_right (by simp; omega)]
  simp [List.getD_eq_getElem?_getD, Nat.min_eq_left (Nat.le_of_lt h)]
theorem moved_set (R : List Int) (c : Int) (k : Nat) (h : k < R.length) : (moved R c k).set k (R.getD k 0 + c) = moved R c (k + 1) := by
  unfold moved
  rw [List.set_append_right _ _ (by simp; omega)]
  rw [takeI R k h, dropI R k h]
  simp [Nat.min_eq_left (Nat.le_of_lt h)]
theorem moved_all (R : List Int) (c : Int) : moved R c R.length = R.map (· + c) := by simp [moved]

theorem dropN (l : List Nat) (k : Nat) (h : k < l.length) : l.drop k = l.getD k 0 :: l.drop (k + 1) := by
  rw [List.drop_eq_getElem_cons h]; simp [List.getD_eq_getElem?_getD, h]
theorem toI_getD (l : List Nat) (k : Nat) : (toI l).getD k 0 = ((l.getD k 0 : Nat) : Int) := by
  unfold toI
  by_cases h : k < l.length
  · simp [List.getD_eq_getElem?_getD, h]
  · simp [List.getD_eq_getElem?_getD, List.getElem?_eq_none (Nat.le_of_not_lt h)]

theorem ends_at (level : Int) (A : Option Addr) (c n : Nat) (ss : List ByteArray) (w : World) (hA : Strs w A ss) (hlt : ∀ b off, A = some ⟨b, off, none⟩ → ss ≠ [] → b < w.heap.size) (hl : ss.length ≤ 200) (hs : ∀ s ∈ ss, s.size ≤ 5000) (hn : ss.length = n) :
    Calls Try.prog 13 #[.int .i64 level, .slice A n c] w fun e w' => ∃ v, e = .returned v ∧ Own w' w.heap.size v (toI (cuts level ss)) ∧ Below w.heap.size w w' := by
  subst hn; exact ends_any level A c ss w hA hlt hl hs

set_option maxHeartbeats 6400000 in
theorem cutRest_walk (level kk : Int) (A : Option Addr) (len c : Nat) (ss : List ByteArray) (w : World) (hA0 : StrsArg w A len ss) (hl : len ≤ c) (hc : c ≤ 9223372036854775807) :
    Calls Try.prog 4 #[.int .i64 level, .slice A len c, .int .i64 kk] w fun e w' => e = .returned (.bool true) ∧ Below w.heap.size w w' := by
  obtain ⟨hA, rfl, hs, hlt⟩ := hA0.out
  have HF := Lib.hid (few_any A c ss w hA (by omega) hs)
  cases hv : fewB ss
  · rw [hv] at HF
    go_enter Try.func4, Try.ntmps4
    go_wp2_with (first | (go_at_call 7; refine HF.out.mono ?_; rintro e w1 ⟨rfl, rfl⟩) | (go_at_call 8; refine (awake_any _).mono ?_; rintro e w2 ⟨rfl, hB⟩))
    go_ret
    exact ⟨rfl, hB⟩
  · rw [hv] at HF
    obtain ⟨hl2, hs2⟩ := few_out hv
    clear hs hv
    have HE := Lib.hid (ends_any level A c ss w hA hlt hl2 hs2)
    have HG := Lib.hid (cuts_good level ss)
    have hlen := cuts_length level ss
    have HREST := Lib.hid (cuts_rest level ss)
    obtain ⟨L, hL⟩ : ∃ L, cuts level ss = L := ⟨_, rfl⟩
    rw [hL] at HE HG hlen HREST
    have HLl := Lib.hid (toI_length L)
    have hIl : (toI L).length ≤ 200 := by rw [toI_length]; omega
    clear hL
    go_enter Try.func4, Try.ntmps4
    go_wp2_with (go_at_call 7; refine HF.out.mono ?_; rintro e w1 ⟨rfl, rfl⟩)
    refine HE.out.mono ?_
    rintro e w1 ⟨v, rfl, hO, hB⟩
    obtain ⟨A1, c1, rfl, hI, hIb, hIm, hIz⟩ := own_reads hO
    clear HE HF
    obtain ⟨n, hn⟩ : ∃ n, (toI L).length = n := ⟨_, rfl⟩
    have HN := Lib.hid hn
    rw [hn] at hIl ⊢
    rw [hn] at HLl
    clear hn
    go_wp2
    go_loop [8, 22] (fun was i => ∃ (k p : Nat), k ≤ n ∧ p ≤ ss.length ∧ i = .int .i64 k ∧ was = .int .i64 p ∧ Hid (Pl.Cut.Good ss.length p (L.drop k))) (fun _ i => n - (intOf i).toNat)
    case atStart => exact ⟨0, 0, by omega, by omega, rfl, rfl, HG.out⟩
    case round =>
      obtain ⟨k, p, hk, hp, rfl, rfl, HR⟩ := hrel
      by_cases hk2 : k < n
      · obtain ⟨g, off, rfl⟩ := hI.addr (by intro e; have := HN.out; rw [e] at this; simp at this; omega)
        have hck := hI.cell (k := k) (by rw [HN.out]; exact hk2)
        rw [toI_getD] at hck
        have hgd := HR.out
        rw [dropN L k (by have := HLl.out; omega)] at hgd
        obtain ⟨q1, q2, q3, q4, q5⟩ := hgd
        generalize L.getD k 0 = x at *
        have HS := Lib.hid q5
        have q4' : Hid (k + 1 < n → 2 ≤ x - p) := fun h => q4 (by intro e; have := congrArg List.length e; rw [List.length_drop] at this; have := HLl.out; simp at *; omega)
        clear q5 HR q4 hI
        have x1 : (x : Int) ≤ 200 := by omega
        have t1 : (x : Int) ≤ (ss.length : Int) := by omega
        have t2 : (p : Int) < (x : Int) := by omega
        have t3 : (x : Int) - (p : Int) ≤ 8 := by omega
        have HX : Hid (k + 1 ≤ n) := (by omega : k + 1 ≤ n)
        by_cases h1 : k + 1 < n
        · have t4 : (k : Int) + 1 < (n : Int) := by omega
          have t5 : 2 ≤ (x : Int) - (p : Int) := by have := q4'.out h1; omega
          go_wp2
          go_round
          case rel => exact ⟨k + 1, x, HX.out, q1, by go_num, rfl, HS⟩
          case measure => simp [intOf]; omega
        · have t4 : (n : Int) ≤ (k : Int) + 1 := by omega
          go_wp2
          go_round
          case rel => exact ⟨k + 1, x, HX.out, q1, by go_num, rfl, HS⟩
          case measure => simp [intOf]; omega
      · have hke : k = n := by omega
        subst hke
        have hgd := HR.out
        rw [List.drop_of_length_le (by have := HLl.out; omega)] at hgd
        have hpe : p = ss.length := hgd
        subst hpe
        clear HR hgd hk2
        have hs1 := hB.size
        by_cases hkk : 0 ≤ kk ∧ kk < (k : Int)
        · obtain ⟨k0, k1⟩ := hkk
          obtain ⟨j, rfl⟩ : ∃ j : Nat, kk = (j : Int) := ⟨kk.toNat, by omega⟩
          have hj : j < k := by omega
          obtain ⟨g, off, rfl⟩ := hI.addr (by intro e; have := HN.out; rw [e] at this; simp at this; omega)
          have hoff : off = 0 := by rcases hIz with h | ⟨b, h⟩ <;> simp at h; exact h.2
          subst hoff
          have hg := (hIb g 0 rfl).2
          have hck := hI.cell (k := j) (by rw [HN.out]; exact hj)
          rw [toI_getD, Nat.zero_add] at hck
          have hrest := HREST.out j (by have := HLl.out; omega)
          have hI2 := hI.drop (j + 1)
          have HLN : Hid (((toI L).drop (j + 1)).length = k - (j + 1)) := by show _ = _; rw [List.length_drop, HN.out]
          rw [← hrest.2] at hI2 HLN
          have hx := hrest.1
          generalize L.getD j 0 = x at *
          clear hrest HREST HG
          have x0 : (x : Int) ≤ (ss.length : Int) := by omega
          have x1 : (ss.length : Int) ≤ (c : Int) := by omega
          have x2 : ((ss.length : Nat) : Int) ≤ 200 := by omega
          have k2 : (j : Int) + 1 ≤ (k : Int) := by omega
          have hne : ss ≠ [] := by intro e; rw [e] at hlen; simp only [List.length_nil] at hlen; have := HLl.out; omega
          obtain ⟨g', off', rfl⟩ := hA.addr hne
          have hA1 : Strs w1 (some ⟨g', off' + x, none⟩) (ss.drop x) := (hA.below hB hlt).drop x
          have hg' : g' < w1.heap.size := Nat.lt_of_lt_of_le (hlt g' off' rfl hne) hs1
          have HE2 := Lib.hid (fun A' c' n (hS : Strs w1 A' (ss.drop x)) (hn : (ss.drop x).length = n) (hb : ∀ b off, A' = some ⟨b, off, none⟩ → ss.drop x ≠ [] → b < w1.heap.size) => ends_at level A' c' n (ss.drop x) w1 hS hb (by rw [List.length_drop]; omega) (fun s h => hs2 s (List.mem_of_mem_drop h)) hn)
          have HA1 := Lib.hid hA1
          have hdl : (ss.drop x).length = ss.length - x := List.length_drop
          have hRl := cuts_length level (ss.drop x)
          have HRb := Lib.hid (toI_bd _ _ (cuts_le level (ss.drop x)))
          have hRm := toI_length (cuts level (ss.drop x))
          clear hA hA1 hlt hs2 hne
          generalize toI (cuts level (ss.drop x)) = R at *
          have hR2 : R.length ≤ 200 := by omega
          rw [hdl] at HRb
          clear hRm hRl
          go_wp2_with fail
          all_goals
            refine (HE2.out _ _ _ (by first | exact HA1.out | (left; apply List.drop_eq_nil_of_le; omega)) hdl (by intro b off e _; simp at e; omega)).mono ?_
            rintro e w2 ⟨v2, rfl, hO2, hB2⟩
            obtain ⟨A2, c2, rfl, hJ, hJb, hJm, hJz⟩ := own_reads hO2
            clear HE2
            obtain ⟨m, hm⟩ : ∃ m, R.length = m := ⟨_, rfl⟩
            have HM := Lib.hid hm
            rw [hm] at hO2 hR2 ⊢
            clear hm
            go_wp2
            go_loopw [88] (fun i wr => ∃ q : Nat, q ≤ m ∧ i = .int .i64 q ∧ Own wr w1.heap.size (.slice A2 m c2) (moved R x q) ∧ Below w1.heap.size w1 wr) (fun i _ => m - (intOf i).toNat)
            case atStart => exact ⟨0, by omega, rfl, by unfold moved; simpa using hO2, hB2⟩
            case round =>
              obtain ⟨q, hq, rfl, hO3, hB3⟩ := hrel
              by_cases hq2 : q < m
              · obtain ⟨g2, o2, rfl⟩ := hJ.addr (by intro e; have := HM.out; rw [e] at this; simp at this; omega)
                have ho2 : o2 = 0 := by rcases hJz with h | ⟨b, h⟩ <;> simp at h; exact h.2
                subst ho2
                obtain ⟨A3, c3, e3, hK, hKb, _, _⟩ := own_reads hO3
                replace e3 := (Value.slice.inj e3).1
                subst e3
                have c4 := hK.cell (k := q) (by rw [moved_length, HM.out]; exact hq2)
                rw [moved_at _ _ _ (by rw [HM.out]; exact hq2), Nat.zero_add] at c4
                have c5 : wr.cell? ⟨g, j, none⟩ = some (.int .i64 (x : Int)) := by rw [hB3.cell (p := ⟨g, j, none⟩) hg]; exact hck
                have fz := Own.fz hO3
                obtain ⟨y0, y1⟩ := HRb.out q (by rw [HM.out]; exact hq2)
                have hput := Own.put hO3 q (R.getD q 0 + (x : Int))
                rw [moved_set _ _ _ (by rw [HM.out]; exact hq2)] at hput
                have hg2 := (hKb g2 0 rfl).1
                have HX : Hid (q + 1 ≤ m) := (by omega : q + 1 ≤ m)
                clear hK hJ HRb
                generalize R.getD q 0 = y at *
                have y2 : y ≤ 200 := by omega
                have x3 : (x : Int) ≤ 200 := by omega
                go_wp2_with fail
                go_region_with fail
                all_goals go_wp2
                all_goals go_roundw
                all_goals first
                  | exact ⟨q + 1, HX.out, by go_num, hput.1, (hB3.grown hput.2 hB3.size (fun k e => by simp at e; omega)).trans ⟨rfl, rfl, rfl, Nat.le_refl _, fun _ _ => rfl⟩⟩
                  | (simp [intOf]; omega)
              · have hqe : q = m := by omega
                subst hqe
                rw [show moved R (x : Int) q = R.map (· + (x : Int)) by rw [← HM.out, moved_all]] at hO3
                obtain ⟨A3, c3, e3, hK, hKb, _, _⟩ := own_reads hO3
                replace e3 := (Value.slice.inj e3).1
                subst e3
                have hI3 : Ints wr (some ⟨g, 0 + (j + 1), none⟩) (R.map (· + (x : Int))) := hI2.below hB3 (fun g' off e => by simp at e; omega)
                have hs3 := hB3.size
                have hml : (R.map (· + (x : Int))).length = q := by rw [List.length_map, HM.out]
                have HI := Lib.hid (fun B' (h : Ints wr B' (R.map (· + (x : Int)))) c' d' n' (h' : (R.map (· + (x : Int))).length = n') => ints_same A2 B' c' d' q n' _ wr hK h hml h' (by omega))
                rw [Nat.zero_add] at hI3
                have HI3 := Lib.hid hI3
                have HC := Lib.hid (show k ≤ c1 by have := Own.cap hO; rw [HN.out] at this; exact this)
                clear hI2 hI3 hK hJ hI HRb
                go_wp2_with fail
                all_goals
                  refine (HI.out _ (by first | exact HI3.out | (left; apply List.eq_nil_of_length_eq_zero; have := HLN.out; have := HC.out; omega)) _ _ _ HLN.out).mono ?_
                  rintro e w4 ⟨rfl, hB4⟩
                  go_wp2_with (go_at_call 8; refine (awake_any _).mono ?_; rintro e w5 ⟨rfl, hB5⟩)
                  go_ret
                  exact ⟨rfl, hB.trans ((hB3.mono hs1).trans ((hB4.mono (by omega)).trans (hB5.mono (by have := hB4.size; omega))))⟩
        · have hkk2 : kk < 0 ∨ (0 ≤ kk ∧ (k : Int) ≤ kk) := by omega
          clear hkk
          rcases hkk2 with k0 | ⟨k0, k1⟩
          all_goals
            go_wp2_with (go_at_call 8; refine (awake_any _).mono ?_; rintro e w2 ⟨rfl, hB2⟩)
            go_ret
            exact ⟨rfl, hB.trans (hB2.mono hs1)⟩
end Go.Proofs.Ytfnjcobgbdioeaa.WalkCut
