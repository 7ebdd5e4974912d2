/-
  The walks of cut.Sizes and Same, and of what the laws call: few, awake.
-/
import Derived.Test.YtfnjcobgbdioeaaWalkCutB
namespace Go.Proofs.Ytfnjcobgbdioeaa.WalkCut
open Go.RowKit Go.Proofs.Ytfnjcobgbdioeaa.WalkRoll Go.Proofs.Ytfnjcobgbdioeaa.WalkBytes Go.Proofs.Ytfnjcobgbdioeaa.WalkInts
set_option linter.unusedVariables false
set_option linter.unusedSimpArgs false

theorem good_le {N : Nat} (l : List Nat) : ∀ was, Pl.Cut.Good N was l → ∀ e ∈ l, e ≤ N := by
  induction l with
  | nil => simp
  | cons a l ih =>
    intro was h e he
    obtain ⟨h1, _, _, _, h2⟩ := h
    rcases List.mem_cons.1 he with rfl | he
    · exact h1
    · exact ih _ h2 e he
theorem cuts_good (level : Int) (ss : List ByteArray) : Pl.Cut.Good ss.length 0 (cuts level ss) := by
  have h := Pl.Cut.ends_good (ss.map (hit level)).length 0 (ss.map (hit level)) (Nat.le_refl _)
  rw [Pl.Cut.ends_go _ _ _ (Nat.le_refl _)] at h
  simpa [cuts] using h
theorem cuts_le (level : Int) (ss : List ByteArray) : ∀ e ∈ cuts level ss, e ≤ ss.length := good_le _ _ (cuts_good level ss)
theorem good_len {N : Nat} (l : List Nat) : ∀ was, was ≤ N → Pl.Cut.Good N was l → l.length ≤ N - was := by
  induction l with
  | nil => simp
  | cons a l ih =>
    intro was hw h
    obtain ⟨h1, h3, _, _, h2⟩ := h
    have := ih _ h1 h2
    simp only [List.length_cons]
    omega
theorem cuts_length (level : Int) (ss : List ByteArray) : (cuts level ss).length ≤ ss.length := by
  have := good_len _ 0 (Nat.zero_le _) (cuts_good level ss)
  omega
def diffs : Int → List Int → List Int
  | _, [] => []
  | was, e :: l => (e - was) :: diffs e l
theorem diffs_length (l : List Int) : ∀ was, (diffs was l).length = l.length := by
  induction l with
  | nil => intro; rfl
  | cons e l ih => intro was; simp [diffs, ih]
theorem dropI (l : List Int) (k : Nat) (h : k < l.length) : l.drop k = l.getD k 0 :: l.drop (k + 1) := by
  rw [List.drop_eq_getElem_cons h]; simp [List.getD_eq_getElem?_getD, h]
theorem takeI (l : List Int) (k : Nat) (h : k < l.length) : l.take (k + 1) = l.take k ++ [l.getD k 0] := by
  rw [List.take_succ_eq_append_getElem h]; simp [List.getD_eq_getElem?_getD, h]
theorem toI_bd (l : List Nat) (N : Nat) (h : ∀ e ∈ l, e ≤ N) (k : Nat) (hk : k < (toI l).length) : 0 ≤ (toI l).getD k 0 ∧ (toI l).getD k 0 ≤ N := by
  rw [toI_length] at hk
  have := h _ (List.getElem_mem hk)
  simp [toI, List.getD_eq_getElem?_getD, hk]
  omega
set_option maxHeartbeats 3200000 in
theorem sizes_any (level : Int) (A : Option Addr) (c : Nat) (ss : List ByteArray) (w : World) (hA : Strs w A ss) (hlt : ∀ b off, A = some ⟨b, off, none⟩ → ss ≠ [] → b < w.heap.size) (hl : ss.length ≤ 200) (hs : ∀ s ∈ ss, s.size ≤ 5000) :
    Calls Try.prog 16 #[.int .i64 level, .slice A ss.length c] w fun e w' => ∃ v, e = .returned v ∧ Own w' w.heap.size v (diffs 0 (toI (cuts level ss))) ∧ Below w.heap.size w w' := by
  obtain ⟨i0, hi, hz0, hz1, hz2⟩ := info_parts info_int
  have HE := Lib.hid (ends_any level A c ss w hA hlt hl hs)
  have hle := toI_bd _ _ (cuts_le level ss)
  have hlen : (toI (cuts level ss)).length ≤ 200 := by rw [toI_length]; have := cuts_length level ss; omega
  clear hA hlt hs
  generalize toI (cuts level ss) = l at *
  go_enter Try.func16, Try.ntmps16
  go_wp2_with fail
  refine HE.out.mono ?_
  rintro e w1 ⟨v, rfl, hO, hB⟩
  obtain ⟨A1, c1, rfl, hI, hIb, _, _⟩ := own_reads hO
  clear HE
  go_wp2
  go_loopw [5, 6, 13] (fun was out i wr => ∃ (k : Nat) (p : Int) (o : List Int), k ≤ l.length ∧ o.length = k ∧ 0 ≤ p ∧ p ≤ 200 ∧ i = .int .i64 k ∧ was = .int .i64 p ∧ Own wr w1.heap.size out o ∧ Below w1.heap.size w1 wr ∧ Hid (diffs 0 l = o ++ diffs p (l.drop k))) (fun _ _ i _ => l.length - (intOf i).toNat)
  case atStart => exact ⟨0, 0, [], by omega, by simp, by omega, by omega, rfl, rfl, Own.nil _ _, Below.refl _ _, by show _ = _; simp⟩
  case round =>
    obtain ⟨k, p, o, hk, ho, p0, p1, rfl, rfl, hO2, hB2, HR⟩ := hrel
    by_cases hk2 : k < l.length
    · obtain ⟨g, off, rfl⟩ := hI.addr (by rintro rfl; simp at hk2)
      have hck := hI.cell hk2
      have hg0 := (hIb g off rfl).2
      have hck1 : wr.cell? ⟨g, off + k, none⟩ = some (.int .i64 (l.getD k 0)) := by rw [hB2.cell (p := ⟨g, off + k, none⟩) hg0]; exact hck
      obtain ⟨x0, x1⟩ := hle k hk2
      have hst := HR.out
      rw [dropI l k hk2] at hst
      simp only [diffs] at hst
      clear hck HR hle hI
      generalize l.getD k 0 = x at *
      have HS : Hid (diffs 0 l = (o ++ [x - p]) ++ diffs x (l.drop (k + 1))) := by show _ = _; rw [hst]; simp
      have x2 : x ≤ 200 := by omega
      have hsl := hB2.size
      have hOlt := hO2.lt
      have HX : Hid (k + 1 ≤ l.length) := (by omega : k + 1 ≤ l.length)
      clear hst
      go_wp2_with (at_builtin; go_must (refine wpList_append_own _ rfl _ _ 31 rfl w1.heap.size 3 i0 (.int .i64 0) 1 8 Try.underlying31 hi hz0 hz1 hz2 rfl (by decide) _ _ _ rfl (World.ownsRow.alloc hO2 _) ⟨wr.heap.size, 0, none⟩ 1 1 [.int .i64 (x - p)] rfl rfl (cell_one_new _ _ _) (fun x hx => by simp at hx; subst hx; rfl) (by unfold maxLen; omega) (by omega) (by simp; omega) ?_); intro v' w2 hO3 hgrow _)
      go_roundw
      case rel =>
        refine ⟨k + 1, x, o ++ [x - p], HX.out, by simp [ho], x0, x2, by go_num, rfl, Own.app hO3, ?_, HS⟩
        exact (hB2.alloc (by omega) _).grown hgrow (by simp; omega) (fun k e => (hOlt k e).1)
      case measure => simp [intOf]; omega
    · have hke : k = l.length := by omega
      have hst := HR.out
      rw [hke, List.drop_of_length_le (Nat.le_refl _)] at hst
      simp [diffs] at hst
      subst hst
      clear HR hle
      go_wp2
      go_ret
      exact ⟨_, rfl, hO2.mono hB.size, hB.trans (hB2.mono hB.size)⟩

set_option maxHeartbeats 1600000 in
theorem index_any (A : Option Addr) (c : Nat) (l : List Int) (x : Int) (w : World) (hA : Ints w A l) (hl : l.length ≤ 9223372036854775807) :
    Calls Try.prog 25 #[.slice A l.length c, .int .i64 x] w fun e w' => ∃ n : Int, e = .returned (.int .i64 n) ∧ decide (0 ≤ n) = l.contains x ∧ w = w' := by
  obtain ⟨R, hR⟩ : ∃ R, l.contains x = R := ⟨_, rfl⟩
  rw [hR]
  have HR := Lib.hid hR
  clear hR
  go_enter Try.func25, Try.ntmps25
  go_wp2
  go_loop [8] (fun i => ∃ k : Nat, k ≤ l.length ∧ i = .int .i64 k ∧ Hid ((l.take k).contains x = false)) (fun i => l.length - (intOf i).toNat)
  case atStart => exact ⟨0, by omega, rfl, by show _ = _; simp⟩
  case round =>
    obtain ⟨k, hk, rfl, HT⟩ := hrel
    by_cases hk2 : k < l.length
    · obtain ⟨g, off, rfl⟩ := hA.addr (by rintro rfl; simp at hk2)
      have hck := hA.cell hk2
      have ht := takeI l k hk2
      have hin : l.getD k 0 ∈ l := by rw [List.getD_eq_getElem?_getD, List.getElem?_eq_getElem hk2]; exact List.getElem_mem hk2
      by_cases e : x = l.getD k 0
      · have hf : l.contains x = true := by rw [e]; simpa using hin
        rw [HR.out] at hf
        subst hf
        rw [← e] at hck
        clear e ht hin hA
        have t2 : (x == x) = true := by simp
        go_wp2
        go_ret
        exact ⟨_, rfl, by simp, rfl⟩
      · have HX : Hid ((l.take (k + 1)).contains x = false) := by
          show _ = _
          rw [ht]
          have := HT.out
          simp only [List.contains_eq_mem, decide_eq_false_iff_not, List.mem_append, List.mem_singleton] at this ⊢
          rintro (h | h)
          · exact this h
          · exact e h
        generalize l.getD k 0 = y at *
        have t2 : (x == y) = false := by simpa using e
        have HK : Hid (k + 1 ≤ l.length) := (by omega : k + 1 ≤ l.length)
        clear e ht hin hA
        go_wp2
        go_round
        case rel => exact ⟨k + 1, HK.out, by go_num, HX⟩
        case measure => simp [intOf]; omega
    · have hke : k = l.length := by omega
      have hst := HT.out
      rw [hke, List.take_length, HR.out] at hst
      subst hst
      clear hA
      go_wp2
      go_ret
      exact ⟨_, rfl, by decide, rfl⟩

theorem contains_any (A : Option Addr) (c : Nat) (l : List Int) (x : Int) (w : World) (hA : Ints w A l) (hl : l.length ≤ 9223372036854775807) :
    Calls Try.prog 22 #[.slice A l.length c, .int .i64 x] w fun e w' => e = .returned (.bool (l.contains x)) ∧ w = w' := by
  have HI := Lib.hid (index_any A c l x w hA hl)
  generalize l.contains x = R at *
  go_enter Try.func22, Try.ntmps22
  go_wp2_with fail
  refine HI.out.mono ?_
  rintro e w1 ⟨n, rfl, hn, rfl⟩
  subst hn
  go_wp2
  go_ret
  exact ⟨rfl, rfl⟩

set_option maxHeartbeats 1600000 in
theorem same_any (level at' : Int) (A : Option Addr) (c : Nat) (ss : List ByteArray) (w : World) (hA : Strs w A ss) (hlt : ∀ b off, A = some ⟨b, off, none⟩ → ss ≠ [] → b < w.heap.size) (hl : ss.length ≤ 200) (hs : ∀ s ∈ ss, s.size ≤ 5000) :
    Calls Try.prog 17 #[.int .i64 level, .int .i64 at', .slice A ss.length c] w fun e w' => e = .returned (.bool (at' == 0 || (toI (cuts level ss)).contains at')) ∧ Below w.heap.size w w' := by
  have HE := Lib.hid (ends_any level A c ss w hA hlt hl hs)
  have hlen : (toI (cuts level ss)).length ≤ 200 := by rw [toI_length]; have := cuts_length level ss; omega
  clear hA hlt hs
  generalize toI (cuts level ss) = l at *
  by_cases h0 : at' = 0
  · subst h0
    go_enter Try.func17, Try.ntmps17
    go_wp2
    go_ret
    exact ⟨by simp, Below.refl _ _⟩
  · have t0 : (at' == 0) = false := by simpa using h0
    rw [t0]
    go_enter Try.func17, Try.ntmps17
    go_wp2_with fail
    refine HE.out.mono ?_
    rintro e w1 ⟨v, rfl, hO, hB⟩
    obtain ⟨A1, c1, rfl, hI, hIb, _, _⟩ := own_reads hO
    clear HE
    go_wp2_with (go_at_call 22; refine (contains_any _ _ _ _ _ hI (by omega)).mono ?_; rintro e w2 ⟨rfl, rfl⟩)
    go_ret
    exact ⟨by simp, hB⟩

/-- are keys gone through? -/
def fewB (ss : List ByteArray) : Bool := decide ((ss.length : Int) ≤ 200) && decide (((bys ss 0 : Nat) : Int) ≤ 5000)
theorem few_any (A : Option Addr) (c : Nat) (ss : List ByteArray) (w : World) (hA : Strs w A ss) (hl : ss.length ≤ 9223372036854775807) (hs : ∀ s ∈ ss, s.size ≤ 9223372036854775807) :
    Calls Try.prog 7 #[.slice A ss.length c] w fun e w' => e = .returned (.bool (fewB ss)) ∧ w = w' := by
  have HB := Lib.hid (bytes_any A c ss w hA hl hs)
  unfold fewB
  by_cases h : (ss.length : Int) ≤ 200
  · rw [decide_eq_true h]
    go_enter Try.func7, Try.ntmps7
    go_wp2_with (go_at_call 18; refine HB.out.mono ?_; rintro e w2 ⟨rfl, rfl⟩)
    go_ret
    exact ⟨by simp, rfl⟩
  · rw [decide_eq_false h]
    go_enter Try.func7, Try.ntmps7
    go_wp2
    go_ret
    exact ⟨by simp, rfl⟩
theorem mem_total (l : List ByteArray) : ∀ s ∈ l, s.size ≤ total l := by
  induction l with
  | nil => simp
  | cons a l ih =>
    intro s hs
    simp only [total]
    rcases List.mem_cons.1 hs with rfl | h
    · omega
    · have := ih s h; omega
theorem few_out {ss : List ByteArray} (h : fewB ss = true) : ss.length ≤ 200 ∧ ∀ s ∈ ss, s.size ≤ 5000 := by
  unfold fewB at h
  simp only [Bool.and_eq_true, decide_eq_true_eq] at h
  have := bys_total ss 0 (by omega)
  exact ⟨by omega, fun s hs => by have := mem_total ss s hs; omega⟩

theorem cuts_three (level : Int) (a b c : ByteArray) : cuts level [a, b, c] = [2, 3] ∨ cuts level [a, b, c] = [3] := by
  have : ∀ x y z : Bool, Pl.Cut.go 0 0 [x, y, z] = [2, 3] ∨ Pl.Cut.go 0 0 [x, y, z] = [3] := by decide
  exact this _ _ _

set_option maxHeartbeats 3200000 in
theorem awake_any (w : World) : Calls Try.prog 8 #[] w fun e w' => e = .returned (.bool true) ∧ Below w.heap.size w w' := by
  have hst : Strs (w.alloc (.cells #[.string ⟨#[97]⟩, .string ⟨#[98]⟩, .string ⟨#[99]⟩] 9)) (some ⟨w.heap.size, 0, none⟩) [⟨#[97]⟩, ⟨#[98]⟩, ⟨#[99]⟩] := by
    refine .inr ⟨_, _, rfl, fun i hi => ?_⟩
    have : i = 0 ∨ i = 1 ∨ i = 2 := by simp at hi; omega
    rcases this with rfl | rfl | rfl <;> go_simp
  have HE := Lib.hid (ends_any 0 (some ⟨w.heap.size, 0, none⟩) 3 _ _ hst (fun b off e _ => by simp at e; simp; omega) (by simp) (fun s hs => by simp at hs; rcases hs with rfl | rfl | rfl <;> decide))
  have HN := fun w => ends_any 0 none 0 [] w (.inl rfl) (by simp) (by simp) (by simp)
  have h3 := cuts_three 0 ⟨#[97]⟩ ⟨#[98]⟩ ⟨#[99]⟩
  have h0 : toI (cuts 0 []) = [] := rfl
  simp only [h0] at HN
  have hw : w.heap.size ≤ (w.alloc (.cells #[.string ⟨#[97]⟩, .string ⟨#[98]⟩, .string ⟨#[99]⟩] 9)).heap.size := by simp
  rcases h3 with h3 | h3
  all_goals
    rw [h3] at HE
    clear h3 hst
    go_enter Try.func8, Try.ntmps8
    go_wp2_with fail
    refine HE.out.mono ?_
    rintro e w1 ⟨v, rfl, hO, hB⟩
    obtain ⟨A1, c1, rfl, hI, hIb, _, _⟩ := own_reads hO
    obtain ⟨g, off, rfl⟩ := hI.addr (by simp [toI])
    have k0 := hI.cell (k := 0) (by simp [toI])
    have k1 := fun h => hI.cell (k := 1) h
    clear HE hI
    simp [toI] at k0 k1
    first | rw [show (toI [2, 3]).length = 2 from rfl] | rw [show (toI [3]).length = 1 from rfl]
    go_wp2_with fail
    refine (HN _).mono ?_
    rintro e w2 ⟨v2, rfl, hO2, hB2⟩
    obtain ⟨A2, c2, rfl, _, _, _, _⟩ := own_reads hO2
    go_wp2
    go_ret
    exact ⟨by simp, ((Below.refl w.heap.size w).alloc (Nat.le_refl _) _).trans ((hB.mono hw).trans (hB2.mono (Nat.le_trans hw hB.size)))⟩
end Go.Proofs.Ytfnjcobgbdioeaa.WalkCut
