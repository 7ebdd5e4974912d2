/-
  The walks of the document's First and Ends, of cut.Sizes and Same, and of what the laws call: few, awake.
-/
import Derived.Test.YtfnjcobgbdioeaaWalkCut
namespace Go.Proofs.Ytfnjcobgbdioeaa.WalkCut
open Go.RowKit Go.Proofs.Ytfnjcobgbdioeaa.WalkRoll Go.Proofs.Ytfnjcobgbdioeaa.WalkBytes Go.Proofs.Ytfnjcobgbdioeaa.WalkInts
set_option linter.unusedVariables false
set_option linter.unusedSimpArgs false

theorem refHits_at (level : Int) (s : ByteArray) (H : Bool) (w : World) (hs : s.size ≤ 140737488351232) (hv : hit level s = H) :
    Calls Try.prog 10 #[.int .i64 level, .string s] w fun e w' => e = .returned (.bool H) ∧ Below w.heap.size w w' := hv ▸ refHits_any level s w hs

/-- how many keys the first chunk has -/
def fst (level : Int) (ss : List ByteArray) : Nat := Pl.Cut.first 0 (ss.map (hit level))
theorem fst_bd (level : Int) (ss : List ByteArray) : fst level ss ≤ ss.length ∧ (ss ≠ [] → 0 < fst level ss) := by
  have := Pl.Cut.first_bd (ss.map (hit level)) 0
  simp only [List.length_map, Nat.zero_add] at this
  exact ⟨this.2.1, fun h => this.2.2 (by simpa using h)⟩

set_option maxHeartbeats 1600000 in
theorem first_any (level : Int) (A : Option Addr) (c : Nat) (ss : List ByteArray) (w : World) (hA : Strs w A ss) (hlt : ∀ b off, A = some ⟨b, off, none⟩ → ss ≠ [] → b < w.heap.size) (hl : ss.length ≤ 200) (hs : ∀ s ∈ ss, s.size ≤ 5000) :
    Calls Try.prog 21 #[.int .i64 level, .slice A ss.length c] w fun e w' => e = .returned (.int .i64 (fst level ss : Nat)) ∧ Below w.heap.size w w' := by
  obtain ⟨F, hF⟩ : ∃ F, fst level ss = F := ⟨_, rfl⟩
  rw [hF]
  have HF := Lib.hid hF
  clear hF
  go_enter Try.func21, Try.ntmps21
  go_wp2
  go_loopw [5] (fun i wr => ∃ k : Nat, k ≤ ss.length ∧ k ≤ 7 ∧ i = .int .i64 k ∧ Below w.heap.size w wr ∧ Hid (F = Pl.Cut.first k ((ss.map (hit level)).drop k))) (fun i _ => ss.length - (intOf i).toNat)
  case atStart => exact ⟨0, by omega, by omega, rfl, Below.refl _ _, by show F = _; rw [← HF.out]; rfl⟩
  case round =>
    obtain ⟨k, hk, hk7, rfl, hB, HR⟩ := hrel
    by_cases hk2 : k < ss.length
    · obtain ⟨g, off, rfl⟩ := hA.addr (by rintro rfl; simp at hk2)
      have hck := hA.cell hk2
      have hg0 := hlt g off rfl (by rintro rfl; simp at hk2)
      have hck1 : wr.cell? ⟨g, off + k, none⟩ = some (.string (ss.getD k ByteArray.empty)) := by rw [hB.cell (p := ⟨g, off + k, none⟩) hg0]; exact hck
      have hsz : (ss.getD k ByteArray.empty).size ≤ 140737488351232 := by
        have : (ss.getD k ByteArray.empty).size ≤ 5000 := by
          rw [List.getD_eq_getElem?_getD, List.getElem?_eq_getElem hk2]; exact hs _ (List.getElem_mem hk2)
        omega
      have hst := HR.out
      rw [map_drop_getD level ss k hk2] at hst
      simp only [Pl.Cut.first] at hst
      clear hck HR
      generalize ss.getD k ByteArray.empty = key at *
      rcases (by omega : k = 7 ∨ k = 0 ∨ (1 ≤ k ∧ k ≤ 6)) with rfl | rfl | ⟨k1, k6⟩
      · have hf : F = 8 := by simpa using hst
        subst hf
        clear hst
        go_wp2
        go_ret
        exact ⟨rfl, hB⟩
      · have hE2 : Hid (F = Pl.Cut.first 1 ((ss.map (hit level)).drop 1)) := by show F = _; rw [hst]; simp
        have HX : Hid (0 + 1 ≤ ss.length) := (by omega : 0 + 1 ≤ ss.length)
        clear hst
        go_wp2
        go_roundw
        case rel => exact ⟨1, HX.out, by omega, by go_num, hB, hE2⟩
        case measure => simp [intOf]; omega
      · have e1 : (k == 7) = false := by simp; omega
        have e2 : decide (1 ≤ k) = true := by simpa using k1
        rw [e1, e2] at hst
        have t7 : ((k : Int) == 7) = false := by simp; omega
        cases hv : hit level key
        · rw [hv] at hst
          have hE2 : Hid (F = Pl.Cut.first (k + 1) ((ss.map (hit level)).drop (k + 1))) := by show F = _; rw [hst]; simp
          have HX : Hid (k + 1 ≤ ss.length) := (by omega : k + 1 ≤ ss.length)
          have HV := Lib.hid hv
          clear hst hv e1 e2
          go_wp2_with (go_at_call 10; refine (refHits_at _ _ _ _ hsz HV.out).mono ?_; rintro e w1 ⟨rfl, hB1⟩)
          go_roundw
          case rel => exact ⟨k + 1, HX.out, by omega, by go_num, hB.trans (hB1.mono hB.size), hE2⟩
          case measure => simp [intOf]; omega
        · rw [hv] at hst
          have hf : F = k + 1 := by simpa using hst
          subst hf
          have HV := Lib.hid hv
          clear hst hv e1 e2
          go_wp2_with (go_at_call 10; refine (refHits_at _ _ _ _ hsz HV.out).mono ?_; rintro e w1 ⟨rfl, hB1⟩)
          go_ret
          exact ⟨ret_int (by omega), hB.trans (hB1.mono hB.size)⟩
    · have hke : k = ss.length := by omega
      have hst := HR.out
      rw [hke, List.drop_of_length_le (by simp)] at hst
      simp only [Pl.Cut.first] at hst
      have HS := Lib.hid hst
      clear hst HR hs hA
      go_wp2
      go_ret
      exact ⟨ret_int (by rw [HS.out]), hB⟩
theorem first_at (level : Int) (A : Option Addr) (c n F : Nat) (ss : List ByteArray) (w : World) (hA : Strs w A ss) (hlt : ∀ b off, A = some ⟨b, off, none⟩ → ss ≠ [] → b < w.heap.size) (hl : ss.length ≤ 200) (hs : ∀ s ∈ ss, s.size ≤ 5000) (hn : ss.length = n) (hF : fst level ss = F) :
    Calls Try.prog 21 #[.int .i64 level, .slice A n c] w fun e w' => e = .returned (.int .i64 (F : Nat)) ∧ Below w.heap.size w w' := by
  subst hn; subst hF; exact first_any level A c ss w hA hlt hl hs

/-- a slice that came in: what its numbers say -/
theorem go_fst (level : Int) (ss : List ByteArray) (a : Nat) (h : a < ss.length) :
    Pl.Cut.go 0 a ((ss.map (hit level)).drop a) = (a + fst level (ss.drop a)) :: Pl.Cut.go 0 (a + fst level (ss.drop a)) ((ss.map (hit level)).drop (a + fst level (ss.drop a))) := by
  have e : (ss.map (hit level)).drop a = (ss.drop a).map (hit level) := by rw [List.map_drop]
  have hne : (ss.drop a).map (hit level) ≠ [] := by simp; omega
  rw [← List.drop_drop, e, Pl.Cut.go_first _ 0 a (by omega) (by omega) (.inr hne)]
  rfl

set_option maxHeartbeats 3200000 in
theorem refEnds_any (level : Int) (A : Option Addr) (c : Nat) (ss : List ByteArray) (w : World) (hA : Strs w A ss) (hlt : ∀ b off, A = some ⟨b, off, none⟩ → ss ≠ [] → b < w.heap.size) (hl : ss.length ≤ 200) (hs : ∀ s ∈ ss, s.size ≤ 5000) (hc : ss.length ≤ c) (hcm : c ≤ 9223372036854775807) :
    Calls Try.prog 15 #[.int .i64 level, .slice A ss.length c] w fun e w' => ∃ v, e = .returned v ∧ Own w' w.heap.size v (toI (cuts level ss)) ∧ Below w.heap.size w w' := by
  obtain ⟨i0, hi, hz0, hz1, hz2⟩ := info_parts info_int
  obtain ⟨E, hE⟩ : ∃ E, cuts level ss = E := ⟨_, rfl⟩
  rw [hE]
  have HE := Lib.hid hE
  clear hE
  go_enter Try.func15, Try.ntmps15
  go_wp2
  go_loopw [5, 6] (fun out i wr => ∃ (a : Nat) (o : List Nat), a ≤ ss.length ∧ o.length ≤ a ∧ i = .int .i64 a ∧ Own wr w.heap.size out (toI o) ∧ Below w.heap.size w wr ∧ Hid (E = o ++ Pl.Cut.go 0 a ((ss.map (hit level)).drop a))) (fun _ i _ => ss.length - (intOf i).toNat)
  case atStart => exact ⟨0, [], by omega, by simp, rfl, Own.nil _ _, Below.refl _ _, by show E = _; rw [← HE.out]; rfl⟩
  case round =>
    obtain ⟨a, o, ha, ho, rfl, hO, hB, HR⟩ := hrel
    by_cases hk2 : a < ss.length
    · obtain ⟨g, off, rfl⟩ := hA.addr (by rintro rfl; simp at hk2)
      have hg0 := hlt g off rfl (by rintro rfl; simp at hk2)
      have hA1 : Strs wr (some ⟨g, off, none⟩) ss := hA.below hB (fun g' off' e _ => by simp at e; omega)
      have hA2 := hA1.drop a
      have hst := HR.out
      rw [go_fst level ss a hk2] at hst
      obtain ⟨f1, f2⟩ := fst_bd level (ss.drop a)
      have f3 := f2 (by simp; omega)
      rw [List.length_drop] at f1
      have hol : (toI o).length ≤ 200 := by rw [toI_length]; omega
      have hsl := hB.size
      have HF := Lib.hid (fun n w (h1 : Strs w (some ⟨g, off + a, none⟩) (ss.drop a)) (h2 : g < w.heap.size) (h3 : (ss.drop a).length = n) => first_at level (some ⟨g, off + a, none⟩) (c - a) n (fst level (ss.drop a)) (ss.drop a) w h1 (fun b off e _ => by simp at e; omega) (by rw [List.length_drop]; omega) (fun s h => hs s (List.mem_of_mem_drop h)) h3 rfl)
      have hdl : (ss.drop a).length = ss.length - a := List.length_drop
      generalize fst level (ss.drop a) = F at *
      have HS := Lib.hid hst
      have hOlt := hO.lt
      have HX : Hid (a + F ≤ ss.length) := (by omega : a + F ≤ ss.length)
      have HO : Hid (o.length + 1 ≤ a + F) := (by omega : o.length + 1 ≤ a + F)
      clear hst HR hs hlt hA hA1
      have e1 : ((a : Nat) : Int) ≤ (ss.length : Int) := by omega
      have e2 : ((ss.length : Nat) : Int) ≤ (c : Int) := by omega
      have e3 : 0 ≤ (a : Int) + (F : Int) := by omega
      have e4 : (a : Int) + (F : Int) ≤ 200 := by omega
      go_wp2_with (first | (go_at_call 21; refine (HF.out _ _ hA2 (by omega) hdl).mono ?_; rintro e w1 ⟨rfl, hB1⟩; have hO2 := hO.below hB1; have hB2 := hB.trans (hB1.mono hsl); have hsz1 := hB1.size) | (at_builtin; go_must (refine wpList_append_own _ rfl _ _ 31 rfl w.heap.size 3 i0 (.int .i64 0) 1 8 Try.underlying31 hi hz0 hz1 hz2 rfl (by decide) _ _ _ rfl (World.ownsRow.alloc hO2 _) ⟨w1.heap.size, 0, none⟩ 1 1 [.int .i64 ((a : Int) + (F : Int))] rfl rfl (cell_one_new _ _ _) (fun x hx => by simp at hx; subst hx; rfl) (by unfold maxLen; omega) (by omega) (by simp; omega) ?_); intro v' w2 hO3 hgrow _))
      go_roundw
      case rel =>
        refine ⟨a + F, o ++ [a + F], HX.out, by simpa using HO.out, by go_num, ?_, ?_, by show E = _; rw [HS.out]; simp⟩
        · rw [← toI_append]
          have := Own.app hO3
          simpa using this
        · exact (hB2.alloc (by omega) _).grown hgrow (by simp; omega) (fun k e => (hOlt k e).1)
      case measure => simp [intOf]; omega
    · have hke : a = ss.length := by omega
      have hst := HR.out
      rw [hke, List.drop_of_length_le (by simp)] at hst
      simp [Pl.Cut.go] at hst
      subst hst
      clear HR hs hA hlt
      go_wp2
      go_ret
      exact ⟨_, rfl, hO, hB⟩
end Go.Proofs.Ytfnjcobgbdioeaa.WalkCut
