/-
  The walks of CutNobody, CutOne, CutEnds.
-/
import Derived.Test.YtfnjcobgbdioeaaWalkCutC
namespace Go.Proofs.Ytfnjcobgbdioeaa.WalkCut
open Go.RowKit Go.Proofs.Ytfnjcobgbdioeaa.WalkRoll Go.Proofs.Ytfnjcobgbdioeaa.WalkBytes Go.Proofs.Ytfnjcobgbdioeaa.WalkInts
set_option linter.unusedVariables false
set_option linter.unusedSimpArgs false

theorem size_cell (b : Nat) (n : Int) (w : World) (h1 : w.cell? ⟨b, 1, none⟩ = some (.int .i64 n)) :
    Calls Try.prog 12 #[.pointer (some ⟨b, 0, none⟩)] w fun e w' => e = .returned (.int .i64 n) ∧ w = w' := by
  go_enter Try.func12, Try.ntmps12
  go_wp2
  go_ret
  exact ⟨rfl, rfl⟩

set_option maxHeartbeats 1600000 in
theorem cutNobody_walk (key : ByteArray) (there : Bool) (w : World) :
    Calls Try.prog 5 #[.string key, .bool there] w fun e w' => e = .returned (.bool true) ∧ Below w.heap.size w w' := by
  cases there
  · go_enter Try.func5, Try.ntmps5
    go_wp2_with (first | (go_at_call 11; refine (next_nil _ _).mono ?_; rintro e w1 ⟨rfl, rfl⟩) | (go_at_call 12; refine (size_nil _).mono ?_; rintro e w1 ⟨rfl, rfl⟩) | (go_at_call 8; refine (awake_any _).mono ?_; rintro e w2 ⟨rfl, hB⟩))
    go_ret
    exact ⟨rfl, hB⟩
  · have c2 : (w.alloc (.cells #[.int .i64 0, .int .i64 0, .bool false] 36)).cell? ⟨w.heap.size, 2, none⟩ = some (.bool false) := by go_simp
    have c1 : (w.alloc (.cells #[.int .i64 0, .int .i64 0, .bool false] 36)).cell? ⟨w.heap.size, 1, none⟩ = some (.int .i64 0) := by go_simp
    go_enter Try.func5, Try.ntmps5
    go_wp2_with (first | (go_at_call 11; refine (next_raw _ _ _ c2).mono ?_; rintro e w1 ⟨rfl, rfl⟩) | (go_at_call 12; refine (size_cell _ _ _ c1).mono ?_; rintro e w1 ⟨rfl, rfl⟩) | (go_at_call 8; refine (awake_any _).mono ?_; rintro e w2 ⟨rfl, hB⟩))
    go_ret
    exact ⟨rfl, ((Below.refl w.heap.size w).alloc (Nat.le_refl _) _).trans (hB.mono (by simp))⟩

set_option maxHeartbeats 3200000 in
theorem cutOne_walk (level : Int) (A : Option Addr) (len c : Nat) (ss : List ByteArray) (w : World) (hA0 : StrsArg w A len ss) (hl : len ≤ 9223372036854775807) :
    Calls Try.prog 3 #[.int .i64 level, .slice A len c] w fun e w' => e = .returned (.bool true) ∧ Below w.heap.size w w' := by
  obtain ⟨hA, rfl, hs, hlt⟩ := hA0.out
  have HF := Lib.hid (few_any A c ss w hA hl hs)
  cases hv : fewB ss
  · rw [hv] at HF
    go_enter Try.func3, Try.ntmps3
    go_wp2_with (first | (go_at_call 7; refine HF.out.mono ?_; rintro e w1 ⟨rfl, rfl⟩) | (go_at_call 8; refine (awake_any _).mono ?_; rintro e w2 ⟨rfl, hB⟩))
    go_ret
    exact ⟨rfl, hB⟩
  · rw [hv] at HF
    obtain ⟨hl2, hs2⟩ := few_out hv
    clear hs hl hv
    obtain ⟨b0, hb0⟩ : ∃ b0, w.heap.size = b0 := ⟨_, rfl⟩
    have HSZ := Lib.hid hb0
    clear hb0
    go_enter Try.func3, Try.ntmps3
    go_wp2_with (first | (go_at_call 7; refine HF.out.mono ?_; rintro e w1 ⟨rfl, rfl⟩) | (go_at_call 9; refine (new_any _ _).mono ?_; rintro e w1 ⟨rfl, hC, hB⟩))
    rw [HSZ.out] at hC hB
    rw [HSZ.out]
    go_loopw [6, 18] (fun m i wr => ∃ (k n : Nat), k ≤ ss.length ∧ n ≤ 7 ∧ i = .int .i64 k ∧ m = .int .i64 n ∧ CutIs b0 level (n : Int) wr ∧ Below b0 w wr) (fun _ i _ => ss.length - (intOf i).toNat)
    case atStart => exact ⟨0, 0, by omega, by omega, rfl, rfl, hC, hB⟩
    case round =>
      obtain ⟨k, n, hk, hn, rfl, rfl, hC1, hB1⟩ := hrel
      clear hC hB
      have hb1 := hC1.lt
      by_cases hk2 : k < ss.length
      · obtain ⟨g, off, rfl⟩ := hA.addr (by rintro rfl; simp at hk2)
        have hg0 : g < b0 := by rw [← HSZ.out]; exact hlt g off rfl (by rintro rfl; simp at hk2)
        have hck := hA.cell hk2
        have hck1 : wr.cell? ⟨g, off + k, none⟩ = some (.string (ss.getD k ByteArray.empty)) := by rw [hB1.cell (p := ⟨g, off + k, none⟩) hg0]; exact hck
        have hsz : (ss.getD k ByteArray.empty).size ≤ 5000 := by
          rw [List.getD_eq_getElem?_getD, List.getElem?_eq_getElem hk2]; exact hs2 _ (List.getElem_mem hk2)
        have hsz2 : (ss.getD k ByteArray.empty).size ≤ 9223372036854775806 := by omega
        have hsz3 : (ss.getD k ByteArray.empty).size ≤ 140737488351232 := by omega
        clear hck hsz hs2 hA
        generalize ss.getD k ByteArray.empty = key at *
        have HN := Lib.hid (fun w' h => next_any b0 level n key w' h hn hsz2)
        have HX : Hid (k + 1 ≤ ss.length) := (by omega : k + 1 ≤ ss.length)
        have hw2 := hB1.size
        rcases (by omega : n = 7 ∨ n = 0 ∨ (1 ≤ n ∧ n ≤ 6)) with rfl | rfl | ⟨n1, n6⟩
        · have hv : stops level 7 key = true := by simp [stops]
          unfold Nexted at HN
          rw [hv] at HN
          go_wp2_with (go_at_call 11; refine (HN.out _ hC1).mono ?_; rintro e w1 ⟨rfl, hC2, hG⟩)
          have S1 := size_any b0 level 0 _ hC2
          go_wp2_with (go_at_call 12; refine S1.mono ?_; rintro e w1 ⟨rfl, rfl⟩)
          go_roundw
          case rel => exact ⟨k + 1, 0, HX.out, by omega, by go_num, rfl, hC2, hB1.grown hG (by omega) (fun k e => by simp at e; omega)⟩
          case measure => simp [intOf]; omega
        · have hv : stops level 0 key = false := by simp [stops]
          unfold Nexted at HN
          rw [hv] at HN
          go_wp2_with (go_at_call 11; refine (HN.out _ hC1).mono ?_; rintro e w1 ⟨rfl, hC2, hG⟩)
          have S1 := size_any b0 level 1 _ hC2
          go_wp2_with (go_at_call 12; refine S1.mono ?_; rintro e w1 ⟨rfl, rfl⟩)
          go_roundw
          case rel => exact ⟨k + 1, 1, HX.out, by omega, by go_num, rfl, hC2, hB1.grown hG (by omega) (fun k e => by simp at e; omega)⟩
          case measure => simp [intOf]; omega
        · have hv : stops level n key = hit level key := by
            unfold stops
            rw [decide_eq_false (by omega), decide_eq_true (by omega)]; simp
          have t8 : ((n : Int) + 1 == 8) = false := by simp; omega
          have b2 : 2 ≤ (n : Int) + 1 := by omega
          have b3 : (n : Int) ≤ 6 := by omega
          obtain ⟨H, hH⟩ : ∃ H, hit level key = H := ⟨_, rfl⟩
          have HR := Lib.hid (fun w => refHits_at level key H w hsz3 hH)
          unfold Nexted at HN
          rw [hv, hH] at HN
          clear hv hH
          cases H
          · go_wp2_with (first | (go_at_call 10; refine (HR.out _).mono ?_; rintro e w1 ⟨rfl, hB2⟩; have hC2 := hC1.kept (hB2.block b0 hb1)) | (go_at_call 11; refine (HN.out _ hC2).mono ?_; rintro e w2 ⟨rfl, hC3, hG⟩))
            have S1 := size_any b0 level _ _ hC3
            go_wp2_with (go_at_call 12; refine S1.mono ?_; rintro e w1 ⟨rfl, rfl⟩)
            go_roundw
            case rel => exact ⟨k + 1, n + 1, HX.out, by omega, by go_num, by go_num, hC3, (hB1.trans (hB2.mono (by omega))).grown hG (by have := hB2.size; omega) (fun k e => by simp at e; omega)⟩
            case measure => simp [intOf]; omega
          · go_wp2_with (first | (go_at_call 10; refine (HR.out _).mono ?_; rintro e w1 ⟨rfl, hB2⟩; have hC2 := hC1.kept (hB2.block b0 hb1)) | (go_at_call 11; refine (HN.out _ hC2).mono ?_; rintro e w2 ⟨rfl, hC3, hG⟩))
            have S1 := size_any b0 level _ _ hC3
            go_wp2_with (go_at_call 12; refine S1.mono ?_; rintro e w1 ⟨rfl, rfl⟩)
            go_roundw
            case rel => exact ⟨k + 1, 0, HX.out, by omega, by go_num, rfl, hC3, (hB1.trans (hB2.mono (by omega))).grown hG (by have := hB2.size; omega) (fun k e => by simp at e; omega)⟩
            case measure => simp [intOf]; omega
      · have hw2 := hB1.size
        clear hA hs2
        go_wp2_with (go_at_call 8; refine (awake_any _).mono ?_; rintro e w2 ⟨rfl, hB2⟩)
        go_ret
        exact ⟨rfl, (hB1.trans (hB2.mono (by omega))).mono (by have := HSZ.out; omega)⟩
end Go.Proofs.Ytfnjcobgbdioeaa.WalkCut
