/-
  RollSums, RollKeys, RollLast walked: each returns true for every input.
-/
import Derived.Test.YthldakchlnnonaaWalkRollB
import Derived.Lib.ConvBytes
import Derived.Deep.RegionWith
namespace Go.Proofs.Ythldakchlnnonaa.WalkRoll
open Go.RowKit
set_option linter.unusedVariables false
set_option linter.unusedSimpArgs false

theorem bl_extract (s : ByteArray) (k : Nat) (h : k ≤ s.size) : bl (s.extract 0 k) = (bl s).take k := by
  simp [bl, ByteArray.data_extract, List.map_take]

theorem quiet_at {P : Program} {f : FuncId} {args : Array Value} {w : World} {n : Nat} {v : Value}
    (h : Calls P f args (w.drewN n) fun e w' => e = .returned v ∧ w.drewN n = w') : Calls P f args (w.drewN n) fun e w'' => e = .returned v ∧ ∃ m, w'' = w.drewN m :=
  h.mono fun _ _ ⟨he, hm⟩ => ⟨he, n, hm.symm⟩
theorem RollIs.drewN {b : Nat} {l : List Int} {w : World} (h : RollIs b l w) (n : Nat) : RollIs b l (w.drewN n) := ⟨h.sum, h.size, h.last, h.fz⟩
theorem below_drewN {B : Nat} {w w' : World} (h : Below B w w') (n : Nat) : Below B w (w'.drewN n) := h.trans ⟨rfl, rfl, rfl, Nat.le_refl _, fun _ _ => rfl⟩

theorem refSum_at (s : ByteArray) (v : Int) (w : World) (hs : s.size ≤ 9223372036854775000) (hv : rs (bl s) = v) :
    Calls Try.prog 14 #[.string s] w fun e w' => e = .returned (.int .u32 v) ∧ w = w' := hv ▸ refSum_any s w hs
set_option maxHeartbeats 1600000 in
theorem rollSums_walk (s : ByteArray) (w : World) (hs : s.size ≤ maxLen) :
    Calls Try.prog 3 #[.string s] w fun e w' => e = .returned (.bool true) ∧ Below w.heap.size w w' := by
  unfold maxLen at hs
  by_cases h1 : (1000 : Int) < (s.size : Int)
  · go_enter Try.func3, Try.ntmps3
    go_wp2_with (go_at_call 11; refine (awake_any _).mono ?_; rintro e w1 ⟨rfl, hB⟩)
    go_ret
    exact ⟨rfl, hB⟩
  · go_enter Try.func3, Try.ntmps3
    go_wp2
    go_loopw [11] (fun i wr => ∃ k : Nat, k ≤ s.size ∧ i = .int .i64 k ∧ RollIs w.heap.size ((bl s).take k) wr ∧ Below w.heap.size w wr) (fun i _ => s.size - (intOf i).toNat)
    case atStart => exact ⟨0, Nat.zero_le _, rfl, by simpa using RollIs.new w, (Below.refl _ _).alloc (Nat.le_refl _) _⟩
    case round =>
      obtain ⟨k, hk, rfl, hR, hB⟩ := hrel
      by_cases hlt : k < s.size
      · have ht := Lib.hid (bl_take s k hlt)
        have g0 : 0 ≤ (s[k].toNat : Int) := by omega
        have g1 : (s[k].toNat : Int) ≤ 255 := by have := s[k].toNat_lt; omega
        have e1 : IntKind.i64.wrap ((k : Int) + 1) = (k : Int) + 1 := IntWalk.i64_in _ (by omega)
        have e2 : 0 ≤ (k : Int) + 1 := by omega
        have e3 : ((k : Int) + 1).toNat = k + 1 := by omega
        have hx : rs (bl (s.extract 0 (k + 1))) = Pl.Roll.sum 0 (Pl.Roll.last8 ((bl s).take k ++ [(s[k].toNat : Int)])) := by rw [bl_extract _ _ (by omega), ht.out]; rfl
        have hx2 : (s.extract 0 (k + 1)).size ≤ 9223372036854775000 := by rw [ByteArray.size_extract]; omega
        have HX := Lib.hid hx
        clear hx
        go_wp2_with (go_at_call 12; refine (feed_any _ _ _ _ hR g0 g1).mono ?_; rintro e w1 ⟨rfl, hR1, hU⟩)
        go_quiet ((first | (go_at_call 13; exact quiet_at (rollSum_any _ _ _ (hR1.drewN _))) | (go_at_call 14; exact quiet_at (refSum_at _ _ _ hx2 HX.out))))
        go_wp2
        go_roundw
        case rel => exact ⟨k + 1, by omega, by go_num, by rw [ht.out]; exact hR1.drewN _, below_drewN (hB.trans (hU.below (Nat.le_refl _))) _⟩
        case measure => simp [intOf]; omega
      · have : k = s.size := by omega
        subst this
        go_wp2_with (go_at_call 11; refine (awake_any _).mono ?_; rintro e w1 ⟨rfl, hB1⟩)
        go_ret
        exact ⟨rfl, hB.trans (hB1.mono hB.size)⟩

set_option maxHeartbeats 1600000 in
theorem rollKeys_walk (level : Int) (s : ByteArray) (w : World) (hs : s.size ≤ maxLen) :
    Calls Try.prog 8 #[.int .i64 level, .string s] w fun e w' => e = .returned (.bool true) ∧ Below w.heap.size w w' := by
  unfold maxLen at hs
  by_cases h1 : (1000 : Int) < (s.size : Int)
  · go_enter Try.func8, Try.ntmps8
    go_wp2_with (go_at_call 11; refine (awake_any _).mono ?_; rintro e w1 ⟨rfl, hB⟩)
    go_ret
    exact ⟨rfl, hB⟩
  · have g1 : s.size ≤ 9223372036854775806 := by omega
    have g2 : s.size ≤ 140737488351232 := by omega
    go_enter Try.func8, Try.ntmps8
    go_wp2_with (first | (go_at_call 35; refine (of_any _ _ _ g1).mono ?_; rintro e w1 ⟨rfl, hB1⟩) | (go_at_call 36; refine (refOf_any _ _ _ g2).mono ?_; rintro e w2 ⟨rfl, hB2⟩) | (go_at_call 37; refine (hits_any _ _ _ g1).mono ?_; rintro e w3 ⟨rfl, hB3⟩) | (go_at_call 38; refine (refHits_any _ _ _ g2).mono ?_; rintro e w4 ⟨rfl, hB4⟩) | (go_at_call 11; refine (awake_any _).mono ?_; rintro e w5 ⟨rfl, hB5⟩))
    go_ret
    have q1 := hB1.size
    have q2 := hB2.size
    have q3 := hB3.size
    have q4 := hB4.size
    exact ⟨by simp, hB1.trans ((hB2.mono q1).trans ((hB3.mono (by omega)).trans ((hB4.mono (by omega)).trans (hB5.mono (by omega)))))⟩

theorem last8_app (a s : List Int) (h : s.length = 8) : Pl.Roll.last8 (a ++ s) = s := by
  unfold Pl.Roll.last8
  rw [List.length_append, h, show a.length + 8 - 8 = a.length from by omega, List.drop_left]
theorem bl_append (a b : ByteArray) : bl (a ++ b) = bl a ++ bl b := by simp [bl]
theorem conv_str (s : ByteArray) (w : World) :
    (convert 9 31 (.string s)).run Try.prog w = .ok (.slice (some ⟨w.heap.size, 0, none⟩) s.size (grownCap w s.size 0 5)) (Lib.bytesWorld w 5 s) :=
  Lib.run_convert_string_bytes w _ _ _ s Try.underlying9 Try.underlying31 Try.underlying5
theorem RollIs.up' {b d : Nat} {l : List Int} {w w' : World} (h : RollIs d l w) (u : Up b w w') (hne : d ≠ b) : RollIs d l w' := by
  have hc : ∀ o, w'.cell? ⟨d, o, none⟩ = w.cell? ⟨d, o, none⟩ := fun o => World.cell?_of_block (w := w) (u.block d hne)
  have hf : ∀ o, w'.frozen? ⟨d, o, none⟩ = w.frozen? ⟨d, o, none⟩ := fun o => World.frozen?_of_block (w := w) (u.block d hne)
  exact ⟨by rw [hc]; exact h.sum, by rw [hc]; exact h.size, fun i hi => by obtain ⟨x, a, b, c, d⟩ := h.last i hi; exact ⟨x, a, b, by rw [hc]; exact c, d⟩, fun o => by rw [hf]; exact h.fz o⟩

theorem bl_getD (t : ByteArray) (k : Nat) (h : k < t.size) : (bl t).take (k + 1) = (bl t).take k ++ [((t.data.toList.getD k 0).toNat : Int)] := by
  rw [bl_take t k h]
  have : t.data.toList.getD k 0 = t[k] := by
    simp [List.getD_eq_getElem?_getD, show k < t.data.size from h, Array.getElem?_eq_getElem (show k < t.data.size from h)]; rfl
  rw [this]
/-- a world with one more block, made of a string -/
theorem RollIs.bytes {d : Nat} {l : List Int} {w : World} {e : TypeId} {t : ByteArray} (h : RollIs d l w) (hd : d < w.heap.size) : RollIs d l (Lib.bytesWorld w e t) := by
  have hc : ∀ o, (Lib.bytesWorld w e t).cell? ⟨d, o, none⟩ = w.cell? ⟨d, o, none⟩ := fun o => Lib.bytesWorld_old w e t ⟨d, o, none⟩ hd
  have hf : ∀ o, (Lib.bytesWorld w e t).frozen? ⟨d, o, none⟩ = w.frozen? ⟨d, o, none⟩ := fun o => World.frozen?_of_block (w := w) (Lib.bytesWorld_at_old w e t d hd)
  exact ⟨by rw [hc]; exact h.sum, by rw [hc]; exact h.size, fun i hi => by obtain ⟨x, a, b, c, d⟩ := h.last i hi; exact ⟨x, a, b, by rw [hc]; exact c, d⟩, fun o => by rw [hf]; exact h.fz o⟩
theorem RollIs.alloc {d : Nat} {l : List Int} {w : World} {o : Obj} (h : RollIs d l w) (hd : d < w.heap.size) : RollIs d l (w.alloc o) := by
  have hc : ∀ o', (w.alloc o).cell? ⟨d, o', none⟩ = w.cell? ⟨d, o', none⟩ := fun o' => World.cell?_of_block (w := w) (Below.heap_alloc w o d hd)
  have hf : ∀ o', (w.alloc o).frozen? ⟨d, o', none⟩ = w.frozen? ⟨d, o', none⟩ := fun o' => World.frozen?_of_block (w := w) (Below.heap_alloc w o d hd)
  exact ⟨by rw [hc]; exact h.sum, by rw [hc]; exact h.size, fun i hi => by obtain ⟨x, a, b, c, d⟩ := h.last i hi; exact ⟨x, a, b, by rw [hc]; exact c, d⟩, fun o => by rw [hf]; exact h.fz o⟩
theorem below_bytes {B : Nat} {w w' : World} (h : Below B w w') (hB : B ≤ w'.heap.size) (e : TypeId) (t : ByteArray) : Below B w (Lib.bytesWorld w' e t) := by
  refine h.trans ⟨?_, ?_, ?_, by rw [Lib.bytesWorld_size]; omega, fun k hk => Lib.bytesWorld_at_old w' e t k (by omega)⟩
  · rfl
  · rfl
  · rfl
/-- block g holds a string's bytes -/
def Holds (g : Nat) (t : ByteArray) (w : World) : Prop := ∀ j, j < t.size → w.cell? ⟨g, j, none⟩ = some (.int .u8 (t.data.toList.getD j 0).toNat)
theorem Holds.up {g b : Nat} {t : ByteArray} {w w' : World} (h : Holds g t w) (u : Up b w w') (hne : g ≠ b) : Holds g t w' :=
  fun j hj => by rw [World.cell?_of_block (w := w) (a := ⟨g, j, none⟩) (u.block g hne)]; exact h j hj

set_option maxHeartbeats 3200000 in
theorem rollLast_walk (a b s : ByteArray) (w : World) (ha : a.size ≤ maxLen) (hb : b.size ≤ maxLen) (hs : s.size ≤ maxLen) :
    Calls Try.prog 4 #[.string a, .string b, .string s] w fun e w' => e = .returned (.bool true) ∧ Below w.heap.size w w' := by
  unfold maxLen at ha hb hs
  by_cases h1 : s.size = 8 ∧ a.size ≤ 500 ∧ b.size ≤ 500
  · obtain ⟨g8, ga, gb⟩ := h1
    have cs := conv_str
    have t8 : ((s.size : Int) != 8) = false := by simp; omega
    have za : ¬ (9223372036854775807 < a.size + s.size) := by omega
    have zb : ¬ (9223372036854775807 < b.size + s.size) := by omega
    have ta : ¬ (500 : Int) < (a.size : Int) := by omega
    have tb : ¬ (500 : Int) < (b.size : Int) := by omega
    have G8 := Lib.hid g8
    have na : (a ++ s).size = a.size + s.size := ByteArray.size_append
    have nb : (b ++ s).size = b.size + s.size := ByteArray.size_append
    have NA := Lib.hid na
    have NB := Lib.hid nb
    clear g8 na nb
    go_enter Try.func4, Try.ntmps4
    go_wp2
    go_loopw [32] (fun i wr => ∃ k : Nat, (k : Int) ≤ (a.size : Int) + (s.size : Int) ∧ i = .int .i64 k ∧ RollIs w.heap.size ((bl (a ++ s)).take k) wr ∧ RollIs (w.heap.size + 1) [] wr ∧ Holds (w.heap.size + 1 + 1) (a ++ s) wr ∧ w.heap.size + 3 ≤ wr.heap.size ∧ Below w.heap.size w wr) (fun i _ => (a.size + s.size) - (intOf i).toNat)
    case atStart =>
      have r0 := RollIs.new w
      have r1 := RollIs.new (w.alloc (.cells #[.int .u32 0, .int .u8 0, .int .u8 0, .int .u8 0, .int .u8 0, .int .u8 0, .int .u8 0, .int .u8 0, .int .u8 0, .int .i64 0] 26))
      rw [World.size_alloc] at r1
      have hz : ((w.alloc (.cells #[.int .u32 0, .int .u8 0, .int .u8 0, .int .u8 0, .int .u8 0, .int .u8 0, .int .u8 0, .int .u8 0, .int .u8 0, .int .i64 0] 26)).alloc (.cells #[.int .u32 0, .int .u8 0, .int .u8 0, .int .u8 0, .int .u8 0, .int .u8 0, .int .u8 0, .int .u8 0, .int .u8 0, .int .i64 0] 26)).heap.size = w.heap.size + 1 + 1 := by rw [World.size_alloc, World.size_alloc]
      refine ⟨0, by omega, rfl, ?_, ?_, ?_, ?_, ?_⟩
      · exact (r0.alloc (by rw [World.size_alloc]; omega)).bytes (by rw [hz]; omega)
      · exact r1.bytes (by rw [hz]; omega)
      · intro j hj
        have := Lib.bytesWorld_cell ((w.alloc (.cells #[.int .u32 0, .int .u8 0, .int .u8 0, .int .u8 0, .int .u8 0, .int .u8 0, .int .u8 0, .int .u8 0, .int .u8 0, .int .i64 0] 26)).alloc (.cells #[.int .u32 0, .int .u8 0, .int .u8 0, .int .u8 0, .int .u8 0, .int .u8 0, .int .u8 0, .int .u8 0, .int .u8 0, .int .i64 0] 26)) 5 (a ++ s) j hj
        rw [hz] at this
        exact this
      · rw [Lib.bytesWorld_size, hz]; omega
      · exact below_bytes (((Below.refl _ _).alloc (Nat.le_refl _) _).alloc (by rw [World.size_alloc]; omega) _) (by rw [hz]; omega) _ _
    case round =>
      obtain ⟨k, hk, rfl, hR, hR1, hH, hz, hB⟩ := hrel
      by_cases hlt : (k : Int) < (a.size : Int) + (s.size : Int)
      · have ht := Lib.hid (bl_getD (a ++ s) k (by rw [NA.out]; omega))
        have hc := hH k (by rw [NA.out]; omega)
        have g0 : 0 ≤ (((a ++ s).data.toList.getD k 0).toNat : Int) := by omega
        have g1 : (((a ++ s).data.toList.getD k 0).toNat : Int) ≤ 255 := by have := ((a ++ s).data.toList.getD k 0).toNat_lt; omega
        generalize (((a ++ s).data.toList.getD k 0).toNat : Int) = c at hc g0 g1 ht
        go_wp2_with (go_at_call 12; refine (feed_any _ _ _ _ hR g0 g1).mono ?_; rintro e w1 ⟨rfl, hR2, hU⟩)
        go_roundw
        case rel => exact ⟨k + 1, by omega, by go_num, by rw [ht.out]; exact hR2, hR1.up' hU (by omega), hH.up hU (by omega), by rw [hU.size]; exact hz, hB.trans (hU.below (Nat.le_refl _))⟩
        case measure => simp [intOf]; omega
      · have hkn : k = a.size + s.size := by omega
        rw [List.take_of_length_le (by rw [bl_length, NA.out]; omega)] at hR
        have hge : (a.size : Int) + (s.size : Int) ≤ (k : Int) := by omega
        clear hkn hlt hk hH
        obtain ⟨M, hM⟩ : ∃ M, wr.heap.size = M := ⟨_, rfl⟩
        have HM := Lib.hid hM
        clear hM
        go_wp2
        go_loopw [44] (fun i wq => ∃ k : Nat, (k : Int) ≤ (b.size : Int) + (s.size : Int) ∧ i = .int .i64 k ∧ RollIs w.heap.size (bl (a ++ s)) wq ∧ RollIs (w.heap.size + 1) ((bl (b ++ s)).take k) wq ∧ Holds wr.heap.size (b ++ s) wq ∧ w.heap.size + 3 ≤ wr.heap.size ∧ Below w.heap.size w wq) (fun i _ => (b.size + s.size) - (intOf i).toNat)
        case atStart =>
          exact ⟨0, by omega, rfl, hR.bytes (by omega), hR1.bytes (by omega), fun j hj => Lib.bytesWorld_cell _ _ _ j hj, hz, below_bytes hB (by omega) _ _⟩
        case round =>
          obtain ⟨k, hk, rfl, hR, hR1, hH, hz, hB⟩ := hrel
          by_cases hlt : (k : Int) < (b.size : Int) + (s.size : Int)
          · have ht := Lib.hid (bl_getD (b ++ s) k (by rw [NB.out]; omega))
            have hc := hH k (by rw [NB.out]; omega)
            have g0 : 0 ≤ (((b ++ s).data.toList.getD k 0).toNat : Int) := by omega
            have g1 : (((b ++ s).data.toList.getD k 0).toNat : Int) ≤ 255 := by have := ((b ++ s).data.toList.getD k 0).toNat_lt; omega
            generalize (((b ++ s).data.toList.getD k 0).toNat : Int) = c at hc g0 g1 ht
            go_wp2_with (go_at_call 12; refine (feed_any _ _ _ _ hR1 g0 g1).mono ?_; rintro e w1 ⟨rfl, hR2, hU⟩)
            go_roundw
            case rel => exact ⟨k + 1, by omega, by go_num, hR.up' hU (by omega), by rw [ht.out]; exact hR2, hH.up hU (by omega), hz, hB.trans (hU.below (by omega))⟩
            case measure => simp [intOf]; omega
          · have hge2 : (b.size : Int) + (s.size : Int) ≤ (k : Int) := by omega
            rw [List.take_of_length_le (by rw [bl_length, NB.out]; omega)] at hR1
            clear hlt hk hH
            have e1 : Pl.Roll.last8 (bl (a ++ s)) = bl s := by rw [bl_append, last8_app _ _ (by rw [bl_length]; exact G8.out)]
            have e2 : Pl.Roll.last8 (bl (b ++ s)) = bl s := by rw [bl_append, last8_app _ _ (by rw [bl_length]; exact G8.out)]
            have s1 := fun W h => rollSum_any w.heap.size (bl (a ++ s)) W h
            have s2 := fun W h => rollSum_any (w.heap.size + 1) (bl (b ++ s)) W h
            rw [e1] at s1
            rw [e2] at s2
            have S1 := Lib.hid s1
            have S2 := Lib.hid s2
            clear s1 s2 e1 e2
            go_wp2_with fail
            refine (S1.out _ hR).mono ?_
            rintro e w1 ⟨rfl, rfl⟩
            go_wp2_with fail
            refine (S2.out _ hR1).mono ?_
            rintro e w1 ⟨rfl, rfl⟩
            go_wp2_with (go_at_call 11; refine (awake_any _).mono ?_; rintro e w1 ⟨rfl, hB1⟩)
            go_ret
            exact ⟨by simp, hB.trans (hB1.mono hB.size)⟩
  · have hx : ((s.size : Int) != 8) = true ∨ (((s.size : Int) != 8) = false ∧ (500 : Int) < (a.size : Int)) ∨ (((s.size : Int) != 8) = false ∧ (a.size : Int) ≤ 500 ∧ (500 : Int) < (b.size : Int)) := by
      by_cases e : s.size = 8
      · right
        by_cases e2 : a.size ≤ 500
        · exact Or.inr ⟨by simp; omega, by omega, by omega⟩
        · exact Or.inl ⟨by simp; omega, by omega⟩
      · left; simp; omega
    clear h1
    rcases hx with q1 | ⟨q1, q2⟩ | ⟨q1, q2, q3⟩
    all_goals
      go_enter Try.func4, Try.ntmps4
      go_wp2_with (go_at_call 11; refine (awake_any _).mono ?_; rintro e w1 ⟨rfl, hB⟩)
      go_ret
      exact ⟨rfl, hB⟩
end Go.Proofs.Ythldakchlnnonaa.WalkRoll
