/-
  The walks of the cutter: New, Next, Size, Ends, and of the document's First, Ends.
-/
import Derived.Test.YtfnjcobgbdioeaaProg
import Derived.Test.YtfnjcobgbdioeaaWalkRollB
import Derived.Test.YtfnjcobgbdioeaaWalkBytes
import Derived.Test.YtfnjcobgbdioeaaWalkInts
import Derived.Test.YtfnjcobgbdioeaaCutPure
import Derived.Deep.DeepMust
namespace Go.Proofs.Ytfnjcobgbdioeaa.WalkCut
open Go.RowKit Go.Proofs.Ytfnjcobgbdioeaa.WalkRoll Go.Proofs.Ytfnjcobgbdioeaa.WalkBytes Go.Proofs.Ytfnjcobgbdioeaa.WalkInts
set_option linter.unusedVariables false
set_option linter.unusedSimpArgs false

/-- may a chunk of the level end with the key? -/
def hit (level : Int) (k : ByteArray) : Bool := mayEnd (rs (bl k ++ [level % 256]))
structure CutIs (b : Nat) (level n : Int) (w : World) : Prop where
  level : w.cell? ⟨b, 0, none⟩ = some (.int .i64 level)
  size : w.cell? ⟨b, 1, none⟩ = some (.int .i64 n)
  made : w.cell? ⟨b, 2, none⟩ = some (.bool true)
  fz : ∀ o, w.frozen? ⟨b, o, none⟩ = false
theorem CutIs.kept {b : Nat} {level n : Int} {w w' : World} (h : CutIs b level n w) (hb : w'.heap[b]? = w.heap[b]?) : CutIs b level n w' := by
  have hc : ∀ o, w'.cell? ⟨b, o, none⟩ = w.cell? ⟨b, o, none⟩ := fun o => World.cell?_of_block (w := w) hb
  have hf : ∀ o, w'.frozen? ⟨b, o, none⟩ = w.frozen? ⟨b, o, none⟩ := fun o => World.frozen?_of_block (w := w) hb
  exact ⟨by rw [hc]; exact h.level, by rw [hc]; exact h.size, by rw [hc]; exact h.made, fun o => by rw [hf]; exact h.fz o⟩
theorem CutIs.lt {b : Nat} {level n : Int} {w : World} (h : CutIs b level n w) : b < w.heap.size := World.block_lt_of_cell? w _ h.level

theorem new_any (level : Int) (w : World) :
    Calls Try.prog 9 #[.int .i64 level] w fun e w' => e = .returned (.pointer (some ⟨w.heap.size, 0, none⟩)) ∧ CutIs w.heap.size level 0 w' ∧ Below w.heap.size w w' := by
  go_enter Try.func9, Try.ntmps9
  go_wp2
  go_ret
  exact ⟨rfl, ⟨by go_simp, by go_simp, by go_simp, fun o => by go_simp⟩, (Below.refl _ _).alloc (Nat.le_refl _) _⟩

theorem size_any (b : Nat) (level n : Int) (w : World) (h : CutIs b level n w) :
    Calls Try.prog 12 #[.pointer (some ⟨b, 0, none⟩)] w fun e w' => e = .returned (.int .i64 n) ∧ w = w' := by
  have h1 := h.size
  go_enter Try.func12, Try.ntmps12
  go_wp2
  go_ret
  exact ⟨rfl, rfl⟩
theorem size_nil (w : World) : Calls Try.prog 12 #[.pointer none] w fun e w' => e = .returned (.int .i64 0) ∧ w = w' := by
  go_enter Try.func12, Try.ntmps12
  go_wp2
  go_ret
  exact ⟨rfl, rfl⟩
theorem next_nil (key : ByteArray) (w : World) : Calls Try.prog 11 #[.pointer none, .string key] w fun e w' => e = .returned (.bool false) ∧ w = w' := by
  go_enter Try.func11, Try.ntmps11
  go_wp2
  go_ret
  exact ⟨rfl, rfl⟩
theorem next_raw (b : Nat) (key : ByteArray) (w : World) (h : w.cell? ⟨b, 2, none⟩ = some (.bool false)) :
    Calls Try.prog 11 #[.pointer (some ⟨b, 0, none⟩), .string key] w fun e w' => e = .returned (.bool false) ∧ w = w' := by
  go_enter Try.func11, Try.ntmps11
  go_wp2
  go_ret
  exact ⟨rfl, rfl⟩

/-- does the chunk end with the key? -/
def stops (level : Int) (n : Nat) (key : ByteArray) : Bool := 8 ≤ n + 1 || (2 ≤ n + 1 && hit level key)
/-- behind a call of Next -/
def Nexted (b : Nat) (level : Int) (n : Nat) (key : ByteArray) (w w' : World) : Prop :=
  CutIs b level ((if stops level n key then 0 else n + 1 : Nat) : Int) w' ∧ w.grownBy w' (some b)
theorem grown_set {w w' : World} {b : Nat} (h : w.grownBy w' (some b)) (o : Nat) (v : Value) : w.grownBy (w'.setCell ⟨b, o, none⟩ v) (some b) :=
  ⟨h.os, h.tape, h.output, by simpa [World.setCell] using h.size, fun k hk hne => by rw [Below.heap_setCell _ _ _ _ (by simpa using hne)]; exact h.block k hk hne⟩
theorem grown_below {w w' w'' : World} {row : Option Nat} (h : w.grownBy w' row) (k : Below w'.heap.size w' w'') : w.grownBy w'' row :=
  ⟨k.os.trans h.os, k.tape.trans h.tape, k.output.trans h.output, Nat.le_trans h.size k.size, fun i hi hne => (k.block i (Nat.lt_of_lt_of_le hi h.size)).trans (h.block i hi hne)⟩
theorem CutIs.set {b : Nat} {level n : Int} {w : World} (h : CutIs b level n w) (m : Int) : CutIs b level m (w.setCell ⟨b, 1, none⟩ (.int .i64 m)) :=
  ⟨by rw [World.cell?_setCell_other _ _ _ _ (by simp)]; exact h.level, World.cell?_setCell_same _ _ _ h.size, by rw [World.cell?_setCell_other _ _ _ _ (by simp)]; exact h.made, fun o => by rw [World.frozen?_setCell]; exact h.fz o⟩

set_option maxHeartbeats 1600000 in
theorem next_any (b : Nat) (level : Int) (n : Nat) (key : ByteArray) (w : World) (h : CutIs b level n w) (hn : n ≤ 7) (hk : key.size ≤ 9223372036854775806) :
    Calls Try.prog 11 #[.pointer (some ⟨b, 0, none⟩), .string key] w fun e w' => e = .returned (.bool (stops level n key)) ∧ Nexted b level n key w w' := by
  obtain ⟨h0, h1, h2, h3⟩ := id h
  have hs := h.set ((n : Int) + 1)
  have hg : w.grownBy (w.setCell ⟨b, 1, none⟩ (.int .i64 ((n : Int) + 1))) (some b) := grown_set (World.grownBy.refl w _) 1 _
  have g0 := hs.level
  have g1 := hs.size
  have hl := hs.lt
  rcases (by omega : n = 7 ∨ n = 0 ∨ (1 ≤ n ∧ n ≤ 6)) with rfl | rfl | ⟨n1, n6⟩
  · have hv : stops level 7 key = true := by simp [stops]
    rw [hv]
    go_enter Try.func11, Try.ntmps11
    go_wp2
    go_ret
    refine ⟨rfl, ?_⟩
    unfold Nexted
    rw [hv]
    exact ⟨hs.set 0, grown_set hg _ _⟩
  · have hv : stops level 0 key = false := by simp [stops]
    rw [hv]
    go_enter Try.func11, Try.ntmps11
    go_wp2
    go_ret
    refine ⟨rfl, ?_⟩
    unfold Nexted
    rw [hv]
    exact ⟨hs, hg⟩
  · have hv : stops level n key = hit level key := by
      unfold stops
      rw [decide_eq_false (by omega), decide_eq_true (by omega)]; simp
    rw [hv]
    have HI := Lib.hid (hits_any level key (w.setCell ⟨b, 1, none⟩ (.int .i64 ((n : Int) + 1))) hk)
    unfold Nexted
    rw [hv]
    have hit_def : mayEnd (rs (bl key ++ [level % 256])) = hit level key := rfl
    rw [hit_def] at HI
    generalize hit level key = H at HI
    have b1 : (n : Int) + 1 ≤ 7 := by omega
    have b2 : 2 ≤ (n : Int) + 1 := by omega
    cases H
    · go_enter Try.func11, Try.ntmps11
      go_wp2_with (go_at_call 20; refine HI.out.mono ?_; rintro e w1 ⟨rfl, hB⟩)
      go_ret
      exact ⟨rfl, hs.kept (hB.block b hl), grown_below hg hB⟩
    · go_enter Try.func11, Try.ntmps11
      go_wp2_with (go_at_call 20; refine HI.out.mono ?_; rintro e w1 ⟨rfl, hB⟩; have hs1 := hs.kept (hB.block b hl); have q0 := hs1.level; have q1 := hs1.size; have q3 := hs1.fz)
      go_ret
      exact ⟨rfl, hs1.set 0, grown_set (grown_below hg hB) _ _⟩

/-- the cuts of a row -/
def cuts (level : Int) (ss : List ByteArray) : List Nat := Pl.Cut.go 0 0 (ss.map (hit level))
def toI (l : List Nat) : List Int := l.map fun (n : Nat) => (n : Int)
theorem toI_append (l : List Nat) (n : Nat) : toI l ++ [(n : Int)] = toI (l ++ [n]) := by simp [toI]
theorem toI_length (l : List Nat) : (toI l).length = l.length := by simp [toI]

theorem map_drop_getD (level : Int) (ss : List ByteArray) (k : Nat) (h : k < ss.length) : (ss.map (hit level)).drop k = hit level (ss.getD k ByteArray.empty) :: (ss.map (hit level)).drop (k + 1) := by
  rw [List.drop_eq_getElem_cons (by simpa using h)]; simp [List.getD_eq_getElem?_getD, h]
theorem step_true {E o : List Nat} {level : Int} {n k : Nat} {key : ByteArray} {l : List Bool} (h : E = o ++ Pl.Cut.go n k (hit level key :: l)) (hs : stops level n key = true) : E = (o ++ [k + 1]) ++ Pl.Cut.go 0 (k + 1) l := by
  rw [h]
  simp only [Pl.Cut.go]
  unfold stops at hs
  rw [if_pos hs]
  simp
theorem step_false {E o : List Nat} {level : Int} {n k : Nat} {key : ByteArray} {l : List Bool} (h : E = o ++ Pl.Cut.go n k (hit level key :: l)) (hs : stops level n key = false) : E = o ++ Pl.Cut.go (n + 1) (k + 1) l := by
  rw [h]
  simp only [Pl.Cut.go]
  unfold stops at hs
  rw [if_neg (by rw [hs]; simp)]

set_option maxHeartbeats 3200000 in
theorem ends_any (level : Int) (A : Option Addr) (c : Nat) (ss : List ByteArray) (w : World) (hA : Strs w A ss) (hlt : ∀ b off, A = some ⟨b, off, none⟩ → ss ≠ [] → b < w.heap.size) (hl : ss.length ≤ 200) (hs : ∀ s ∈ ss, s.size ≤ 5000) :
    Calls Try.prog 13 #[.int .i64 level, .slice A ss.length c] w fun e w' => ∃ v, e = .returned v ∧ Own w' w.heap.size v (toI (cuts level ss)) ∧ Below w.heap.size w w' := by
  obtain ⟨i0, hi, hz0, hz1, hz2⟩ := info_parts info_int
  obtain ⟨E, hE⟩ : ∃ E, cuts level ss = E := ⟨_, rfl⟩
  rw [hE]
  have HE := Lib.hid hE
  clear hE
  have hsz : w.heap.size + 1 ≤ w.heap.size + 1 := Nat.le_refl _
  go_enter Try.func13, Try.ntmps13
  go_wp2_with (go_at_call 9; refine (new_any _ _).mono ?_; rintro e w1 ⟨rfl, hC, hB⟩)
  obtain ⟨b0, hb0⟩ : ∃ b0, w.heap.size = b0 := ⟨_, rfl⟩
  have HSZ := Lib.hid hb0
  rw [hb0] at hC hB ⊢
  clear hb0 hsz
  go_loopw [6, 13] (fun out i wr => ∃ (k n : Nat) (o : List Nat), k ≤ ss.length ∧ n ≤ 7 ∧ o.length ≤ k ∧ i = .int .i64 k ∧ CutIs b0 level (n : Int) wr ∧ Own wr (b0 + 1) out (toI o) ∧ Below b0 w wr ∧ Hid (E = o ++ Pl.Cut.go n k ((ss.map (hit level)).drop k))) (fun _ i _ => ss.length - (intOf i).toNat)
  case atStart => exact ⟨0, 0, [], by omega, by omega, by simp, rfl, hC, Own.nil _ _, hB, by show E = _; rw [← HE.out]; rfl⟩
  case round =>
    obtain ⟨k, n, o, hk, hn, ho, rfl, hC1, hO, hB1, HR⟩ := hrel
    clear hC hB
    have hb1 := hC1.lt
    have hOlt := hO.lt
    have hon := hO.apart (b := b0) (by omega)
    by_cases hk2 : k < ss.length
    · rcases hA with rfl | ⟨g, off, rfl, hc⟩
      · simp at hk2
      have hg0 : g < b0 := by rw [← HSZ.out]; exact hlt g off rfl (by rintro rfl; simp at hk2)
      have hck := hc k hk2
      have hck1 : wr.cell? ⟨g, off + k, none⟩ = some (.string (ss.getD k ByteArray.empty)) := by rw [hB1.cell (p := ⟨g, off + k, none⟩) hg0]; exact hck
      have hsz : (ss.getD k ByteArray.empty).size ≤ 5000 := by
        rw [List.getD_eq_getElem?_getD, List.getElem?_eq_getElem hk2]; exact hs _ (List.getElem_mem hk2)
      have hsz2 : (ss.getD k ByteArray.empty).size ≤ 9223372036854775806 := by omega
      have hst := HR.out
      rw [map_drop_getD level ss k hk2] at hst
      clear hc hck hsz HR
      generalize ss.getD k ByteArray.empty = key at *
      have HN := Lib.hid (next_any b0 level n key wr hC1 hn hsz2)
      cases hv : stops level n key
      · have hst2 := step_false hst hv
        have hE2 : Hid (E = o ++ Pl.Cut.go (n + 1) (k + 1) ((ss.map (hit level)).drop (k + 1))) := hst2
        have hn8 : n + 1 ≤ 7 := by
          unfold stops at hv
          simp at hv
          omega
        unfold Nexted at HN
        rw [hv] at HN
        have HX : Hid (k + 1 ≤ ss.length) := (by omega : k + 1 ≤ ss.length)
        have HO : Hid (o.length ≤ k + 1) := (by omega : o.length ≤ k + 1)
        clear hst hst2
        go_wp2_with (go_at_call 11; refine HN.out.mono ?_; rintro e w1 ⟨rfl, hC2, hG⟩)
        go_roundw
        case rel => exact ⟨k + 1, n + 1, o, HX.out, hn8, HO.out, by go_num, hC2, hO.kept hG hon, hB1.grown hG (by omega) (fun k e => by simp at e; omega), hE2⟩
        case measure => simp [intOf]; omega
      · have hst2 := step_true hst hv
        have hE2 : Hid (E = (o ++ [k + 1]) ++ Pl.Cut.go 0 (k + 1) ((ss.map (hit level)).drop (k + 1))) := hst2
        unfold Nexted at HN
        rw [hv] at HN
        have HX : Hid (k + 1 ≤ ss.length) := (by omega : k + 1 ≤ ss.length)
        have HO : Hid (o.length + 1 ≤ k + 1) := (by omega : o.length + 1 ≤ k + 1)
        have hol : (toI o).length ≤ 200 := by rw [toI_length]; omega
        clear hst hst2
        go_wp2_with (first | (go_at_call 11; refine HN.out.mono ?_; rintro e w1 ⟨rfl, hC2, hG⟩; have hO2 := hO.kept hG hon; have hB2 := hB1.grown hG (by omega) (fun k e => by simp at e; omega); have hsz1 := hG.size) | (at_builtin; go_must (refine wpList_append_own _ rfl _ _ 31 rfl (b0 + 1) 3 i0 (.int .i64 0) 1 8 Try.underlying31 hi hz0 hz1 hz2 rfl (by decide) _ _ _ rfl (World.ownsRow.alloc hO2 _) ⟨w1.heap.size, 0, none⟩ 1 1 [.int .i64 ((k : Int) + 1)] rfl rfl (cell_one_new _ _ _) (fun x hx => by simp at hx; subst hx; rfl) (by unfold maxLen; omega) (by omega) (by simp; omega) ?_); intro v' w2 hO3 hgrow _))
        have hx : ∀ W : World, W.heap[b0]? = w1.heap[b0]? → CutIs b0 level 0 W := fun W h => hC2.kept h
        have hb2 := hC2.lt
        go_roundw
        case rel =>
          refine ⟨k + 1, 0, o ++ [k + 1], HX.out, by omega, by simpa using HO.out, by go_num, ?_, ?_, ?_, hE2⟩
          · refine hx _ ((hgrow.block b0 (by simp; omega) (hO.ne (by omega))).trans (Below.heap_alloc _ _ _ hb2))
          · rw [← toI_append]
            have := Own.app hO3
            simpa using this
          · exact (hB2.alloc (by omega) _).grown hgrow (by simp; omega) (fun k e => by have := hOlt k e; omega)
        case measure => simp [intOf]; omega
    · have hke : k = ss.length := by omega
      have hst := HR.out
      rw [hke, List.drop_of_length_le (by simp)] at hst
      simp only [Pl.Cut.go] at hst
      have S1 := fun W h => size_any b0 level n W h
      by_cases h0 : 0 < n
      · rw [if_pos h0] at hst
        have hE2 : Hid (E = o ++ [ss.length]) := hst
        have hol : (toI o).length ≤ 200 := by rw [toI_length]; omega
        have hn0 : (0 : Int) < (n : Int) := by omega
        clear hst HR hA hs
        go_wp2_with (first | (go_at_call 12; refine (S1 _ hC1).mono ?_; rintro e w1 ⟨rfl, rfl⟩) | (at_builtin; go_must (refine wpList_append_own _ rfl _ _ 31 rfl (b0 + 1) 3 i0 (.int .i64 0) 1 8 Try.underlying31 hi hz0 hz1 hz2 rfl (by decide) _ _ _ rfl (World.ownsRow.alloc hO _) ⟨wr.heap.size, 0, none⟩ 1 1 [.int .i64 (ss.length : Int)] rfl rfl (cell_one_new _ _ _) (fun x hx => by simp at hx; subst hx; rfl) (by unfold maxLen; omega) (by omega) (by simp; omega) ?_); intro v' w2 hO3 hgrow _))
        go_ret
        refine ⟨_, rfl, ?_, ?_⟩
        · rw [hE2.out, ← toI_append]
          exact (Own.app hO3).mono (by have := HSZ.out; omega)
        · exact ((hB1.alloc (by omega) _).grown hgrow (by simp; omega) (fun k e => by have := hOlt k e; omega)).mono (by have := HSZ.out; omega)
      · rw [if_neg h0] at hst
        have hE2 : Hid (E = o) := by show E = o; rw [hst]; simp
        have hn0 : n = 0 := by omega
        subst hn0
        clear hst HR hA hs
        go_wp2_with (go_at_call 12; refine (S1 _ hC1).mono ?_; rintro e w1 ⟨rfl, rfl⟩)
        go_ret
        exact ⟨_, rfl, by rw [hE2.out]; exact hO.mono (by have := HSZ.out; omega), hB1.mono (by have := HSZ.out; omega)⟩
end Go.Proofs.Ytfnjcobgbdioeaa.WalkCut
