/-
  The walk of CrcBurst: what is sealed, and turned within 32 bits that stand in a row, is not opened.
-/
import Derived.Test.YthldakchlnnonaaDoorLawCrc
import Derived.BigRegion
namespace Go.Proofs.YthldakchlnnonaaDoor.WalkCrc
open Go.RowKit Go.Proofs.YthldakchlnnonaaDoor.WalkBytes
set_option linter.unusedVariables false
set_option linter.unusedSimpArgs false

theorem conv_str (s : ByteArray) (w : World) :
    (convert 9 34 (.string s)).run Tryd.prog w = .ok (.slice (some ⟨w.heap.size, 0, none⟩) s.size (grownCap w s.size 0 5)) (Lib.bytesWorld w 5 s) :=
  Lib.run_convert_string_bytes w _ _ _ s Tryd.underlying9 Tryd.underlying34 Tryd.underlying5
attribute [local go_sem] minInt2 minTwo

/-- block g holds numbers that may be written -/
structure Bts (g : Nat) (L : List Nat) (w : World) : Prop where
  cell : ∀ j, j < L.length → w.cell? ⟨g, j, none⟩ = some (.int .u8 (L.getD j 0 : Nat))
  fz : ∀ j, j < L.length → w.frozen? ⟨g, j, none⟩ = false
  lt : ∀ j, j < L.length → L.getD j 0 < 256

/-- a text's bytes as numbers -/
def nl (s : ByteArray) : List Nat := s.data.toList.map UInt8.toNat
theorem nl_length (s : ByteArray) : (nl s).length = s.size := by simp [nl]
theorem nl_getD (s : ByteArray) (j : Nat) : (nl s).getD j 0 = (s.data.toList.getD j 0).toNat := by
  simp only [nl, List.getD_eq_getElem?_getD, List.getElem?_map]
  cases s.data.toList[j]? <;> rfl
theorem Bts.new (w : World) (T : ByteArray) : Bts w.heap.size (nl T) (Lib.bytesWorld w 5 T) := by
  refine ⟨fun j hj => ?_, fun j hj => ?_, fun j hj => ?_⟩
  · rw [nl_length] at hj
    rw [nl_getD]
    exact Lib.bytesWorld_cell w _ T j hj
  · rw [nl_length] at hj
    unfold World.frozen?
    rw [Lib.bytesWorld_at_new]
    have : T.size ≤ (Lib.bytesCells w 5 T).size := by simp [Lib.bytesCells]
    simp
    omega
  · rw [nl_getD]; exact (T.data.toList.getD j 0).toNat_lt

theorem Bts.drewN {g : Nat} {L : List Nat} {w : World} (h : Bts g L w) (n : Nat) : Bts g L (w.drewN n) := ⟨h.cell, h.fz, h.lt⟩
theorem Bts.turned {g : Nat} {L : List Nat} {w : World} (h : Bts g L w) {p q r c : Nat} (hq : p / 8 = q) (hr : p % 8 = r) (hlt : q < L.length) (hc : w.cell? ⟨g, q, none⟩ = some (.int .u8 (c : Int))) :
    Bts g (Pl.Crc.flip L p) (w.setCell ⟨g, q, none⟩ (.int .u8 (bits .xor .u8 (c : Int) (2 ^ r % 256)))) := by
  have hc2 := h.cell q hlt
  rw [hc] at hc2
  have hcL : c = L.getD q 0 := by
    have := Option.some.inj hc2
    injection this with _ h2
    omega
  have hl := h.lt q hlt
  have hr8 : r < 8 := by omega
  have h2r : 2 ^ r < 256 := by
    have : r = 0 ∨ r = 1 ∨ r = 2 ∨ r = 3 ∨ r = 4 ∨ r = 5 ∨ r = 6 ∨ r = 7 := by omega
    rcases this with rfl | rfl | rfl | rfl | rfl | rfl | rfl | rfl <;> decide
  have hv : bits .xor .u8 (c : Int) (2 ^ r % 256) = ((L.getD q 0 ^^^ 2 ^ r : Nat) : Int) := by
    have e : ((2 ^ r : Nat) : Int) = (2 : Int) ^ r := by simp
    have hz : ∀ m : Nat, m < 256 → (m : Int) % 256 = (m : Int) := by omega
    rw [← e, hz _ h2r, u8_xor_nat _ _ (by omega) h2r, hcL]
  have hx : L.getD q 0 ^^^ 2 ^ r < 256 := Nat.xor_lt_two_pow (n := 8) hl h2r
  rw [hv]
  unfold Pl.Crc.flip
  rw [hq, hr]
  have hg : ∀ j, j < L.length → (L.set q (L.getD q 0 ^^^ 2 ^ r)).getD j 0 = if j = q then L.getD q 0 ^^^ 2 ^ r else L.getD j 0 := by
    intro j hj
    simp only [List.getD_eq_getElem?_getD, List.getElem?_set]
    by_cases e : q = j
    · subst e; simp [hlt]
    · rw [if_neg e, if_neg (fun x => e x.symm)]
  refine ⟨fun j hj => ?_, fun j hj => ?_, fun j hj => ?_⟩
  · rw [List.length_set] at hj
    rw [hg j hj]
    by_cases e : j = q
    · subst e; rw [if_pos rfl]; exact World.cell?_setCell_same _ _ _ hc
    · rw [if_neg e, World.cell?_setCell_other _ _ _ _ (fun x => e (by have := congrArg Addr.off x; simpa using this.symm))]
      exact h.cell j hj
  · rw [List.length_set] at hj
    rw [World.frozen?_setCell]; exact h.fz j hj
  · rw [List.length_set] at hj
    rw [hg j hj]; split
    · exact hx
    · exact h.lt j hj

theorem nl_append (a b : ByteArray) : nl (a ++ b) = nl a ++ nl b := by simp [nl]
theorem nl_tailS (v : Nat) (h : v < 4294967296) : nl (tailS v) = Pl.Crc.tailN v := by
  have h1 : ∀ x : Int, 0 ≤ x → x < 256 → (UInt8.ofNat x.toNat).toNat = x.toNat := fun x a b => by simp; omega
  simp only [nl, tailS, strOfNums, List.map_cons, List.map_nil, Pl.Crc.tailN]
  rw [h1 _ (by omega) (by omega), h1 _ (by omega) (by omega), h1 _ (by omega) (by omega), h1 _ (by omega) (by omega)]
  rw [show ((v : Int) % 256).toNat = v % 256 by omega, show ((v : Int) / 256 % 256).toNat = v / 256 % 256 by omega, show ((v : Int) / 65536 % 256).toNat = v / 65536 % 256 by omega, show ((v : Int) / 16777216).toNat = v / 16777216 % 256 by omega]
theorem on_runN (s : ByteArray) : Pl.Crc.on 0 s.data.toList = 4294967295 - Pl.Crc.runN 4294967295 (nl s) := by
  unfold Pl.Crc.on; rw [Pl.Crc.run_runN]; rfl
theorem runN_lt (s : ByteArray) : Pl.Crc.runN 4294967295 (nl s) < 4294967296 := by
  have := Pl.Crc.run_lt s.data.toList (r := 4294967295) (by omega)
  rwa [Pl.Crc.run_runN] at this
theorem nl_nums (L : List Nat) (h : ∀ j, j < L.length → L.getD j 0 < 256) : nl (strOfNums (L.map fun (n : Nat) => (n : Int))) = L := by
  simp only [nl, strOfNums, List.map_map]
  apply List.ext_getElem
  · simp
  · intro j h1 h2
    have := h j (by simpa using h2)
    simp [List.getD_eq_getElem?_getD, h2] at this
    simp
    omega
theorem opens_burst (u : ByteArray) (at_ turn : Nat) (g2 : turn ≠ 0) (g3 : turn < 4294967296) (hat : at_ + 32 ≤ 8 * (u.size + 4))
    (hlt : ∀ j, j < (Pl.Crc.burst (nl (sealed u)) at_ turn 32).length → (Pl.Crc.burst (nl (sealed u)) at_ turn 32).getD j 0 < 256) :
    opens (strOfNums ((Pl.Crc.burst (nl (sealed u)) at_ turn 32).map fun (n : Nat) => (n : Int))) = false := by
  have hn := nl_nums _ hlt
  generalize hX : strOfNums ((Pl.Crc.burst (nl (sealed u)) at_ turn 32).map fun (n : Nat) => (n : Int)) = X at *
  cases ho : opens X with
  | false => rfl
  | true =>
    exfalso
    unfold opens at ho
    simp only [Bool.and_eq_true, decide_eq_true_eq, beq_iff_eq] at ho
    obtain ⟨h4, he⟩ := ho
    have he2 := toList_inj he
    have hX2 : X = X.extract 0 (X.size - 4) ++ X.extract (X.size - 4) X.size := by
      apply ByteArray.ext
      apply Array.ext'
      have hls : X.data.toList.length = X.size := by simp
      simp only [ByteArray.data_append, ByteArray.data_extract, Array.toList_append, Array.toList_extract, List.extract, List.drop_zero, Nat.sub_zero]
      rw [List.take_of_length_le (l := List.drop (X.size - 4) X.data.toList) (by rw [List.length_drop]; omega), List.take_append_drop]
    rw [← he2] at hX2
    have hnX : nl X = nl (X.extract 0 (X.size - 4)) ++ Pl.Crc.tailN (4294967295 - Pl.Crc.runN 4294967295 (nl (X.extract 0 (X.size - 4)))) := by
      conv => lhs; rw [hX2]
      rw [nl_append, nl_tailS _ (Pl.Crc.on_lt _ _), on_runN]
    have hnT : nl (sealed u) = nl u ++ Pl.Crc.tailN (4294967295 - Pl.Crc.runN 4294967295 (nl u)) := by
      unfold sealed
      rw [nl_append, nl_tailS _ (Pl.Crc.on_lt _ _), on_runN]
    have := Pl.Crc.burst_seen (nl u) (nl (X.extract 0 (X.size - 4))) at_ turn g2 g3 (runN_lt _) (runN_lt _) (by rw [nl_length]; exact hat)
    apply this
    rw [← hnT, ← hn, ← hnX]

theorem below_str (w : World) (T : ByteArray) : Below w.heap.size w (Lib.bytesWorld w 5 T) :=
  ⟨rfl, rfl, rfl, by rw [Lib.bytesWorld_size]; omega, fun k hk => Lib.bytesWorld_at_old _ _ _ _ hk⟩
set_option maxHeartbeats 3200000 in
theorem burst_yes (s u : ByteArray) (at_ : Nat) (turn : Nat) (w : World) (ht : Tab w) (hu : u.size ≤ 1000) (hsu : (s.size ≤ 1000 ∧ u = s) ∨ (1000 < s.size ∧ u = s.extract 0 1000)) (g1 : (at_ : Int) + 32 ≤ 8 * ((u.size : Int) + 4)) (g2 : turn ≠ 0) (g3 : turn < 4294967296) :
    Calls Tryd.prog 5 #[.string s, .int .i64 at_, .int .u32 turn] w fun e w' => e = .returned (.bool true) ∧ Below w.heap.size w w' := by
  have hcv := conv_str
  obtain ⟨T, hT⟩ : ∃ T, sealed u = T := ⟨_, rfl⟩
  have hTs : T.size = u.size + 4 := by rw [← hT, sealed_size]
  have hu140 : u.size ≤ 140737488351232 := by omega
  rcases hsu with ⟨hs1, hs2⟩ | ⟨hs1, hs2⟩
  all_goals
    first
      | (have hle : (s.size : Int) ≤ 1000 := by omega)
      | (have hle : (1000 : Int) < (s.size : Int) := by omega)
    subst hs2
    have gu := hu140
    have k1 : ¬ (T.size : Int) < 4 := by omega
    have k2 : ¬ (at_ : Int) < 0 := by omega
    have k3 : ¬ (8 * (T.size : Int) - 32) < (at_ : Int) := by omega
    have k4 : ((turn : Int) == 0) = false := by simp; omega
    have k5 : (T.size : Int) ≤ 1004 := by omega
    have HT := Lib.hid hT
    have HTS := Lib.hid hTs
    clear hT hTs
    go_enter Tryd.func5, Tryd.ntmps5
    go_wp2_with fail
    refine (seal_at _ T w ht gu HT.out).mono ?_
    rintro e w1 ⟨rfl, hB1⟩
    have t1 := ht.later hB1
    go_wp2_with fail
    go_loopw [38] (fun i wr => ∃ k : Nat, i = .int .i64 k ∧ (k : Int) ≤ 32 ∧ Bts w1.heap.size (Pl.Crc.burst (nl T) at_ turn k) wr ∧ Below w.heap.size w wr) (fun i _ => 32 - (intOf i).toNat)
    case atStart =>
      refine ⟨0, rfl, by omega, Bts.new w1 T, hB1.trans ⟨rfl, rfl, rfl, ?_, fun k hk => ?_⟩⟩
      · rw [Lib.bytesWorld_size]; omega
      · exact Lib.bytesWorld_at_old _ _ _ _ (Nat.lt_of_lt_of_le hk hB1.size)
    case round =>
      obtain ⟨k, rfl, hk, hbt, hB⟩ := hrel
      by_cases hlt : (k : Int) < 32
      · have hbit : turn / 2 ^ k % 2 = 1 ∨ turn / 2 ^ k % 2 = 0 := by omega
        have hcast : (turn : Int) / 2 ^ k = ((turn / 2 ^ k : Nat) : Int) := by simp
        have hand : bits .and .u32 ((turn : Int) / 2 ^ k) 1 = ((turn / 2 ^ k % 2 : Nat) : Int) := by
          rw [hcast, show (1 : Int) = ((1 : Nat) : Int) from rfl, u32_and_nat _ _ (Nat.lt_of_le_of_lt (Nat.div_le_self _ _) g3) (by omega), Nat.and_one_is_mod]
        rcases hbit with hbit | hbit
        · have htest : (bits .and .u32 ((turn : Int) / 2 ^ k) 1 == 1) = true := by rw [hand, hbit]; rfl
          have hb1 : Pl.Crc.burst (nl T) at_ turn (k + 1) = Pl.Crc.flip (Pl.Crc.burst (nl T) at_ turn k) (at_ + k) := by
            show (if turn / 2 ^ k % 2 = 1 then _ else _) = _
            rw [if_pos hbit]
          have hl := Pl.Crc.burst_length (nl T) at_ turn k
          rw [nl_length] at hl
          have hq : (at_ + k) / 8 < T.size := by have := HTS.out; omega
          have hc := hbt.cell ((at_ + k) / 8) (by omega)
          have hf := hbt.fz ((at_ + k) / 8) (by omega)
          have hcl := hbt.lt ((at_ + k) / 8) (by omega)
          have HB1 := Lib.hid hb1
          have HL := Lib.hid hl
          have e1 : ((at_ : Int) + (k : Int)) / 8 = (((at_ + k) / 8 : Nat) : Int) := by omega
          have e2 : ((at_ : Int) + (k : Int)) % 8 = (((at_ + k) % 8 : Nat) : Int) := by omega
          have hr8 : (at_ + k) % 8 < 8 := by omega
          clear hb1 hl hcast hand hbit
          generalize hqq : (at_ + k) / 8 = q at *
          generalize hrr : (at_ + k) % 8 = r at *
          have HQQ := Lib.hid hqq
          have HRR := Lib.hid hrr
          clear hqq hrr
          generalize (Pl.Crc.burst (nl T) at_ turn k).getD q 0 = c at hc hcl
          have hq2 : (q : Int) < (T.size : Int) := by omega
          have hr2 : (r : Int) < 8 := by omega
          go_wp2_with fail
          go_region
          go_wp2
          go_roundw
          case rel =>
            refine ⟨k + 1, by go_num, by omega, ?_, ?_⟩
            · rw [HB1.out]
              exact (hbt.turned HQQ.out HRR.out (by rw [HL.out]; exact hq) hc).drewN 1
            · exact (hB.setCell (by show w.heap.size ≤ w1.heap.size; exact hB1.size) _).trans ⟨rfl, rfl, rfl, Nat.le_refl _, fun _ _ => rfl⟩
          case measure => simp [intOf]; omega
        · have htest : (bits .and .u32 ((turn : Int) / 2 ^ k) 1 == 1) = false := by rw [hand, hbit]; rfl
          have hb1 : Pl.Crc.burst (nl T) at_ turn (k + 1) = Pl.Crc.burst (nl T) at_ turn k := by
            show (if turn / 2 ^ k % 2 = 1 then _ else _) = _
            rw [if_neg (by omega)]
          have HB1 := Lib.hid hb1
          clear hb1 hcast hand hbit
          go_wp2
          go_roundw
          case rel => exact ⟨k + 1, by go_num, by omega, by rw [HB1.out]; exact hbt, hB⟩
          case measure => simp [intOf]; omega
      · have hk32 : k = 32 := by omega
        subst hk32
        have hl := Pl.Crc.burst_length (nl T) at_ turn 32
        rw [nl_length] at hl
        have hop : opens (strOfNums ((Pl.Crc.burst (nl T) at_ turn 32).map fun (n : Nat) => (n : Int))) = false := by
          rw [← HT.out] at hbt ⊢
          exact opens_burst _ at_ turn g2 g3 (by omega) hbt.lt
        obtain ⟨X, hX⟩ : ∃ X, strOfNums ((Pl.Crc.burst (nl T) at_ turn 32).map fun (n : Nat) => (n : Int)) = X := ⟨_, rfl⟩
        have hXs : X.size ≤ 140737488351232 := by rw [← hX, strOfNums_size, List.length_map, hl]; omega
        rw [hX] at hop
        have hcX : ∀ C, (convert 34 9 (.slice (some ⟨w1.heap.size, 0, none⟩) T.size C)).run Tryd.prog wr = .ok (.string X) wr := by
          intro C
          rw [← hX]
          exact run_convert_bytes_arg wr 34 5 Tryd.underlying34 Tryd.underlying5 _ 0 T.size C _ (by rw [List.length_map, hl]) (fun i hi => by
            rw [Nat.zero_add, hbt.cell i (by omega)]
            simp [List.getD_eq_getElem?_getD, hl, hi]) _ Tryd.underlying9
        have t2 : Tab wr := ht.later hB
        have hge : (32 : Int) ≤ ((32 : Nat) : Int) := by omega
        obtain ⟨Y, hY⟩ : ∃ Y, opened X = Y := ⟨_, rfl⟩
        have HO := Lib.hid hop
        have HY := Lib.hid hY
        clear hop hX hbt hl hY
        go_wp2_with fail
        refine (open_at X Y false wr t2 hXs HY.out HO.out).mono ?_
        rintro e w3 ⟨rfl, hB3⟩
        go_wp2_with (go_at_call 7; refine (awake_any _ (t2.later hB3)).mono ?_; rintro e w8 ⟨rfl, hB8⟩)
        go_ret
        exact ⟨rfl, hB.andThen (hB3.andThen hB8)⟩


/-- what is not gone through -/
theorem burst_no (s u : ByteArray) (at_ turn : Int) (w : World) (ht : Tab w) (hu : u.size ≤ 1000) (hsu : (s.size ≤ 1000 ∧ u = s) ∨ (1000 < s.size ∧ u = s.extract 0 1000)) (t0 : 0 ≤ turn)
    (h : at_ < 0 ∨ (0 ≤ at_ ∧ 8 * ((u.size : Int) + 4) < at_ + 32) ∨ (0 ≤ at_ ∧ at_ + 32 ≤ 8 * ((u.size : Int) + 4) ∧ turn = 0)) :
    Calls Tryd.prog 5 #[.string s, .int .i64 at_, .int .u32 turn] w fun e w' => e = .returned (.bool true) ∧ Below w.heap.size w w' := by
  have hcv := conv_str
  obtain ⟨T, hT⟩ : ∃ T, sealed u = T := ⟨_, rfl⟩
  have hTs : T.size = u.size + 4 := by rw [← hT, sealed_size]
  have hu140 : u.size ≤ 140737488351232 := by omega
  rcases hsu with ⟨hs1, hs2⟩ | ⟨hs1, hs2⟩
  all_goals
    first
      | (have hle : (s.size : Int) ≤ 1000 := by omega)
      | (have hle : (1000 : Int) < (s.size : Int) := by omega)
    subst hs2
    have gu := hu140
    have k1 : ¬ (T.size : Int) < 4 := by omega
    have k5 : (T.size : Int) ≤ 1004 := by omega
    have hx : at_ < 0 ∨ (0 ≤ at_ ∧ (8 * (T.size : Int) - 32) < at_) ∨ (0 ≤ at_ ∧ at_ ≤ (8 * (T.size : Int) - 32) ∧ (turn == 0) = true) := by
      rcases h with h | h | h
      · exact .inl h
      · exact .inr (.inl ⟨h.1, by omega⟩)
      · exact .inr (.inr ⟨h.1, by omega, by simp; exact h.2.2⟩)
    have HT := Lib.hid hT
    have HTS := Lib.hid hTs
    clear hT hTs h
    rcases hx with q1 | ⟨q1, q2⟩ | ⟨q1, q2, q3⟩
    all_goals
      go_enter Tryd.func5, Tryd.ntmps5
      go_wp2_with fail
      refine (seal_at _ T w ht gu HT.out).mono ?_
      rintro e w1 ⟨rfl, hB1⟩
      have t1 := ht.later hB1
      have tb := t1.later (below_str w1 T)
      go_wp2_with (go_at_call 7; refine (awake_any _ tb).mono ?_; rintro e w8 ⟨rfl, hB8⟩)
      go_ret
      exact ⟨rfl, hB1.andThen ((below_str w1 T).andThen hB8)⟩

theorem crcBurst_walk (s : ByteArray) (at_ turn : Int) (w : World) (ht : Tab w) (w2 : (Lit.int .u32 turn).wf = true) :
    Calls Tryd.prog 5 #[.string s, .int .i64 at_, .int .u32 turn] w fun e w' => e = .returned (.bool true) ∧ Below w.heap.size w w' := by
  have hb : 0 ≤ turn ∧ turn < 4294967296 := by
    simp [Lit.wf, IntKind.min, IntKind.max, IntKind.bits, IntKind.signed] at w2
    omega
  obtain ⟨u, hu, hsu⟩ : ∃ u : ByteArray, u.size ≤ 1000 ∧ ((s.size ≤ 1000 ∧ u = s) ∨ (1000 < s.size ∧ u = s.extract 0 1000)) := by
    by_cases h : s.size ≤ 1000
    · exact ⟨s, h, .inl ⟨h, rfl⟩⟩
    · exact ⟨s.extract 0 1000, by rw [ByteArray.size_extract]; omega, .inr ⟨by omega, rfl⟩⟩
  by_cases h : 0 ≤ at_ ∧ at_ + 32 ≤ 8 * ((u.size : Int) + 4) ∧ turn ≠ 0
  · obtain ⟨h1, h2, h3⟩ := h
    obtain ⟨a, rfl⟩ := Int.eq_ofNat_of_zero_le h1
    obtain ⟨t, rfl⟩ := Int.eq_ofNat_of_zero_le hb.1
    exact burst_yes s u a t w ht hu hsu h2 (by omega) (by omega)
  · exact burst_no s u at_ turn w ht hu hsu hb.1 (by omega)
end Go.Proofs.YthldakchlnnonaaDoor.WalkCrc
