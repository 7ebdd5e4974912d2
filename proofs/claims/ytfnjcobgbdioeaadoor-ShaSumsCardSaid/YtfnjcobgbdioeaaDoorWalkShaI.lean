/-
  The walks of sha.digit, sha.Unhex, and of the document's place, Unhex, Hex.
-/
import Derived.Test.YtfnjcobgbdioeaaDoorWalkShaH
namespace Go.Proofs.YtfnjcobgbdioeaaDoor.WalkSha
open Go.RowKit Go.Proofs.YtfnjcobgbdioeaaDoor.BytesRow Go.Proofs.YtfnjcobgbdioeaaDoor.WalkBytes
set_option linter.unusedVariables false
set_option linter.unusedSimpArgs false
set_option maxRecDepth 100000

/-- a digit's number; 16: none -/
def dval (c : Nat) : Nat := if 48 ≤ c ∧ c ≤ 57 then c - 48 else if 97 ≤ c ∧ c ≤ 102 then c - 97 + 10 else 16
/-- the bytes of digits, if they are digits -/
def un : List UInt8 → Option (List UInt8)
  | [] => some []
  | [_] => none
  | a :: b :: l => if 15 < dval a.toNat ∨ 15 < dval b.toNat then none else (un l).map fun r => UInt8.ofNat (16 * dval a.toNat + dval b.toNat) :: r
theorem dval_le (c : Nat) : dval c ≤ 16 := by unfold dval; split <;> (try split) <;> omega
theorem digs_dval : ∀ n, n < 256 → dval n ≤ 15 → digs.getD (dval n) 0 = UInt8.ofNat n := by decide
theorem dval_digs : ∀ n, n < 16 → dval (digs.getD n 0).toNat = n := by decide
theorem un_hex (l : List UInt8) : un (hexL l) = some l := by
  induction l with
  | nil => rfl
  | cons c l ih =>
    have e : hexL (c :: l) = digs.getD (c.toNat / 16) 0 :: digs.getD (c.toNat % 16) 0 :: hexL l := by simp [hexL, hex1]
    have hc := UInt8.toNat_lt c
    rw [e, un, dval_digs _ (by omega), dval_digs _ (by omega), if_neg (by omega), ih]
    simp only [Option.map_some]
    congr 2
    rw [show 16 * (c.toNat / 16) + c.toNat % 16 = c.toNat by omega]
    simp
theorem hex_un : ∀ (l r : List UInt8), un l = some r → hexL r = l
  | [], r, h => by simp [un] at h; subst h; rfl
  | [_], r, h => by simp [un] at h
  | a :: b :: l, r, h => by
    rw [un] at h
    split at h
    · simp at h
    · rename_i hd
      obtain ⟨r', h1, rfl⟩ := Option.map_eq_some_iff.1 h
      have ih := hex_un l r' h1
      have ha := UInt8.toNat_lt a
      have hb := UInt8.toNat_lt b
      have e : hexL (UInt8.ofNat (16 * dval a.toNat + dval b.toNat) :: r') = hex1 (UInt8.ofNat (16 * dval a.toNat + dval b.toNat)) ++ hexL r' := by simp [hexL]
      have et : (UInt8.ofNat (16 * dval a.toNat + dval b.toNat)).toNat = 16 * dval a.toNat + dval b.toNat := by rw [UInt8.toNat_ofNat']; omega
      rw [e, ih, hex1, et, show (16 * dval a.toNat + dval b.toNat) / 16 = dval a.toNat by omega, show (16 * dval a.toNat + dval b.toNat) % 16 = dval b.toNat by omega, digs_dval _ ha (by omega), digs_dval _ hb (by omega)]
      simp
theorem un_odd : ∀ (l : List UInt8), l.length % 2 = 1 → un l = none
  | [], h => by simp at h
  | [_], h => rfl
  | a :: b :: l, h => by
    rw [un]
    split
    · rfl
    · rw [un_odd l (by simp at h; omega)]; rfl
theorem un_length : ∀ (l r : List UInt8), un l = some r → l.length = 2 * r.length := fun l r h => by rw [← hex_un l r h, hexL_length]
theorem un_step (l : List UInt8) (j : Nat) (a b : UInt8) (h : j + 1 < l.length) (ha : l.getD j 0 = a) (hb : l.getD (j + 1) 0 = b) :
    un (l.drop j) = if 15 < dval a.toNat ∨ 15 < dval b.toNat then none else (un (l.drop (j + 2))).map fun r => UInt8.ofNat (16 * dval a.toNat + dval b.toNat) :: r := by
  have e : l.drop j = a :: b :: l.drop (j + 2) := by
    rw [List.drop_eq_getElem_cons (by omega), List.drop_eq_getElem_cons h]
    rw [List.getD_eq_getElem?_getD, List.getElem?_eq_getElem (by omega)] at ha
    rw [List.getD_eq_getElem?_getD, List.getElem?_eq_getElem h] at hb
    simp at ha hb
    rw [ha, hb]
  rw [e, un]
theorem digit_any (C : Nat) (w : World) (h : C < 256) : Calls Tryd.prog 26 #[.int .u8 (C : Nat)] w fun e w' => e = .returned (.int .u8 (dval C : Nat)) ∧ w = w' := by
  unfold dval
  by_cases h1 : (48 : Int) ≤ (C : Int)
  · by_cases h2 : (C : Int) ≤ 57
    · rw [if_pos (by omega)]
      have e : (C : Int) - 48 = ((C - 48 : Nat) : Int) := by omega
      go_enter Tryd.func26, Tryd.ntmps26
      go_wp2
      go_ret
      exact ⟨rfl, rfl⟩
    · rw [if_neg (by omega)]
      by_cases h3 : (97 : Int) ≤ (C : Int)
      · by_cases h4 : (C : Int) ≤ 102
        · rw [if_pos (by omega)]
          have e : (C : Int) - 97 = ((C - 97 : Nat) : Int) := by omega
          have hb : ((C - 97 : Nat) : Int) ≤ 5 := by omega
          go_enter Tryd.func26, Tryd.ntmps26
          go_wp2
          go_ret
          exact ⟨by simp, rfl⟩
        · rw [if_neg (by omega)]
          go_enter Tryd.func26, Tryd.ntmps26
          go_wp2
          go_ret
          exact ⟨rfl, rfl⟩
      · rw [if_neg (by omega)]
        go_enter Tryd.func26, Tryd.ntmps26
        go_wp2
        go_ret
        exact ⟨rfl, rfl⟩
  · rw [if_neg (by omega), if_neg (by omega)]
    have h3 : ¬ (97 : Int) ≤ (C : Int) := by omega
    go_enter Tryd.func26, Tryd.ntmps26
    go_wp2
    go_ret
    exact ⟨rfl, rfl⟩
theorem digs_find : ∀ n, n < 256 → ∀ k, k < 16 → (∀ i, i < k → (digs.getD i 0).toNat ≠ n) → (digs.getD k 0).toNat = n → dval n = k := by decide
theorem digs_none : ∀ n, n < 256 → (∀ i, i < 16 → (digs.getD i 0).toNat ≠ n) → dval n = 16 := by decide
theorem place_any (C : Nat) (w : World) (h : C < 256) : Calls Tryd.prog 27 #[.int .u8 (C : Nat)] w fun e w' => e = .returned (.int .i64 (dval C : Nat)) ∧ w = w' := by
  obtain ⟨V, hV⟩ : ∃ V, dval C = V := ⟨_, rfl⟩
  rw [hV]
  have HV := Lib.hid hV
  clear hV
  go_enter Tryd.func27, Tryd.ntmps27
  go_upto_region 3 with fail
  go_loop [4] (fun i => ∃ k : Nat, k ≤ 16 ∧ i = .int .i64 k ∧ Hid (∀ i, i < k → (digs.getD i 0).toNat ≠ C)) (fun i => 16 - (intOf i).toNat)
  case atStart => exact ⟨0, by omega, rfl, fun i hi => by omega⟩
  case round =>
    obtain ⟨k, hk, rfl, HN⟩ := hrel
    by_cases hlt : k < 16
    · have hidx := fun W => idxS digS .i64 k (digs.getD k 0) hlt (by
        have : k = 0 ∨ k = 1 ∨ k = 2 ∨ k = 3 ∨ k = 4 ∨ k = 5 ∨ k = 6 ∨ k = 7 ∨ k = 8 ∨ k = 9 ∨ k = 10 ∨ k = 11 ∨ k = 12 ∨ k = 13 ∨ k = 14 ∨ k = 15 := by omega
        rcases this with rfl | rfl | rfl | rfl | rfl | rfl | rfl | rfl | rfl | rfl | rfl | rfl | rfl | rfl | rfl | rfl <;> rfl) W
      unfold digS at hidx
      obtain ⟨D, hD⟩ : ∃ D, (digs.getD k 0).toNat = D := ⟨_, rfl⟩
      rw [hD] at hidx
      have HD := Lib.hid hD
      clear hD
      by_cases he : D = C
      · have hv : (V : Int) = (k : Int) := by
          have := digs_find C h k hlt HN.out (HD.out.trans he)
          have := HV.out
          omega
        have HVV := Lib.hid hv
        clear hv
        subst he
        go_wp2
        go_ret
        exact ⟨by rw [HVV.out]; rfl, rfl⟩
      · have hei : ¬ (D : Int) = (C : Int) := by omega
        go_wp2
        go_round
        case rel =>
          refine ⟨k + 1, by omega, by go_num, fun i hi => ?_⟩
          by_cases hik : i < k
          · exact HN.out i hik
          · obtain rfl : i = k := by omega
            rw [HD.out]; exact he
        case measure => simp [intOf]; omega
    · have : k = 16 := by omega
      subst this
      have hv : (V : Int) = 16 := by
        have := digs_none C h HN.out
        have := HV.out
        omega
      have HVV := Lib.hid hv
      clear hv
      go_wp2
      go_ret
      exact ⟨by rw [HVV.out]; rfl, rfl⟩
theorem below_drewN_sha {B : Nat} {w w' : World} (h : Below B w w') (n : Nat) : Below B w (w'.drewN n) := h.drewN n
theorem own_drewN {w : World} {B e size n : Nat} {v : Value} {xs : List Value} (h : w.ownsRow B e size v n xs) (q : Nat) : (w.drewN q).ownsRow B e size v n xs := h
/-- what is told of digits -/
def unS (o : Option (List UInt8)) : ByteArray := match o with | some r => bs r | none => ByteArray.empty
theorem drop2 (s : ByteArray) (j : Nat) (h : ¬ j < s.size) : s.data.toList.drop j = [] := List.drop_of_length_le (by simp; omega)
theorem get_idx (s : ByteArray) (j : Nat) (h : j < s.size) : s[j] = s.data.toList.getD j 0 := by
  have hl : j < s.data.toList.length := by simpa using h
  rw [List.getD_eq_getElem?_getD, List.getElem?_eq_getElem hl]
  simp
  rfl
theorem u8_shl_or (a b : Nat) (ha : a ≤ 15) (hb : b ≤ 15) : bits .or .u8 ((a : Int) * 16) (b : Int) = ((UInt8.ofNat (16 * a + b)).toNat : Nat) := by
  rw [show (a : Int) * 16 = ((a * 16 : Nat) : Int) from rfl, u8_or_nat _ _ (by omega) (by omega), UInt8.toNat_ofNat']
  have : a * 16 ||| b = a * 16 + b := by rw [Nat.mul_comm a]; exact (Nat.two_pow_add_eq_or_of_lt (i := 4) (b := b) (by omega) a).symm
  rw [this]
  omega
set_option maxHeartbeats 3200000 in
theorem unhex_any (s : ByteArray) (o : Option (List UInt8)) (w : World) (hs : (s.size : Int) ≤ 1000000) (ho : un s.data.toList = o) :
    Calls Tryd.prog 15 #[.string s] w fun e w' => e = .returned (.tuple #[.string (unS o), .bool o.isSome]) ∧ Below w.heap.size w w' := by
  have hsz : s.data.toList.length = s.size := by simp
  by_cases hodd : s.size % 2 = 1
  · have : o = none := by rw [← ho]; exact un_odd _ (by rw [hsz]; exact hodd)
    subst this
    have hm : (s.size : Int) % 2 = 1 := by omega
    go_enter Tryd.func15, Tryd.ntmps15
    go_wp2
    go_ret2
    exact ⟨rfl, Below.refl _ _⟩
  · have hm : (s.size : Int) % 2 = 0 := by omega
    have hev : s.size % 2 = 0 := by omega
    have HEv := Lib.hid hev
    have HO := Lib.hid ho
    clear ho hev hodd
    go_enter Tryd.func15, Tryd.ntmps15
    go_upto_region 5 with fail
    clear hm
    go_loopw [4, 5] (fun ov i wr => ∃ (j : Nat) (pre : List UInt8), j ≤ s.size ∧ Hid (j % 2 = 0) ∧ i = .int .i64 j ∧ wr.ownsRow w.heap.size 5 1 ov pre.length (bc pre) ∧ pre.length ≤ j ∧ Below w.heap.size w wr ∧ Hid (o = (un (s.data.toList.drop j)).map fun r => pre ++ r)) (fun _ i _ => s.size - (intOf i).toNat)
    case atStart =>
      refine ⟨0, [], by omega, rfl, rfl, World.ownsRow_nil _ _ _ _, by simp, Below.refl _ _, ?_⟩
      show o = _
      rw [← HO.out]
      simp
    case round =>
      obtain ⟨j, pre, hj, HJ, rfl, own, hpre, bj, HR⟩ := hrel
      obtain ⟨ao, co, rfl⟩ := own_shape own
      by_cases hlt : j < s.size
      · have hlt1 : j + 1 < s.size := by have := HJ.out; have := HEv.out; omega
        obtain ⟨a, ha⟩ : ∃ a, s[j] = a := ⟨_, rfl⟩
        obtain ⟨b, hb⟩ : ∃ b, s[j + 1] = b := ⟨_, rfl⟩
        have i1 := idxS s .i64 j a hlt ha
        have i2 := idxS s .i64 (j + 1) b hlt1 hb
        simp only [show ((j + 1 : Nat) : Int) = (j : Int) + 1 from rfl] at i2
        have hwr : IntKind.i64.wrap ((j : Int) + 1) = (j : Int) + 1 := by rw [IntKind.wrap_i64]; omega
        have hst := un_step s.data.toList j a b (by rw [hsz]; exact hlt1) (by rw [← get_idx s j hlt]; exact ha) (by rw [← get_idx s (j + 1) hlt1]; exact hb)
        have hA := UInt8.toNat_lt a
        have hB := UInt8.toNat_lt b
        obtain ⟨Ca, hCa⟩ : ∃ C, a.toNat = C := ⟨_, rfl⟩
        obtain ⟨Cb, hCb⟩ : ∃ C, b.toNat = C := ⟨_, rfl⟩
        rw [hCa] at i1 hA hst
        rw [hCb] at i2 hB hst
        have d1 := fun w n => quiet_at (digit_any Ca (World.drewN w n) hA)
        have d2 := fun w n => quiet_at (digit_any Cb (World.drewN w n) hB)
        have v1 := dval_le Ca
        have v2 := dval_le Cb
        obtain ⟨x, hx⟩ : ∃ x, dval Ca = x := ⟨_, rfl⟩
        obtain ⟨y, hy⟩ : ∃ y, dval Cb = y := ⟨_, rfl⟩
        rw [hx] at d1 v1 hst
        rw [hy] at d2 v2 hst
        have D1 := Lib.hid d1
        have D2 := Lib.hid d2
        have HST := Lib.hid hst
        have HAB := Lib.hid (And.intro ha hb)
        clear hst d1 d2 hx hy ha hb hCa hCb hsz
        by_cases hbad : 15 < x ∨ 15 < y
        · have hnone : o = none := by
            have := HR.out
            rw [HST.out, if_pos hbad] at this
            simpa using this
          subst hnone
          have hbadi : (15 : Int) < (x : Int) ∨ ((x : Int) ≤ 15 ∧ (15 : Int) < (y : Int)) := by omega
          have b4 := fun n => below_drewN_sha bj n
          clear hbad
          go_upto_region 7 with fail
          go_quiet ((first | with_reducible exact D1.out _ _ | with_reducible exact D2.out _ _))
          rcases hbadi with h1 | ⟨h1, h2⟩
          · go_wp2
            go_ret2
            exact ⟨rfl, b4 _⟩
          · go_wp2
            go_ret2
            exact ⟨rfl, b4 _⟩
        · have hx15 : (x : Int) ≤ 15 := by omega
          have hy15 : (y : Int) ≤ 15 := by omega
          have hbits := u8_shl_or x y (by omega) (by omega)
          obtain ⟨z, hz⟩ : ∃ z, UInt8.ofNat (16 * x + y) = z := ⟨_, rfl⟩
          rw [hz] at hbits
          have HZ := Lib.hid (show o = (un (s.data.toList.drop (j + 2))).map fun r => (pre ++ [z]) ++ r by
            have := HR.out
            rw [HST.out, if_neg hbad] at this
            rw [this, Option.map_map, ← hz]
            congr 1
            funext r
            simp)
          have OW := Lib.hid own
          have hbs := bj.size
          clear hz own HR HST hbad
          go_upto_region 7 with fail
          go_quiet ((first | with_reducible exact D1.out _ _ | with_reducible exact D2.out _ _))
          go_wp2_with (at_builtin; go_must (refine wpList_append_own_sl rfl _ _ rfl w.heap.size wr.heap.size pre.length (.slice ao pre.length co) (.slice (some ⟨wr.heap.size, 0, none⟩) 1 1) pre [z] rfl rfl (World.ownsRow.alloc (own_drewN OW.out _) _) (Sl.one (wr.drewN _) z) (by simp; omega) (by simp; omega) ?_); intro v3 w3 o3 g3; have b3 := ((Below.drewN bj _).alloc hbs _).trans (below_own g3 (World.ownsRow.alloc (own_drewN OW.out _) _) (by simp; omega)))
          go_round
          case rel => exact ⟨j + 2, pre ++ [z], by omega, (by have := HJ.out; omega : (j + 2) % 2 = 0), by go_num, by rw [List.length_append]; exact o3, by simp; omega, b3, HZ⟩
          case measure => simp [intOf]; omega
      · have : j = s.size := by omega
        subst this
        have hR := HR.out
        rw [List.drop_of_length_le (by simp)] at hR
        have hoS : o = some pre := by rw [hR]; simp [un]
        subst hoS
        have hcv := conv_sl wr w.heap.size _ _ (Sl.of_own own)
        clear hR
        go_wp2
        go_ret2
        exact ⟨rfl, bj⟩
end Go.Proofs.YtfnjcobgbdioeaaDoor.WalkSha
