/-
  The walks of the document's Unhex and Hex, and of the statement ShaHex: bytes as digits, digits as bytes.
-/
import Derived.Test.YtfnjcobgbdioeaaDoorWalkShaI
import Derived.Test.YtfnjcobgbdioeaaDoorLawSha
namespace Go.Proofs.YtfnjcobgbdioeaaDoor.WalkSha
open Go.RowKit Go.Proofs.YtfnjcobgbdioeaaDoor.BytesRow Go.Proofs.YtfnjcobgbdioeaaDoor.WalkBytes
set_option linter.unusedVariables false
set_option linter.unusedSimpArgs false
set_option maxRecDepth 100000

set_option maxHeartbeats 3200000 in
theorem refUnhex_any (s : ByteArray) (o : Option (List UInt8)) (w : World) (hs : (s.size : Int) ≤ 1000000) (ho : un s.data.toList = o) :
    Calls Tryd.prog 16 #[.string s] w fun e w' => e = .returned (.tuple #[.string (unS o), .bool o.isSome]) ∧ Below w.heap.size w w' := by
  have hsz : s.data.toList.length = s.size := by simp
  have HO := Lib.hid ho
  clear ho
  go_enter Tryd.func16, Tryd.ntmps16
  go_upto_region 3 with fail
  have C0 : Hid (bs [] = ByteArray.mk #[]) := rfl
  go_loopw [4, 5] (fun ov i wr => ∃ (j : Nat) (pre : List UInt8), j ≤ s.size ∧ Hid (j % 2 = 0) ∧ i = .int .i64 j ∧ ov = .string (bs pre) ∧ pre.length ≤ j ∧ Below w.heap.size w wr ∧ Hid (o = (un (s.data.toList.drop j)).map fun r => pre ++ r)) (fun _ i _ => s.size - (intOf i).toNat)
  case atStart =>
    refine ⟨0, [], by omega, rfl, rfl, rfl, by simp, Below.refl _ _, ?_⟩
    show o = _
    rw [← HO.out]
    simp
  case round =>
    obtain ⟨j, pre, hj, HJ, rfl, rfl, hpre, bj, HR⟩ := hrel
    by_cases hlt1 : j + 1 < s.size
    · have hlt : j < s.size := by omega
      obtain ⟨a, ha⟩ : ∃ a, s[j] = a := ⟨_, rfl⟩
      obtain ⟨b, hb⟩ : ∃ b, s[j + 1] = b := ⟨_, rfl⟩
      have i1 := idxS s .i64 j a hlt ha
      have i2 := idxS s .i64 (j + 1) b hlt1 hb
      simp only [show ((j + 1 : Nat) : Int) = (j : Int) + 1 from rfl] at i2
      have hwr : IntKind.i64.wrap ((j : Int) + 1) = (j : Int) + 1 := by rw [IntKind.wrap_i64]; omega
      have hst := un_step s.data.toList j a b (by rw [hsz]; exact hlt1) (by rw [← get_idx s j hlt]; exact ha) (by rw [← get_idx s (j + 1) hlt1]; exact hb)
      have hA := UInt8.toNat_lt a
      have hB := UInt8.toNat_lt b
      obtain ⟨Ca, hCa⟩ : ∃ C, a.toNat = C := ⟨_, rfl⟩
      obtain ⟨Cb, hCb⟩ : ∃ C, b.toNat = C := ⟨_, rfl⟩
      rw [hCa] at i1 hA hst
      rw [hCb] at i2 hB hst
      have d1 := fun w n => quiet_at (place_any Ca (World.drewN w n) hA)
      have d2 := fun w n => quiet_at (place_any Cb (World.drewN w n) hB)
      have v1 := dval_le Ca
      have v2 := dval_le Cb
      obtain ⟨x, hx⟩ : ∃ x, dval Ca = x := ⟨_, rfl⟩
      obtain ⟨y, hy⟩ : ∃ y, dval Cb = y := ⟨_, rfl⟩
      rw [hx] at d1 v1 hst
      rw [hy] at d2 v2 hst
      have D1 := Lib.hid d1
      have D2 := Lib.hid d2
      have HST := Lib.hid hst
      have HAB := Lib.hid (And.intro ha hb)
      clear hst d1 d2 hx hy ha hb hCa hCb hsz
      by_cases hbad : 15 < x ∨ 15 < y
      · have hnone : o = none := by
          have := HR.out
          rw [HST.out, if_pos hbad] at this
          simpa using this
        subst hnone
        have hbadi : (15 : Int) < (x : Int) ∨ ((x : Int) ≤ 15 ∧ (15 : Int) < (y : Int)) := by omega
        have b4 := fun n => below_drewN_sha bj n
        clear hbad
        go_upto_region 5 with fail
        go_quiet ((first | with_reducible exact D1.out _ _ | with_reducible exact D2.out _ _))
        rcases hbadi with h1 | ⟨h1, h2⟩
        · go_wp2
          go_ret2
          exact ⟨rfl, b4 _⟩
        · go_wp2
          go_ret2
          exact ⟨rfl, b4 _⟩
      · have hx15 : (x : Int) ≤ 15 := by omega
        have hy15 : (y : Int) ≤ 15 := by omega
        obtain ⟨z, hz⟩ : ∃ z, UInt8.ofNat (16 * x + y) = z := ⟨_, rfl⟩
        have hzi : 16 * (x : Int) + (y : Int) = ((z.toNat : Nat) : Int) := by rw [← hz, UInt8.toNat_ofNat']; omega
        have HZ := Lib.hid (show o = (un (s.data.toList.drop (j + 2))).map fun r => (pre ++ [z]) ++ r by
          have := HR.out
          rw [HST.out, if_neg hbad] at this
          rw [this, Option.map_map, ← hz]
          congr 1
          funext r
          simp)
        have hbs := bj.size
        have hcv : ∀ n : Nat, (convert 37 9 (.slice (some ⟨wr.heap.size, 0, none⟩) 1 1)).run Tryd.prog ((wr.drewN n).alloc (.cells #[.int .u8 (z.toNat : Nat)] 5)) = .ok (.string ⟨#[z]⟩) ((wr.drewN n).alloc (.cells #[.int .u8 (z.toNat : Nat)] 5)) :=
          fun n => conv_sl ((wr.drewN n).alloc (.cells #[.int .u8 (z.toNat : Nat)] 5)) wr.heap.size _ [z] (Sl.one (wr.drewN n) z)
        have hcat : bs pre ++ ⟨#[z]⟩ = bs (pre ++ [z]) := by rw [bs_append]
        have hzs : ¬ (9223372036854775807 < (bs pre).size + 1) := by rw [bs_size]; omega
        clear hz HR HST hbad
        go_upto_region 5 with fail
        go_quiet ((first | with_reducible exact D1.out _ _ | with_reducible exact D2.out _ _))
        go_wp2
        go_round
        case rel => exact ⟨j + 2, pre ++ [z], by omega, (by have := HJ.out; omega : (j + 2) % 2 = 0), by go_num, rfl, by simp; omega, (bj.drewN _).alloc hbs _, HZ⟩
        case measure => simp [intOf]; omega
    · have hnot : ¬ (j : Int) + 1 < (s.size : Int) := by omega
      by_cases hodd : s.size % 2 = 1
      · have hm : (s.size : Int) % 2 = 1 := by omega
        have hn : o = none := by rw [← HO.out]; exact un_odd _ (by rw [hsz]; exact hodd)
        subst hn
        clear hodd HR
        go_wp2
        go_ret2
        exact ⟨rfl, bj⟩
      · have hm : (s.size : Int) % 2 = 0 := by omega
        have hje : j = s.size := by have := HJ.out; omega
        have hR := HR.out
        rw [hje, List.drop_of_length_le (by simp)] at hR
        have hoS : o = some pre := by rw [hR]; simp [un]
        subst hoS
        clear hR hodd hje
        go_wp2
        go_ret2
        exact ⟨rfl, bj⟩
theorem sliceS (s : ByteArray) (i j : Nat) (a b : Int) (ha : a = i) (hb : b = j) (h : i ≤ j) (hj : j ≤ s.size) (w : World) : (Instr.slice 9 (.string s) (some (.int .i64 a)) (some (.int .i64 b)) none).run Tryd.prog w = .ok (.string (s.extract i j)) w := by
  subst ha
  subst hb
  have h1 : (i : Int) ≤ (j : Int) := by omega
  have h2 : (j : Int) ≤ (s.size : Int) := by omega
  go_simp
theorem digS_extract : ∀ n, n < 16 → digS.extract n (n + 1) = ⟨#[digs.getD n 0]⟩ := by decide
set_option maxHeartbeats 3200000 in
theorem refHex_any (s : ByteArray) (w : World) (hs : (s.size : Int) ≤ 1000000) :
    Calls Tryd.prog 18 #[.string s] w fun e w' => e = .returned (.string (bs (hexL s.data.toList))) ∧ Below w.heap.size w w' := by
  have hsz : s.data.toList.length = s.size := by simp
  go_enter Tryd.func18, Tryd.ntmps18
  go_upto_region 4 with fail
  have C0 : Hid (bs (hexL (s.data.toList.take 0)) = ByteArray.mk #[]) := rfl
  go_loopw [4, 5] (fun o i wr => ∃ k : Nat, k ≤ s.size ∧ i = .int .i64 k ∧ o = .string (bs (hexL (s.data.toList.take k))) ∧ Below w.heap.size w wr) (fun _ i _ => s.size - (intOf i).toNat)
  case atStart => exact ⟨0, by omega, rfl, rfl, Below.refl _ _⟩
  case round =>
    obtain ⟨k, hk, rfl, rfl, bk⟩ := hrel
    by_cases hlt : k < s.size
    · have hkt := hexL_take s k hlt
      have hll := hexL_length (s.data.toList.take k)
      rw [List.length_take] at hll
      obtain ⟨L, hL⟩ : ∃ L, hexL (s.data.toList.take k) = L := ⟨_, rfl⟩
      rw [hL] at hkt hll ⊢
      obtain ⟨c, hc⟩ : ∃ c, s[k] = c := ⟨_, rfl⟩
      rw [hc] at hkt
      have i1 := idxS s .i64 k c hlt hc
      have hC := UInt8.toNat_lt c
      unfold hex1 at hkt
      have x1 := digS_extract (c.toNat / 16) (by omega)
      have x2 := digS_extract (c.toNat % 16) (by omega)
      unfold digS at x1 x2
      obtain ⟨d1, hd1⟩ : ∃ d, digs.getD (c.toNat / 16) 0 = d := ⟨_, rfl⟩
      obtain ⟨d2, hd2⟩ : ∃ d, digs.getD (c.toNat % 16) 0 = d := ⟨_, rfl⟩
      rw [hd1, hd2] at hkt
      rw [hd1] at x1
      rw [hd2] at x2
      obtain ⟨C, hCC⟩ : ∃ C, c.toNat = C := ⟨_, rfl⟩
      rw [hCC] at i1 x1 x2 hC
      have e1 : (C : Int) / 16 = ((C / 16 : Nat) : Int) := by omega
      have e2 : (C : Int) % 16 = ((C % 16 : Nat) : Int) := by omega
      have l1 : ((C / 16 : Nat) : Int) ≤ 15 := by omega
      have l2 : ((C % 16 : Nat) : Int) ≤ 15 := by omega
      have HStr := Lib.hid (show bs (hexL (s.data.toList.take (k + 1))) = (bs L ++ ⟨#[d1]⟩) ++ ⟨#[d2]⟩ by rw [hkt, bs_append, bs_append]; simp)
      have hz1 : ¬ (9223372036854775807 < (bs L).size + 1) := by rw [bs_size]; omega
      have hz2 : ¬ (9223372036854775807 < (bs L).size + 1 + 1) := by rw [bs_size]; omega
      clear hkt hL hc hd1 hd2 hCC hll hsz
      obtain ⟨p, hp⟩ : ∃ p, C / 16 = p := ⟨_, rfl⟩
      obtain ⟨q, hq⟩ : ∃ q, C % 16 = q := ⟨_, rfl⟩
      rw [hp] at x1 e1 l1
      rw [hq] at x2 e2 l2
      clear hp hq
      go_upto_region 6 with fail
      go_quiet (fail)
      go_upto_region 7 with fail
      simp only [e2]
      have w1 : IntKind.i64.wrap ((p : Int) + 1) = (p : Int) + 1 := by rw [IntKind.wrap_i64]; omega
      have w2 : IntKind.i64.wrap ((q : Int) + 1) = (q : Int) + 1 := by rw [IntKind.wrap_i64]; omega
      have y1 := sliceS digS p (p + 1) (p : Int) ((p : Int) + 1) rfl (by omega) (by omega) (by show p + 1 ≤ 16; omega)
      have y2 := sliceS digS q (q + 1) (q : Int) ((q : Int) + 1) rfl (by omega) (by omega) (by show q + 1 ≤ 16; omega)
      unfold digS at y1 y2
      rw [x1] at y1
      rw [x2] at y2
      clear e1 e2 x1 x2
      go_region
      all_goals
        go_wp2
        go_round
        case rel => exact ⟨k + 1, by omega, by go_num, by rw [HStr.out], bk.drewN _⟩
        case measure => simp [intOf]; omega
    · have : k = s.size := by omega
      subst this
      rw [List.take_of_length_le (by omega)]
      go_wp2
      go_ret
      exact ⟨rfl, bk⟩
theorem shaHex_walk (s t : ByteArray) (w : World) (ht : Tab w) :
    Calls Tryd.prog 6 #[.string s, .string t] w fun e w' => e = .returned (.bool true) ∧ Below w.heap.size w w' := by
  by_cases h1 : s.size ≤ 500 ∧ t.size ≤ 500
  · obtain ⟨g1, g2⟩ := h1
    have a1 : ¬ (500 : Int) < (s.size : Int) := by omega
    have a2 : ¬ (500 : Int) < (t.size : Int) := by omega
    have hsl : s.data.toList.length = s.size := by simp
    have htl : t.data.toList.length = t.size := by simp
    obtain ⟨o, ho⟩ : ∃ o, un t.data.toList = o := ⟨_, rfl⟩
    obtain ⟨X, hX⟩ : ∃ X, bs (hexL s.data.toList) = X := ⟨_, rfl⟩
    have hXs : X.size ≤ 1000 := by rw [← hX, bs_size, hexL_length]; omega
    have hun : un X.data.toList = some s.data.toList := by rw [← hX, bs_list]; exact un_hex _
    have c1 := fun W => unhex_any t o W (by omega) ho
    have c2 := fun W => refUnhex_any t o W (by omega) ho
    have c3 := fun W => hex_any s W (by omega)
    have c4 := fun W => unhex_any X (some s.data.toList) W (by omega) hun
    have c5 := fun W => refHex_any s W (by omega)
    simp only [hX] at c3 c5
    have hs4 : unS (some s.data.toList) = s := by simp only [unS]; exact bs_eta s
    simp only [hs4, Option.isSome_some] at c4
    have C3 := Lib.hid c3
    have C4 := Lib.hid c4
    have C5 := Lib.hid c5
    clear c3 c4 c5 hX hun hs4
    cases o with
    | none =>
      simp only [Option.isSome_none, unS] at c1 c2
      have C1 := Lib.hid c1
      have C2 := Lib.hid c2
      clear c1 c2 ho
      go_enter Tryd.func6, Tryd.ntmps6
      go_wp2_with fail
      refine (C1.out _).mono ?_
      rintro e w1 ⟨rfl, b1⟩
      go_wp2_with fail
      refine (C2.out _).mono ?_
      rintro e w2 ⟨rfl, b2⟩
      have d2 := b1.trans (b2.mono b1.size)
      go_wp2_with fail
      refine (C3.out _).mono ?_
      rintro e w3 ⟨rfl, b3⟩
      have d3 := d2.trans (b3.mono d2.size)
      go_wp2_with fail
      refine (C4.out _).mono ?_
      rintro e w4 ⟨rfl, b4⟩
      have d4 := d3.trans (b4.mono d3.size)
      go_wp2_with fail
      refine (C3.out _).mono ?_
      rintro e w5 ⟨rfl, b5⟩
      have d5 := d4.trans (b5.mono d4.size)
      go_wp2_with fail
      refine (C5.out _).mono ?_
      rintro e w6 ⟨rfl, b6⟩
      have d6 := d5.trans (b6.mono d5.size)
      go_wp2_with fail
      refine (awake_any _ (ht.later d6)).mono ?_
      rintro e w7 ⟨rfl, b7⟩
      go_wp2
      go_ret
      exact ⟨by simp, d6.trans (b7.mono d6.size)⟩
    | some r =>
      have hr : hexL r = t.data.toList := hex_un _ _ ho
      have hrl := un_length _ _ ho
      have c6 := fun W => hex_any (bs r) W (by rw [bs_size]; omega)
      simp only [bs_list, hr, bs_eta] at c6
      have C6 := Lib.hid c6
      simp only [Option.isSome_some, unS] at c1 c2
      have C1 := Lib.hid c1
      have C2 := Lib.hid c2
      clear c1 c2 ho c6 hr hrl
      go_enter Tryd.func6, Tryd.ntmps6
      go_wp2_with fail
      refine (C1.out _).mono ?_
      rintro e w1 ⟨rfl, b1⟩
      go_wp2_with fail
      refine (C2.out _).mono ?_
      rintro e w2 ⟨rfl, b2⟩
      have d2 := b1.trans (b2.mono b1.size)
      go_wp2_with fail
      refine (C3.out _).mono ?_
      rintro e w3 ⟨rfl, b3⟩
      have d3 := d2.trans (b3.mono d2.size)
      go_wp2_with fail
      refine (C4.out _).mono ?_
      rintro e w4 ⟨rfl, b4⟩
      have d4 := d3.trans (b4.mono d3.size)
      go_wp2_with fail
      refine (C3.out _).mono ?_
      rintro e w5 ⟨rfl, b5⟩
      have d5 := d4.trans (b5.mono d4.size)
      go_wp2_with fail
      refine (C5.out _).mono ?_
      rintro e w6 ⟨rfl, b6⟩
      have d6 := d5.trans (b6.mono d5.size)
      go_wp2_with fail
      refine (C6.out _).mono ?_
      rintro e w8 ⟨rfl, b8⟩
      have d8 := d6.trans (b8.mono d6.size)
      go_wp2_with fail
      refine (awake_any _ (ht.later d8)).mono ?_
      rintro e w7 ⟨rfl, b7⟩
      go_wp2
      go_ret
      exact ⟨by simp, d8.trans (b7.mono d8.size)⟩
  · have hx : (500 : Int) < (s.size : Int) ∨ ((s.size : Int) ≤ 500 ∧ (500 : Int) < (t.size : Int)) := by omega
    clear h1
    rcases hx with q | ⟨q, r⟩
    all_goals
      go_enter Tryd.func6, Tryd.ntmps6
      go_wp2_with (go_at_call 9; refine (awake_any _ ht).mono ?_; rintro e w1 ⟨rfl, hB⟩)
      go_ret
      exact ⟨rfl, hB⟩
end Go.Proofs.YtfnjcobgbdioeaaDoor.WalkSha
