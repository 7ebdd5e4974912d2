/-
  The walks of the statements ShaNobody, ShaPieces: a sum that no call began; a sum in pieces.
-/
import Derived.Test.YtfnjcobgbdioeaaDoorWalkShaH
namespace Go.Proofs.YtfnjcobgbdioeaaDoor.WalkSha
open Go.RowKit Go.Proofs.YtfnjcobgbdioeaaDoor.BytesRow Go.Proofs.YtfnjcobgbdioeaaDoor.WalkBytes
set_option linter.unusedVariables false
set_option linter.unusedSimpArgs false
set_option maxRecDepth 100000

theorem Tab.later {w w' : World} (h : Tab w) (b : Below w.heap.size w w') : Tab w' := h.below b h.lt
theorem Tab.alloc {w : World} (h : Tab w) (o : Obj) : Tab (w.alloc o) := h.later (Joins.below_alloc1 w o)
/-- the sum of one text, in a slice made for it -/
theorem sum_one (s : ByteArray) (S : List UInt8) (w : World) (ht : Tab w) (hs : s.size ≤ 1000000) (hS : Pl.Sha.sum s.data.toList = S) :
    Calls Tryd.prog 7 #[.slice (some ⟨w.heap.size, 0, none⟩) 1 1] (w.alloc (.cells #[.string s] 9)) fun e w' => e = .returned (.string (bs S)) ∧ Below (w.alloc (.cells #[.string s] 9)).heap.size (w.alloc (.cells #[.string s] 9)) w' := by
  have hc : cat [s] = s.data.toList := by simp [cat]
  refine shaSum_any (some ⟨w.heap.size, 0, none⟩) 1 1 [s] S _ (ht.alloc _) (.inr ⟨_, _, rfl, fun i hi => ?_⟩) (fun g off h _ => by simp at h; obtain ⟨rfl, rfl⟩ := h; simp) rfl (by simp [total]; omega) (by simp) (by rw [hc]; exact hS)
  obtain rfl : i = 0 := by simpa using hi
  go_simp
def abcSum : List UInt8 := [186, 120, 22, 191, 143, 1, 207, 234, 65, 65, 64, 222, 93, 174, 34, 35, 176, 3, 97, 163, 150, 23, 122, 156, 180, 16, 255, 97, 242, 0, 21, 173]
theorem awake_any (w : World) (ht : Tab w) : Calls Tryd.prog 9 #[] w fun e w' => e = .returned (.bool true) ∧ Below w.heap.size w w' := by
  have HS := Lib.hid (fun W (t : Tab W) => sum_one ⟨#[97, 98, 99]⟩ abcSum W t (by decide) Pl.Sha.sum_abc)
  obtain ⟨T, hT⟩ : ∃ T, bs abcSum = T := ⟨_, rfl⟩
  have h1 : T.size = 32 := by rw [← hT]; rfl
  have h2 : T.extract 0 4 = ⟨#[186, 120, 22, 191]⟩ := by rw [← hT]; decide
  rw [hT] at HS
  have hx := fun W => hex_any ⟨#[1, 97]⟩ W (by decide)
  have h3 : bs (hexL [1, 97]) = ⟨#[48, 49, 54, 49]⟩ := by decide
  have HX := Lib.hid hx
  simp only [h3] at HX
  clear hx h3 hT
  go_enter Tryd.func9, Tryd.ntmps9
  go_wp2_with fail
  refine (HS.out _ ht).mono ?_
  rintro e w1 ⟨rfl, b1⟩
  go_wp2_with fail
  refine (HX.out _).mono ?_
  rintro e w2 ⟨rfl, b2⟩
  go_wp2
  go_ret
  have b0 := (Joins.below_alloc1 w _).trans (b1.mono (by simp))
  exact ⟨by simp, b0.trans (b2.mono b0.size)⟩
/-- a sum that no call began -/
def NoHash (w : World) (h : Option Addr) : Prop := h = none ∨ ∃ b, h = some ⟨b, 0, none⟩ ∧ w.cell? ⟨b, 10, none⟩ = some (.bool false)
theorem there_not (h : Option Addr) (w : World) (k : NoHash w h) : Calls Tryd.prog 23 #[.pointer h] w fun e w' => e = .returned (.bool false) ∧ w = w' := by
  rcases k with rfl | ⟨b, rfl, hc⟩
  · exact there_nil w
  · exact there_no b w hc
theorem put_not (h : Option Addr) (s : ByteArray) (w : World) (k : NoHash w h) : Calls Tryd.prog 12 #[.pointer h, .string s] w fun e w' => e = .returned (.int .i64 1) ∧ w = w' := by
  go_enter Tryd.func12, Tryd.ntmps12
  go_wp2_with fail
  refine (there_not h w k).mono ?_
  rintro e w' ⟨rfl, rfl⟩
  go_wp2
  go_ret
  exact ⟨rfl, rfl⟩
theorem sum_not (h : Option Addr) (w : World) (k : NoHash w h) : Calls Tryd.prog 13 #[.pointer h] w fun e w' => e = .returned (.string ByteArray.empty) ∧ w = w' := by
  go_enter Tryd.func13, Tryd.ntmps13
  go_wp2_with fail
  refine (there_not h w k).mono ?_
  rintro e w' ⟨rfl, rfl⟩
  go_wp2
  go_ret
  exact ⟨rfl, rfl⟩
theorem len_not (h : Option Addr) (w : World) (k : NoHash w h) : Calls Tryd.prog 14 #[.pointer h] w fun e w' => e = .returned (.int .i64 0) ∧ w = w' := by
  go_enter Tryd.func14, Tryd.ntmps14
  go_wp2_with fail
  refine (there_not h w k).mono ?_
  rintro e w' ⟨rfl, rfl⟩
  go_wp2
  go_ret
  exact ⟨rfl, rfl⟩
theorem shaNobody_walk (s : ByteArray) (x : Bool) (w : World) (ht : Tab w) :
    Calls Tryd.prog 5 #[.string s, .bool x] w fun e w' => e = .returned (.bool true) ∧ Below w.heap.size w w' := by
  cases x
  · go_enter Tryd.func5, Tryd.ntmps5
    go_wp2_with fail
    refine (put_not none s w (.inl rfl)).mono ?_
    rintro e w1 ⟨rfl, rfl⟩
    go_wp2_with fail
    refine (sum_not none w (.inl rfl)).mono ?_
    rintro e w1 ⟨rfl, rfl⟩
    go_wp2_with fail
    refine (len_not none w (.inl rfl)).mono ?_
    rintro e w1 ⟨rfl, rfl⟩
    go_wp2_with fail
    refine (awake_any w ht).mono ?_
    rintro e w1 ⟨rfl, b1⟩
    go_wp2
    go_ret
    exact ⟨by simp, b1⟩
  · go_enter Tryd.func5, Tryd.ntmps5
    go_upto_region 4 with fail
    obtain ⟨w0, hw0⟩ : ∃ w0, w.alloc (.cells #[.int .u32 0, .int .u32 0, .int .u32 0, .int .u32 0, .int .u32 0, .int .u32 0, .int .u32 0, .int .u32 0, .slice none 0 0, .int .i64 0, .bool false] 39) = w0 := ⟨_, rfl⟩
    have b0 : Below w.heap.size w w0 := by rw [← hw0]; exact Joins.below_alloc1 _ _
    have hn : NoHash w0 (some ⟨w.heap.size, 0, none⟩) := .inr ⟨_, rfl, by rw [← hw0, cell_of_row _ _ 10 _ _ _ (heap_alloc_last _ _)]; rfl⟩
    have t0 := ht.later b0
    rw [hw0]
    clear hw0
    go_wp2_with fail
    refine (put_not _ s w0 hn).mono ?_
    rintro e w1 ⟨rfl, rfl⟩
    go_wp2_with fail
    refine (sum_not _ w0 hn).mono ?_
    rintro e w1 ⟨rfl, rfl⟩
    go_wp2_with fail
    refine (len_not _ w0 hn).mono ?_
    rintro e w1 ⟨rfl, rfl⟩
    go_wp2_with fail
    refine (awake_any w0 t0).mono ?_
    rintro e w1 ⟨rfl, b1⟩
    go_wp2
    go_ret
    exact ⟨by simp, b0.trans (b1.mono b0.size)⟩

/-- in whatever pieces: no pieces -/
theorem pieces_no (A : Option Addr) (len c : Nat) (zs : List ByteArray) (w : World) (ht : Tab w) (hA : StrsArg w A len zs) (h : 100 < len ∨ 3000 < bys zs 0) (hm : len ≤ 9223372036854775807) :
    Calls Tryd.prog 4 #[.slice A len c] w fun e w' => e = .returned (.bool true) ∧ Below w.heap.size w w' := by
  obtain ⟨hS, hl, hsz, _⟩ := hA.out
  subst hl
  have hx : (100 : Int) < (zs.length : Int) ∨ ((zs.length : Int) ≤ 100 ∧ (3000 : Int) < (bys zs 0 : Nat)) := by omega
  clear h
  have HB := Lib.hid (bytes_any A c zs w hS hm hsz)
  generalize bys zs 0 = R at hx HB
  rcases hx with q | ⟨q, r⟩
  all_goals
    go_enter Tryd.func4, Tryd.ntmps4
    go_wp2_with (first | (go_at_call 10; refine HB.out.mono ?_; rintro e w1 ⟨rfl, rfl⟩) | (go_at_call 9; refine (awake_any _ ht).mono ?_; rintro e w1 ⟨rfl, hB⟩))
    go_ret
    exact ⟨rfl, hB⟩
theorem bs_append (l : List UInt8) (s : ByteArray) : bs l ++ s = bs (l ++ s.data.toList) := by
  apply ByteArray.ext
  rw [ByteArray.data_append]
  apply Array.ext'
  simp [bs]
theorem sum_length (l : List UInt8) : (Pl.Sha.sum l).length = 32 := Pl.Sha.text_length _
set_option maxHeartbeats 3200000 in
theorem pieces_yes (A : Option Addr) (len c : Nat) (zs : List ByteArray) (w : World) (ht : Tab w) (hA : StrsArg w A len zs) (h1 : len ≤ 100) (h2 : bys zs 0 ≤ 3000) :
    Calls Tryd.prog 4 #[.slice A len c] w fun e w' => e = .returned (.bool true) ∧ Below w.heap.size w w' := by
  obtain ⟨hS, hl, hsz, hold⟩ := hA.out
  clear hA
  subst hl
  have htot : total zs ≤ 3000 := by have := bys_total zs 0 (by omega); omega
  have q2 : (zs.length : Int) ≤ 100 := by omega
  have q3 : ((bys zs 0 : Nat) : Int) ≤ 3000 := by omega
  have HB := Lib.hid (bytes_any A c zs w hS (by omega) hsz)
  have hg1 := ht.lt
  have HT := Lib.hid ht
  have HOld := Lib.hid hold
  have HS := Lib.hid hS
  clear h2 ht hold hS
  generalize bys zs 0 = R at q3 HB
  go_enter Tryd.func4, Tryd.ntmps4
  go_wp2_with (first | (go_at_call 10; refine HB.out.mono ?_; rintro e w1 ⟨rfl, rfl⟩) | (go_at_call 11; refine (new_any _ HT.out).mono ?_; rintro e w1 ⟨rfl, hh0, b0⟩))
  have C0 : Hid (bs (cat (zs.take 0)) = ByteArray.mk #[]) := rfl
  have HH0 := Lib.hid hh0
  clear hh0
  go_loopw [4, 19] (fun o i wr => ∃ k : Nat, k ≤ zs.length ∧ i = .int .i64 k ∧ o = .string (bs (cat (zs.take k))) ∧ HashAt w.heap.size (cat (zs.take k)) wr ∧ Below w.heap.size w wr) (fun _ i _ => zs.length - (intOf i).toNat)
  case atStart => exact ⟨0, by omega, rfl, rfl, HH0.out, b0⟩
  case round =>
    obtain ⟨k, hk, rfl, rfl, hh, bk⟩ := hrel
    have htk := HT.out.below bk hg1
    have hbk := bk.size
    by_cases hlt : k < zs.length
    · obtain ⟨g, off, rfl⟩ := HS.out.addr (by rintro rfl; simp at hlt)
      have hA2 := HS.out.below bk HOld.out
      have hck := hA2.cell hlt
      have hct := cat_take zs k hlt
      have htt := total_take zs k
      have htt2 := total_take zs (k + 1)
      have hcl := cat_length (zs.take k)
      have hcl2 := cat_length (zs.take (k + 1))
      obtain ⟨s, hs⟩ : ∃ s, zs.getD k ByteArray.empty = s := ⟨_, rfl⟩
      obtain ⟨L, hL⟩ : ∃ L, cat (zs.take k) = L := ⟨_, rfl⟩
      rw [hs] at hck hct
      rw [hL] at hct hh hcl ⊢
      obtain ⟨L2, hL2⟩ : ∃ L2, L ++ s.data.toList = L2 := ⟨_, rfl⟩
      have hss : s.data.toList.length = s.size := by simp
      have hll : L2.length = L.length + s.size := by rw [← hL2, List.length_append, hss]
      rw [hct, hL2] at hcl2
      obtain ⟨S2, hS2⟩ : ∃ S, Pl.Sha.sum L2 = S := ⟨_, rfl⟩
      have hp := put_any w.heap.size L s wr htk hh hg1 (by omega)
      rw [hL2] at hp
      have hq := fun W (h : HashAt w.heap.size L2 W) (t : Tab W) => hsum_any w.heap.size L2 S2 W t h hg1 (by omega) hS2
      have hr := fun W (t : Tab W) => sum_one (bs L2) S2 W t (by rw [bs_size]; omega) (by rw [bs_list]; exact hS2)
      have hap : bs L ++ s = bs L2 := by rw [bs_append, hL2]
      have hz : ¬ (9223372036854775807 < (bs L).size + s.size) := by rw [bs_size]; omega
      have HP := Lib.hid hp
      have HQ := Lib.hid hq
      have HR := Lib.hid hr
      have HC := Lib.hid hct
      have HL2 := Lib.hid hL2
      clear hp hq hr hct hs hL hL2 hcl hcl2 htt htt2 hA2 hss hll hS2
      obtain ⟨T, hT⟩ : ∃ T, bs S2 = T := ⟨_, rfl⟩
      rw [hT] at HQ HR
      clear hT
      have hgoal : ∀ W, HashAt w.heap.size L2 W → HashAt w.heap.size (cat (zs.take (k + 1))) W := by
        intro W h; rw [HC.out, HL2.out]; exact h
      have HG := Lib.hid hgoal
      have hstr : bs (cat (zs.take (k + 1))) = bs L2 := by rw [HC.out, HL2.out]
      have HStr := Lib.hid hstr
      clear hgoal hstr
      go_wp2_with fail
      refine HP.out.mono ?_
      rintro e w2 ⟨rfl, h2, b2⟩
      have b02 := bk.trans b2
      have t2 := HT.out.below b02 hg1
      by_cases hm : (k : Int) % 4 = 3
      · go_wp2_with fail
        refine (HQ.out _ h2 t2).mono ?_
        rintro e w3 ⟨rfl, b3⟩
        have t3 := t2.later b3
        go_wp2_with fail
        refine (HR.out _ t3).mono ?_
        rintro e w4 ⟨rfl, b4⟩
        have b34 := b3.trans (((Joins.below_alloc1 w3 _).trans (b4.mono (by simp))).mono b3.size)
        have h4 := HG.out _ (h2.below b34)
        have b04 := b02.trans (b34.mono b02.size)
        go_wp2_with fail
        go_round
        case rel => exact ⟨k + 1, by omega, by go_num, by rw [HStr.out], h4, b04⟩
        case measure => simp [intOf]; omega
      · have h4 := HG.out _ h2
        go_wp2_with fail
        go_round
        case rel => exact ⟨k + 1, by omega, by go_num, by rw [HStr.out], h4, b02⟩
        case measure => simp [intOf]; omega
    · have : k = zs.length := by omega
      subst this
      rw [List.take_length] at hh ⊢
      have hcl := cat_length zs
      have HA2 := Lib.hid (fun W (b : Below w.heap.size w W) => HS.out.below b HOld.out)
      obtain ⟨S, hSS⟩ : ∃ S, Pl.Sha.sum (cat zs) = S := ⟨_, rfl⟩
      have hSl : S.length = 32 := by rw [← hSS]; exact sum_length _
      have hbl : (bs (cat zs)).size ≤ 3000 := by rw [bs_size]; omega
      have hlen := fun W (h : HashAt w.heap.size (cat zs) W) => len_any w.heap.size (cat zs) W h
      have hlz : ((cat zs).length : Int) = ((bs (cat zs)).size : Nat) := by rw [bs_size]
      rw [hlz] at hlen
      have hq := fun W (h : HashAt w.heap.size (cat zs) W) (t : Tab W) => hsum_any w.heap.size (cat zs) S W t h hg1 (by omega) hSS
      have hr := fun W (t : Tab W) => sum_one (bs (cat zs)) S W t (by omega) (by rw [bs_list]; exact hSS)
      have ha := fun W (t : Tab W) (b : Below w.heap.size w W) => shaSum_any A zs.length c zs S W t (HA2.out W b) (fun g off e h => Nat.lt_of_lt_of_le (HOld.out g off e h) b.size) rfl (by omega) (by omega) hSS
      obtain ⟨T, hT⟩ : ∃ T, bs S = T := ⟨_, rfl⟩
      have hTs : T.size = 32 := by rw [← hT, bs_size, hSl]
      rw [hT] at hq hr ha
      obtain ⟨D, hD⟩ : ∃ D, bs (cat zs) = D := ⟨_, rfl⟩
      rw [hD] at hr hlen hbl ⊢
      have HQ := Lib.hid hq
      have HR := Lib.hid hr
      have HA := Lib.hid ha
      have HLen := Lib.hid hlen
      clear hq hr ha hlen hlz hcl hSS hSl hT hD hsz
      go_wp2_with fail
      refine (HQ.out _ hh htk).mono ?_
      rintro e w1 ⟨rfl, b1⟩
      have c1 := bk.trans (b1.mono hbk)
      have k1 := hh.below b1
      have t1 := HT.out.below c1 hg1
      go_wp2_with fail
      refine (HA.out _ t1 c1).mono ?_
      rintro e w2 ⟨rfl, b2⟩
      have c2 := c1.trans (b2.mono c1.size)
      have k2 := k1.below b2
      have t2 := HT.out.below c2 hg1
      go_wp2_with fail
      refine (HQ.out _ k2 t2).mono ?_
      rintro e w3 ⟨rfl, b3⟩
      have c3 := c2.trans (b3.mono c2.size)
      have k3 := k2.below b3
      have t3 := HT.out.below c3 hg1
      go_wp2_with fail
      refine (HR.out _ t3).mono ?_
      rintro e w4 ⟨rfl, b4⟩
      have b5 := (Joins.below_alloc1 w3 _).trans (b4.mono (by simp))
      have c4 := c3.trans (b5.mono c3.size)
      have k4 := k3.below b5
      have t4 := HT.out.below c4 hg1
      go_wp2_with fail
      refine (HLen.out _ k4).mono ?_
      rintro e w5 ⟨rfl, rfl⟩
      go_wp2_with fail
      refine (HQ.out _ k4 t4).mono ?_
      rintro e w6 ⟨rfl, b6⟩
      have c6 := c4.trans (b6.mono c4.size)
      have t6 := HT.out.below c6 hg1
      go_wp2_with fail
      refine (awake_any _ t6).mono ?_
      rintro e w7 ⟨rfl, b7⟩
      have c7 := c6.trans (b7.mono c6.size)
      go_wp2
      go_ret
      exact ⟨by simp [hTs], c7⟩
theorem shaPieces_walk (A : Option Addr) (len c : Nat) (zs : List ByteArray) (w : World) (ht : Tab w) (hA : StrsArg w A len zs) (hm : len ≤ 9223372036854775807) :
    Calls Tryd.prog 4 #[.slice A len c] w fun e w' => e = .returned (.bool true) ∧ Below w.heap.size w w' := by
  by_cases h : 100 < len ∨ 3000 < bys zs 0
  · exact pieces_no A len c zs w ht hA h hm
  · exact pieces_yes A len c zs w ht hA (by omega) (by omega)
end Go.Proofs.YtfnjcobgbdioeaaDoor.WalkSha
