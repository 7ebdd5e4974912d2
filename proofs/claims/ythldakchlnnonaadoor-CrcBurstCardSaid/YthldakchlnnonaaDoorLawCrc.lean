/-
  The walks of CrcSums, CrcOpens, CrcBurst: each returns true for every input, where the table reads as the program's text lays it.
-/
import Derived.Test.YthldakchlnnonaaDoorWalkCrcB
import Derived.Lib.ConvBytes
import Derived.Deep.RegionLaw
namespace Go.Proofs.YthldakchlnnonaaDoor.WalkCrc
open Go.RowKit Go.Proofs.YthldakchlnnonaaDoor.WalkBytes
set_option linter.unusedVariables false
set_option linter.unusedSimpArgs false

theorem Tab.later {w w' : World} (h : Tab w) (b : Below w.heap.size w w') : Tab w' := h.below b h.lt

theorem _root_.Go.RowKit.Below.andThen {w w1 w2 : World} (h1 : Below w.heap.size w w1) (h2 : Below w1.heap.size w1 w2) : Below w.heap.size w w2 := h1.trans (h2.mono h1.size)
/-- a text with its sum behind it -/
def sealed (s : ByteArray) : ByteArray := s ++ tailS (Pl.Crc.on 0 s.data.toList)
theorem sealed_size (s : ByteArray) : (sealed s).size = s.size + 4 := by unfold sealed; rw [ByteArray.size_append, tailS_size]
theorem sealed_text (s : ByteArray) : (sealed s).extract 0 ((sealed s).size - 4) = s := by
  rw [sealed_size]
  unfold sealed
  apply ByteArray.ext
  simp [ByteArray.data_extract, ByteArray.data_append]
theorem sealed_sum (s : ByteArray) : (sealed s).extract ((sealed s).size - 4) (sealed s).size = tailS (Pl.Crc.on 0 s.data.toList) := by
  rw [sealed_size]
  unfold sealed
  have h4 := tailS_size (Pl.Crc.on 0 s.data.toList)
  generalize tailS (Pl.Crc.on 0 s.data.toList) = t at *
  apply ByteArray.ext
  apply Array.ext'
  simp only [ByteArray.data_extract, ByteArray.data_append, Nat.add_sub_cancel, Array.toList_extract, Array.toList_append, List.extract]
  have h1 : s.data.toList.length = s.size := by simp
  have h2 : t.data.toList.length = 4 := by simpa using h4
  rw [List.drop_append_of_le_length (by omega), List.drop_eq_nil_of_le (by omega), List.nil_append, List.take_of_length_le (by omega)]
theorem opens_sealed (s : ByteArray) : opens (sealed s) = true := by
  unfold opens
  rw [sealed_text, sealed_sum, decide_eq_true (by rw [sealed_size]; omega)]
  simp
theorem opened_sealed (s : ByteArray) : opened (sealed s) = s := by
  unfold opened
  rw [if_pos (opens_sealed s), sealed_text]
theorem seal_at (s T : ByteArray) (w : World) (ht : Tab w) (hs : s.size ≤ 140737488351232) (hT : sealed s = T) :
    Calls Tryd.prog 13 #[.string s] w fun e w' => e = .returned (.string T) ∧ Below w.heap.size w w' := hT ▸ seal_any s w ht hs
theorem open_at (T s : ByteArray) (b : Bool) (w : World) (ht : Tab w) (hs : T.size ≤ 140737488351232) (h1 : opened T = s) (h2 : opens T = b) :
    Calls Tryd.prog 11 #[.string T] w fun e w' => e = .returned (.tuple #[.string s, .bool b]) ∧ Below w.heap.size w w' := h1 ▸ h2 ▸ open_any T w ht hs

theorem on_at (s0 v : Nat) (s : ByteArray) (w : World) (ht : Tab w) (h0 : s0 < 4294967296) (hs : s.size ≤ 9223372036854775806) (hv : Pl.Crc.on s0 s.data.toList = v) :
    Calls Tryd.prog 8 #[.int .u32 s0, .string s] w fun e w' => e = .returned (.int .u32 (v : Nat)) ∧ w = w' := hv ▸ on_any s0 s w ht h0 hs
theorem refOpen_at (T s : ByteArray) (b : Bool) (w : World) (hs : T.size ≤ 100000) (h1 : opened T = s) (h2 : opens T = b) :
    Calls Tryd.prog 12 #[.string T] w fun e w' => e = .returned (.tuple #[.string s, .bool b]) ∧ Below w.heap.size w w' := h1 ▸ h2 ▸ refOpen_any T w hs
set_option maxHeartbeats 800000 in
theorem awake_any (w : World) (ht : Tab w) : Calls Tryd.prog 7 #[] w fun e w' => e = .returned (.bool true) ∧ Below w.heap.size w w' := by
  obtain ⟨T, hT⟩ : ∃ T, sealed ⟨#[97, 98]⟩ = T := ⟨_, rfl⟩
  have h1 : opened T = ⟨#[97, 98]⟩ := by rw [← hT, opened_sealed]
  have h2 : opens T = true := by rw [← hT, opens_sealed]
  have h3 : T.size ≤ 140737488351232 := by rw [← hT, sealed_size]; decide
  have h9 : Pl.Crc.on 0 (⟨#[49, 50, 51, 52, 53, 54, 55, 56, 57]⟩ : ByteArray).data.toList = 3421780262 := by decide
  have HT := Lib.hid hT
  have H1 := Lib.hid h1
  have H2 := Lib.hid h2
  have H9 := Lib.hid h9
  clear hT h1 h2 h9
  go_enter Tryd.func7, Tryd.ntmps7
  go_wp2_with fail
  refine (seal_at _ T w ht (by decide) HT.out).mono ?_
  rintro e w1 ⟨rfl, hB1⟩
  have t1 := ht.later hB1
  go_wp2_with fail
  refine (open_at T _ _ _ t1 h3 H1.out H2.out).mono ?_
  rintro e w2 ⟨rfl, hB2⟩
  have t2 := t1.later hB2
  go_wp2_with fail
  refine (of_one_at _ 3421780262 w2 t2 (by decide) H9.out).mono ?_
  rintro e w3 ⟨rfl, rfl⟩
  go_wp2_with fail
  go_ret
  exact ⟨by simp, (hB1.trans (hB2.mono hB1.size)).alloc (Nat.le_trans hB1.size hB2.size) _⟩

set_option maxHeartbeats 1600000 in
theorem crcOpens_walk (s t : ByteArray) (w : World) (ht : Tab w) :
    Calls Tryd.prog 4 #[.string s, .string t] w fun e w' => e = .returned (.bool true) ∧ Below w.heap.size w w' := by
  by_cases h1 : s.size ≤ 1000 ∧ t.size ≤ 1000
  · obtain ⟨g1, g2⟩ := h1
    have a1 : ¬ (1000 : Int) < (s.size : Int) := by omega
    have a2 : ¬ (1000 : Int) < (t.size : Int) := by omega
    obtain ⟨T, hT⟩ : ∃ T, sealed s = T := ⟨_, rfl⟩
    obtain ⟨v, hv⟩ : ∃ v, Pl.Crc.on 0 s.data.toList = v := ⟨_, rfl⟩
    have hvl : v < 4294967296 := by rw [← hv]; exact Pl.Crc.on_lt _ _
    have p1 : opened T = s := by rw [← hT, opened_sealed]
    have p2 : opens T = true := by rw [← hT, opens_sealed]
    have p3 : T.size ≤ 140737488351232 := by rw [← hT, sealed_size]; omega
    have p4 : s ++ tailS v = T := by rw [← hv, ← hT]; rfl
    have p5 : ¬ (9223372036854775807 < s.size + (tailS v).size) := by rw [tailS_size]; omega
    obtain ⟨a, ha⟩ : ∃ a, opened t = a := ⟨_, rfl⟩
    obtain ⟨b, hb⟩ : ∃ b, opens t = b := ⟨_, rfl⟩
    have HT := Lib.hid hT
    have HV := Lib.hid hv
    have P1 := Lib.hid p1
    have P2 := Lib.hid p2
    have HA := Lib.hid ha
    have HB := Lib.hid hb
    have g3 : t.size ≤ 140737488351232 := by omega
    have g4 : t.size ≤ 100000 := by omega
    have g5 : s.size ≤ 140737488351232 := by omega
    have g6 : s.size ≤ 100000 := by omega
    clear hT hv p1 p2 ha hb
    go_enter Tryd.func4, Tryd.ntmps4
    go_wp2_with fail
    refine (open_at t a b w ht g3 HA.out HB.out).mono ?_
    rintro e w1 ⟨rfl, hB1⟩
    have t1 := ht.later hB1
    go_wp2_with fail
    refine (refOpen_at t a b w1 g4 HA.out HB.out).mono ?_
    rintro e w2 ⟨rfl, hB2⟩
    have t2 := t1.later hB2
    go_wp2_with fail
    refine (seal_at s T w2 t2 g5 HT.out).mono ?_
    rintro e w3 ⟨rfl, hB3⟩
    have t3 := t2.later hB3
    go_wp2_with fail
    refine (open_at T s true w3 t3 p3 P1.out P2.out).mono ?_
    rintro e w4 ⟨rfl, hB4⟩
    have t4 := t3.later hB4
    go_wp2_with fail
    refine (seal_at s T w4 t4 g5 HT.out).mono ?_
    rintro e w5 ⟨rfl, hB5⟩
    have t5 := t4.later hB5
    go_wp2_with fail
    refine (refOn_zero v s w5 g6 HV.out).mono ?_
    rintro e w6 ⟨rfl, hB6⟩
    have t6 := t5.later hB6
    go_wp2_with fail
    refine (refTail_any v w6 hvl).mono ?_
    rintro e w7 ⟨rfl, hB7⟩
    have t7 := t6.later hB7
    go_wp2_with (go_at_call 7; refine (awake_any _ t7).mono ?_; rintro e w8 ⟨rfl, hB8⟩)
    go_ret
    exact ⟨by simp, hB1.andThen (hB2.andThen (hB3.andThen (hB4.andThen (hB5.andThen (hB6.andThen (hB7.andThen hB8))))))⟩
  · have hx : (1000 : Int) < (s.size : Int) ∨ ((s.size : Int) ≤ 1000 ∧ (1000 : Int) < (t.size : Int)) := by omega
    clear h1
    rcases hx with q | ⟨q, r⟩
    all_goals
      go_enter Tryd.func4, Tryd.ntmps4
      go_wp2_with (go_at_call 7; refine (awake_any _ ht).mono ?_; rintro e w1 ⟨rfl, hB⟩)
      go_ret
      exact ⟨rfl, hB⟩

theorem cat_length (l : List ByteArray) : (cat l).length = total l := by
  induction l with
  | nil => rfl
  | cons s l ih =>
    have : cat (s :: l) = s.data.toList ++ cat l := by simp [cat]
    rw [this, List.length_append, ih]
    simp [total]
/-- texts, one behind the other, as a text -/
def catS (l : List ByteArray) : ByteArray := ⟨(cat l).toArray⟩
theorem catS_size (l : List ByteArray) : (catS l).size = total l := by
  show (cat l).toArray.size = _
  rw [List.size_toArray, cat_length]
theorem catS_take (l : List ByteArray) (k : Nat) (h : k < l.length) : catS (l.take k) ++ l.getD k ByteArray.empty = catS (l.take (k + 1)) := by
  apply ByteArray.ext
  rw [ByteArray.data_append]
  apply Array.ext'
  simp only [catS, Array.toList_append]
  rw [cat_take l k h]
theorem size_le_total (l : List ByteArray) (s : ByteArray) (h : s ∈ l) : s.size ≤ total l := by
  induction l with
  | nil => simp at h
  | cons a l ih =>
    simp only [total]
    rcases List.mem_cons.1 h with rfl | h
    · omega
    · have := ih h; omega
theorem total_take (l : List ByteArray) : ∀ k, total (l.take k) ≤ total l := by
  induction l with
  | nil => intro k; simp [total]
  | cons s l ih =>
    intro k
    cases k with
    | zero => simp [total]
    | succ k => simp only [List.take_succ_cons, total]; have := ih k; omega

/-- what CrcSums asks of its parts, or it goes through nothing -/
theorem sums_no (sum : Int) (s : ByteArray) (A : Option Addr) (len c : Nat) (zs : List ByteArray) (w : World) (ht : Tab w) (hA : StrsArg w A len zs) (h : 1000 < s.size ∨ 100 < len ∨ 2000 < bys zs 0) (hm : len ≤ 9223372036854775807) :
    Calls Tryd.prog 3 #[.int .u32 sum, .string s, .slice A len c] w fun e w' => e = .returned (.bool true) ∧ Below w.heap.size w w' := by
  obtain ⟨hS, hl, hsz, _⟩ := hA.out
  subst hl
  have hx : (1000 : Int) < (s.size : Int) ∨ ((s.size : Int) ≤ 1000 ∧ (100 : Int) < (zs.length : Int)) ∨ ((s.size : Int) ≤ 1000 ∧ (zs.length : Int) ≤ 100 ∧ (2000 : Int) < (bys zs 0 : Nat)) := by omega
  clear h
  have HB := Lib.hid (bytes_any A c zs w hS hm hsz)
  generalize bys zs 0 = R at hx HB
  rcases hx with q | ⟨q, r⟩ | ⟨q, r, x⟩
  all_goals
    go_enter Tryd.func3, Tryd.ntmps3
    go_wp2_with (first | (go_at_call 6; refine HB.out.mono ?_; rintro e w1 ⟨rfl, rfl⟩) | (go_at_call 7; refine (awake_any _ ht).mono ?_; rintro e w1 ⟨rfl, hB⟩))
    go_ret
    exact ⟨rfl, hB⟩

set_option maxHeartbeats 1600000 in
theorem sums_yes (sum : Nat) (s : ByteArray) (A : Option Addr) (len c : Nat) (zs : List ByteArray) (w : World) (ht : Tab w) (hA : StrsArg w A len zs) (h1 : s.size ≤ 1000) (h2 : len ≤ 100) (h3 : bys zs 0 ≤ 2000) (hv : sum < 4294967296) :
    Calls Tryd.prog 3 #[.int .u32 sum, .string s, .slice A len c] w fun e w' => e = .returned (.bool true) ∧ Below w.heap.size w w' := by
  obtain ⟨hS, hl, hsz, hold⟩ := hA.out
  clear hA
  subst hl
  have htot : total zs ≤ 2000 := by have := bys_total zs 0 (by omega); omega
  have q1 : (s.size : Int) ≤ 1000 := by omega
  have q2 : (zs.length : Int) ≤ 100 := by omega
  have q3 : ((bys zs 0 : Nat) : Int) ≤ 2000 := by omega
  have HB := Lib.hid (bytes_any A c zs w hS (by omega) hsz)
  obtain ⟨v1, hv1⟩ : ∃ v, Pl.Crc.on sum s.data.toList = v := ⟨_, rfl⟩
  obtain ⟨v2, hv2⟩ : ∃ v, Pl.Crc.on 0 (cat zs) = v := ⟨_, rfl⟩
  have HO := Lib.hid (fun W (t : Tab W) (a : Strs W A zs) => ofs_any A c zs W t a (by omega) (fun s h => by have := hsz s h; have h' : s.size ≤ total zs := size_le_total zs s h; omega))
  have HV1 := Lib.hid hv1
  have HV2 := Lib.hid hv2
  have g6 : s.size ≤ 100000 := by omega
  have g7 : s.size ≤ 9223372036854775806 := by omega
  clear hv1 hv2 h1 h2 h3
  generalize bys zs 0 = R at q3 HB
  go_enter Tryd.func3, Tryd.ntmps3
  go_wp2_with (first | (go_at_call 6; refine HB.out.mono ?_; rintro e w1 ⟨rfl, rfl⟩))
  have HS := Lib.hid hS
  have C0 : Hid (catS (zs.take 0) = ByteArray.mk #[]) := rfl
  go_loop [7, 26] (fun o i => ∃ k : Nat, k ≤ zs.length ∧ i = .int .i64 k ∧ o = .string (catS (zs.take k))) (fun _ i => zs.length - (intOf i).toNat)
  case atStart => exact ⟨0, by omega, rfl, rfl⟩
  case round =>
    obtain ⟨k, hk, rfl, rfl⟩ := hrel
    by_cases hlt : k < zs.length
    · rcases hS with rfl | ⟨b, off, rfl, hc⟩
      · simp at hlt
      · have hck := hc k hlt
        have HT := Lib.hid (catS_take zs k hlt)
        have hz : ¬ (9223372036854775807 < (catS (zs.take k)).size + (zs.getD k ByteArray.empty).size) := by
          have e1 := catS_size (zs.take k)
          have e2 := total_take zs k
          have e3 : (zs.getD k ByteArray.empty).size ≤ total zs := size_le_total zs _ (by rw [List.getD_eq_getElem?_getD, List.getElem?_eq_getElem hlt]; exact List.getElem_mem hlt)
          omega
        clear hc hsz
        generalize zs.getD k ByteArray.empty = t at hck HT hz
        go_wp2
        go_round
        case rel => exact ⟨k + 1, by omega, by go_num, by rw [HT.out]⟩
        case measure => simp [intOf]; omega
    · have hke : k = zs.length := by omega
      subst hke
      rw [List.take_length]
      have hcs : Pl.Crc.on 0 (catS zs).data.toList = v2 := by rw [← HV2.out]; simp [catS]
      have HCS := Lib.hid hcs
      have hzs : (catS zs).size ≤ 100000 := by rw [catS_size]; omega
      clear hcs
      have w1ok : ∀ W, Below w.heap.size w W → Calls Tryd.prog 10 #[.slice A zs.length c] W fun e w' => e = .returned (.int .u32 (v2 : Nat)) ∧ W = w' := by
        intro W hb
        have := HO.out W (ht.later hb) (HS.out.below hb hold)
        rwa [HV2.out] at this
      have W1 := Lib.hid w1ok
      have hge : (zs.length : Int) ≤ ((zs.length : Nat) : Int) := by omega
      clear w1ok hS hold hsz
      go_wp2_with fail
      refine (on_at sum v1 s w ht hv g7 HV1.out).mono ?_
      rintro e w1 ⟨rfl, rfl⟩
      go_wp2_with fail
      refine (refOn_at sum v1 s w hv g6 HV1.out).mono ?_
      rintro e w2 ⟨rfl, hB2⟩
      go_wp2_with fail
      refine (W1.out w2 hB2).mono ?_
      rintro e w3 ⟨rfl, rfl⟩
      go_wp2_with fail
      refine (refOn_zero v2 (catS zs) w2 hzs HCS.out).mono ?_
      rintro e w4 ⟨rfl, hB4⟩
      go_wp2_with (go_at_call 7; refine (awake_any _ ((ht.later hB2).later hB4)).mono ?_; rintro e w8 ⟨rfl, hB8⟩)
      go_ret
      exact ⟨by simp, hB2.andThen (hB4.andThen hB8)⟩

theorem crcSums_walk (sum : Int) (s : ByteArray) (A : Option Addr) (len c : Nat) (zs : List ByteArray) (w : World) (ht : Tab w) (w0 : (Lit.int .u32 sum).wf = true) (hA : StrsArg w A len zs) (hm : len ≤ 9223372036854775807) :
    Calls Tryd.prog 3 #[.int .u32 sum, .string s, .slice A len c] w fun e w' => e = .returned (.bool true) ∧ Below w.heap.size w w' := by
  have hb : 0 ≤ sum ∧ sum < 4294967296 := by
    simp [Lit.wf, IntKind.min, IntKind.max, IntKind.bits, IntKind.signed] at w0
    omega
  obtain ⟨n, rfl⟩ := Int.eq_ofNat_of_zero_le hb.1
  by_cases h : 1000 < s.size ∨ 100 < len ∨ 2000 < bys zs 0
  · exact sums_no _ s A len c zs w ht hA h hm
  · exact sums_yes n s A len c zs w ht hA (by omega) (by omega) (by omega) (by omega)
end Go.Proofs.YthldakchlnnonaaDoor.WalkCrc
