/-
  The walks of the seat: Check, Full, Bare, Put; plain.Noughts, Full.
-/
import Derived.Test.YtfbakelpplpomaaGreatDoorWalkScanB
import Derived.Test.YtfbakelpplpomaaGreatDoorWalkCrcB
import Derived.Deep.RegionHeld3
import Derived.Lib.ConvBytes
import Derived.Test.YtfbakelpplpomaaGreatDoorShelf
import Derived.Deep.OwnRows
namespace Go.Proofs.YtfbakelpplpomaaGreatDoor.WalkSeat
open Go.RowKit Go.Proofs.YtfbakelpplpomaaGreatDoor.WalkVar Go.Proofs.YtfbakelpplpomaaGreatDoor.WalkScan Go.Proofs.YtfbakelpplpomaaGreatDoor.WalkCrc
open Pl.Seat (numV numR txtV txtR numP txtP Head isH)
set_option linter.unusedVariables false
set_option linter.unusedSimpArgs false
set_option maxRecDepth 100000

theorem isH_and (h : Head) : isH h = ((((decide (1 ≤ h.epoch) && decide (h.epoch ≤ 4294967295)) && (decide (0 ≤ h.half) && decide (h.half ≤ 1))) && (decide (0 ≤ h.pack) && decide (h.pack ≤ 524288))) && (decide (1 ≤ h.num) && decide (h.num ≤ 4294967296))) := by
  unfold isH
  simp only [Bool.and_assoc]
/-- what a check answers -/
def arg (b : Bool) : Int := if b then 0 else 2

theorem dropWhile_nil (p : UInt8 → Bool) (l : List UInt8) (h : ∀ x ∈ l.dropWhile p, p x = true) : l.dropWhile p = [] := by
  induction l with
  | nil => rfl
  | cons c l ih =>
    by_cases hc : p c = true
    · rw [List.dropWhile_cons_of_pos hc] at h ⊢
      exact ih h
    · rw [List.dropWhile_cons_of_neg hc] at h
      exact absurd (h c (by simp)) hc
theorem dropWhile_all (p : UInt8 → Bool) (l : List UInt8) : l.dropWhile p = [] ↔ ∀ x ∈ l, p x = true := by
  induction l with
  | nil => simp
  | cons c l ih =>
    by_cases hc : p c = true
    · rw [List.dropWhile_cons_of_pos hc, ih]; simp [hc]
    · rw [List.dropWhile_cons_of_neg hc]; simp [hc]
theorem trim_nil (l : List UInt8) : Lib.trimB l 0 = [] ↔ l.all (· == 0) = true := by
  unfold Lib.trimB Lib.trimLeftB Lib.trimRightB
  rw [dropWhile_all]
  constructor
  · intro h
    have h2 : l.reverse.dropWhile (· == 0) = [] := dropWhile_nil _ _ fun x hx => h x (by simpa using hx)
    rw [dropWhile_all] at h2
    rw [List.all_eq_true]
    intro x hx
    exact h2 x (by simpa using hx)
  · intro h
    rw [List.all_eq_true] at h
    have h2 : l.reverse.dropWhile (· == 0) = [] := (dropWhile_all _ _).2 fun x hx => h x (by simpa using hx)
    rw [h2]
    simp
theorem trim_at (q t : List UInt8) (w : World) (hq : q.length ≤ 1048576) (ht : Lib.trimB q 0 = t) :
    Calls Tryz.prog 116 #[.string (bs q), .string ⟨#[0]⟩] w fun e w' => e = .returned (.string (bs t)) ∧ Below w.heap.size w w' := by
  have := Tryz.strings_Trim_one (bs q) 0 (by decide) w (by rw [bs_size]; omega)
  rw [bs_list, ht] at this
  exact this.mono fun e w' ⟨h1, h2⟩ => ⟨h1, by rcases h2 with rfl | rfl; exact Below.refl _ _; exact (Below.refl _ _).drew⟩
/-- n noughts -/
def zeros (n : Nat) : List UInt8 := List.replicate n 0
theorem repeat_any (n : Nat) (w : World) (hn : n ≤ 4096) :
    Calls Tryz.prog 39 #[.string ⟨#[0]⟩, .int .i64 n] w fun e w' => e = .returned (.string (bs (zeros n))) ∧ Below w.heap.size w w' := by
  have h1 : (⟨#[0]⟩ : ByteArray).size = 1 := rfl
  have := Tryz.strings_Repeat ⟨#[0]⟩ n w (by omega) (by rw [h1]; omega)
  have e : (Lib.repeatL (⟨#[0]⟩ : ByteArray).data.toList n) = zeros n := by
    have h2 := Lib.repeatL_replicate 0 1 n
    rw [Nat.mul_one] at h2
    exact h2
  rw [e] at this
  exact this
end Go.Proofs.YtfbakelpplpomaaGreatDoor.WalkSeat
/-
  The walks of the seat's Full, Bare, Put, and of plain.Noughts, Full.
-/
namespace Go.Proofs.YtfbakelpplpomaaGreatDoor.WalkSeat
open Go.RowKit Go.Proofs.YtfbakelpplpomaaGreatDoor.WalkVar Go.Proofs.YtfbakelpplpomaaGreatDoor.WalkScan Go.Proofs.YtfbakelpplpomaaGreatDoor.WalkCrc
open Pl.Seat (numV numR txtV txtR numP txtP Head isH)
set_option linter.unusedVariables false
set_option linter.unusedSimpArgs false
set_option maxRecDepth 100000
attribute [local go_sem] maxTwo

theorem full_ok (s : List UInt8) (w : World) (hs : s.length ≤ 128) :
    Calls Tryz.prog 64 #[.string (bs s)] w fun e w' => e = .returned (.tuple #[.string (bs (Pl.Seat.full s)), .int .i64 0]) ∧ Below w.heap.size w w' := by
  have hz := bs_size s
  have e1 : IntKind.i64.wrap (128 - ((bs s).size : Int)) = 128 - ((bs s).size : Int) := IntWalk.i64_in _ (by omega)
  have hle : ((bs s).size : Int) ≤ 128 := by omega
  have e3 : (128 : Int) - ((bs s).size : Int) = ((128 - s.length : Nat) : Int) := by omega
  have HR : Hid (∀ w, Calls Tryz.prog 39 #[.string ⟨#[0]⟩, .int .i64 (128 - ((bs s).size : Int))] w fun e w' => e = .returned (.string (bs (zeros (128 - s.length)))) ∧ Below w.heap.size w w') := fun w => by
    rw [e3]
    exact repeat_any _ w (by omega)
  have hzz : ¬ (9223372036854775807 < (bs s).size + (bs (zeros (128 - s.length))).size) := by rw [bs_size, bs_size]; unfold zeros; simp; omega
  have hf : bs s ++ bs (zeros (128 - s.length)) = bs (Pl.Seat.full s) := by rw [bs_append]; rfl
  have HF := Lib.hid hf
  clear e3 hf hz
  go_enter Tryz.func64, Tryz.ntmps64
  go_wp2_with (go_at_call 39; refine (HR.out _).mono ?_; rintro e w1 ⟨rfl, hB⟩)
  go_ret2
  exact ⟨by rw [← HF.out]; rfl, hB⟩
theorem full_far (s : ByteArray) (w : World) (hs : 128 < s.size) :
    Calls Tryz.prog 64 #[.string s] w fun e w' => e = .returned (.tuple #[.string ByteArray.empty, .int .i64 5]) ∧ w = w' := by
  have h : (128 : Int) < (s.size : Int) := by omega
  go_enter Tryz.func64, Tryz.ntmps64
  go_wp2
  go_ret2
  exact ⟨rfl, rfl⟩
theorem info_u8 : (Tryz.prog.info? 5).map (fun i => (i.zero, i.size, i.bytes)) = some (some (.int .u8 0), 1, 1) := by kernel_rfl
theorem conv_zeros (n : Nat) (w : World) :
    (convert 107 9 (.slice (some ⟨w.heap.size, 0, none⟩) n n)).run Tryz.prog (w.alloc (.cells (madeCells #[.int .u8 0] n) 5)) = .ok (.string (bs (zeros n))) (w.alloc (.cells (madeCells #[.int .u8 0] n) 5)) := by
  have e : bs (zeros n) = strOfNums (List.replicate n 0) := by rw [← nums_bs]; simp [zeros]
  rw [e]
  refine run_convert_bytes_arg _ 107 5 Tryz.underlying107 Tryz.underlying5 _ 0 n n (List.replicate n 0) (by simp) (fun j hj => ?_) _ Tryz.underlying9
  rw [Nat.zero_add, (World.rowIs_made w (.int .u8 0) n 5).cell hj]
  simp [List.getD_eq_getElem?_getD, hj]
theorem noughts_any (n : Nat) (w : World) (hn : n ≤ 4096) :
    Calls Tryz.prog 46 #[.int .i64 n] w fun e w' => e = .returned (.string (bs (zeros n))) ∧ Below w.heap.size w w' := by
  have hmk := run_make_row' (P := Tryz.prog) 107 5 (.int .u8 0) 1 Tryz.underlying107 info_u8 rfl .i64 .i64 n (by omega) (by omega)
  have hcz := conv_zeros n
  have hmx : Builtin.max2 (.int .i64 (n : Int)) (.int .i64 0) = pure (.int .i64 (n : Int)) := by
    rw [maxInt2]
    rw [if_neg (by omega)]
  go_enter Tryz.func46, Tryz.ntmps46
  go_wp2
  go_ret
  exact ⟨rfl, (Below.refl _ _).alloc (Nat.le_refl _) _⟩
theorem plainFull_any (s : List UInt8) (w : World) (hs : s.length ≤ 1048576) :
    Calls Tryz.prog 13 #[.string (bs s)] w fun e w' => e = .returned (.string (bs ((s ++ zeros 128).take 128))) ∧ Below w.heap.size w w' := by
  have hz := bs_size s
  have hzz : ¬ (9223372036854775807 < (bs s).size + (bs (zeros 128)).size) := by rw [bs_size, bs_size]; unfold zeros; simp; omega
  have HN : Hid (∀ w, Calls Tryz.prog 46 #[.int .i64 128] w fun e w' => e = .returned (.string (bs (zeros 128))) ∧ Below w.heap.size w w') := fun w => noughts_any 128 w (by omega)
  have hb : bs s ++ bs (zeros 128) = bs (s ++ zeros 128) := bs_append _ _
  have hx : (bs (s ++ zeros 128)).extract 0 128 = bs ((s ++ zeros 128).take 128) := by
    rw [← bs_of ((bs (s ++ zeros 128)).extract 0 128), extract_list, bs_list]; simp
  have hl : (128 : Int) ≤ ((bs (s ++ zeros 128)).size : Int) := by rw [bs_size]; unfold zeros; simp; omega
  have HX := Lib.hid hx
  generalize bs (zeros 128) = Z at *
  generalize bs (s ++ zeros 128) = SZ at *
  clear hx hz
  go_enter Tryz.func13, Tryz.ntmps13
  go_wp2_with (go_at_call 46; refine (HN.out _).mono ?_; rintro e w1 ⟨rfl, hB⟩)
  go_ret
  exact ⟨by rw [← HX.out]; rfl, hB⟩

/-- what Bare answers -/
def bareV (l : List UInt8) : List UInt8 := (Pl.Seat.bare l).getD []
def bareB (l : List UInt8) : Bool := (Pl.Seat.bare l).isSome
/-- an error's number, or none -/
def err (b : Bool) (n : Int) : Int := if b then 0 else n
theorem bare_of (l : List UInt8) : Pl.Seat.bare l = match txtR 128 (some l) with
    | none => none
    | some q => if l.length = 128 ∧ q.all (· == 0) = true then some (txtV 128 (some l)) else none := by
  unfold Pl.Seat.bare txtR txtV
  simp only [Option.bind_some]
  cases txtP 128 l with
  | none => rfl
  | some p => rfl
theorem Sc.after {b : Nat} {st : Option (List UInt8)} {w w' : World} (h : Sc b st w) (hB : Below w.heap.size w w') : Sc b st w' := h.kept (hB.block b h.lt)
theorem grown_below {w w' : World} {b : Nat} (h : w.grownBy w' (some b)) {B : Nat} (hb : B ≤ b) {w0 : World} (h0 : Below B w0 w) (hbl : b < w.heap.size) : Below B w0 w' :=
  h0.grown h (by omega) (fun k e => by simp at e; omega)
set_option maxHeartbeats 3200000 in
theorem bare_any (s : ByteArray) (w : World) (hs : s.size ≤ 1048576) :
    Calls Tryz.prog 86 #[.string s] w fun e w' => e = .returned (.tuple #[.string (bs (bareV s.data.toList)), .int .i64 (err (bareB s.data.toList) 3)]) ∧ Below w.heap.size w w' := by
  have hbo := bare_of s.data.toList
  have hsl : s.data.toList.length = s.size := by simp
  rw [hsl] at hbo
  unfold bareV bareB
  obtain ⟨R, hR⟩ : ∃ R, Pl.Seat.bare s.data.toList = R := ⟨_, rfl⟩
  rw [hR] at hbo ⊢
  clear hR hsl
  have HT := Lib.hid (fun b w h => text_any b (some s.data.toList) 128 w h (by omega))
  have hql : ∀ q, txtR 128 (some s.data.toList) = some q → q.length ≤ 1048576 := by
    intro q hq
    obtain ⟨h1, _⟩ := Pl.Seat.txtR_some (by omega) hq
    have := congrArg List.length (Option.some.inj h1)
    rw [List.length_append] at this
    have hsl : s.data.toList.length = s.size := by simp
    omega
  obtain ⟨t, ht⟩ : ∃ t, txtV 128 (some s.data.toList) = t := ⟨_, rfl⟩
  obtain ⟨st, hst⟩ : ∃ st, txtR 128 (some s.data.toList) = st := ⟨_, rfl⟩
  rw [ht, hst] at HT
  rw [hst, ht] at hbo
  rw [hst] at hql
  clear ht hst
  cases st with
  | none =>
    simp only at hbo
    subst hbo
    go_enter Tryz.func86, Tryz.ntmps86
    go_wp2_with fail
    refine (new_any s w hs).mono ?_
    rintro e w1 ⟨rfl, hS1, hB1⟩
    go_wp2_with fail
    refine (HT.out _ _ hS1).mono ?_
    rintro e w2 ⟨rfl, hS2, hG2⟩
    have hB2 := grown_below hG2 (Nat.le_refl _) hB1 hS1.lt
    go_wp2_with fail
    refine (rest_any _ _ _ hS2).mono ?_
    rintro e w3 ⟨rfl, hS3, hG3⟩
    have hB3 := grown_below hG3 (Nat.le_refl _) hB2 hS2.lt
    obtain ⟨s3, a3, e3, hI3, _, _, _, he3⟩ := hS3
    have hne : ((e3 : Int) == 0) = false := by
      by_cases h : e3 = 0
      · rw [if_pos h] at he3; simp at he3
      · simp; omega
    have hne2 : ((e3 : Int) != 0) = true := by simpa using hne
    clear he3
    go_wp2_with fail
    refine (err_any _ _ _ _ _ hI3).mono ?_
    rintro e w4 ⟨rfl, rfl⟩
    go_wp2_with fail
    go_ret2
    exact ⟨rfl, hB3⟩
  | some q =>
    simp only at hbo
    have hq := hql q rfl
    clear hql
    obtain ⟨tr, htr⟩ : ∃ tr, Lib.trimB q 0 = tr := ⟨_, rfl⟩
    have hnil := trim_nil q
    rw [htr] at hnil
    have HTR := Lib.hid (fun w => trim_at q tr w hq htr)
    clear htr
    have hcase : (s.size ≠ 128 ∧ R = none) ∨ (s.size = 128 ∧ tr ≠ [] ∧ R = none) ∨ (s.size = 128 ∧ tr = [] ∧ R = some t) := by
      by_cases h1 : s.size = 128
      · by_cases h2 : tr = []
        · right; right; exact ⟨h1, h2, by rw [hbo, if_pos ⟨h1, hnil.1 h2⟩]⟩
        · right; left; exact ⟨h1, h2, by rw [hbo, if_neg (fun h => h2 (hnil.2 h.2))]⟩
      · left; exact ⟨h1, by rw [hbo, if_neg (fun h => h1 h.1)]⟩
    clear hbo hnil
    rcases hcase with ⟨h1, rfl⟩ | ⟨h1, h2, rfl⟩ | ⟨h1, rfl, rfl⟩
    · have h1i : ((s.size : Int) == 128) = false := by simp; omega
      go_enter Tryz.func86, Tryz.ntmps86
      go_wp2_with fail
      refine (new_any s w hs).mono ?_
      rintro e w1 ⟨rfl, hS1, hB1⟩
      go_wp2_with fail
      refine (HT.out _ _ hS1).mono ?_
      rintro e w2 ⟨rfl, hS2, hG2⟩
      have hB2 := grown_below hG2 (Nat.le_refl _) hB1 hS1.lt
      go_wp2_with fail
      refine (rest_any _ _ _ hS2).mono ?_
      rintro e w3 ⟨rfl, hS3, hG3⟩
      have hB3 := grown_below hG3 (Nat.le_refl _) hB2 hS2.lt
      obtain ⟨s3, a3, e3, hI3, _, _, _, he3⟩ := hS3
      have hne : e3 = 0 := by
        by_cases h : e3 = 0
        · exact h
        · rw [if_neg h] at he3; simp at he3
      subst hne
      clear he3
      go_wp2_with fail
      refine (err_any _ _ _ _ _ hI3).mono ?_
      rintro e w4 ⟨rfl, rfl⟩
      go_wp2_with fail
      go_ret2
      exact ⟨rfl, hB3⟩
    · have h1i : ((s.size : Int) == 128) = true := by simp; omega
      have htt : (bs tr).toList.isEmpty = false := by
        rw [bs_toList]
        cases tr with
        | nil => exact absurd rfl h2
        | cons c l => rfl
      go_enter Tryz.func86, Tryz.ntmps86
      go_wp2_with fail
      refine (new_any s w hs).mono ?_
      rintro e w1 ⟨rfl, hS1, hB1⟩
      go_wp2_with fail
      refine (HT.out _ _ hS1).mono ?_
      rintro e w2 ⟨rfl, hS2, hG2⟩
      have hB2 := grown_below hG2 (Nat.le_refl _) hB1 hS1.lt
      go_wp2_with fail
      refine (rest_any _ _ _ hS2).mono ?_
      rintro e w3 ⟨rfl, hS3, hG3⟩
      have hB3 := grown_below hG3 (Nat.le_refl _) hB2 hS2.lt
      obtain ⟨s3, a3, e3, hI3, _, _, _, he3⟩ := hS3
      have hne : e3 = 0 := by
        by_cases h : e3 = 0
        · exact h
        · rw [if_neg h] at he3; simp at he3
      subst hne
      clear he3
      go_wp2_with fail
      refine (err_any _ _ _ _ _ hI3).mono ?_
      rintro e w4 ⟨rfl, rfl⟩
      go_wp2_with fail
      refine (HTR.out _).mono ?_
      rintro e w5 ⟨rfl, hB5⟩
      go_wp2_with fail
      go_ret2
      exact ⟨rfl, hB3.trans (hB5.mono hB3.size)⟩
    · have h1i : ((s.size : Int) == 128) = true := by simp; omega
      have htt : (bs []).toList.isEmpty = true := by rw [bs_toList]; rfl
      go_enter Tryz.func86, Tryz.ntmps86
      go_wp2_with fail
      refine (new_any s w hs).mono ?_
      rintro e w1 ⟨rfl, hS1, hB1⟩
      go_wp2_with fail
      refine (HT.out _ _ hS1).mono ?_
      rintro e w2 ⟨rfl, hS2, hG2⟩
      have hB2 := grown_below hG2 (Nat.le_refl _) hB1 hS1.lt
      go_wp2_with fail
      refine (rest_any _ _ _ hS2).mono ?_
      rintro e w3 ⟨rfl, hS3, hG3⟩
      have hB3 := grown_below hG3 (Nat.le_refl _) hB2 hS2.lt
      obtain ⟨s3, a3, e3, hI3, _, _, _, he3⟩ := hS3
      have hne : e3 = 0 := by
        by_cases h : e3 = 0
        · exact h
        · rw [if_neg h] at he3; simp at he3
      subst hne
      clear he3
      go_wp2_with fail
      refine (err_any _ _ _ _ _ hI3).mono ?_
      rintro e w4 ⟨rfl, rfl⟩
      go_wp2_with fail
      refine (HTR.out _).mono ?_
      rintro e w5 ⟨rfl, hB5⟩
      go_wp2_with fail
      go_ret2
      exact ⟨rfl, hB3.trans (hB5.mono hB3.size)⟩
end Go.Proofs.YtfbakelpplpomaaGreatDoor.WalkSeat
/-
  The walks of the seat's Put, Take, Slot, Choose, Next.
-/
namespace Go.Proofs.YtfbakelpplpomaaGreatDoor.WalkSeat
open Go.RowKit Go.Proofs.YtfbakelpplpomaaGreatDoor.WalkVar Go.Proofs.YtfbakelpplpomaaGreatDoor.WalkScan Go.Proofs.YtfbakelpplpomaaGreatDoor.WalkCrc
open Pl.Seat (numV numR txtV txtR numP txtP Head isH putH openS)
set_option linter.unusedVariables false
set_option linter.unusedSimpArgs false
set_option maxRecDepth 100000

theorem _root_.Go.RowKit.Below.then' {w w1 w2 : World} {B : Nat} (h1 : Below B w w1) (h2 : Below w1.heap.size w1 w2) (hB : B ≤ w.heap.size) : Below B w w2 := h1.trans (h2.mono (Nat.le_trans hB h1.size))
theorem _root_.Go.Proofs.YtfbakelpplpomaaGreatDoor.WalkCrc.Tab.after {w w' : World} (h : Tab w) (b : Below w.heap.size w w') : Tab w' := h.below b h.lt
/-- the four bytes of a text's sum -/
def tailU (l : List UInt8) : List UInt8 := (tailS (Pl.Crc.on 0 l)).data.toList
theorem tailU_len (l : List UInt8) : (tailU l).length = 4 := by
  unfold tailU
  have := tailS_size (Pl.Crc.on 0 l)
  simpa using this
theorem bs_tailU (l : List UInt8) : bs (tailU l) = tailS (Pl.Crc.on 0 l) := bs_of _
theorem seal_bs (l : List UInt8) (w : World) (ht : Tab w) (hl : l.length ≤ 1048576) :
    Calls Tryz.prog 65 #[.string (bs l)] w fun e w' => e = .returned (.string (bs (l ++ tailU l))) ∧ Below w.heap.size w w' := by
  have := seal_any (bs l) w ht (by rw [bs_size]; omega)
  rw [bs_list, ← bs_tailU, bs_append] at this
  exact this
theorem opens_bs (l : List UInt8) : opens (bs l) = (openS tailU l).isSome := by
  unfold opens openS
  have e1 : (bs l).extract 0 ((bs l).size - 4) = bs (l.take (l.length - 4)) := by
    rw [← bs_of ((bs l).extract 0 ((bs l).size - 4)), extract_list, bs_list, bs_size]; simp
  have e2 : (bs l).extract ((bs l).size - 4) (bs l).size = bs (l.drop (l.length - 4)) := by
    rw [← bs_of ((bs l).extract ((bs l).size - 4) (bs l).size), extract_list, bs_list, bs_size, List.take_of_length_le (by simp)]
  rw [e1, e2, bs_list, ← bs_tailU, bs_toList, bs_toList, bs_size]
  by_cases h : 4 ≤ l.length ∧ tailU (l.take (l.length - 4)) = l.drop (l.length - 4)
  · rw [if_pos h, h.2]; simp [h.1]
  · rw [if_neg h]
    by_cases h4 : 4 ≤ l.length
    · have : ¬ tailU (l.take (l.length - 4)) = l.drop (l.length - 4) := fun e => h ⟨h4, e⟩
      simp [h4, this]
    · simp [h4]
theorem opened_bs (l : List UInt8) : opened (bs l) = bs ((openS tailU l).getD []) := by
  unfold opened
  rw [opens_bs]
  unfold openS
  by_cases h : 4 ≤ l.length ∧ tailU (l.take (l.length - 4)) = l.drop (l.length - 4)
  · rw [if_pos h, ← bs_of ((bs l).extract 0 ((bs l).size - 4)), extract_list, bs_list, bs_size]; simp
  · rw [if_neg h]; rfl
theorem open_bs (l : List UInt8) (o : Option (List UInt8)) (w : World) (ht : Tab w) (hl : l.length ≤ 1048576) (ho : openS tailU l = o) :
    Calls Tryz.prog 87 #[.string (bs l)] w fun e w' => e = .returned (.tuple #[.string (bs (o.getD [])), .bool o.isSome]) ∧ Below w.heap.size w w' := by
  have := open_any (bs l) w ht (by rw [bs_size]; omega)
  rw [opened_bs, opens_bs, ho] at this
  exact this

/-- a block of four numbers, and all that was below it -/
def Four (w0 : World) (b : Nat) (a1 a2 a3 a4 : Int) (w : World) : Prop :=
  w.cell? ⟨b, 0, none⟩ = some (.int .i64 a1) ∧ w.cell? ⟨b, 1, none⟩ = some (.int .i64 a2) ∧ w.cell? ⟨b, 2, none⟩ = some (.int .i64 a3) ∧ w.cell? ⟨b, 3, none⟩ = some (.int .i64 a4) ∧ Below w0.heap.size w0 w
theorem Four.keep {w0 : World} {b : Nat} {a1 a2 a3 a4 : Int} {w w' : World} (h : w.cell? ⟨b, 0, none⟩ = some (.int .i64 a1) ∧ w.cell? ⟨b, 1, none⟩ = some (.int .i64 a2) ∧ w.cell? ⟨b, 2, none⟩ = some (.int .i64 a3) ∧ w.cell? ⟨b, 3, none⟩ = some (.int .i64 a4) ∧ Below w0.heap.size w0 w) (hB : Below w.heap.size w w') :
    w'.cell? ⟨b, 0, none⟩ = some (.int .i64 a1) ∧ w'.cell? ⟨b, 1, none⟩ = some (.int .i64 a2) ∧ w'.cell? ⟨b, 2, none⟩ = some (.int .i64 a3) ∧ w'.cell? ⟨b, 3, none⟩ = some (.int .i64 a4) ∧ Below w0.heap.size w0 w' := by
  obtain ⟨h1, h2, h3, h4, h5⟩ := h
  have hb := World.block_lt_of_cell? w _ h1
  exact ⟨by rw [hB.cell (p := ⟨b, 0, none⟩) hb]; exact h1, by rw [hB.cell (p := ⟨b, 1, none⟩) hb]; exact h2, by rw [hB.cell (p := ⟨b, 2, none⟩) hb]; exact h3, by rw [hB.cell (p := ⟨b, 3, none⟩) hb]; exact h4, h5.trans (hB.mono h5.size)⟩
theorem Four.new (w : World) (a1 a2 a3 a4 : Int) (T : TypeId) :
    (w.alloc (.cells #[.int .i64 a1, .int .i64 a2, .int .i64 a3, .int .i64 a4] T)).cell? ⟨w.heap.size, 0, none⟩ = some (.int .i64 a1) ∧ (w.alloc (.cells #[.int .i64 a1, .int .i64 a2, .int .i64 a3, .int .i64 a4] T)).cell? ⟨w.heap.size, 1, none⟩ = some (.int .i64 a2) ∧ (w.alloc (.cells #[.int .i64 a1, .int .i64 a2, .int .i64 a3, .int .i64 a4] T)).cell? ⟨w.heap.size, 2, none⟩ = some (.int .i64 a3) ∧ (w.alloc (.cells #[.int .i64 a1, .int .i64 a2, .int .i64 a3, .int .i64 a4] T)).cell? ⟨w.heap.size, 3, none⟩ = some (.int .i64 a4) ∧ Below w.heap.size w (w.alloc (.cells #[.int .i64 a1, .int .i64 a2, .int .i64 a3, .int .i64 a4] T)) :=
  ⟨by go_simp, by go_simp, by go_simp, by go_simp, (Below.refl _ _).alloc (Nat.le_refl _) _⟩
theorem putNum_at (n : Int) (P : List UInt8) (w : World) (hn : n ≤ 9223372036854775807) (hP : Pl.Seat.put n.toNat = P) :
    Calls Tryz.prog 62 #[.int .i64 n] w fun e w' => e = .returned (.string (bs P)) ∧ Below w.heap.size w w' := hP ▸ putNum_any n w hn

/-- a head's sector, or nothing -/
def putV (h : Head) : List UInt8 := if isH h then putH tailU h else []
/-- a block of four cells that can be written -/
def Cell4 (b : Nat) (w : World) : Prop := (∀ i, i < 4 → ∃ x, w.cell? ⟨b, i, none⟩ = some x) ∧ ∀ o, w.frozen? ⟨b, o, none⟩ = false
theorem Cell4.lt {b : Nat} {w : World} (h : Cell4 b w) : b < w.heap.size := by
  obtain ⟨x, hx⟩ := h.1 0 (by omega)
  exact World.block_lt_of_cell? w _ hx
theorem Cell4.kept {b : Nat} {w w' : World} (h : Cell4 b w) (hb : w'.heap[b]? = w.heap[b]?) : Cell4 b w' :=
  ⟨fun i hi => by rw [World.cell?_of_block (w := w) (a := ⟨b, i, none⟩) hb]; exact h.1 i hi, fun o => by rw [World.frozen?_of_block (w := w) (a := ⟨b, o, none⟩) hb]; exact h.2 o⟩
theorem Cell4.after {b : Nat} {w w' : World} (h : Cell4 b w) (hB : Below w.heap.size w w') : Cell4 b w' := h.kept (hB.block b h.lt)
theorem Cell4.grown {b c : Nat} {w w' : World} (h : Cell4 b w) (hG : w.grownBy w' (some c)) (hne : b ≠ c) : Cell4 b w' := h.kept (hG.block b h.lt (by simpa using hne))
theorem Cell4.alloc {b : Nat} {w : World} (h : Cell4 b w) (o : Obj) : Cell4 b (w.alloc o) := h.kept (Below.heap_alloc w o b h.lt)
theorem Cell4.new (w : World) (x0 x1 x2 x3 : Value) (T : TypeId) : Cell4 w.heap.size (w.alloc (.cells #[x0, x1, x2, x3] T)) := by
  refine ⟨fun i hi => ?_, fun o => by go_simp⟩
  have : i = 0 ∨ i = 1 ∨ i = 2 ∨ i = 3 := by omega
  rcases this with rfl | rfl | rfl | rfl
  · exact ⟨x0, by go_simp⟩
  · exact ⟨x1, by go_simp⟩
  · exact ⟨x2, by go_simp⟩
  · exact ⟨x3, by go_simp⟩
theorem Cell4.stored {b : Nat} {W : World} (h : Cell4 b W) :
    (∀ v, (W.setCell ⟨b, 0, none⟩ v).cell? ⟨b, 0, none⟩ = some v) ∧ (∀ v x, ((W.setCell ⟨b, 0, none⟩ v).setCell ⟨b, 1, none⟩ x).cell? ⟨b, 1, none⟩ = some x) ∧
    (∀ v x y, (((W.setCell ⟨b, 0, none⟩ v).setCell ⟨b, 1, none⟩ x).setCell ⟨b, 2, none⟩ y).cell? ⟨b, 2, none⟩ = some y) ∧
    (∀ v x y z, ((((W.setCell ⟨b, 0, none⟩ v).setCell ⟨b, 1, none⟩ x).setCell ⟨b, 2, none⟩ y).setCell ⟨b, 3, none⟩ z).cell? ⟨b, 3, none⟩ = some z) ∧
    (∃ x0 x1 x2 x3, W.cell? ⟨b, 0, none⟩ = some x0 ∧ W.cell? ⟨b, 1, none⟩ = some x1 ∧ W.cell? ⟨b, 2, none⟩ = some x2 ∧ W.cell? ⟨b, 3, none⟩ = some x3) := by
  obtain ⟨x0, h0⟩ := h.1 0 (by omega)
  obtain ⟨x1, h1⟩ := h.1 1 (by omega)
  obtain ⟨x2, h2⟩ := h.1 2 (by omega)
  obtain ⟨x3, h3⟩ := h.1 3 (by omega)
  refine ⟨fun v => World.cell?_setCell_same _ _ _ h0, fun v x => World.cell?_setCell_same _ _ _ (by rw [World.cell?_setCell_other _ _ _ _ (by simp)]; exact h1), fun v x y => World.cell?_setCell_same _ _ _ (by rw [World.cell?_setCell_other _ _ _ _ (by simp), World.cell?_setCell_other _ _ _ _ (by simp)]; exact h2), fun v x y z => World.cell?_setCell_same _ _ _ (by rw [World.cell?_setCell_other _ _ _ _ (by simp), World.cell?_setCell_other _ _ _ _ (by simp), World.cell?_setCell_other _ _ _ _ (by simp)]; exact h3), x0, x1, x2, x3, h0, h1, h2, h3⟩
/-- a store into such a block -/
theorem below_four {w W : World} {B b : Nat} (h : Below B w W) (hb : B ≤ b) (v x y z : Value) : Below B w ((((W.setCell ⟨b, 0, none⟩ v).setCell ⟨b, 1, none⟩ x).setCell ⟨b, 2, none⟩ y).setCell ⟨b, 3, none⟩ z) :=
  (((h.setCell (p := ⟨b, 0, none⟩) hb v).setCell (p := ⟨b, 1, none⟩) hb x).setCell (p := ⟨b, 2, none⟩) hb y).setCell (p := ⟨b, 3, none⟩) hb z
theorem bare_at (s : ByteArray) (o : Option (List UInt8)) (w : World) (hs : s.size ≤ 1048576) (ho : Pl.Seat.bare s.data.toList = o) :
    Calls Tryz.prog 86 #[.string s] w fun e w' => e = .returned (.tuple #[.string (bs (o.getD [])), .int .i64 (err o.isSome 3)]) ∧ Below w.heap.size w w' := by
  have := bare_any s w hs
  unfold bareV bareB at this
  rwa [ho] at this
/-- the head of a sector, or none -/
def takeV (l : List UInt8) : Head := (Pl.Seat.takeH tailU l).getD Pl.Seat.Head.zero
def takeB (l : List UInt8) : Bool := (Pl.Seat.takeH tailU l).isSome

theorem prefix_at (t : List UInt8) (b : Bool) (w : World) (h : (t.take 6 == Pl.Seat.mark) = b) :
    Calls Tryz.prog 67 #[.string (bs t), .string ⟨#[112, 108, 101, 97, 99, 104]⟩] w fun e w' => e = .returned (.bool b) ∧ w = w' := by
  have := Tryz.strings_HasPrefix (bs t) ⟨#[112, 108, 101, 97, 99, 104]⟩ w
  have e : Lib.hasPrefix (bs t).data.toList (⟨#[112, 108, 101, 97, 99, 104]⟩ : ByteArray).data.toList = b := by
    rw [← h, bs_list, ← Lib.hasPrefix_of_take]
    show (decide (6 ≤ t.length) && (t.take 6 == Pl.Seat.mark)) = (t.take 6 == Pl.Seat.mark)
    by_cases h6 : 6 ≤ t.length
    · simp [h6]
    · have : (t.take 6 == Pl.Seat.mark) = false := by
        rw [beq_eq_false_iff_ne]
        intro e
        have := congrArg List.length e
        simp [Pl.Seat.mark] at this
        omega
      rw [this]; simp
  rw [e] at this
  exact this.mono fun e w' ⟨h1, h2⟩ => ⟨h1, h2.symm⟩
theorem bare_short {l t : List UInt8} (h : Pl.Seat.bare l = some t) : t.length ≤ 128 := by
  obtain ⟨h1, _⟩ := (Pl.Seat.bare_iff l t).1 h
  unfold Pl.Seat.putT at h1
  simp at h1
  omega
theorem openS_short {t x : List UInt8} (h : openS tailU t = some x) : x.length ≤ t.length := by
  have := (Pl.Seat.openS_iff tailU tailU_len t x).1 h
  rw [this]; simp
end Go.Proofs.YtfbakelpplpomaaGreatDoor.WalkSeat
