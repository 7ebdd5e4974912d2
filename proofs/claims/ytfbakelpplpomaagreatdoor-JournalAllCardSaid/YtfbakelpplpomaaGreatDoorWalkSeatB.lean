/-
  The walks of the seat's Full, Bare, Put, and of plain.Noughts, Full.
-/
import Derived.Test.YtfbakelpplpomaaGreatDoorWalkSeat
namespace Go.Proofs.YtfbakelpplpomaaGreatDoor.WalkSeat
open Go.RowKit Go.Proofs.YtfbakelpplpomaaGreatDoor.WalkVar Go.Proofs.YtfbakelpplpomaaGreatDoor.WalkScan Go.Proofs.YtfbakelpplpomaaGreatDoor.WalkCrc
open Pl.Seat (numV numR txtV txtR numP txtP Head isH)
set_option linter.unusedVariables false
set_option linter.unusedSimpArgs false
set_option maxRecDepth 100000
attribute [local go_sem] maxTwo

theorem full_ok (s : List UInt8) (w : World) (hs : s.length ≤ 128) :
    Calls Tryz.prog 64 #[.string (bs s)] w fun e w' => e = .returned (.tuple #[.string (bs (Pl.Seat.full s)), .int .i64 0]) ∧ Below w.heap.size w w' := by
  have hz := bs_size s
  have e1 : IntKind.i64.wrap (128 - ((bs s).size : Int)) = 128 - ((bs s).size : Int) := IntWalk.i64_in _ (by omega)
  have hle : ((bs s).size : Int) ≤ 128 := by omega
  have e3 : (128 : Int) - ((bs s).size : Int) = ((128 - s.length : Nat) : Int) := by omega
  have HR : Hid (∀ w, Calls Tryz.prog 39 #[.string ⟨#[0]⟩, .int .i64 (128 - ((bs s).size : Int))] w fun e w' => e = .returned (.string (bs (zeros (128 - s.length)))) ∧ Below w.heap.size w w') := fun w => by
    rw [e3]
    exact repeat_any _ w (by omega)
  have hzz : ¬ (9223372036854775807 < (bs s).size + (bs (zeros (128 - s.length))).size) := by rw [bs_size, bs_size]; unfold zeros; simp; omega
  have hf : bs s ++ bs (zeros (128 - s.length)) = bs (Pl.Seat.full s) := by rw [bs_append]; rfl
  have HF := Lib.hid hf
  clear e3 hf hz
  go_enter Tryz.func64, Tryz.ntmps64
  go_wp2_with (go_at_call 39; refine (HR.out _).mono ?_; rintro e w1 ⟨rfl, hB⟩)
  go_ret2
  exact ⟨by rw [← HF.out]; rfl, hB⟩
theorem full_far (s : ByteArray) (w : World) (hs : 128 < s.size) :
    Calls Tryz.prog 64 #[.string s] w fun e w' => e = .returned (.tuple #[.string ByteArray.empty, .int .i64 5]) ∧ w = w' := by
  have h : (128 : Int) < (s.size : Int) := by omega
  go_enter Tryz.func64, Tryz.ntmps64
  go_wp2
  go_ret2
  exact ⟨rfl, rfl⟩
theorem info_u8 : (Tryz.prog.info? 5).map (fun i => (i.zero, i.size, i.bytes)) = some (some (.int .u8 0), 1, 1) := by kernel_rfl
theorem conv_zeros (n : Nat) (w : World) :
    (convert 107 9 (.slice (some ⟨w.heap.size, 0, none⟩) n n)).run Tryz.prog (w.alloc (.cells (madeCells #[.int .u8 0] n) 5)) = .ok (.string (bs (zeros n))) (w.alloc (.cells (madeCells #[.int .u8 0] n) 5)) := by
  have e : bs (zeros n) = strOfNums (List.replicate n 0) := by rw [← nums_bs]; simp [zeros]
  rw [e]
  refine run_convert_bytes_arg _ 107 5 Tryz.underlying107 Tryz.underlying5 _ 0 n n (List.replicate n 0) (by simp) (fun j hj => ?_) _ Tryz.underlying9
  rw [Nat.zero_add, (World.rowIs_made w (.int .u8 0) n 5).cell hj]
  simp [List.getD_eq_getElem?_getD, hj]
theorem noughts_any (n : Nat) (w : World) (hn : n ≤ 4096) :
    Calls Tryz.prog 46 #[.int .i64 n] w fun e w' => e = .returned (.string (bs (zeros n))) ∧ Below w.heap.size w w' := by
  have hmk := run_make_row' (P := Tryz.prog) 107 5 (.int .u8 0) 1 Tryz.underlying107 info_u8 rfl .i64 .i64 n (by omega) (by omega)
  have hcz := conv_zeros n
  have hmx : Builtin.max2 (.int .i64 (n : Int)) (.int .i64 0) = pure (.int .i64 (n : Int)) := by
    rw [maxInt2]
    rw [if_neg (by omega)]
  go_enter Tryz.func46, Tryz.ntmps46
  go_wp2
  go_ret
  exact ⟨rfl, (Below.refl _ _).alloc (Nat.le_refl _) _⟩
theorem plainFull_any (s : List UInt8) (w : World) (hs : s.length ≤ 1048576) :
    Calls Tryz.prog 13 #[.string (bs s)] w fun e w' => e = .returned (.string (bs ((s ++ zeros 128).take 128))) ∧ Below w.heap.size w w' := by
  have hz := bs_size s
  have hzz : ¬ (9223372036854775807 < (bs s).size + (bs (zeros 128)).size) := by rw [bs_size, bs_size]; unfold zeros; simp; omega
  have HN : Hid (∀ w, Calls Tryz.prog 46 #[.int .i64 128] w fun e w' => e = .returned (.string (bs (zeros 128))) ∧ Below w.heap.size w w') := fun w => noughts_any 128 w (by omega)
  have hb : bs s ++ bs (zeros 128) = bs (s ++ zeros 128) := bs_append _ _
  have hx : (bs (s ++ zeros 128)).extract 0 128 = bs ((s ++ zeros 128).take 128) := by
    rw [← bs_of ((bs (s ++ zeros 128)).extract 0 128), extract_list, bs_list]; simp
  have hl : (128 : Int) ≤ ((bs (s ++ zeros 128)).size : Int) := by rw [bs_size]; unfold zeros; simp; omega
  have HX := Lib.hid hx
  generalize bs (zeros 128) = Z at *
  generalize bs (s ++ zeros 128) = SZ at *
  clear hx hz
  go_enter Tryz.func13, Tryz.ntmps13
  go_wp2_with (go_at_call 46; refine (HN.out _).mono ?_; rintro e w1 ⟨rfl, hB⟩)
  go_ret
  exact ⟨by rw [← HX.out]; rfl, hB⟩

/-- what Bare answers -/
def bareV (l : List UInt8) : List UInt8 := (Pl.Seat.bare l).getD []
def bareB (l : List UInt8) : Bool := (Pl.Seat.bare l).isSome
/-- an error's number, or none -/
def err (b : Bool) (n : Int) : Int := if b then 0 else n
theorem bare_of (l : List UInt8) : Pl.Seat.bare l = match txtR 128 (some l) with
    | none => none
    | some q => if l.length = 128 ∧ q.all (· == 0) = true then some (txtV 128 (some l)) else none := by
  unfold Pl.Seat.bare txtR txtV
  simp only [Option.bind_some]
  cases txtP 128 l with
  | none => rfl
  | some p => rfl
theorem Sc.after {b : Nat} {st : Option (List UInt8)} {w w' : World} (h : Sc b st w) (hB : Below w.heap.size w w') : Sc b st w' := h.kept (hB.block b h.lt)
theorem grown_below {w w' : World} {b : Nat} (h : w.grownBy w' (some b)) {B : Nat} (hb : B ≤ b) {w0 : World} (h0 : Below B w0 w) (hbl : b < w.heap.size) : Below B w0 w' :=
  h0.grown h (by omega) (fun k e => by simp at e; omega)
set_option maxHeartbeats 3200000 in
theorem bare_any (s : ByteArray) (w : World) (hs : s.size ≤ 1048576) :
    Calls Tryz.prog 86 #[.string s] w fun e w' => e = .returned (.tuple #[.string (bs (bareV s.data.toList)), .int .i64 (err (bareB s.data.toList) 3)]) ∧ Below w.heap.size w w' := by
  have hbo := bare_of s.data.toList
  have hsl : s.data.toList.length = s.size := by simp
  rw [hsl] at hbo
  unfold bareV bareB
  obtain ⟨R, hR⟩ : ∃ R, Pl.Seat.bare s.data.toList = R := ⟨_, rfl⟩
  rw [hR] at hbo ⊢
  clear hR hsl
  have HT := Lib.hid (fun b w h => text_any b (some s.data.toList) 128 w h (by omega))
  have hql : ∀ q, txtR 128 (some s.data.toList) = some q → q.length ≤ 1048576 := by
    intro q hq
    obtain ⟨h1, _⟩ := Pl.Seat.txtR_some (by omega) hq
    have := congrArg List.length (Option.some.inj h1)
    rw [List.length_append] at this
    have hsl : s.data.toList.length = s.size := by simp
    omega
  obtain ⟨t, ht⟩ : ∃ t, txtV 128 (some s.data.toList) = t := ⟨_, rfl⟩
  obtain ⟨st, hst⟩ : ∃ st, txtR 128 (some s.data.toList) = st := ⟨_, rfl⟩
  rw [ht, hst] at HT
  rw [hst, ht] at hbo
  rw [hst] at hql
  clear ht hst
  cases st with
  | none =>
    simp only at hbo
    subst hbo
    go_enter Tryz.func86, Tryz.ntmps86
    go_wp2_with fail
    refine (new_any s w hs).mono ?_
    rintro e w1 ⟨rfl, hS1, hB1⟩
    go_wp2_with fail
    refine (HT.out _ _ hS1).mono ?_
    rintro e w2 ⟨rfl, hS2, hG2⟩
    have hB2 := grown_below hG2 (Nat.le_refl _) hB1 hS1.lt
    go_wp2_with fail
    refine (rest_any _ _ _ hS2).mono ?_
    rintro e w3 ⟨rfl, hS3, hG3⟩
    have hB3 := grown_below hG3 (Nat.le_refl _) hB2 hS2.lt
    obtain ⟨s3, a3, e3, hI3, _, _, _, he3⟩ := hS3
    have hne : ((e3 : Int) == 0) = false := by
      by_cases h : e3 = 0
      · rw [if_pos h] at he3; simp at he3
      · simp; omega
    have hne2 : ((e3 : Int) != 0) = true := by simpa using hne
    clear he3
    go_wp2_with fail
    refine (err_any _ _ _ _ _ hI3).mono ?_
    rintro e w4 ⟨rfl, rfl⟩
    go_wp2_with fail
    go_ret2
    exact ⟨rfl, hB3⟩
  | some q =>
    simp only at hbo
    have hq := hql q rfl
    clear hql
    obtain ⟨tr, htr⟩ : ∃ tr, Lib.trimB q 0 = tr := ⟨_, rfl⟩
    have hnil := trim_nil q
    rw [htr] at hnil
    have HTR := Lib.hid (fun w => trim_at q tr w hq htr)
    clear htr
    have hcase : (s.size ≠ 128 ∧ R = none) ∨ (s.size = 128 ∧ tr ≠ [] ∧ R = none) ∨ (s.size = 128 ∧ tr = [] ∧ R = some t) := by
      by_cases h1 : s.size = 128
      · by_cases h2 : tr = []
        · right; right; exact ⟨h1, h2, by rw [hbo, if_pos ⟨h1, hnil.1 h2⟩]⟩
        · right; left; exact ⟨h1, h2, by rw [hbo, if_neg (fun h => h2 (hnil.2 h.2))]⟩
      · left; exact ⟨h1, by rw [hbo, if_neg (fun h => h1 h.1)]⟩
    clear hbo hnil
    rcases hcase with ⟨h1, rfl⟩ | ⟨h1, h2, rfl⟩ | ⟨h1, rfl, rfl⟩
    · have h1i : ((s.size : Int) == 128) = false := by simp; omega
      go_enter Tryz.func86, Tryz.ntmps86
      go_wp2_with fail
      refine (new_any s w hs).mono ?_
      rintro e w1 ⟨rfl, hS1, hB1⟩
      go_wp2_with fail
      refine (HT.out _ _ hS1).mono ?_
      rintro e w2 ⟨rfl, hS2, hG2⟩
      have hB2 := grown_below hG2 (Nat.le_refl _) hB1 hS1.lt
      go_wp2_with fail
      refine (rest_any _ _ _ hS2).mono ?_
      rintro e w3 ⟨rfl, hS3, hG3⟩
      have hB3 := grown_below hG3 (Nat.le_refl _) hB2 hS2.lt
      obtain ⟨s3, a3, e3, hI3, _, _, _, he3⟩ := hS3
      have hne : e3 = 0 := by
        by_cases h : e3 = 0
        · exact h
        · rw [if_neg h] at he3; simp at he3
      subst hne
      clear he3
      go_wp2_with fail
      refine (err_any _ _ _ _ _ hI3).mono ?_
      rintro e w4 ⟨rfl, rfl⟩
      go_wp2_with fail
      go_ret2
      exact ⟨rfl, hB3⟩
    · have h1i : ((s.size : Int) == 128) = true := by simp; omega
      have htt : (bs tr).toList.isEmpty = false := by
        rw [bs_toList]
        cases tr with
        | nil => exact absurd rfl h2
        | cons c l => rfl
      go_enter Tryz.func86, Tryz.ntmps86
      go_wp2_with fail
      refine (new_any s w hs).mono ?_
      rintro e w1 ⟨rfl, hS1, hB1⟩
      go_wp2_with fail
      refine (HT.out _ _ hS1).mono ?_
      rintro e w2 ⟨rfl, hS2, hG2⟩
      have hB2 := grown_below hG2 (Nat.le_refl _) hB1 hS1.lt
      go_wp2_with fail
      refine (rest_any _ _ _ hS2).mono ?_
      rintro e w3 ⟨rfl, hS3, hG3⟩
      have hB3 := grown_below hG3 (Nat.le_refl _) hB2 hS2.lt
      obtain ⟨s3, a3, e3, hI3, _, _, _, he3⟩ := hS3
      have hne : e3 = 0 := by
        by_cases h : e3 = 0
        · exact h
        · rw [if_neg h] at he3; simp at he3
      subst hne
      clear he3
      go_wp2_with fail
      refine (err_any _ _ _ _ _ hI3).mono ?_
      rintro e w4 ⟨rfl, rfl⟩
      go_wp2_with fail
      refine (HTR.out _).mono ?_
      rintro e w5 ⟨rfl, hB5⟩
      go_wp2_with fail
      go_ret2
      exact ⟨rfl, hB3.trans (hB5.mono hB3.size)⟩
    · have h1i : ((s.size : Int) == 128) = true := by simp; omega
      have htt : (bs []).toList.isEmpty = true := by rw [bs_toList]; rfl
      go_enter Tryz.func86, Tryz.ntmps86
      go_wp2_with fail
      refine (new_any s w hs).mono ?_
      rintro e w1 ⟨rfl, hS1, hB1⟩
      go_wp2_with fail
      refine (HT.out _ _ hS1).mono ?_
      rintro e w2 ⟨rfl, hS2, hG2⟩
      have hB2 := grown_below hG2 (Nat.le_refl _) hB1 hS1.lt
      go_wp2_with fail
      refine (rest_any _ _ _ hS2).mono ?_
      rintro e w3 ⟨rfl, hS3, hG3⟩
      have hB3 := grown_below hG3 (Nat.le_refl _) hB2 hS2.lt
      obtain ⟨s3, a3, e3, hI3, _, _, _, he3⟩ := hS3
      have hne : e3 = 0 := by
        by_cases h : e3 = 0
        · exact h
        · rw [if_neg h] at he3; simp at he3
      subst hne
      clear he3
      go_wp2_with fail
      refine (err_any _ _ _ _ _ hI3).mono ?_
      rintro e w4 ⟨rfl, rfl⟩
      go_wp2_with fail
      refine (HTR.out _).mono ?_
      rintro e w5 ⟨rfl, hB5⟩
      go_wp2_with fail
      go_ret2
      exact ⟨rfl, hB3.trans (hB5.mono hB3.size)⟩
end Go.Proofs.YtfbakelpplpomaaGreatDoor.WalkSeat
