/-
  The walks of the scan: New, Err, fail, take, Num, Text, Rest, End, Byte; PutNum, PutText.
-/
import Derived.Test.YtfbakelpplpomaaGreatDoorWalkVarB
import Derived.Deep.QuietTactic
import Derived.BigQuiet
import Derived.Handy
namespace Go.Proofs.YtfbakelpplpomaaGreatDoor.WalkScan
open Go.RowKit Go.Proofs.YtfbakelpplpomaaGreatDoor.WalkVar
open Pl.Seat (numV numR txtV txtR numP txtP)
set_option linter.unusedVariables false
set_option linter.unusedSimpArgs false
set_option maxRecDepth 100000

structure ScanIs (b : Nat) (s : ByteArray) (at_ err : Nat) (w : World) : Prop where
  text : w.cell? ⟨b, 0, none⟩ = some (.string s)
  at_ : w.cell? ⟨b, 1, none⟩ = some (.int .i64 at_)
  err : w.cell? ⟨b, 2, none⟩ = some (.int .i64 err)
  made : w.cell? ⟨b, 3, none⟩ = some (.bool true)
  fz : ∀ o, w.frozen? ⟨b, o, none⟩ = false
theorem ScanIs.lt {b : Nat} {s : ByteArray} {a e : Nat} {w : World} (h : ScanIs b s a e w) : b < w.heap.size := World.block_lt_of_cell? w _ h.text
theorem ScanIs.kept {b : Nat} {s : ByteArray} {a e : Nat} {w w' : World} (h : ScanIs b s a e w) (hb : w'.heap[b]? = w.heap[b]?) : ScanIs b s a e w' := by
  have hc : ∀ o, w'.cell? ⟨b, o, none⟩ = w.cell? ⟨b, o, none⟩ := fun o => World.cell?_of_block (w := w) hb
  have hf : ∀ o, w'.frozen? ⟨b, o, none⟩ = w.frozen? ⟨b, o, none⟩ := fun o => World.frozen?_of_block (w := w) hb
  exact ⟨by rw [hc]; exact h.text, by rw [hc]; exact h.at_, by rw [hc]; exact h.err, by rw [hc]; exact h.made, fun o => by rw [hf]; exact h.fz o⟩
theorem ScanIs.setAt {b : Nat} {s : ByteArray} {a e : Nat} {w : World} (h : ScanIs b s a e w) (n : Nat) : ScanIs b s n e (w.setCell ⟨b, 1, none⟩ (.int .i64 n)) :=
  ⟨by rw [World.cell?_setCell_other _ _ _ _ (by simp)]; exact h.text, World.cell?_setCell_same _ _ _ h.at_, by rw [World.cell?_setCell_other _ _ _ _ (by simp)]; exact h.err, by rw [World.cell?_setCell_other _ _ _ _ (by simp)]; exact h.made, fun o => by rw [World.frozen?_setCell]; exact h.fz o⟩
theorem ScanIs.setErr {b : Nat} {s : ByteArray} {a e : Nat} {w : World} (h : ScanIs b s a e w) (n : Nat) : ScanIs b s a n (w.setCell ⟨b, 2, none⟩ (.int .i64 n)) :=
  ⟨by rw [World.cell?_setCell_other _ _ _ _ (by simp)]; exact h.text, by rw [World.cell?_setCell_other _ _ _ _ (by simp)]; exact h.at_, World.cell?_setCell_same _ _ _ h.err, by rw [World.cell?_setCell_other _ _ _ _ (by simp)]; exact h.made, fun o => by rw [World.frozen?_setCell]; exact h.fz o⟩
theorem grown_set {w w' : World} {b : Nat} (h : w.grownBy w' (some b)) (o : Nat) (v : Value) : w.grownBy (w'.setCell ⟨b, o, none⟩ v) (some b) :=
  ⟨h.os, h.tape, h.output, by simpa [World.setCell] using h.size, fun k hk hne => by rw [Below.heap_setCell _ _ _ _ (by simpa using hne)]; exact h.block k hk hne⟩
theorem grown_drewN (w : World) (n : Nat) (b : Option Nat) : w.grownBy (w.drewN n) b := ⟨rfl, rfl, rfl, Nat.le_refl _, fun _ _ _ => rfl⟩
theorem grown_trans {w w' w'' : World} {b : Option Nat} (h : w.grownBy w' b) (k : w'.grownBy w'' b) : w.grownBy w'' b :=
  ⟨k.os.trans h.os, k.tape.trans h.tape, k.output.trans h.output, Nat.le_trans h.size k.size, fun i hi hne => (k.block i (Nat.lt_of_lt_of_le hi h.size) hne).trans (h.block i hi hne)⟩
/-- a scan that has st left; none: it failed -/
def Sc (b : Nat) (st : Option (List UInt8)) (w : World) : Prop :=
  ∃ s a e, ScanIs b s a e w ∧ s.size ≤ 1048576 ∧ a ≤ s.size ∧ e ≤ 5 ∧ st = if e = 0 then some (s.data.toList.drop a) else none
theorem Sc.kept {b : Nat} {st : Option (List UInt8)} {w w' : World} (h : Sc b st w) (hb : w'.heap[b]? = w.heap[b]?) : Sc b st w' := by
  obtain ⟨s, a, e, h1, h2⟩ := h
  exact ⟨s, a, e, h1.kept hb, h2⟩
theorem Sc.lt {b : Nat} {st : Option (List UInt8)} {w : World} (h : Sc b st w) : b < w.heap.size := by
  obtain ⟨s, a, e, h1, h2⟩ := h
  exact h1.lt
theorem extract_list (s : ByteArray) (a b : Nat) : (s.extract a b).data.toList = (s.data.toList.drop a).take (b - a) := by
  simp [ByteArray.data_extract, Array.toList_extract, List.extract]

theorem new_any (s : ByteArray) (w : World) (hs : s.size ≤ 1048576) :
    Calls Tryz.prog 88 #[.string s] w fun e w' => e = .returned (.pointer (some ⟨w.heap.size, 0, none⟩)) ∧ Sc w.heap.size (some s.data.toList) w' ∧ Below w.heap.size w w' := by
  go_enter Tryz.func88, Tryz.ntmps88
  go_wp2
  go_ret
  exact ⟨rfl, ⟨s, 0, 0, ⟨by go_simp, by go_simp, by go_simp, by go_simp, fun o => by go_simp⟩, hs, by omega, by omega, by simp⟩, (Below.refl _ _).alloc (Nat.le_refl _) _⟩
theorem err_any (b : Nat) (s : ByteArray) (a e : Nat) (w : World) (h : ScanIs b s a e w) :
    Calls Tryz.prog 115 #[.pointer (some ⟨b, 0, none⟩)] w fun x w' => x = .returned (.int .i64 e) ∧ w = w' := by
  have h1 := h.err
  have h2 := h.made
  go_enter Tryz.func115, Tryz.ntmps115
  go_wp2
  go_ret
  exact ⟨rfl, rfl⟩
theorem fail_any (b : Nat) (s : ByteArray) (a n : Nat) (w : World) (h : ScanIs b s a 0 w) :
    Calls Tryz.prog 119 #[.pointer (some ⟨b, 0, none⟩), .int .i64 n] w fun x w' => x = .returned (.tuple #[]) ∧ ScanIs b s a n w' ∧ w.grownBy w' (some b) := by
  have h1 := h.err
  have h2 := h.fz
  go_enter Tryz.func119, Tryz.ntmps119
  go_wp2_with (go_at_call 115; refine (err_any _ _ _ _ _ h).mono ?_; rintro e w1 ⟨rfl, rfl⟩)
  go_end0
  exact ⟨rfl, h.setErr n, grown_set (World.grownBy.refl w _) _ _⟩

theorem fail_three (b : Nat) (s : ByteArray) (a : Nat) (w : World) (h : ScanIs b s a 0 w) :
    Calls Tryz.prog 119 #[.pointer (some ⟨b, 0, none⟩), .int .i64 3] w fun x w' => x = .returned (.tuple #[]) ∧ ScanIs b s a 3 w' ∧ w.grownBy w' (some b) := fail_any b s a 3 w h
theorem fail_five (b : Nat) (s : ByteArray) (a : Nat) (w : World) (h : ScanIs b s a 0 w) :
    Calls Tryz.prog 119 #[.pointer (some ⟨b, 0, none⟩), .int .i64 5] w fun x w' => x = .returned (.tuple #[]) ∧ ScanIs b s a 5 w' ∧ w.grownBy w' (some b) := fail_any b s a 5 w h
/-- so many bytes -/
theorem take_ok (b : Nat) (s : ByteArray) (a n : Nat) (w : World) (h : ScanIs b s a 0 w) (hs : s.size ≤ 1048576) (ha : a + n ≤ s.size) :
    Calls Tryz.prog 117 #[.pointer (some ⟨b, 0, none⟩), .int .i64 n] w fun x w' => x = .returned (.string (s.extract a (a + n))) ∧ ScanIs b s (a + n) 0 w' ∧ w.grownBy w' (some b) := by
  have h0 := h.text
  have h1 := h.at_
  have h2 := h.fz
  have hd0 : decide ((n : Int) < 0) = false := by simp
  have hn0 : ¬ (n : Int) < 0 := by omega
  have e1 : IntKind.i64.wrap ((s.size : Int) - (a : Int)) = (s.size : Int) - a := IntWalk.i64_in _ (by omega)
  have hd1 : decide ((s.size : Int) - (a : Int) < (n : Int)) = false := by simp; omega
  have e2 : IntKind.i64.wrap ((a : Int) + (n : Int)) = (a : Int) + n := IntWalk.i64_in _ (by omega)
  have e3 : (a : Int) ≤ (a : Int) + (n : Int) := by omega
  have e4 : (a : Int) + (n : Int) ≤ (s.size : Int) := by omega
  have e5 : ((a : Int) + (n : Int)).toNat = a + n := by omega
  have e6 : (0 : Int) ≤ (a : Int) + (n : Int) := by omega
  go_enter Tryz.func117, Tryz.ntmps117
  go_wp2_with (go_at_call 115; refine (err_any _ _ _ _ _ h).mono ?_; rintro e w1 ⟨rfl, rfl⟩)
  go_quiet (fail)
  go_wp2
  go_quiet (fail)
  go_wp2
  go_ret
  exact ⟨rfl, (show ScanIs b s a 0 (w.drewN _) from h.kept rfl).setAt (a + n), grown_set (grown_drewN w _ _) _ _⟩
theorem take_err (b : Nat) (s : ByteArray) (a e : Nat) (n : Int) (w : World) (h : ScanIs b s a e w) (he : e ≠ 0) :
    Calls Tryz.prog 117 #[.pointer (some ⟨b, 0, none⟩), .int .i64 n] w fun x w' => x = .returned (.string ByteArray.empty) ∧ w = w' := by
  have ht : ((e : Int) == 0) = false := by simp; omega
  go_enter Tryz.func117, Tryz.ntmps117
  go_wp2_with (go_at_call 115; refine (err_any _ _ _ _ _ h).mono ?_; rintro e w1 ⟨rfl, rfl⟩)
  go_ret
  exact ⟨rfl, rfl⟩
theorem take_far (b : Nat) (s : ByteArray) (a n : Nat) (w : World) (h : ScanIs b s a 0 w) (hs : s.size ≤ 1048576) (ha0 : a ≤ s.size) (ha : s.size < a + n) :
    Calls Tryz.prog 117 #[.pointer (some ⟨b, 0, none⟩), .int .i64 n] w fun x w' => x = .returned (.string ByteArray.empty) ∧ ScanIs b s a 3 w' ∧ w.grownBy w' (some b) := by
  have h0 := h.text
  have h1 := h.at_
  have h2 := h.fz
  have hd0 : decide ((n : Int) < 0) = false := by simp
  have hn0 : ¬ (n : Int) < 0 := by omega
  have e1 : IntKind.i64.wrap ((s.size : Int) - (a : Int)) = (s.size : Int) - a := IntWalk.i64_in _ (by omega)
  have hd1 : decide ((s.size : Int) - (a : Int) < (n : Int)) = true := by simp; omega
  have h3 := h.err
  have e4 : (s.size : Int) < (a : Int) + (n : Int) := by omega
  go_enter Tryz.func117, Tryz.ntmps117
  go_wp2_with (go_at_call 115; refine (err_any _ _ _ _ _ h).mono ?_; rintro e w1 ⟨rfl, rfl⟩)
  go_quiet (fail)
  go_wp2
  go_ret
  exact ⟨rfl, (show ScanIs b s a 0 (w.drewN _) from h.kept rfl).setErr 3, grown_set (grown_drewN w _ _) _ _⟩

/-- what a text gives of st -/
def fixV (n : Nat) (st : Option (List UInt8)) : List UInt8 := match st with
  | none => []
  | some l => if n ≤ l.length then l.take n else []
def fixR (n : Nat) (st : Option (List UInt8)) : Option (List UInt8) := match st with
  | none => none
  | some l => if n ≤ l.length then some (l.drop n) else none
theorem take_any (b : Nat) (st : Option (List UInt8)) (n : Nat) (w : World) (h : Sc b st w) :
    Calls Tryz.prog 117 #[.pointer (some ⟨b, 0, none⟩), .int .i64 n] w fun x w' => x = .returned (.string (bs (fixV n st))) ∧ Sc b (fixR n st) w' ∧ w.grownBy w' (some b) := by
  obtain ⟨s, a, e, h1, hs, ha, he, hst⟩ := h
  by_cases h0 : e = 0
  · subst h0
    rw [if_pos rfl] at hst
    subst hst
    have hl : (s.data.toList.drop a).length = s.size - a := by simp
    by_cases hn : a + n ≤ s.size
    · have e1 : fixV n (some (s.data.toList.drop a)) = (s.data.toList.drop a).take n := by simp only [fixV]; rw [if_pos (by omega)]
      have e2 : fixR n (some (s.data.toList.drop a)) = some (s.data.toList.drop (a + n)) := by simp only [fixR]; rw [if_pos (by omega), List.drop_drop]
      have e3 : bs ((s.data.toList.drop a).take n) = s.extract a (a + n) := by rw [← bs_of (s.extract a (a + n)), extract_list]; congr 2; omega
      rw [e1, e2, e3]
      exact (take_ok b s a n w h1 hs hn).mono fun x w' ⟨q1, q2, q3⟩ => ⟨q1, ⟨s, a + n, 0, q2, hs, hn, by omega, by simp⟩, q3⟩
    · have e1 : fixV n (some (s.data.toList.drop a)) = [] := by simp only [fixV]; rw [if_neg (by omega)]
      have e2 : fixR n (some (s.data.toList.drop a)) = none := by simp only [fixR]; rw [if_neg (by omega)]
      rw [e1, e2]
      exact (take_far b s a n w h1 hs ha (by omega)).mono fun x w' ⟨q1, q2, q3⟩ => ⟨q1, ⟨s, a, 3, q2, hs, ha, by omega, by simp⟩, q3⟩
  · rw [if_neg h0] at hst
    subst hst
    exact (take_err b s a e n w h1 h0).mono fun x w' ⟨q1, q2⟩ => by subst q2; exact ⟨q1, ⟨s, a, e, h1, hs, ha, he, by rw [if_neg h0]; rfl⟩, World.grownBy.refl w _⟩

theorem get_quiet (s : ByteArray) (o : Option (Nat × Nat)) (w : World) (n : Nat) (hv : Pl.Seat.get s.data.toList = o) (hs : s.size ≤ 9223372036854775806) :
    Calls Tryz.prog 118 #[.string s] (w.drewN n) fun e w'' => e = .returned (.tuple #[.int .u64 (gN o : Nat), .int .i64 (gK o : Nat), .bool o.isSome]) ∧ ∃ m, w'' = w.drewN m :=
  Calls.quiet_of_same ((WalkVar.get_at s o _ hv hs).mono fun _ _ q => ⟨q.1, q.2.symm⟩)
set_option maxHeartbeats 1600000 in
theorem num_any (b : Nat) (st : Option (List UInt8)) (most : Nat) (w : World) (h : Sc b st w) (hm : most ≤ 4294967296) :
    Calls Tryz.prog 90 #[.pointer (some ⟨b, 0, none⟩), .int .i64 most] w fun x w' => x = .returned (.int .i64 (numV most st : Nat)) ∧ Sc b (numR most st) w' ∧ w.grownBy w' (some b) := by
  obtain ⟨s, a, e, h1, hs, ha, he, hst⟩ := h
  by_cases h0 : e = 0
  · subst h0
    rw [if_pos rfl] at hst
    subst hst
    obtain ⟨o, ho⟩ : ∃ o, Pl.Seat.get (s.data.toList.drop a) = o := ⟨_, rfl⟩
    have hge : Pl.Seat.get (s.extract a s.size).data.toList = o := by rw [extract_list, List.take_of_length_le (by simp)]; exact ho
    have HGE := Lib.hid hge
    clear hge
    have hxs : (s.extract a s.size).size ≤ 9223372036854775806 := by rw [ByteArray.size_extract]; omega
    have g0 := h1.text
    have g1 := h1.at_
    have hai : (a : Int) ≤ (s.size : Int) := by omega
    have hmi : ¬ (most : Int) < 0 := by omega
    cases o with
    | none =>
      have hv : numV most (some (s.data.toList.drop a)) = 0 := by unfold numV numP; simp [ho]
      have hr : numR most (some (s.data.toList.drop a)) = none := by unfold numR numP; simp [ho]
      rw [hv, hr]
      go_enter Tryz.func90, Tryz.ntmps90
      go_wp2_with (go_at_call 115; refine (err_any _ _ _ _ _ h1).mono ?_; rintro e w1 ⟨rfl, rfl⟩)
      go_quiet ((go_at_call 118; exact get_quiet _ none _ _ HGE.out hxs))
      go_wp2_with (go_at_call 119; refine (fail_three b s a (w.drewN nq) (show ScanIs b s a 0 (w.drewN nq) from h1.kept rfl)).mono ?_; rintro e w1 ⟨rfl, hS, hG⟩)
      go_ret
      exact ⟨rfl, ⟨s, a, 3, hS, hs, ha, by omega, by simp⟩, grown_trans (grown_drewN w nq _) hG⟩
    | some p =>
      obtain ⟨n, k⟩ := p
      obtain ⟨b1, b2, b3, b4⟩ := Pl.Seat.get_some ho
      rw [List.length_drop] at b4
      have hsz : s.data.toList.length = s.size := by simp
      by_cases hn : n ≤ most
      · have hv : numV most (some (s.data.toList.drop a)) = n := by unfold numV numP; simp [ho, hn]
        have hr : numR most (some (s.data.toList.drop a)) = some (s.data.toList.drop (a + k)) := by unfold numR numP; simp [ho, hn]
        rw [hv, hr]
        have hni : (n : Int) ≤ (most : Int) := by omega
        have hmi2 : (most : Int) ≤ 4294967296 := by omega
        have hka : a + k ≤ s.size := by omega
        clear hv hr ho b1 b2 b3 b4
        go_enter Tryz.func90, Tryz.ntmps90
        go_wp2_with (go_at_call 115; refine (err_any _ _ _ _ _ h1).mono ?_; rintro e w1 ⟨rfl, rfl⟩)
        go_quiet ((go_at_call 118; exact get_quiet _ (some (n, k)) _ _ HGE.out hxs))
        simp only [gN, gK, Option.isSome]
        have g2 := h1.fz
        go_wp2
        go_ret
        exact ⟨rfl, ⟨s, a + k, 0, (show ScanIs b s a 0 (w.drewN _) from h1.kept rfl).setAt (a + k), hs, hka, by omega, by simp⟩, grown_set (grown_drewN w nq _) _ _⟩
      · have hv : numV most (some (s.data.toList.drop a)) = 0 := by unfold numV numP; simp [ho, hn]
        have hr : numR most (some (s.data.toList.drop a)) = none := by unfold numR numP; simp [ho, hn]
        rw [hv, hr]
        have hni : (most : Int) < (n : Int) := by omega
        have hmi2 : (most : Int) ≤ 4294967296 := by omega
        clear hv hr ho b1 b2 b3 b4
        go_enter Tryz.func90, Tryz.ntmps90
        go_wp2_with (go_at_call 115; refine (err_any _ _ _ _ _ h1).mono ?_; rintro e w1 ⟨rfl, rfl⟩)
        go_quiet ((go_at_call 118; exact get_quiet _ (some (n, k)) _ _ HGE.out hxs))
        simp only [gN, gK, Option.isSome]
        go_wp2_with (go_at_call 119; refine (fail_five b s a (w.drewN nq) (show ScanIs b s a 0 (w.drewN nq) from h1.kept rfl)).mono ?_; rintro e w1 ⟨rfl, hS, hG⟩)
        go_ret
        exact ⟨rfl, ⟨s, a, 5, hS, hs, ha, by omega, by simp⟩, grown_trans (grown_drewN w nq _) hG⟩
  · rw [if_neg h0] at hst
    subst hst
    have ht : ((e : Int) == 0) = false := by simp; omega
    go_enter Tryz.func90, Tryz.ntmps90
    go_wp2_with (go_at_call 115; refine (err_any _ _ _ _ _ h1).mono ?_; rintro e w1 ⟨rfl, rfl⟩)
    go_ret
    exact ⟨rfl, ⟨s, a, e, h1, hs, ha, he, by rw [if_neg h0]; rfl⟩, World.grownBy.refl w _⟩

theorem txtV_fix (most : Nat) (st : Option (List UInt8)) : txtV most st = fixV (numV most st) (numR most st) := by
  unfold txtV numV numR txtP fixV
  cases st with
  | none => rfl
  | some l =>
    simp only [Option.bind_some]
    cases numP most l with
    | none => rfl
    | some p =>
      simp only [Option.map_some]
      by_cases h : p.1 ≤ p.2.length
      · rw [if_pos h, if_pos h]
      · rw [if_neg h, if_neg h]
theorem txtR_fix (most : Nat) (st : Option (List UInt8)) : txtR most st = fixR (numV most st) (numR most st) := by
  unfold txtR numV numR txtP fixR
  cases st with
  | none => rfl
  | some l =>
    simp only [Option.bind_some]
    cases numP most l with
    | none => rfl
    | some p =>
      simp only [Option.map_some]
      by_cases h : p.1 ≤ p.2.length
      · rw [if_pos h, if_pos h]; rfl
      · rw [if_neg h, if_neg h]; rfl
theorem text_any (b : Nat) (st : Option (List UInt8)) (most : Nat) (w : World) (h : Sc b st w) (hm : most ≤ 4294967296) :
    Calls Tryz.prog 91 #[.pointer (some ⟨b, 0, none⟩), .int .i64 most] w fun x w' => x = .returned (.string (bs (txtV most st))) ∧ Sc b (txtR most st) w' ∧ w.grownBy w' (some b) := by
  rw [txtV_fix, txtR_fix]
  have HN := Lib.hid (num_any b st most w h hm)
  generalize numV most st = n at *
  generalize numR most st = st1 at *
  go_enter Tryz.func91, Tryz.ntmps91
  go_wp2_with (first | (go_at_call 90; refine HN.out.mono ?_; rintro e w1 ⟨rfl, hS, hG⟩) | (go_at_call 117; refine (take_any b st1 n w1 hS).mono ?_; rintro e w2 ⟨rfl, hS2, hG2⟩))
  go_ret
  exact ⟨rfl, hS2, grown_trans hG hG2⟩
theorem take_rest (b : Nat) (s : ByteArray) (a : Nat) (w : World) (h : ScanIs b s a 0 w) (hs : s.size ≤ 1048576) (ha : a ≤ s.size) :
    Calls Tryz.prog 117 #[.pointer (some ⟨b, 0, none⟩), .int .i64 ((s.size : Int) - (a : Int))] w fun x w' => x = .returned (.string (bs (s.data.toList.drop a))) ∧ Sc b (some []) w' ∧ w.grownBy w' (some b) := by
  have e : (s.size : Int) - (a : Int) = ((s.size - a : Nat) : Int) := by omega
  have e2 : bs (s.data.toList.drop a) = s.extract a (a + (s.size - a)) := by
    rw [← bs_of (s.extract a (a + (s.size - a))), extract_list, List.take_of_length_le (by simp)]
  rw [e, e2]
  exact (take_ok b s a (s.size - a) w h hs (by omega)).mono fun x w' ⟨q1, q2, q3⟩ => ⟨q1, ⟨s, _, 0, q2, hs, by omega, by omega, by rw [if_pos rfl, List.drop_of_length_le (by simp; omega)]⟩, q3⟩
def restV : Option (List UInt8) → List UInt8
  | none => []
  | some l => l
set_option maxHeartbeats 1600000 in
theorem rest_any (b : Nat) (st : Option (List UInt8)) (w : World) (h : Sc b st w) :
    Calls Tryz.prog 114 #[.pointer (some ⟨b, 0, none⟩)] w fun x w' => x = .returned (.string (bs (restV st))) ∧ Sc b (st.map fun _ => []) w' ∧ w.grownBy w' (some b) := by
  obtain ⟨s, a, e, h1, hs, ha, he, hst⟩ := h
  by_cases h0 : e = 0
  · subst h0
    rw [if_pos rfl] at hst
    subst hst
    have g0 := h1.text
    have g1 := h1.at_
    have e1 : IntKind.i64.wrap ((s.size : Int) - (a : Int)) = (s.size : Int) - a := IntWalk.i64_in _ (by omega)
    go_enter Tryz.func114, Tryz.ntmps114
    go_wp2_with (go_at_call 115; refine (err_any _ _ _ _ _ h1).mono ?_; rintro e w1 ⟨rfl, rfl⟩)
    go_region_with (go_at_call 117; refine (take_rest b s a w.drew (show ScanIs b s a 0 w.drew from h1.kept rfl) hs ha).mono ?_; rintro e w1 ⟨rfl, hS, hG⟩)
    all_goals go_wp2
    all_goals go_ret
    all_goals exact ⟨rfl, hS, ⟨hG.os, hG.tape, hG.output, hG.size, hG.block⟩⟩
  · rw [if_neg h0] at hst
    subst hst
    have ht : ((e : Int) == 0) = false := by simp; omega
    go_enter Tryz.func114, Tryz.ntmps114
    go_wp2_with (go_at_call 115; refine (err_any _ _ _ _ _ h1).mono ?_; rintro e w1 ⟨rfl, rfl⟩)
    go_ret
    exact ⟨rfl, ⟨s, a, e, h1, hs, ha, he, by rw [if_neg h0]; rfl⟩, World.grownBy.refl w _⟩
theorem err_quiet (b : Nat) (s : ByteArray) (a e : Nat) (w : World) (n : Nat) (h : ScanIs b s a e w) :
    Calls Tryz.prog 115 #[.pointer (some ⟨b, 0, none⟩)] (w.drewN n) fun x w'' => x = .returned (.int .i64 e) ∧ ∃ m, w'' = w.drewN m :=
  Calls.quiet_of_same ((err_any b s a e _ (show ScanIs b s a e (w.drewN n) from h.kept rfl)).mono fun _ _ q => ⟨q.1, q.2.symm⟩)
set_option maxHeartbeats 1600000 in
theorem end_any (b : Nat) (st : Option (List UInt8)) (w : World) (h : Sc b st w) :
    Calls Tryz.prog 92 #[.pointer (some ⟨b, 0, none⟩)] w fun x w' => ∃ k : Nat, x = .returned (.int .i64 k) ∧ (k = 0 ↔ st = some []) ∧ w.grownBy w' (some b) := by
  obtain ⟨s, a, e, h1, hs, ha, he, hst⟩ := h
  have g0 := h1.text
  have g1 := h1.at_
  have g2 := h1.fz
  have g3 := h1.err
  by_cases h0 : e = 0
  · subst h0
    rw [if_pos rfl] at hst
    subst hst
    by_cases hl : a < s.size
    · have hd : decide ((a : Int) < (s.size : Int)) = true := by simpa using hl
      have hli : (a : Int) < (s.size : Int) := by omega
      go_enter Tryz.func92, Tryz.ntmps92
      go_wp2
      go_quiet ((go_at_call 115; exact err_quiet b s a 0 _ _ h1))
      go_wp2_with (go_at_call 115; refine (err_any _ _ _ _ _ ((show ScanIs b s a 0 (w.drewN nq) from h1.kept rfl).setErr 3)).mono ?_; rintro e w1 ⟨rfl, rfl⟩)
      go_ret
      refine ⟨3, rfl, ?_, grown_set (grown_drewN w _ _) _ _⟩
      simp
      omega
    · have hd : decide ((a : Int) < (s.size : Int)) = false := by simpa using (by omega : s.size ≤ a)
      have hli : (s.size : Int) ≤ (a : Int) := by omega
      go_enter Tryz.func92, Tryz.ntmps92
      go_wp2
      go_quiet ((go_at_call 115; exact err_quiet b s a 0 _ _ h1))
      go_wp2_with (go_at_call 115; refine (err_any _ _ _ _ _ (show ScanIs b s a 0 (w.drewN nq) from h1.kept rfl)).mono ?_; rintro e w1 ⟨rfl, rfl⟩)
      go_ret
      refine ⟨0, rfl, ?_, grown_drewN w _ _⟩
      simp
      omega
  · rw [if_neg h0] at hst
    subst hst
    have ht : ((e : Int) == 0) = false := by simp; omega
    go_enter Tryz.func92, Tryz.ntmps92
    go_wp2
    go_quiet ((go_at_call 115; exact err_quiet b s a e _ _ h1))
    go_wp2_with (go_at_call 115; refine (err_any _ _ _ _ _ (show ScanIs b s a e (w.drewN nq) from h1.kept rfl)).mono ?_; rintro e w1 ⟨rfl, rfl⟩)
    go_ret
    exact ⟨e, rfl, by simp; omega, grown_drewN w _ _⟩
end Go.Proofs.YtfbakelpplpomaaGreatDoor.WalkScan
/-
  The walks of the scan's Byte, of PutNum, PutText, and of the document's fix, Num, Text, PutNum, PutText.
-/
namespace Go.Proofs.YtfbakelpplpomaaGreatDoor.WalkScan
open Go.RowKit Go.Proofs.YtfbakelpplpomaaGreatDoor.WalkVar
open Pl.Seat (numV numR txtV txtR numP txtP)
set_option linter.unusedVariables false
set_option linter.unusedSimpArgs false
set_option maxRecDepth 100000

theorem maxTwo (ats : Array TypeId) (ty : TypeId) (a b : Value) : Builtin.max_ ats ty #[a, b] = (Builtin.max2 a b >>= fun s => pure s) := by simp only [Builtin.max_, List.foldlM_cons, List.foldlM_nil]
theorem maxInt2 (k k' : IntKind) (x y : Int) : Builtin.max2 (.int k x) (.int k' y) = pure (.int k (if x < y then y else x)) := by simp only [Builtin.max2]
attribute [local go_sem] maxTwo

theorem putNum_any (n : Int) (w : World) (hn : n ≤ 9223372036854775807) :
    Calls Tryz.prog 62 #[.int .i64 n] w fun e w' => e = .returned (.string (bs (Pl.Seat.put n.toNat))) ∧ Below w.heap.size w w' := by
  have hmx : Builtin.max2 (.int .i64 n) (.int .i64 0) = pure (.int .i64 ((n.toNat : Nat) : Int)) := by
    rw [maxInt2]
    congr 2
    split <;> omega
  obtain ⟨m, hm⟩ : ∃ m, n.toNat = m := ⟨_, rfl⟩
  rw [hm] at hmx ⊢
  have hmi : (m : Int) ≤ 9223372036854775807 := by omega
  have hmn : m < 18446744073709551616 := by omega
  have HM := Lib.hid hmn
  clear hmn hm
  obtain ⟨P, hP⟩ : ∃ P, Pl.Seat.put m = P := ⟨_, rfl⟩
  rw [hP]
  have HP := Lib.hid hP
  clear hP
  go_enter Tryz.func62, Tryz.ntmps62
  go_wp2_with (go_at_call 96; refine (put_at m P _ HM.out HP.out).mono ?_; rintro e w1 ⟨rfl, hB⟩)
  go_ret
  exact ⟨rfl, hB⟩
theorem refPutNum_any (n : Int) (w : World) (hn : n ≤ 9223372036854775807) :
    Calls Tryz.prog 110 #[.int .i64 n] w fun e w' => e = .returned (.string (bs (Pl.Seat.put n.toNat))) ∧ Below w.heap.size w w' := by
  obtain ⟨P, hP⟩ : ∃ P, Pl.Seat.put n.toNat = P := ⟨_, rfl⟩
  rw [hP]
  have HP := Lib.hid hP
  clear hP
  rcases Int.lt_or_le n 0 with h | h
  · have e0 : n.toNat = 0 := by omega
    have HP0 : Hid (Pl.Seat.put 0 = P) := e0 ▸ HP
    have h0 : (0 : Nat) < 18446744073709551616 := by omega
    go_enter Tryz.func110, Tryz.ntmps110
    go_wp2_with (go_at_call 128; refine (refPut_at 0 P _ h0 HP0.out).mono ?_; rintro e w1 ⟨rfl, hB⟩)
    go_ret
    exact ⟨rfl, hB⟩
  · obtain ⟨m, rfl⟩ := Int.eq_ofNat_of_zero_le h
    have HP0 : Hid (Pl.Seat.put m = P) := HP
    have hmn : m < 18446744073709551616 := by omega
    have HM := Lib.hid hmn
    clear hmn
    go_enter Tryz.func110, Tryz.ntmps110
    go_wp2_with (go_at_call 128; refine (refPut_at m P _ HM.out HP0.out).mono ?_; rintro e w1 ⟨rfl, hB⟩)
    go_ret
    exact ⟨rfl, hB⟩
theorem putText_any (s : ByteArray) (w : World) (hs : s.size ≤ 1048576) :
    Calls Tryz.prog 63 #[.string s] w fun e w' => e = .returned (.string (bs (Pl.Seat.putT s.data.toList))) ∧ Below w.heap.size w w' := by
  obtain ⟨P, hP⟩ : ∃ P, Pl.Seat.put s.size = P := ⟨_, rfl⟩
  have hl : s.data.toList.length = s.size := by simp
  have e : bs (Pl.Seat.putT s.data.toList) = bs P ++ s := by
    unfold Pl.Seat.putT
    rw [hl, hP, ← bs_append, bs_of]
  rw [e]
  have hpl := Pl.Seat.put_le s.size
  rw [hP] at hpl
  have hz : ¬ (9223372036854775807 < (bs P).size + s.size) := by rw [bs_size]; omega
  have hsn : s.size < 18446744073709551616 := by omega
  have HS := Lib.hid hsn
  have HP := Lib.hid hP
  clear hP hl e hpl hsn
  go_enter Tryz.func63, Tryz.ntmps63
  go_wp2_with (go_at_call 96; refine (put_at s.size P _ HS.out HP.out).mono ?_; rintro e w1 ⟨rfl, hB⟩)
  go_ret
  exact ⟨rfl, hB⟩
theorem refPutText_any (s : ByteArray) (w : World) (hs : s.size ≤ 1048576) :
    Calls Tryz.prog 111 #[.string s] w fun e w' => e = .returned (.string (bs (Pl.Seat.putT s.data.toList))) ∧ Below w.heap.size w w' := by
  obtain ⟨P, hP⟩ : ∃ P, Pl.Seat.put s.size = P := ⟨_, rfl⟩
  have hl : s.data.toList.length = s.size := by simp
  have e : bs (Pl.Seat.putT s.data.toList) = bs P ++ s := by
    unfold Pl.Seat.putT
    rw [hl, hP, ← bs_append, bs_of]
  rw [e]
  have hpl := Pl.Seat.put_le s.size
  rw [hP] at hpl
  have hz : ¬ (9223372036854775807 < (bs P).size + s.size) := by rw [bs_size]; omega
  have hsn : s.size < 18446744073709551616 := by omega
  have HS := Lib.hid hsn
  have HP := Lib.hid hP
  clear hP hl e hpl hsn
  go_enter Tryz.func111, Tryz.ntmps111
  go_wp2_with (go_at_call 128; refine (refPut_at s.size P _ HS.out HP.out).mono ?_; rintro e w1 ⟨rfl, hB⟩)
  go_ret
  exact ⟨rfl, hB⟩

/-- the byte that a scan gives -/
def byteV : Option (List UInt8) → Nat
  | some (c :: _) => c.toNat
  | _ => 0
theorem byte_any (b : Nat) (st : Option (List UInt8)) (w : World) (h : Sc b st w) :
    Calls Tryz.prog 89 #[.pointer (some ⟨b, 0, none⟩)] w fun x w' => x = .returned (.int .i64 (byteV st : Nat)) ∧ Sc b (fixR 1 st) w' ∧ w.grownBy w' (some b) := by
  have HT := Lib.hid (take_any b st 1 w h)
  generalize hst : fixR 1 st = st1 at *
  cases st with
  | none =>
    have e : bs (fixV 1 none) = ⟨#[]⟩ := rfl
    rw [e] at HT
    go_enter Tryz.func89, Tryz.ntmps89
    go_wp2_with (go_at_call 117; refine HT.out.mono ?_; rintro e w1 ⟨rfl, hS, hG⟩)
    go_ret
    exact ⟨rfl, hS, hG⟩
  | some l =>
    cases l with
    | nil =>
      have e : bs (fixV 1 (some [])) = ⟨#[]⟩ := rfl
      rw [e] at HT
      go_enter Tryz.func89, Tryz.ntmps89
      go_wp2_with (go_at_call 117; refine HT.out.mono ?_; rintro e w1 ⟨rfl, hS, hG⟩)
      go_ret
      exact ⟨rfl, hS, hG⟩
    | cons c l =>
      have e : bs (fixV 1 (some (c :: l))) = ⟨#[c]⟩ := by simp [fixV, bs]
      rw [e] at HT
      go_enter Tryz.func89, Tryz.ntmps89
      go_wp2_with (go_at_call 117; refine HT.out.mono ?_; rintro e w1 ⟨rfl, hS, hG⟩)
      go_ret
      refine ⟨?_, hS, hG⟩
      show Ending.returned (Value.int .i64 (wrap64 (c.toNat : Int))) = Ending.returned (Value.int .i64 (c.toNat : Int))
      have hc := UInt8.toNat_lt c
      have : wrap64 (c.toNat : Int) = (c.toNat : Int) := by unfold wrap64; omega
      rw [this]

/-- the document's scan as a value, that has st left -/
def RSc (s : ByteArray) (v : Value) (st : Option (List UInt8)) : Prop :=
  ∃ (a e : Nat), v = .agg #[.string s, .int .i64 a, .int .i64 e] ∧ s.size ≤ 1048576 ∧ a ≤ s.size ∧ e ≤ 5 ∧ st = if e = 0 then some (s.data.toList.drop a) else none
set_option maxHeartbeats 1600000 in
theorem refFix_any (s : ByteArray) (v : Value) (st : Option (List UInt8)) (n : Nat) (w : World) (h : RSc s v st) :
    Calls Tryz.prog 127 #[v, .int .i64 n] w fun x w' => ∃ v', x = .returned (.tuple #[v', .string (bs (fixV n st))]) ∧ RSc s v' (fixR n st) ∧ Below w.heap.size w w' := by
  obtain ⟨a, e, rfl, hs, ha, he, hst⟩ := h
  by_cases h0 : e = 0
  · subst h0
    rw [if_pos rfl] at hst
    subst hst
    have hl : (s.data.toList.drop a).length = s.size - a := by simp
    have hd0 : decide ((n : Int) < 0) = false := by simp
    have hn0 : ¬ (n : Int) < 0 := by omega
    have hai : (a : Int) ≤ (s.size : Int) := by omega
    have hsi : (s.size : Int) ≤ 1048576 := by omega
    by_cases hn : a + n ≤ s.size
    · have e1 : fixV n (some (s.data.toList.drop a)) = (s.data.toList.drop a).take n := by simp only [fixV]; rw [if_pos (by omega)]
      have e2 : fixR n (some (s.data.toList.drop a)) = some (s.data.toList.drop (a + n)) := by simp only [fixR]; rw [if_pos (by omega), List.drop_drop]
      have e3 : bs ((s.data.toList.drop a).take n) = s.extract a (a + n) := by rw [← bs_of (s.extract a (a + n)), extract_list]; congr 2; omega
      rw [e1, e2, e3]
      have hd1 : decide ((s.size : Int) - (a : Int) < (n : Int)) = false := by simp; omega
      have hsn : (a : Int) + (n : Int) ≤ (s.size : Int) := by omega
      have q3 : (a : Int) ≤ (a : Int) + (n : Int) := by omega
      have q5 : ((a : Int) + (n : Int)).toNat = a + n := by omega
      have q6 : (0 : Int) ≤ (a : Int) + (n : Int) := by omega
      have HL : Hid (RSc s (.agg #[.string s, .int .i64 ((a : Int) + (n : Int)), .int .i64 0]) (some (s.data.toList.drop (a + n)))) := ⟨a + n, 0, rfl, hs, hn, by omega, by simp⟩
      clear e1 e2 e3 hl hn he
      go_enter Tryz.func127, Tryz.ntmps127
      go_wp2
      go_returns
      exact ⟨_, rfl, HL.out, ((Below.refl _ _).alloc (Nat.le_refl _) _).alloc (by simp) _⟩
    · have e1 : fixV n (some (s.data.toList.drop a)) = [] := by simp only [fixV]; rw [if_neg (by omega)]
      have e2 : fixR n (some (s.data.toList.drop a)) = none := by simp only [fixR]; rw [if_neg (by omega)]
      rw [e1, e2]
      have hd1 : decide ((s.size : Int) - (a : Int) < (n : Int)) = true := by simp; omega
      have hsn : (s.size : Int) < (a : Int) + (n : Int) := by omega
      have HL : Hid (RSc s (.agg #[.string s, .int .i64 (a : Int), .int .i64 3]) none) := ⟨a, 3, rfl, hs, ha, by omega, by simp⟩
      clear e1 e2 hl hn he
      go_enter Tryz.func127, Tryz.ntmps127
      go_wp2
      go_returns
      exact ⟨_, rfl, HL.out, ((Below.refl _ _).alloc (Nat.le_refl _) _).alloc (by simp) _⟩
  · rw [if_neg h0] at hst
    subst hst
    have ht : ((e : Int) == 0) = false := by simp; omega
    have HL : Hid (RSc s (.agg #[.string s, .int .i64 (a : Int), .int .i64 (e : Int)]) none) := ⟨a, e, rfl, hs, ha, he, by rw [if_neg h0]⟩
    go_enter Tryz.func127, Tryz.ntmps127
    go_wp2
    go_returns
    exact ⟨_, rfl, HL.out, ((Below.refl _ _).alloc (Nat.le_refl _) _).alloc (by simp) _⟩
/-- behind a call: the two blocks that were made ahead of it -/
theorem two_blocks {w w1 : World} {s : ByteArray} {a e : Int} {T : TypeId}
    (hB : Below ((w.alloc (.cells #[.string s, .int .i64 a, .int .i64 e] T)).alloc (.cells #[.string ⟨#[]⟩, .int .i64 0, .int .i64 0] T)).heap.size ((w.alloc (.cells #[.string s, .int .i64 a, .int .i64 e] T)).alloc (.cells #[.string ⟨#[]⟩, .int .i64 0, .int .i64 0] T)) w1) :
    (w1.cell? ⟨w.heap.size, 0, none⟩ = some (.string s) ∧ w1.cell? ⟨w.heap.size, 1, none⟩ = some (.int .i64 a) ∧ w1.cell? ⟨w.heap.size, 2, none⟩ = some (.int .i64 e) ∧ ∀ o, w1.frozen? ⟨w.heap.size, o, none⟩ = false) ∧
    (w1.cell? ⟨w.heap.size + 1, 0, none⟩ = some (.string ⟨#[]⟩) ∧ w1.cell? ⟨w.heap.size + 1, 1, none⟩ = some (.int .i64 0) ∧ w1.cell? ⟨w.heap.size + 1, 2, none⟩ = some (.int .i64 0) ∧ ∀ o, w1.frozen? ⟨w.heap.size + 1, o, none⟩ = false) ∧ Below w.heap.size w w1 ∧
    ((∀ o u v, ((w1.setCell ⟨w.heap.size, o, none⟩ u).setCell ⟨w.heap.size + 1, 0, none⟩ v).cell? ⟨w.heap.size + 1, 0, none⟩ = some v) ∧
     (∀ o u v x, (((w1.setCell ⟨w.heap.size, o, none⟩ u).setCell ⟨w.heap.size + 1, 0, none⟩ v).setCell ⟨w.heap.size + 1, 1, none⟩ x).cell? ⟨w.heap.size + 1, 1, none⟩ = some x) ∧
     (∀ o u v x y, ((((w1.setCell ⟨w.heap.size, o, none⟩ u).setCell ⟨w.heap.size + 1, 0, none⟩ v).setCell ⟨w.heap.size + 1, 1, none⟩ x).setCell ⟨w.heap.size + 1, 2, none⟩ y).cell? ⟨w.heap.size + 1, 2, none⟩ = some y)) := by
  have h0 : ∀ o, w1.cell? ⟨w.heap.size, o, none⟩ = _ := fun o => World.cell?_of_block (hB.block w.heap.size (by simp; omega))
  have h1 : ∀ o, w1.cell? ⟨w.heap.size + 1, o, none⟩ = _ := fun o => World.cell?_of_block (hB.block (w.heap.size + 1) (by simp))
  have f0 : ∀ o, w1.frozen? ⟨w.heap.size, o, none⟩ = _ := fun o => World.frozen?_of_block (hB.block w.heap.size (by simp; omega))
  have f1 : ∀ o, w1.frozen? ⟨w.heap.size + 1, o, none⟩ = _ := fun o => World.frozen?_of_block (hB.block (w.heap.size + 1) (by simp))
  have d0 : w1.cell? ⟨w.heap.size + 1, 0, none⟩ = some (.string ⟨#[]⟩) := by rw [h1]; go_simp
  have d1 : w1.cell? ⟨w.heap.size + 1, 1, none⟩ = some (.int .i64 0) := by rw [h1]; go_simp
  have d2 : w1.cell? ⟨w.heap.size + 1, 2, none⟩ = some (.int .i64 0) := by rw [h1]; go_simp
  refine ⟨⟨by rw [h0]; go_simp, by rw [h0]; go_simp, by rw [h0]; go_simp, fun o => by rw [f0]; go_simp⟩, ⟨d0, d1, d2, fun o => by rw [f1]; go_simp⟩, ?_, ?_, ?_, ?_⟩
  · exact (((Below.refl _ _).alloc (Nat.le_refl _) _).alloc (by simp) _).trans (hB.mono (by simp; omega))
  · intro o u v
    exact World.cell?_setCell_same _ _ _ (by rw [World.cell?_setCell_other _ _ _ _ (by simp)]; exact d0)
  · intro o u v x
    exact World.cell?_setCell_same _ _ _ (by rw [World.cell?_setCell_other _ _ _ _ (by simp), World.cell?_setCell_other _ _ _ _ (by simp)]; exact d1)
  · intro o u v x y
    exact World.cell?_setCell_same _ _ _ (by rw [World.cell?_setCell_other _ _ _ _ (by simp), World.cell?_setCell_other _ _ _ _ (by simp), World.cell?_setCell_other _ _ _ _ (by simp)]; exact d2)
set_option maxHeartbeats 1600000 in
theorem refNum_any (s : ByteArray) (v : Value) (st : Option (List UInt8)) (most : Nat) (w : World) (h : RSc s v st) (hm : most ≤ 4294967296) :
    Calls Tryz.prog 105 #[v, .int .i64 most] w fun x w' => ∃ v', x = .returned (.tuple #[v', .int .i64 (numV most st : Nat)]) ∧ RSc s v' (numR most st) ∧ Below w.heap.size w w' := by
  obtain ⟨a, e, rfl, hs, ha, he, hst⟩ := h
  by_cases h0 : e = 0
  · subst h0
    rw [if_pos rfl] at hst
    subst hst
    obtain ⟨o, ho⟩ : ∃ o, Pl.Seat.get (s.data.toList.drop a) = o := ⟨_, rfl⟩
    have hge : Pl.Seat.get (s.extract a s.size).data.toList = o := by rw [extract_list, List.take_of_length_le (by simp)]; exact ho
    have HGE := Lib.hid hge
    clear hge
    have hxs : (s.extract a s.size).size ≤ 9223372036854775806 := by rw [ByteArray.size_extract]; omega
    have hai : (a : Int) ≤ (s.size : Int) := by omega
    have hsi : (s.size : Int) ≤ 1048576 := by omega
    have hmi : ¬ (most : Int) < 0 := by omega
    have hmi2 : (most : Int) ≤ 4294967296 := by omega
    cases o with
    | none =>
      have hv : numV most (some (s.data.toList.drop a)) = 0 := by unfold numV numP; simp [ho]
      have hr : numR most (some (s.data.toList.drop a)) = none := by unfold numR numP; simp [ho]
      rw [hv, hr]
      have HL : Hid (RSc s (.agg #[.string s, .int .i64 (a : Int), .int .i64 3]) none) := ⟨a, 3, rfl, hs, ha, by omega, by simp⟩
      clear hv hr ho he
      go_enter Tryz.func105, Tryz.ntmps105
      go_wp2_with (go_at_call 126; refine (refGet_at _ none _ HGE.out hxs).mono ?_; rintro e w1 ⟨rfl, hB⟩; obtain ⟨⟨c0, c1, c2, c3⟩, ⟨d0, d1, d2, d3⟩, hBw, k0, k1, k2⟩ := two_blocks hB; clear hB)
      try simp only [Exit.inBlock, Exit.then]
      refine bodyPost_ret (by simp [results, Tryz.results105, k0, k1, k2, go_sem]; try rfl) rfl ?_
      exact ⟨_, rfl, HL.out, (((((hBw.setCell (p := ⟨w.heap.size, 2, none⟩) (Nat.le_refl _) _).setCell (p := ⟨w.heap.size + 1, 0, none⟩) (Nat.le_succ _) _)).setCell (p := ⟨w.heap.size + 1, 1, none⟩) (Nat.le_succ _) _)).setCell (p := ⟨w.heap.size + 1, 2, none⟩) (Nat.le_succ _) _⟩
    | some p =>
      obtain ⟨n, k⟩ := p
      obtain ⟨b1, b2, b3, b4⟩ := Pl.Seat.get_some ho
      rw [List.length_drop] at b4
      have hsz : s.data.toList.length = s.size := by simp
      by_cases hn : n ≤ most
      · have hv : numV most (some (s.data.toList.drop a)) = n := by unfold numV numP; simp [ho, hn]
        have hr : numR most (some (s.data.toList.drop a)) = some (s.data.toList.drop (a + k)) := by unfold numR numP; simp [ho, hn]
        rw [hv, hr]
        have hni : (n : Int) ≤ (most : Int) := by omega
        have hka : a + k ≤ s.size := by omega
        have hkai : (a : Int) + (k : Int) ≤ (s.size : Int) := by omega
        have HL : Hid (RSc s (.agg #[.string s, .int .i64 ((a : Int) + (k : Int)), .int .i64 0]) (some (s.data.toList.drop (a + k)))) := ⟨a + k, 0, rfl, hs, hka, by omega, by simp⟩
        clear hv hr ho b1 b2 b3 b4 he hka hn
        go_enter Tryz.func105, Tryz.ntmps105
        go_wp2_with (go_at_call 126; refine (refGet_at _ (some (n, k)) _ HGE.out hxs).mono ?_; rintro e w1 ⟨rfl, hB⟩; simp only [gN, gK, Option.isSome]; obtain ⟨⟨c0, c1, c2, c3⟩, ⟨d0, d1, d2, d3⟩, hBw, k0, k1, k2⟩ := two_blocks hB; clear hB)
        try simp only [Exit.inBlock, Exit.then]
        refine bodyPost_ret (by simp [results, Tryz.results105, k0, k1, k2, go_sem]; try rfl) rfl ?_
        exact ⟨_, rfl, HL.out, (((((hBw.setCell (p := ⟨w.heap.size, 1, none⟩) (Nat.le_refl _) _).setCell (p := ⟨w.heap.size + 1, 0, none⟩) (Nat.le_succ _) _)).setCell (p := ⟨w.heap.size + 1, 1, none⟩) (Nat.le_succ _) _)).setCell (p := ⟨w.heap.size + 1, 2, none⟩) (Nat.le_succ _) _⟩
      · have hv : numV most (some (s.data.toList.drop a)) = 0 := by unfold numV numP; simp [ho, hn]
        have hr : numR most (some (s.data.toList.drop a)) = none := by unfold numR numP; simp [ho, hn]
        rw [hv, hr]
        have hni : (most : Int) < (n : Int) := by omega
        have HL : Hid (RSc s (.agg #[.string s, .int .i64 (a : Int), .int .i64 5]) none) := ⟨a, 5, rfl, hs, ha, by omega, by simp⟩
        clear hv hr ho b1 b2 b3 b4 he hn
        go_enter Tryz.func105, Tryz.ntmps105
        go_wp2_with (go_at_call 126; refine (refGet_at _ (some (n, k)) _ HGE.out hxs).mono ?_; rintro e w1 ⟨rfl, hB⟩; simp only [gN, gK, Option.isSome]; obtain ⟨⟨c0, c1, c2, c3⟩, ⟨d0, d1, d2, d3⟩, hBw, k0, k1, k2⟩ := two_blocks hB; clear hB)
        try simp only [Exit.inBlock, Exit.then]
        refine bodyPost_ret (by simp [results, Tryz.results105, k0, k1, k2, go_sem]; try rfl) rfl ?_
        exact ⟨_, rfl, HL.out, (((((hBw.setCell (p := ⟨w.heap.size, 2, none⟩) (Nat.le_refl _) _).setCell (p := ⟨w.heap.size + 1, 0, none⟩) (Nat.le_succ _) _)).setCell (p := ⟨w.heap.size + 1, 1, none⟩) (Nat.le_succ _) _)).setCell (p := ⟨w.heap.size + 1, 2, none⟩) (Nat.le_succ _) _⟩
  · rw [if_neg h0] at hst
    subst hst
    have ht : ((e : Int) == 0) = false := by simp; omega
    have HL : Hid (RSc s (.agg #[.string s, .int .i64 (a : Int), .int .i64 (e : Int)]) none) := ⟨a, e, rfl, hs, ha, he, by rw [if_neg h0]⟩
    go_enter Tryz.func105, Tryz.ntmps105
    go_wp2
    go_returns
    exact ⟨_, rfl, HL.out, ((Below.refl _ _).alloc (Nat.le_refl _) _).alloc (by simp) _⟩

theorem stored3 {W : World} {b : Nat} (h : ∀ i, i < 3 → ∃ x, W.cell? ⟨b, i, none⟩ = some x) :
    (∀ v, (W.setCell ⟨b, 0, none⟩ v).cell? ⟨b, 0, none⟩ = some v) ∧ (∀ v x, ((W.setCell ⟨b, 0, none⟩ v).setCell ⟨b, 1, none⟩ x).cell? ⟨b, 1, none⟩ = some x) ∧
    (∀ v x y, (((W.setCell ⟨b, 0, none⟩ v).setCell ⟨b, 1, none⟩ x).setCell ⟨b, 2, none⟩ y).cell? ⟨b, 2, none⟩ = some y) := by
  obtain ⟨x0, h0⟩ := h 0 (by omega)
  obtain ⟨x1, h1⟩ := h 1 (by omega)
  obtain ⟨x2, h2⟩ := h 2 (by omega)
  refine ⟨fun v => World.cell?_setCell_same _ _ _ h0, fun v x => World.cell?_setCell_same _ _ _ (by rw [World.cell?_setCell_other _ _ _ _ (by simp)]; exact h1), fun v x y => World.cell?_setCell_same _ _ _ (by rw [World.cell?_setCell_other _ _ _ _ (by simp), World.cell?_setCell_other _ _ _ _ (by simp)]; exact h2)⟩
theorem three {W : World} {b : Nat} {x y z : Value} (h0 : W.cell? ⟨b, 0, none⟩ = some x) (h1 : W.cell? ⟨b, 1, none⟩ = some y) (h2 : W.cell? ⟨b, 2, none⟩ = some z) : ∀ i, i < 3 → ∃ x, W.cell? ⟨b, i, none⟩ = some x := fun i hi => by
  have : i = 0 ∨ i = 1 ∨ i = 2 := by omega
  rcases this with rfl | rfl | rfl
  · exact ⟨_, h0⟩
  · exact ⟨_, h1⟩
  · exact ⟨_, h2⟩
theorem three_other {W : World} {b c : Nat} (hne : c ≠ b) (h : ∀ i, i < 3 → ∃ x, W.cell? ⟨b, i, none⟩ = some x) (o : Nat) (v : Value) : ∀ i, i < 3 → ∃ x, (W.setCell ⟨c, o, none⟩ v).cell? ⟨b, i, none⟩ = some x := fun i hi => by
  rw [World.cell?_setCell_other _ _ _ _ (by simp only [ne_eq, Addr.mk.injEq, not_and]; intro e; omega)]
  exact h i hi
theorem carry {W w2 : World} {b : Nat} (hB : Below W.heap.size W w2) (hD : ∀ i, i < 3 → ∃ x, W.cell? ⟨b, i, none⟩ = some x) (hf : ∀ o, W.frozen? ⟨b, o, none⟩ = false) :
    (∀ i, i < 3 → ∃ x, w2.cell? ⟨b, i, none⟩ = some x) ∧ (∀ o, w2.frozen? ⟨b, o, none⟩ = false) := by
  obtain ⟨x, hx⟩ := hD 0 (by omega)
  have hb := hB.block b (World.block_lt_of_cell? W _ hx)
  exact ⟨fun i hi => by rw [World.cell?_of_block (w := W) (a := ⟨b, i, none⟩) hb]; exact hD i hi, fun o => by rw [World.frozen?_of_block (w := W) (a := ⟨b, o, none⟩) hb]; exact hf o⟩
theorem each {W : World} {b : Nat} (h : ∀ i, i < 3 → ∃ x, W.cell? ⟨b, i, none⟩ = some x) : ∃ x y z, W.cell? ⟨b, 0, none⟩ = some x ∧ W.cell? ⟨b, 1, none⟩ = some y ∧ W.cell? ⟨b, 2, none⟩ = some z := by
  obtain ⟨x, hx⟩ := h 0 (by omega)
  obtain ⟨y, hy⟩ := h 1 (by omega)
  obtain ⟨z, hz⟩ := h 2 (by omega)
  exact ⟨x, y, z, hx, hy, hz⟩
set_option maxHeartbeats 3200000 in
theorem refText_any (s : ByteArray) (v : Value) (st : Option (List UInt8)) (most : Nat) (w : World) (h : RSc s v st) (hm : most ≤ 4294967296) :
    Calls Tryz.prog 106 #[v, .int .i64 most] w fun x w' => ∃ v', x = .returned (.tuple #[v', .string (bs (txtV most st))]) ∧ RSc s v' (txtR most st) ∧ Below w.heap.size w w' := by
  rw [txtV_fix, txtR_fix]
  have HN := Lib.hid (fun w => refNum_any s v st most w h hm)
  obtain ⟨n, hn⟩ : ∃ n, numV most st = n := ⟨_, rfl⟩
  obtain ⟨st1, hst1⟩ : ∃ st1, numR most st = st1 := ⟨_, rfl⟩
  rw [hn, hst1] at HN ⊢
  clear hn hst1
  obtain ⟨a, e, rfl, hs, ha, he, hst⟩ := h
  cases st1 with
  | none =>
    go_enter Tryz.func106, Tryz.ntmps106
    go_wp2_with (go_at_call 105; refine (HN.out _).mono ?_; rintro e w1 ⟨v', rfl, ⟨a1, e1, rfl, hs1, ha1, he1, hst1⟩, hB⟩; obtain ⟨⟨c0, c1, c2, c3⟩, ⟨d0, d1, d2, d3⟩, hBw, _⟩ := two_blocks hB; clear hB; obtain ⟨m0, m1, m2⟩ := stored3 (three c0 c1 c2); have ht : ((e1 : Int) == 0) = false := (by by_cases h : e1 = 0; (rw [if_pos h] at hst1; simp at hst1); (simp; omega)); obtain ⟨k0, k1, k2⟩ := stored3 (three_other (c := w.heap.size) (by omega) (three_other (c := w.heap.size) (by omega) (three_other (c := w.heap.size) (by omega) (three d0 d1 d2) 0 (.string s)) 1 (.int .i64 a1)) 2 (.int .i64 e1)))
    refine bodyPost_ret (by simp [results, Tryz.results106, k0, k1, k2, go_sem]; try rfl) rfl ?_
    refine ⟨_, rfl, ⟨a1, e1, rfl, hs1, ha1, he1, by simpa [fixR] using hst1⟩, ?_⟩
    exact (((((((hBw.setCell (p := ⟨w.heap.size, 0, none⟩) (Nat.le_refl _) _).setCell (p := ⟨w.heap.size, 1, none⟩) (Nat.le_refl _) _).setCell (p := ⟨w.heap.size, 2, none⟩) (Nat.le_refl _) _).setCell (p := ⟨w.heap.size + 1, 0, none⟩) (Nat.le_succ _) _)).setCell (p := ⟨w.heap.size + 1, 1, none⟩) (Nat.le_succ _) _)).setCell (p := ⟨w.heap.size + 1, 2, none⟩) (Nat.le_succ _) _
  | some l =>
    go_enter Tryz.func106, Tryz.ntmps106
    go_wp2_with (first | (go_at_call 105; refine (HN.out _).mono ?_; rintro e w1 ⟨v', rfl, ⟨a1, e1, rfl, hs1, ha1, he1, hst1⟩, hB⟩; obtain ⟨⟨c0, c1, c2, c3⟩, ⟨d0, d1, d2, d3⟩, hBw, _⟩ := two_blocks hB; have hsz := hB.size; clear hB; obtain ⟨m0, m1, m2⟩ := stored3 (three c0 c1 c2); have ht : e1 = 0 := (by by_cases h : e1 = 0; exact h; (rw [if_neg h] at hst1; simp at hst1)); subst ht; have hD := three_other (c := w.heap.size) (b := w.heap.size + 1) (by omega) (three_other (c := w.heap.size) (by omega) (three_other (c := w.heap.size) (by omega) (three d0 d1 d2) 0 (.string s)) 1 (.int .i64 a1)) 2 (.int .i64 0)) | (go_at_call 127; refine (refFix_any _ _ (some l) n _ ⟨a1, 0, rfl, hs1, ha1, he1, hst1⟩).mono ?_; rintro e w2 ⟨v'', rfl, ⟨a2, e2, rfl, hs2, ha2, he2, hst2⟩, hB2⟩; obtain ⟨hD2, f2⟩ := carry hB2 hD (fun o => by rw [World.frozen?_setCell, World.frozen?_setCell, World.frozen?_setCell]; exact d3 o); obtain ⟨k0, k1, k2⟩ := stored3 hD2; obtain ⟨x, y, z, g0, g1, g2⟩ := each hD2))
    refine bodyPost_ret (by simp [results, Tryz.results106, k0, k1, k2, go_sem]; try rfl) rfl ?_
    have hl : l = s.data.toList.drop a1 := by simpa using hst1
    refine ⟨_, by rw [hl], ⟨a2, e2, rfl, hs2, ha2, he2, hst2⟩, ?_⟩
    have hb3 := ((hBw.setCell (p := ⟨w.heap.size, 0, none⟩) (Nat.le_refl _) (.string s)).setCell (p := ⟨w.heap.size, 1, none⟩) (Nat.le_refl _) (.int .i64 a1)).setCell (p := ⟨w.heap.size, 2, none⟩) (Nat.le_refl _) (.int .i64 0)
    have hb4 := hb3.trans (hB2.mono hb3.size)
    exact (((hb4.setCell (p := ⟨w.heap.size + 1, 0, none⟩) (Nat.le_succ _) _)).setCell (p := ⟨w.heap.size + 1, 1, none⟩) (Nat.le_succ _) _).setCell (p := ⟨w.heap.size + 1, 2, none⟩) (Nat.le_succ _) _
end Go.Proofs.YtfbakelpplpomaaGreatDoor.WalkScan
