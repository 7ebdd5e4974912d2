/-
  The walk of LogSafe: the inputs that are tried.
-/
import Derived.Test.YtgdedimoblpgbaaLogZE
namespace Go.Proofs.Ytgdedimoblpgbaa.Disk
open Go.RowKit Go.Proofs.Ytgdedimoblpgbaa.DiskRows
set_option linter.unusedVariables false
set_option linter.unusedSimpArgs false
set_option maxRecDepth 100000

theorem text_any (bl b first most : Nat) (t : ByteArray) (w : World) (h : LogAt bl b first most t w) :
    Calls Try.prog 16 #[.pointer (some ⟨bl, 0, none⟩)] w fun x w' => x = .returned (.string t) ∧ w = w' := by
  obtain ⟨⟨x0, x1, x2, x3⟩, f⟩ := h.cells
  clear h f
  go_enter Try.func16, Try.ntmps16
  go_wp2
  go_ret
  exact ⟨rfl, rfl⟩
set_option maxHeartbeats 12800000 in
theorem logSafe_in (a b : ByteArray) (step : Nat) (A : Option Addr) (c : Nat) (l : List Int) (w : World) (ha : a.size ≤ 1000) (hb : b.size ≤ 1000) (hl : Nums w A l) (hn : l.length ≤ 100) (hw : ∀ z ∈ l, (Lit.int .i64 z).wf = true) (hst : (step : Int) ≤ 9223372036854775807) :
    Calls Try.prog 4 #[.string a, .string b, .int .i64 (step : Nat), .slice A l.length c] w fun x w' => x = .returned (.bool true) ∧ Below w.heap.size w w' := by
  obtain ⟨N, hN⟩ : ∃ N : Nat, 24 = N := ⟨_, rfl⟩
  have hnew : ∀ W, Calls Try.prog 6 #[.int .i64 24] W fun x w' => (∃ b, x = .returned (.tuple #[.pointer (some ⟨b, 0, none⟩), .int .i64 0]) ∧ DiskAt (lo W.heap.size) b (fresh N) w') ∧ Below W.heap.size W w' := fun W => by
    rw [← hN]; exact new_ok 24 W (by omega) (by omega)
  obtain ⟨q1, hq1⟩ : ∃ q, growV (fresh N) 2 22 ByteArray.empty a = q := ⟨_, rfl⟩
  obtain ⟨d2, hd2⟩ : ∃ q, q1.1.flush.1 = q := ⟨_, rfl⟩
  obtain ⟨d3, hd3⟩ : ∃ q, (d2.arm (step : Int)).1 = q := ⟨_, rfl⟩
  obtain ⟨q4, hq4⟩ : ∃ q, growV d3 2 22 a b = q := ⟨_, rfl⟩
  have hall := logSafe_all a b step l N 2 22 (by omega) (by omega) ha hb q1 q4 d2 d3 hq1 hd2 hd3 hq4
  obtain ⟨d1, t1, e1⟩ := q1
  obtain ⟨hq0, hf0, ho1, ho2, ho3, hend⟩ := hall
  obtain ⟨rfl, rfl⟩ : t1 = a ∧ e1 = 0 := by simpa using hq0
  have HNew := Lib.hid hnew
  have HN := Lib.hid hN
  have HA := Lib.hid (And.intro ha (And.intro hb hn))
  have HE := Lib.hid (And.intro hq1 (And.intro hd2 (And.intro hd3 hq4)))
  have HO := Lib.hid (And.intro ho1 (And.intro ho2 ho3))
  have HF := Lib.hid (And.intro hf0 hend)
  have HL := Lib.hid hl
  have HW := Lib.hid hw
  have a1 : (t1.size : Int) ≤ 1000 := by omega
  have b1 : (b.size : Int) ≤ 1000 := by omega
  have n1 : (l.length : Int) ≤ 100 := by omega
  clear hnew hN ha hb hn hq1 hd2 hd3 hq4 ho1 ho2 ho3 hf0 hend hl hw hq0
  go_enter Try.func4, Try.ntmps4
  go_wp2_with fail
  refine (HNew.out w).mono ?_
  rintro x w1 ⟨⟨b', rfl, hd⟩, k1⟩
  have HD := Lib.hid (And.intro hd k1)
  clear hd k1
  go_wp2_with fail
  refine (openNil_any _ b' 2 22 (fresh N) w1 HD.out.1 (by simp [fresh]; have := HN.out; omega)).mono ?_
  rintro x w2 ⟨⟨bl, rfl, hl, hbb⟩, k2⟩
  have HL2 := Lib.hid (Lh.start HD.out.1 HD.out.2 k2 hl hbb)
  clear hl hbb k2
  go_wp2_with fail
  refine (HL2.out.grow t1 (by omega) (by omega) (by simp) (by simp [fresh]) (by simp [fresh]) (by omega) _ HE.out.1).mono ?_
  rintro x w3 ⟨rfl, hl3⟩
  have HL3 := Lib.hid hl3
  clear hl3
  have hfl := HL3.out.on (fun F h1 h2 => flush_any F b' d1 w3 h1 (by have := HO.out.1; omega) h2)
  rw [show d1.flush.2 = 0 from HF.out.1, show d1.flush.1 = d2 from HE.out.2.1] at hfl
  have HFl := Lib.hid hfl
  clear hfl
  go_wp2_with fail
  refine HFl.out.mono ?_
  rintro x w4 ⟨rfl, hl4⟩
  have HL4 := Lib.hid hl4
  clear hl4
  obtain ⟨ea, hea⟩ : ∃ e, (d2.arm (step : Int)).2 = e := ⟨_, rfl⟩
  have har := HL4.out.on (fun F h1 h2 => arm_any F b' d2 w4 h1 step hst)
  rw [show (d2.arm (step : Int)).1 = d3 from HE.out.2.2.1, hea] at har
  have HAr := Lib.hid har
  clear har hea
  go_wp2_with fail
  refine HAr.out.mono ?_
  rintro x w5 ⟨rfl, hl5⟩
  have HL5 := Lib.hid hl5
  clear hl5
  go_wp2_with fail
  refine (HL5.out.grow b (by omega) (by omega) (by omega) (by have := HO.out.2.2; omega) (by have := HO.out.2.2; omega) (by omega) _ HE.out.2.2.2).mono ?_
  rintro x w6 ⟨rfl, hl6⟩
  have HL6 := Lib.hid hl6
  clear hl6
  obtain ⟨e6, he6⟩ : ∃ e, q4.2.2 = e := ⟨_, rfl⟩
  rw [he6]
  clear he6
  have hcr := HL6.out.on (fun F h1 h2 => crash_ok F b' q4.1 w6 h1 h2 A c l (HL.out.later HL6.out.bel) (by omega) HW.out)
  have HCr := Lib.hid hcr
  clear hcr
  go_wp2_with fail
  refine HCr.out.mono ?_
  rintro x w7 ⟨rfl, hl7⟩
  have HL7 := Lib.hid hl7
  clear hl7
  have hbo := HL7.out.on (fun F h1 h2 => boot_ok F b' (q4.1.crash l) w7 h1 h2)
  have HBo := Lib.hid hbo
  clear hbo
  go_wp2_with fail
  refine HBo.out.mono ?_
  rintro x w8 ⟨rfl, hl8⟩
  obtain ⟨F8, h1, h2, h3, h4⟩ := hl8.ex
  have HD8 := Lib.hid (And.intro h1 (And.intro h2 (And.intro h4 hl8.bel)))
  clear h1 h2 h3 h4 hl8
  obtain ⟨d8, hd8⟩ : ∃ d8, (q4.1.crash l).boot = d8 := ⟨_, rfl⟩
  have hD8 : DiskAt F8 b' d8 w8 := by rw [← hd8]; exact HD8.out.1
  have HDD := Lib.hid hD8
  have hS8 : SafeEnd t1 N 2 d8 := by rw [← hd8]; exact HF.out.2
  have HS8 := Lib.hid hS8
  clear hD8 hd8 hS8
  go_wp2_with fail
  refine (open_any F8 b' 2 22 t1.size (secs t1.size) d8 w8 HDD.out HD8.out.2.1 HS8.out.down (by rw [HS8.out.len.1]; have := HN.out; omega) rfl (by have := HA.out; unfold secs; omega) HS8.out.ops (by rw [HS8.out.len.1, HS8.out.len.2]) HS8.out.sz.H t1 HS8.out.text).mono ?_
  rintro x w9 ⟨⟨bm, rfl, hlm⟩, k9⟩
  have HLm := Lib.hid hlm
  have HK9 := Lib.hid (k9.bel0 HD8.out.2.2.2 HD8.out.2.2.1)
  clear hlm k9
  go_wp2_with fail
  refine (text_any bm b' 2 22 t1 w9 HLm.out).mono ?_
  rintro x w10 ⟨rfl, rfl⟩
  go_wp2_with fail
  refine (awake15_any w9).mono ?_
  rintro x w10 ⟨rfl, k10⟩
  go_wp2
  go_ret
  exact ⟨rfl, HK9.out.trans (k10.mono HK9.out.size)⟩
set_option maxHeartbeats 6400000 in
theorem logSafe_out (a b : ByteArray) (step : Int) (A : Option Addr) (c n : Nat) (w : World) (ha : (a.size : Int) ≤ 9223372036854775807) (hb : (b.size : Int) ≤ 9223372036854775807) (hnn : (n : Int) ≤ 9223372036854775807) (hn : ¬ ((a.size : Int) ≤ 1000 ∧ (b.size : Int) ≤ 1000 ∧ (n : Int) ≤ 100 ∧ 0 ≤ step)) :
    Calls Try.prog 4 #[.string a, .string b, .int .i64 step, .slice A n c] w fun x w' => x = .returned (.bool true) ∧ Below w.heap.size w w' := by
  obtain ⟨na, hna⟩ : ∃ n : Int, (a.size : Int) = n := ⟨_, rfl⟩
  obtain ⟨nb, hnb⟩ : ∃ n : Int, (b.size : Int) = n := ⟨_, rfl⟩
  obtain ⟨nk, hnk⟩ : ∃ m : Int, (n : Int) = m := ⟨_, rfl⟩
  rw [hna] at ha hn
  rw [hnb] at hb hn
  rw [hnk] at hnn hn
  have h0 : 0 ≤ na := by omega
  have h1 : 0 ≤ nb := by omega
  have h2 : 0 ≤ nk := by omega
  by_cases qa : 1000 < na
  · clear hn
    go_enter Try.func4, Try.ntmps4
    go_wp2_with fail
    refine (awake15_any _).mono ?_
    rintro x w2 ⟨rfl, b2⟩
    go_wp2
    go_ret
    exact ⟨rfl, b2⟩
  · by_cases qb : 1000 < nb
    · clear hn
      go_enter Try.func4, Try.ntmps4
      go_wp2_with fail
      refine (awake15_any _).mono ?_
      rintro x w2 ⟨rfl, b2⟩
      go_wp2
      go_ret
      exact ⟨rfl, b2⟩
    · by_cases qm : 100 < nk
      · clear hn
        go_enter Try.func4, Try.ntmps4
        go_wp2_with fail
        refine (awake15_any _).mono ?_
        rintro x w2 ⟨rfl, b2⟩
        go_wp2
        go_ret
        exact ⟨rfl, b2⟩
      · have qn : step < 0 := by omega
        clear hn
        go_enter Try.func4, Try.ntmps4
        go_wp2_with fail
        refine (awake15_any _).mono ?_
        rintro x w2 ⟨rfl, b2⟩
        go_wp2
        go_ret
        exact ⟨rfl, b2⟩
theorem logSafe_walk (a b : ByteArray) (step : Int) (A : Option Addr) (c : Nat) (l : List Int) (w : World) (ha : (a.size : Int) ≤ 9223372036854775807) (hb : (b.size : Int) ≤ 9223372036854775807) (hs : step ≤ 9223372036854775807) (hl : Nums w A l) (hn : (l.length : Int) ≤ 9223372036854775807) (hw : ∀ z ∈ l, (Lit.int .i64 z).wf = true) :
    Calls Try.prog 4 #[.string a, .string b, .int .i64 step, .slice A l.length c] w fun x w' => x = .returned (.bool true) ∧ Below w.heap.size w w' := by
  by_cases q : (a.size : Int) ≤ 1000 ∧ (b.size : Int) ≤ 1000 ∧ (l.length : Int) ≤ 100 ∧ 0 ≤ step
  · obtain ⟨M, rfl⟩ : ∃ M : Nat, step = M := ⟨step.toNat, by omega⟩
    exact logSafe_in a b M A c l w (by omega) (by omega) hl (by omega) hw hs
  · exact logSafe_out a b step A c l.length w ha hb hn q
end Go.Proofs.Ytgdedimoblpgbaa.Disk
