/-
  The walk of LogWrites: the inputs that are tried.
-/
import Derived.Test.YtgdedimoblpgbaaLogW
namespace Go.Proofs.Ytgdedimoblpgbaa.Disk
open Go.RowKit Go.Proofs.Ytgdedimoblpgbaa.DiskRows
set_option linter.unusedVariables false
set_option linter.unusedSimpArgs false
set_option maxRecDepth 100000

theorem secs_small (n : Nat) : secs n ≤ n + 1 := by
  unfold secs
  omega
set_option maxHeartbeats 12800000 in
theorem logWrites_in (a b : ByteArray) (M : Nat) (w : World) (ha : a.size ≤ 1000) (hb : b.size ≤ 1000) (hm : M ≤ 14) :
    Calls Try.prog 3 #[.string a, .string b, .int .i64 (M : Nat)] w fun x w' => x = .returned (.bool true) ∧ Below w.heap.size w w' := by
  obtain ⟨N, hN⟩ : ∃ N : Nat, 16 = N := ⟨_, rfl⟩
  have hnew : ∀ W, Calls Try.prog 6 #[.int .i64 16] W fun x w' => (∃ b, x = .returned (.tuple #[.pointer (some ⟨b, 0, none⟩), .int .i64 0]) ∧ DiskAt (lo W.heap.size) b (fresh N) w') ∧ Below W.heap.size W w' := fun W => by
    rw [← hN]; exact new_ok 16 W (by omega) (by omega)
  have HNew := Lib.hid hnew
  have HN := Lib.hid hN
  have HA := Lib.hid (And.intro ha (And.intro hb hm))
  clear hnew hN
  obtain ⟨na, hna⟩ : ∃ n : Int, (a.size : Int) = n := ⟨_, rfl⟩
  obtain ⟨nb, hnb⟩ : ∃ n : Int, (b.size : Int) = n := ⟨_, rfl⟩
  obtain ⟨m, hmm⟩ : ∃ m : Int, (M : Int) = m := ⟨_, rfl⟩
  have a0 : 0 ≤ na := by omega
  have a1 : na ≤ 1000 := by omega
  have b0 : 0 ≤ nb := by omega
  have b1 : nb ≤ 1000 := by omega
  have m0 : 0 ≤ m := by omega
  have m1 : m ≤ 14 := by omega
  rw [hmm]
  have HE := Lib.hid hmm
  clear hmm ha hb hm
  go_enter Try.func3, Try.ntmps3
  go_wp2_with fail
  refine (HNew.out w).mono ?_
  rintro x w1 ⟨⟨b', rfl, hd⟩, k1⟩
  have HD := Lib.hid (And.intro hd k1)
  clear hd k1
  go_wp2_with fail
  have hop := openNil_any _ b' 2 M (fresh N) w1 HD.out.1 (by simp [fresh]; have := HN.out; have := HA.out; omega)
  rw [HE.out] at hop
  refine hop.mono ?_
  clear hop
  rintro x w2 ⟨⟨bl, rfl, hl, hbb⟩, k2⟩
  have HL2 := Lib.hid (Lg.start HD.out.1 HD.out.2 k2 hl hbb rfl rfl (by simp [fresh]; have := HN.out; have := HA.out; omega))
  clear hl hbb k2
  go_wp2_with fail
  obtain ⟨v1, hv1⟩ : ∃ v, wrV M ByteArray.empty a.size = v := ⟨_, rfl⟩
  refine (HL2.out.grow a (by simp [fresh]) (by simp [fresh]) (by have := HA.out.1; omega) v1 hv1).mono ?_
  rintro x w3 ⟨d3, t3, e3, rfl, hl3, ho3, hc3, hy3, hn3⟩
  have HL3 := Lib.hid hl3
  have hem : ByteArray.empty.size = 0 := rfl
  have hof : (fresh N).ops = 0 := rfl
  have hcf : (fresh N).C.length = 0 := rfl
  by_cases q : a.size ≤ M * 128
  · obtain ⟨rfl, ht3⟩ := hy3 (by omega)
    have hts : t3.size = a.size := by omega
    have ho3' : d3.ops = v1 := by omega
    have hc3' : d3.C.length = v1 := by omega
    have hv1b : v1 ≤ 1001 := by
      have := HA.out
      rw [← hv1]
      unfold wrV
      rw [hem]
      have h1 := secs_small a.size
      rw [Nat.zero_add, Nat.zero_div, Nat.sub_zero]
      split <;> omega
    obtain ⟨v2, hv2⟩ : ∃ v, wrV M t3 b.size = v := ⟨_, rfl⟩
    obtain ⟨o3, hoo⟩ : ∃ v : Int, (d3.ops : Int) = v := ⟨_, rfl⟩
    have ho3b : 0 ≤ o3 ∧ o3 ≤ 1001 := by omega
    have hv2b : (v2 : Int) ≤ 100000 ∧ 0 ≤ (v2 : Int) := by
      have := HA.out
      rw [← hv2]
      unfold wrV
      have h1 := secs_small (t3.size + b.size)
      split
      · omega
      · generalize secs (t3.size + b.size) = S at *
        omega
    have HV := Lib.hid (And.intro hv2 (And.intro hts (And.intro ho3' (And.intro hc3' (And.intro hv1b hoo)))))
    have hqq : na ≤ 128 * m := by
      have := HE.out
      omega
    have hqn : ¬ 128 * m < na := by omega
    clear hy3 hn3 ho3 hc3 hv1 hem hof hcf hl3 q ht3 hts ho3' hc3' hv1b hv2 hoo
    obtain ⟨V2, hV2⟩ : ∃ v : Int, (v2 : Int) = v := ⟨_, rfl⟩
    rw [hV2] at hv2b
    have HV2 := Lib.hid hV2
    clear hV2
    have hwr : Calls Try.prog 10 #[.pointer (some ⟨bl, 0, none⟩), .int .i64 nb] w3 fun x w' => x = .returned (.int .i64 V2) ∧ Below w3.heap.size w3 w' := by
      have h := writes_any bl b' 2 M t3 b.size w3 HL3.out.log (by have := HA.out; omega) (by have := HL3.out.size; have := HA.out; omega) (by have := HA.out; omega) v2 HV.out.1
      rw [HV2.out, hnb] at h
      exact h
    have HW := Lib.hid hwr
    clear hwr
    go_wp2_with fail
    refine HW.out.mono ?_
    rintro x w4 ⟨rfl, k4⟩
    have HL4 := Lib.hid (HL3.out.later k4)
    clear k4
    obtain ⟨F4, hd4, -⟩ := HL4.out.ex
    have hops : Calls Try.prog 11 #[.pointer (some ⟨b', 0, none⟩)] w4 fun x w' => x = .returned (.int .i64 o3) ∧ w4 = w' := by
      have h := ops_any F4 b' d3 w4 hd4
      rw [HV.out.2.2.2.2.2] at h
      exact h
    have HO := Lib.hid hops
    clear hops hd4
    go_wp2_with fail
    refine HO.out.mono ?_
    rintro x w5 ⟨rfl, rfl⟩
    go_wp2_with fail
    refine (HL4.out.grow b (by have := HV.out; omega) (by have := HV.out; omega) (by have := HA.out; omega) v2 HV.out.1).mono ?_
    rintro x w6 ⟨d6, t6, e6, rfl, hl6, ho6, -, hy6, hn6⟩
    have HL6 := Lib.hid hl6
    obtain ⟨F6, hd6, -⟩ := HL6.out.ex
    have hops : Calls Try.prog 11 #[.pointer (some ⟨b', 0, none⟩)] w6 fun x w' => x = .returned (.int .i64 (o3 + V2)) ∧ w6 = w' := by
      have h := ops_any F6 b' d6 w6 hd6
      have e : (d6.ops : Int) = o3 + V2 := by
        have := HV.out.2.2.2.2.2
        have := HV2.out
        omega
      rw [e] at h
      exact h
    have HO6 := Lib.hid hops
    have hor : (e6 = 0 ∧ na + nb ≤ 128 * m) ∨ (e6 = 6 ∧ ¬ na + nb ≤ 128 * m) := by
      have := HE.out
      have := HV.out.2.1
      by_cases q : t3.size + b.size ≤ M * 128
      · exact .inl ⟨(hy6 q).1, by omega⟩
      · exact .inr ⟨(hn6 q).1, by omega⟩
    clear hops hd6 hl6 ho6 hy6 hn6
    rcases hor with ⟨rfl, hle⟩ | ⟨rfl, hle⟩
    · go_wp2_with fail
      refine HO6.out.mono ?_
      rintro x w7 ⟨rfl, rfl⟩
      go_wp2_with fail
      refine (awake15_any _).mono ?_
      rintro x w8 ⟨rfl, b8⟩
      go_wp2
      go_ret
      exact ⟨rfl, HL6.out.bel.trans (b8.mono HL6.out.bel.size)⟩
    · go_wp2_with fail
      refine HO6.out.mono ?_
      rintro x w7 ⟨rfl, rfl⟩
      go_wp2_with fail
      refine (awake15_any _).mono ?_
      rintro x w8 ⟨rfl, b8⟩
      go_wp2
      go_ret
      have hz : (!decide (na + nb ≤ 128 * m)) = true := by simp [hle]
      exact ⟨congrArg (fun z => Ending.returned (Value.bool z)) hz, HL6.out.bel.trans (b8.mono HL6.out.bel.size)⟩
  · obtain ⟨rfl, rfl⟩ := hn3 (by omega)
    have hq : m * 128 < na := by
      have := HE.out
      omega
    have hq2 : 128 * m < na := by omega
    clear hy3 hn3 ho3 hc3 hv1 hem hof hcf hl3 q
    go_wp2_with fail
    refine (tail_any bl b' 2 M ByteArray.empty w3 HL3.out.log).mono ?_
    rintro x w4 ⟨rfl, rfl⟩
    go_wp2_with fail
    refine (awake15_any w3).mono ?_
    rintro x w4 ⟨rfl, b4⟩
    go_wp2
    go_ret
    exact ⟨rfl, HL3.out.bel.trans (b4.mono HL3.out.bel.size)⟩
theorem logWrites_walk (a b : ByteArray) (most : Int) (w : World) (ha : (a.size : Int) ≤ 9223372036854775807) (hb : (b.size : Int) ≤ 9223372036854775807) :
    Calls Try.prog 3 #[.string a, .string b, .int .i64 most] w fun x w' => x = .returned (.bool true) ∧ Below w.heap.size w w' := by
  by_cases q : (a.size : Int) ≤ 1000 ∧ (b.size : Int) ≤ 1000 ∧ 0 ≤ most ∧ most ≤ 14
  · obtain ⟨M, rfl⟩ : ∃ M : Nat, most = M := ⟨most.toNat, by omega⟩
    exact logWrites_in a b M w (by omega) (by omega) (by omega)
  · exact logWrites_out a b most w ha hb q
end Go.Proofs.Ytgdedimoblpgbaa.Disk
