/-
  The document's dag: Back, Common.
-/
import Derived.Test.YtpaegpbabfohcaaRefDagD
import Derived.Deep.Upon
namespace Go.Proofs.Ytpaegpbabfohcaa.WalkDag
open Go.RowKit Go.Proofs.Ytpaegpbabfohcaa.HeapPure Go.Proofs.Ytpaegpbabfohcaa.HeapA Go.Proofs.Ytpaegpbabfohcaa.MapAt Go.Proofs.Ytpaegpbabfohcaa.DagPure Go.Proofs.Ytpaegpbabfohcaa.WalkInts Go.Deep
set_option linter.unusedVariables false
set_option linter.unusedSimpArgs false
set_option maxRecDepth 100000

set_option maxHeartbeats 3200000 in
theorem backR_any (A : Option Addr) (c : Nat) (l : List Kn) (n : Int) (w : World) (h : Knots w.heap.size w A l) (hf : Few l) :
    Calls Try.prog 24 #[.slice A l.length c, .int .i64 n] w fun e w' => (∃ v o, e = .returned v ∧ Own w' w.heap.size v o ∧ o = back (rev l) n) ∧ Below w.heap.size w w' := by
  obtain ⟨m, hm⟩ : ∃ m, m = l.length := ⟨_, rfl⟩
  rw [← hm]
  have hm40 : m ≤ 40 := by rw [hm]; exact hf.1
  have HM := Lib.hid hm
  have HF := Lib.hid hf
  have HK := Lib.hid h
  obtain ⟨P, hP⟩ : ∃ P : K → Bool, P = fun k => ofGo (rev l) [n] k.n := ⟨_, rfl⟩
  obtain ⟨T, hT⟩ : ∃ T, T = back (rev l) n := ⟨_, rfl⟩
  have HT0 : Hid (((rev (l.take m)).filter P).map (·.n) = T) := by show _ = _; rw [hm, List.take_length, hT, hP]; rfl
  have HP : Hid (∀ k, P k = (ofGo (rev l) [n] k.n)) := fun k => by rw [hP]
  rw [← hT]
  clear hm hf hP hT
  go_enter Try.func24, Try.ntmps24
  go_wp2_with fail
  go_loopw [5, 6] (fun u v wr => ∃ (z : Int) (k : Nat) (o : List Int), v = .int .i64 z ∧ z + 1 = k ∧ k ≤ m ∧ Own wr w.heap.size u o ∧ o.length + k ≤ m ∧ Hid (o ++ ((rev (l.take k)).filter P).map (·.n) = T) ∧ Below w.heap.size w wr) (fun _ v _ => (intOf v + 1).toNat)
  case atStart => exact ⟨(m : Int) - 1, m, [], rfl, by omega, Nat.le_refl _, Own.nil _ _, by simp, HT0, Below.refl _ _⟩
  case round =>
    obtain ⟨z, k, o, rfl, hz, hk, hown, hol, HO, hB⟩ := hrel
    rcases k with _ | j
    · obtain rfl : z = -1 := by omega
      clear hz
      go_wp2_with fail
      go_ret
      exact ⟨⟨_, o, rfl, hown, by rw [← HO.out]; simp [rev]⟩, hB⟩
    · obtain rfl : z = (j : Int) := by omega
      rcases h with hnil | ⟨g, off, rfl, hg, hc⟩
      · exfalso
        have := HM.out
        rw [hnil] at this
        simp at this
        omega
      · obtain ⟨h1, -, -, -⟩ := hc j (by rw [← HM.out]; omega)
        have HC : Hid (∀ w1, Below w.heap.size w w1 → w1.cell? ⟨g, off + j * 2, none⟩ = some (.int .i64 (kn l j).k.n)) := fun w1 b => by rw [b.cell (p := ⟨g, off + j * 2, none⟩) hg]; exact h1
        have hcr := HC.out wr hB
        have HO2 : Hid (o ++ (if P (kn l j).k then [(kn l j).k.n] else []) ++ ((rev (l.take j)).filter P).map (·.n) = T) := by
          show _ = _
          rw [← HO.out, rev_take (by rw [← HM.out]; omega), List.filter_cons]
          cases P (kn l j).k <;> simp
        obtain ⟨kk, hkk⟩ : ∃ kk, kk = (kn l j).k := ⟨_, rfl⟩
        rw [← hkk] at hcr HC HO2
        obtain ⟨y, hy⟩ : ∃ y, y = kk.n := ⟨_, rfl⟩
        rw [← hy] at hcr HC HO2
        have HY := Lib.hid hy
        have HKn : Hid (∀ w1, Below w.heap.size w w1 → Knots w1.heap.size w1 (some ⟨g, off, none⟩) l) := fun w1 b => (HK.out.below b).mono b.size
        have hHw : w.heap.size ≤ wr.heap.size := hB.size
        have hjm : j < m := by omega
        have hol' : o.length ≤ 1000 := by omega
        clear hc h1 hkk hy HO hz
        go_wp2_with fail
        refine (ofR_any (some ⟨g, off, none⟩) c m l n y wr (HKn.out wr hB) HM.out HF.out).mono ?_
        rintro e w1 ⟨rfl, hB1⟩
        have hB2 := hB.trans (hB1.mono hHw)
        have hown2 := hown.below hB1
        have hc1 := HC.out w1 hB2
        have hH1 := Nat.le_trans hHw hB1.size
        have hPy : Hid (P kk = ofGo (rev l) [n] y) := by show _ = _; rw [HP.out, HY.out]
        obtain ⟨r, hr⟩ : ∃ r, ofGo (rev l) [n] y = r := ⟨_, rfl⟩
        rw [hr] at hPy
        rw [hr]
        clear hr hB1 hB hown hcr
        cases r with
        | true =>
          go_wp2_with (at_builtin; go_must (refine wpList_append_q 25 Try.underlying25 rfl _ _ rfl w.heap.size _ o y rfl (hown2.alloc _) w1.heap.size 1 rfl ((cell_of_row _ _ 0 _ _ _ (heap_new _ _)).trans rfl) (by omega) (by simp; omega) ?_); intro v2 w5 own5 hgrow hor; have hb5 := (hB2.trans ((Joins.below_alloc1 w1 _).mono hH1)).grown hgrow (by simp; omega) (fun k hk => (hown2.lt k hk).1); clear hgrow hor)
          go_roundw
          case rel => exact ⟨(j : Int) - 1, j, o ++ [y], rfl, by omega, by omega, own5, by simp; omega, by have := HO2.out; rw [hPy.out, if_pos rfl] at this; exact this, hb5⟩
          case measure => simp [intOf]
        | false =>
          go_wp2_with fail
          go_roundw
          case rel => exact ⟨(j : Int) - 1, j, o, rfl, by omega, by omega, hown2, by omega, by have := HO2.out; rw [hPy.out, if_neg (by simp)] at this; show _ = _; simpa using this, hB2⟩
          case measure => simp [intOf]

set_option maxHeartbeats 3200000 in
theorem commonR_any (A : Option Addr) (c : Nat) (l : List Kn) (n b : Int) (w : World) (h : Knots w.heap.size w A l) (hf : Few l) :
    Calls Try.prog 17 #[.slice A l.length c, .int .i64 n, .int .i64 b] w fun e w' => (∃ v o, e = .returned v ∧ Own w' w.heap.size v o ∧ o = common (rev l) n b) ∧ Below w.heap.size w w' := by
  obtain ⟨m, hm⟩ : ∃ m, m = l.length := ⟨_, rfl⟩
  rw [← hm]
  have hm40 : m ≤ 40 := by rw [hm]; exact hf.1
  have HM := Lib.hid hm
  have HF := Lib.hid hf
  have HK := Lib.hid h
  obtain ⟨P, hP⟩ : ∃ P : K → Bool, P = fun k => (ofGo (rev l) [n] k.n && ofGo (rev l) [b] k.n) := ⟨_, rfl⟩
  obtain ⟨T, hT⟩ : ∃ T, T = common (rev l) n b := ⟨_, rfl⟩
  have HT0 : Hid (((rev (l.take m)).filter P).map (·.n) = T) := by show _ = _; rw [hm, List.take_length, hT, hP]; rfl
  have HP : Hid (∀ k, P k = ((ofGo (rev l) [n] k.n && ofGo (rev l) [b] k.n))) := fun k => by rw [hP]
  rw [← hT]
  clear hm hf hP hT
  go_enter Try.func17, Try.ntmps17
  go_wp2_with fail
  go_loopw [7, 8] (fun u v wr => ∃ (z : Int) (k : Nat) (o : List Int), v = .int .i64 z ∧ z + 1 = k ∧ k ≤ m ∧ Own wr w.heap.size u o ∧ o.length + k ≤ m ∧ Hid (o ++ ((rev (l.take k)).filter P).map (·.n) = T) ∧ Below w.heap.size w wr) (fun _ v _ => (intOf v + 1).toNat)
  case atStart => exact ⟨(m : Int) - 1, m, [], rfl, by omega, Nat.le_refl _, Own.nil _ _, by simp, HT0, Below.refl _ _⟩
  case round =>
    obtain ⟨z, k, o, rfl, hz, hk, hown, hol, HO, hB⟩ := hrel
    rcases k with _ | j
    · obtain rfl : z = -1 := by omega
      clear hz
      go_wp2_with fail
      go_ret
      exact ⟨⟨_, o, rfl, hown, by rw [← HO.out]; simp [rev]⟩, hB⟩
    · obtain rfl : z = (j : Int) := by omega
      rcases h with hnil | ⟨g, off, rfl, hg, hc⟩
      · exfalso
        have := HM.out
        rw [hnil] at this
        simp at this
        omega
      · obtain ⟨h1, -, -, -⟩ := hc j (by rw [← HM.out]; omega)
        have HC : Hid (∀ w1, Below w.heap.size w w1 → w1.cell? ⟨g, off + j * 2, none⟩ = some (.int .i64 (kn l j).k.n)) := fun w1 b => by rw [b.cell (p := ⟨g, off + j * 2, none⟩) hg]; exact h1
        have hcr := HC.out wr hB
        have HO2 : Hid (o ++ (if P (kn l j).k then [(kn l j).k.n] else []) ++ ((rev (l.take j)).filter P).map (·.n) = T) := by
          show _ = _
          rw [← HO.out, rev_take (by rw [← HM.out]; omega), List.filter_cons]
          cases P (kn l j).k <;> simp
        obtain ⟨kk, hkk⟩ : ∃ kk, kk = (kn l j).k := ⟨_, rfl⟩
        rw [← hkk] at hcr HC HO2
        obtain ⟨y, hy⟩ : ∃ y, y = kk.n := ⟨_, rfl⟩
        rw [← hy] at hcr HC HO2
        have HY := Lib.hid hy
        have HKn : Hid (∀ w1, Below w.heap.size w w1 → Knots w1.heap.size w1 (some ⟨g, off, none⟩) l) := fun w1 b => (HK.out.below b).mono b.size
        have hHw : w.heap.size ≤ wr.heap.size := hB.size
        have hjm : j < m := by omega
        have hol' : o.length ≤ 1000 := by omega
        clear hc h1 hkk hy HO hz
        go_wp2_with fail
        refine (ofR_any (some ⟨g, off, none⟩) c m l n y wr (HKn.out wr hB) HM.out HF.out).mono ?_
        rintro e w1 ⟨rfl, hB1⟩
        have hB2 := hB.trans (hB1.mono hHw)
        have hown2 := hown.below hB1
        have hc1 := HC.out w1 hB2
        have hH1 := Nat.le_trans hHw hB1.size
        have hPy : Hid (P kk = (ofGo (rev l) [n] y && ofGo (rev l) [b] y)) := by show _ = _; rw [HP.out, HY.out]
        obtain ⟨r, hr⟩ : ∃ r, ofGo (rev l) [n] y = r := ⟨_, rfl⟩
        rw [hr] at hPy
        rw [hr]
        clear hr hB1 hB hown hcr
        cases r with
        | true =>
          go_wp2_with fail
          refine (ofR_any (some ⟨g, off, none⟩) c m l b y w1 (HKn.out w1 hB2) HM.out HF.out).mono ?_
          rintro e w2 ⟨rfl, hB3⟩
          have hB4 := hB2.trans (hB3.mono hH1)
          have hown4 := hown2.below hB3
          have hc2 := HC.out w2 hB4
          have hH2 := Nat.le_trans hH1 hB3.size
          obtain ⟨r2, hr2⟩ : ∃ r2, ofGo (rev l) [b] y = r2 := ⟨_, rfl⟩
          rw [hr2] at hPy
          rw [hr2]
          clear hr2 hB3 hB2 hown2 hc1
          cases r2 with
          | true =>
            go_wp2_with (at_builtin; go_must (refine wpList_append_q 25 Try.underlying25 rfl _ _ rfl w.heap.size _ o y rfl (hown4.alloc _) w2.heap.size 1 rfl ((cell_of_row _ _ 0 _ _ _ (heap_new _ _)).trans rfl) (by omega) (by simp; omega) ?_); intro v2 w5 own5 hgrow hor; have hb5 := (hB4.trans ((Joins.below_alloc1 w2 _).mono hH2)).grown hgrow (by simp; omega) (fun k hk => (hown4.lt k hk).1); clear hgrow hor)
            go_roundw
            case rel => exact ⟨(j : Int) - 1, j, o ++ [y], rfl, by omega, by omega, own5, by simp; omega, by have := HO2.out; rw [hPy.out, Bool.and_self, if_pos rfl] at this; exact this, hb5⟩
            case measure => simp [intOf]
          | false =>
            go_wp2_with fail
            go_roundw
            case rel => exact ⟨(j : Int) - 1, j, o, rfl, by omega, by omega, hown4, by omega, by have := HO2.out; rw [hPy.out, Bool.and_false, if_neg (by simp)] at this; show _ = _; simpa using this, hB4⟩
            case measure => simp [intOf]
        | false =>
          go_wp2_with fail
          go_roundw
          case rel => exact ⟨(j : Int) - 1, j, o, rfl, by omega, by omega, hown2, by omega, by have := HO2.out; rw [hPy.out, Bool.false_and, if_neg (by simp)] at this; show _ = _; simpa using this, hB2⟩
          case measure => simp [intOf]
end Go.Proofs.Ytpaegpbabfohcaa.WalkDag
