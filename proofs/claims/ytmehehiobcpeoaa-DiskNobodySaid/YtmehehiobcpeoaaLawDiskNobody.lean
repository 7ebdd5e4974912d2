/-
  A disk that no call made has nothing, and takes nothing (DiskNobody): the walk.
-/
import Derived.Test.YtmehehiobcpeoaaWalkDiskM
import Derived.Deep.RegionHeld3
namespace Go.Proofs.Ytmehehiobcpeoaa.Disk
open Go.RowKit Go.Proofs.Ytmehehiobcpeoaa.DiskRows
set_option linter.unusedVariables false
set_option linter.unusedSimpArgs false
set_option maxRecDepth 100000

set_option maxHeartbeats 6400000 in
theorem nobody_walk (a : Ac) (there : Bool) (w : World) (hs : a.text.size ≤ 140737488355328) (hk : (a.kl : Int) ≤ 9223372036854775807) :
    Calls Try.prog 6 #[.agg a.cells.toArray, .bool there] w fun x w' => x = .returned (.bool true) ∧ Below w.heap.size w w' := by
  have ka := Joins.below_alloc1 w (.cells a.cells.toArray 39)
  have kb := Joins.below_alloc1 (w.alloc (.cells a.cells.toArray 39)) (.cells a.cells.toArray 39)
  have hfew := few_any (some ⟨w.heap.size + 1, 0, none⟩) 1 [a] ((w.alloc (.cells a.cells.toArray 39)).alloc (.cells a.cells.toArray 39)) (.inr ⟨w.heap.size + 1, 0, rfl, by simp, fun k hk j u hu => by
    have hk0 : k = 0 := by simpa using hk
    subst hk0
    rw [cell_of_row _ (w.heap.size + 1) _ a.cells.toArray _ _ (by simpa using heap_alloc_last (w.alloc (.cells a.cells.toArray 39)) (.cells a.cells.toArray 39))]
    simpa using hu⟩) (by simp) (fun x hx => by
      have : x = a := by simpa using hx
      subst this
      exact ⟨by omega, hk⟩)
  have HF := Lib.hid hfew
  have hc : ∀ W, Below (w.heap.size + 1) (w.alloc (.cells a.cells.toArray 39)) W → ∀ j u, a.cells[j]? = some u → W.cell? ⟨w.heap.size, j, none⟩ = some u := fun W k j u hu => by
    rw [k.cell (p := ⟨w.heap.size, j, none⟩) (by show w.heap.size < w.heap.size + 1; omega), cell_of_row _ w.heap.size _ a.cells.toArray _ _ (heap_alloc_last _ _)]
    simpa using hu
  have HC := Lib.hid hc
  have HK := Lib.hid (And.intro ka kb)
  clear hfew hc ka kb
  obtain ⟨k, p, n, t, raw, kA, kl, kc⟩ := a
  simp only [Ac.cells] at HF HC HK ⊢
  dsimp only at hs hk
  have hwr : ∀ W, Calls Try.prog 20 #[.agg #[.int .i64 k, .int .i64 p, .int .i64 n, .string t, .bool raw, .slice kA kl kc]] W fun x w' => x = .returned (.string (Ac.txt ⟨k, p, n, t, raw, kA, kl, kc⟩)) ∧ Below W.heap.size W w' := fun W => text_any ⟨k, p, n, t, raw, kA, kl, kc⟩ W hs
  have HT := Lib.hid hwr
  obtain ⟨s, hse⟩ : ∃ s, Ac.txt ⟨k, p, n, t, raw, kA, kl, kc⟩ = s := ⟨_, rfl⟩
  rw [hse] at HT
  clear hwr hse
  obtain ⟨fw, hfw⟩ : ∃ fw, decide (fewB [⟨k, p, n, t, raw, kA, kl, kc⟩]) = fw := ⟨_, rfl⟩
  rw [hfw] at HF
  clear hfw
  cases fw
  · go_enter Try.func6, Try.ntmps6
    go_wp2_with fail
    refine HF.out.mono ?_
    rintro x w1 ⟨rfl, b1⟩
    go_wp2_with fail
    refine (awake_any _).mono ?_
    rintro x w2 ⟨rfl, b2⟩
    go_wp2
    go_ret
    have hz1 := HK.out.1.size
    have hz2 := HK.out.2.size
    exact ⟨rfl, HK.out.1.trans ((HK.out.2.trans ((b1.mono hz2).trans (b2.mono (by have := b1.size; omega)))).mono hz1)⟩
  · go_enter Try.func6, Try.ntmps6
    go_wp2_with fail
    refine HF.out.mono ?_
    rintro x w1 ⟨rfl, b1⟩
    obtain ⟨B1, hlt⟩ : Below w.heap.size w w1 ∧ w.heap.size < w1.heap.size := by
      have hz1 := HK.out.1.size
      have hz2 := HK.out.2.size
      have hz3 := b1.size
      refine ⟨HK.out.1.trans ((HK.out.2.trans (b1.mono hz2)).mono hz1), ?_⟩
      have : (w.alloc (.cells #[.int .i64 k, .int .i64 p, .int .i64 n, .string t, .bool raw, .slice kA kl kc] 39)).heap.size = w.heap.size + 1 := by simp
      omega
    have hcell : ∀ W, Below w1.heap.size w1 W → (W.cell? ⟨w.heap.size, 0, none⟩ = some (.int .i64 k) ∧ W.cell? ⟨w.heap.size, 1, none⟩ = some (.int .i64 p) ∧ W.cell? ⟨w.heap.size, 2, none⟩ = some (.int .i64 n) ∧ W.cell? ⟨w.heap.size, 3, none⟩ = some (.string t) ∧ W.cell? ⟨w.heap.size, 4, none⟩ = some (.bool raw) ∧ W.cell? ⟨w.heap.size, 5, none⟩ = some (.slice kA kl kc)) := fun W kW => by
      have hz2 := HK.out.2.size
      have hsz : (w.alloc (.cells #[.int .i64 k, .int .i64 p, .int .i64 n, .string t, .bool raw, .slice kA kl kc] 39)).heap.size = w.heap.size + 1 := by simp
      have hB := (HK.out.2.trans (b1.mono hz2)).trans (kW.mono (Nat.le_trans hz2 b1.size))
      rw [hsz] at hB
      exact ⟨HC.out W hB 0 _ rfl, HC.out W hB 1 _ rfl, HC.out W hB 2 _ rfl, HC.out W hB 3 _ rfl, HC.out W hB 4 _ rfl, HC.out W hB 5 _ rfl⟩
    have HCell := Lib.hid hcell
    have HB1 := Lib.hid B1
    clear hcell HC HK HF b1 B1
    obtain ⟨g, hg⟩ : ∃ g, w.heap.size = g := ⟨_, rfl⟩
    have HG := Lib.hid hg
    rw [hg] at HCell hlt ⊢
    clear hg
    cases there
    · obtain ⟨P, hP, hno⟩ : ∃ P : Option Addr, P = none ∧ ∀ W, Below w1.heap.size w1 W → NoDisk W P := ⟨none, rfl, fun W _ => .inl rfl⟩
      have HN := Lib.hid hno
      have HP := Lib.hid hP
      clear hno
      have c1 := (HCell.out w1 (Below.refl _ _)).2.1
      go_upto_region 6 with fail
      rw [← HP.out]
      clear hP HP
      go_wp2_with fail
      refine (read_no p P w1 (HN.out _ (Below.refl _ _))).mono ?_
      rintro x w2 ⟨rfl, rfl⟩
      clear c1
      go_wp2_with fail
      refine (seize_no P w1 (HN.out _ (Below.refl _ _))).mono ?_
      rintro x w2 ⟨rfl, b2⟩
      go_upto_region 8 with fail
      have k3 := b2.alloc b2.size (.cells #[.slice none 0 0, .slice none 0 0] 32)
      have t1 : (w2.alloc (.cells #[.slice none 0 0, .slice none 0 0] 32)).cell? ⟨w2.heap.size, 0, none⟩ = some (.slice none 0 0) := (cell_of_row _ _ 0 _ _ _ (heap_alloc_last _ _)).trans rfl
      have t2 : (w2.alloc (.cells #[.slice none 0 0, .slice none 0 0] 32)).cell? ⟨w2.heap.size, 1, none⟩ = some (.slice none 0 0) := (cell_of_row _ _ 1 _ _ _ (heap_alloc_last _ _)).trans rfl
      have hgi : w2.heap.size < (w2.alloc (.cells #[.slice none 0 0, .slice none 0 0] 32)).heap.size := by simp
      obtain ⟨gi, hgie⟩ : ∃ gi, w2.heap.size = gi := ⟨_, rfl⟩
      rw [hgie] at t1 t2 hgi ⊢
      clear hgie
      generalize w2.alloc _ = w3 at *
      have T := Lib.hid (And.intro t1 (And.intro t2 hgi))
      have K3 := Lib.hid k3
      obtain ⟨e0, e1, e2, e3, e4, e5⟩ := HCell.out w3 k3
      have KD := Lib.hid k3.drew
      clear t1 t2 hgi b2 k3
      go_region_held3 (fun w' => w'.cell? ⟨g, 0, none⟩ = some (.int .i64 k) ∧ w'.cell? ⟨g, 1, none⟩ = some (.int .i64 p) ∧ w'.cell? ⟨g, 2, none⟩ = some (.int .i64 n) ∧ w'.cell? ⟨g, 3, none⟩ = some (.string t) ∧ w'.cell? ⟨g, 4, none⟩ = some (.bool raw) ∧ w'.cell? ⟨g, 5, none⟩ = some (.slice kA kl kc) ∧ Below w1.heap.size w1 w') (first | exact ⟨e0, e1, e2, e3, e4, e5, KD.out⟩ | assumption | exact (fun k' => have q := HCell.out _ k'; ⟨q.1, q.2.1, q.2.2.1, q.2.2.2.1, q.2.2.2.2.1, q.2.2.2.2.2, k'⟩) (KD.out.trans (Below.mono (by assumption) KD.out.size))) (first
        | (go_at_call 20; refine (HT.out _).mono ?_; rintro x w4 ⟨rfl, b4⟩)
        | (go_at_call 19; refine (write_no p s P _ (HN.out _ (KD.out.trans (Below.mono b4 KD.out.size)))).mono ?_; rintro x w5 ⟨rfl, rfl⟩)
        | (go_at_call 18; refine (flush_no P _ (HN.out _ (KD.out.trans (Below.mono b4 KD.out.size)))).mono ?_; rintro x w5 ⟨rfl, rfl⟩)
        | (go_at_call 24; refine (arm_no n P _ (HN.out _ (KD.out.trans (Below.mono b4 KD.out.size)))).mono ?_; rintro x w5 ⟨rfl, rfl⟩)
        | (go_at_call 21; refine (crash_no kA kl kc P _ (HN.out _ (KD.out.trans (Below.mono b4 KD.out.size)))).mono ?_; rintro x w5 ⟨rfl, rfl⟩)
        | (go_at_call 17; refine (boot_no P _ (HN.out _ (KD.out.trans (Below.mono b4 KD.out.size)))).mono ?_; rintro x w5 ⟨rfl, rfl⟩))
      have K4 := Lib.hid (KD.out.trans (Below.mono b4 KD.out.size))
      have T4 : w4.cell? ⟨gi, 0, none⟩ = some (.slice none 0 0) ∧ w4.cell? ⟨gi, 1, none⟩ = some (.slice none 0 0) ∧ gi < w4.heap.size := by
        obtain ⟨t1, t2, t3⟩ := T.out
        exact ⟨(b4.cell (p := ⟨gi, 0, none⟩) t3).trans t1, (b4.cell (p := ⟨gi, 1, none⟩) t3).trans t2, Nat.lt_of_lt_of_le t3 b4.size⟩
      clear e0 e1 e2 e3 e4 e5 b4 T
      obtain ⟨e0, e1, e2, e3, e4, e5⟩ := HCell.out w4 K4.out
      have T5 : ∀ W, Below w4.heap.size w4 W → W.cell? ⟨gi, 0, none⟩ = some (.slice none 0 0) ∧ W.cell? ⟨gi, 1, none⟩ = some (.slice none 0 0) := fun W kW => by
        obtain ⟨t1, t2, t3⟩ := T4
        exact ⟨(kW.cell (p := ⟨gi, 0, none⟩) t3).trans t1, (kW.cell (p := ⟨gi, 1, none⟩) t3).trans t2⟩
      obtain ⟨t1, t2⟩ := T5 w4 (Below.refl _ _)
      have HT5 := Lib.hid T5
      clear T4 T5
      go_wp2_with fail
      go_region_held3 (fun w' => w'.cell? ⟨g, 0, none⟩ = some (.int .i64 k) ∧ w'.cell? ⟨g, 1, none⟩ = some (.int .i64 p) ∧ w'.cell? ⟨g, 2, none⟩ = some (.int .i64 n) ∧ w'.cell? ⟨g, 3, none⟩ = some (.string t) ∧ w'.cell? ⟨g, 4, none⟩ = some (.bool raw) ∧ w'.cell? ⟨g, 5, none⟩ = some (.slice kA kl kc) ∧ w'.cell? ⟨gi, 0, none⟩ = some (.slice none 0 0) ∧ w'.cell? ⟨gi, 1, none⟩ = some (.slice none 0 0) ∧ Below w4.heap.size w4 w') (first | exact ⟨e0, e1, e2, e3, e4, e5, t1, t2, (Below.refl _ w4).drew⟩ | assumption | exact (fun k' => have q := HCell.out _ (K4.out.trans (k'.mono K4.out.size)); have q2 := HT5.out _ k'; ⟨q.1, q.2.1, q.2.2.1, q.2.2.2.1, q.2.2.2.2.1, q.2.2.2.2.2, q2.1, q2.2, k'⟩) ((Below.refl _ w4).drew.trans (by assumption)) | exact (fun k' => have q := HCell.out _ (K4.out.trans (k'.mono K4.out.size)); have q2 := HT5.out _ k'; ⟨q.1, q.2.1, q.2.2.1, q.2.2.2.1, q.2.2.2.2.1, q.2.2.2.2.2, q2.1, q2.2, k'⟩) (((Below.refl _ w4).drew.trans b6).trans (Below.mono (by assumption) b6.size))) (first
        | (go_at_call 20; refine (HT.out _).mono ?_; rintro x w6 ⟨rfl, b6⟩)
        | (go_at_call 25; refine (over_no p s P _ (HN.out _ (K4.out.trans (Below.mono ((Below.refl _ w4).drew.trans b6) K4.out.size)))).mono ?_; rintro x w5 ⟨rfl, rfl⟩)
        | (go_at_call 26; refine (size_no P _ (HN.out _ (K4.out.trans (Below.mono ((Below.refl _ w4).drew.trans b6) K4.out.size)))).mono ?_; rintro x w5 ⟨rfl, rfl⟩)
        | (go_at_call 27; refine (ops_no P _ (HN.out _ (K4.out.trans (Below.mono ((Below.refl _ w4).drew.trans b6) K4.out.size)))).mono ?_; rintro x w5 ⟨rfl, rfl⟩)
        | (go_at_call 22; refine (down_no P _ (HN.out _ (K4.out.trans (Below.mono ((Below.refl _ w4).drew.trans b6) K4.out.size)))).mono ?_; rintro x w5 ⟨rfl, rfl⟩)
        | (go_at_call 8; refine (awake_any _).mono ?_; rintro x w8 ⟨rfl, b8⟩))
      go_wp2
      trace "end"
      go_ret
      exact ⟨rfl, by
        have ka := K4.out.trans (((Below.refl _ w4).drew.trans b6).mono K4.out.size)
        have kb := ka.trans (b8.mono ka.size)
        rw [← HG.out] at hlt
        exact HB1.out.trans (kb.mono HB1.out.size)⟩
    · go_upto_region 6 with fail
      have kz := Joins.below_alloc1 w1 (.cells #[.slice none 0 0, .slice none 0 0, .slice none 0 0, .int .i64 0, .bool false, .int .i64 0] 54)
      obtain ⟨P, hP, hno⟩ : ∃ P : Option Addr, P = some ⟨w1.heap.size, 0, none⟩ ∧ ∀ W, Below (w1.alloc (.cells #[.slice none 0 0, .slice none 0 0, .slice none 0 0, .int .i64 0, .bool false, .int .i64 0] 54)).heap.size (w1.alloc (.cells #[.slice none 0 0, .slice none 0 0, .slice none 0 0, .int .i64 0, .bool false, .int .i64 0] 54)) W → NoDisk W P := ⟨_, rfl, fun W q => .inr ⟨_, rfl, (q.block _ (by simp)).trans (heap_alloc_last _ _)⟩⟩
      rw [← hP]
      have hlz : g < (w1.alloc (.cells #[.slice none 0 0, .slice none 0 0, .slice none 0 0, .int .i64 0, .bool false, .int .i64 0] 54)).heap.size := Nat.lt_of_lt_of_le hlt kz.size
      have hB1 := HB1.out.trans (kz.mono HB1.out.size)
      have hcell := fun W kW => HCell.out W (kz.trans (Below.mono kW kz.size))
      clear hP HCell HB1 hlt kz
      generalize w1.alloc _ = wz at *
      clear w1
      obtain ⟨w1, rfl⟩ : ∃ w1, w1 = wz := ⟨_, rfl⟩
      have HN := Lib.hid hno
      have HCell := Lib.hid hcell
      have HB1 := Lib.hid hB1
      have hlt := hlz
      clear hno hcell hB1 hlz
      have c1 := (HCell.out w1 (Below.refl _ _)).2.1
      go_wp2_with fail
      refine (read_no p P w1 (HN.out _ (Below.refl _ _))).mono ?_
      rintro x w2 ⟨rfl, rfl⟩
      clear c1
      go_wp2_with fail
      refine (seize_no P w1 (HN.out _ (Below.refl _ _))).mono ?_
      rintro x w2 ⟨rfl, b2⟩
      go_upto_region 8 with fail
      have k3 := b2.alloc b2.size (.cells #[.slice none 0 0, .slice none 0 0] 32)
      have t1 : (w2.alloc (.cells #[.slice none 0 0, .slice none 0 0] 32)).cell? ⟨w2.heap.size, 0, none⟩ = some (.slice none 0 0) := (cell_of_row _ _ 0 _ _ _ (heap_alloc_last _ _)).trans rfl
      have t2 : (w2.alloc (.cells #[.slice none 0 0, .slice none 0 0] 32)).cell? ⟨w2.heap.size, 1, none⟩ = some (.slice none 0 0) := (cell_of_row _ _ 1 _ _ _ (heap_alloc_last _ _)).trans rfl
      have hgi : w2.heap.size < (w2.alloc (.cells #[.slice none 0 0, .slice none 0 0] 32)).heap.size := by simp
      obtain ⟨gi, hgie⟩ : ∃ gi, w2.heap.size = gi := ⟨_, rfl⟩
      rw [hgie] at t1 t2 hgi ⊢
      clear hgie
      generalize w2.alloc _ = w3 at *
      have T := Lib.hid (And.intro t1 (And.intro t2 hgi))
      have K3 := Lib.hid k3
      obtain ⟨e0, e1, e2, e3, e4, e5⟩ := HCell.out w3 k3
      have KD := Lib.hid k3.drew
      clear t1 t2 hgi b2 k3
      go_region_held3 (fun w' => w'.cell? ⟨g, 0, none⟩ = some (.int .i64 k) ∧ w'.cell? ⟨g, 1, none⟩ = some (.int .i64 p) ∧ w'.cell? ⟨g, 2, none⟩ = some (.int .i64 n) ∧ w'.cell? ⟨g, 3, none⟩ = some (.string t) ∧ w'.cell? ⟨g, 4, none⟩ = some (.bool raw) ∧ w'.cell? ⟨g, 5, none⟩ = some (.slice kA kl kc) ∧ Below w1.heap.size w1 w') (first | exact ⟨e0, e1, e2, e3, e4, e5, KD.out⟩ | assumption | exact (fun k' => have q := HCell.out _ k'; ⟨q.1, q.2.1, q.2.2.1, q.2.2.2.1, q.2.2.2.2.1, q.2.2.2.2.2, k'⟩) (KD.out.trans (Below.mono (by assumption) KD.out.size))) (first
        | (go_at_call 20; refine (HT.out _).mono ?_; rintro x w4 ⟨rfl, b4⟩)
        | (go_at_call 19; refine (write_no p s P _ (HN.out _ (KD.out.trans (Below.mono b4 KD.out.size)))).mono ?_; rintro x w5 ⟨rfl, rfl⟩)
        | (go_at_call 18; refine (flush_no P _ (HN.out _ (KD.out.trans (Below.mono b4 KD.out.size)))).mono ?_; rintro x w5 ⟨rfl, rfl⟩)
        | (go_at_call 24; refine (arm_no n P _ (HN.out _ (KD.out.trans (Below.mono b4 KD.out.size)))).mono ?_; rintro x w5 ⟨rfl, rfl⟩)
        | (go_at_call 21; refine (crash_no kA kl kc P _ (HN.out _ (KD.out.trans (Below.mono b4 KD.out.size)))).mono ?_; rintro x w5 ⟨rfl, rfl⟩)
        | (go_at_call 17; refine (boot_no P _ (HN.out _ (KD.out.trans (Below.mono b4 KD.out.size)))).mono ?_; rintro x w5 ⟨rfl, rfl⟩))
      have K4 := Lib.hid (KD.out.trans (Below.mono b4 KD.out.size))
      have T4 : w4.cell? ⟨gi, 0, none⟩ = some (.slice none 0 0) ∧ w4.cell? ⟨gi, 1, none⟩ = some (.slice none 0 0) ∧ gi < w4.heap.size := by
        obtain ⟨t1, t2, t3⟩ := T.out
        exact ⟨(b4.cell (p := ⟨gi, 0, none⟩) t3).trans t1, (b4.cell (p := ⟨gi, 1, none⟩) t3).trans t2, Nat.lt_of_lt_of_le t3 b4.size⟩
      clear e0 e1 e2 e3 e4 e5 b4 T
      obtain ⟨e0, e1, e2, e3, e4, e5⟩ := HCell.out w4 K4.out
      have T5 : ∀ W, Below w4.heap.size w4 W → W.cell? ⟨gi, 0, none⟩ = some (.slice none 0 0) ∧ W.cell? ⟨gi, 1, none⟩ = some (.slice none 0 0) := fun W kW => by
        obtain ⟨t1, t2, t3⟩ := T4
        exact ⟨(kW.cell (p := ⟨gi, 0, none⟩) t3).trans t1, (kW.cell (p := ⟨gi, 1, none⟩) t3).trans t2⟩
      obtain ⟨t1, t2⟩ := T5 w4 (Below.refl _ _)
      have HT5 := Lib.hid T5
      clear T4 T5
      go_wp2_with fail
      go_region_held3 (fun w' => w'.cell? ⟨g, 0, none⟩ = some (.int .i64 k) ∧ w'.cell? ⟨g, 1, none⟩ = some (.int .i64 p) ∧ w'.cell? ⟨g, 2, none⟩ = some (.int .i64 n) ∧ w'.cell? ⟨g, 3, none⟩ = some (.string t) ∧ w'.cell? ⟨g, 4, none⟩ = some (.bool raw) ∧ w'.cell? ⟨g, 5, none⟩ = some (.slice kA kl kc) ∧ w'.cell? ⟨gi, 0, none⟩ = some (.slice none 0 0) ∧ w'.cell? ⟨gi, 1, none⟩ = some (.slice none 0 0) ∧ Below w4.heap.size w4 w') (first | exact ⟨e0, e1, e2, e3, e4, e5, t1, t2, (Below.refl _ w4).drew⟩ | assumption | exact (fun k' => have q := HCell.out _ (K4.out.trans (k'.mono K4.out.size)); have q2 := HT5.out _ k'; ⟨q.1, q.2.1, q.2.2.1, q.2.2.2.1, q.2.2.2.2.1, q.2.2.2.2.2, q2.1, q2.2, k'⟩) ((Below.refl _ w4).drew.trans (by assumption)) | exact (fun k' => have q := HCell.out _ (K4.out.trans (k'.mono K4.out.size)); have q2 := HT5.out _ k'; ⟨q.1, q.2.1, q.2.2.1, q.2.2.2.1, q.2.2.2.2.1, q.2.2.2.2.2, q2.1, q2.2, k'⟩) (((Below.refl _ w4).drew.trans b6).trans (Below.mono (by assumption) b6.size))) (first
        | (go_at_call 20; refine (HT.out _).mono ?_; rintro x w6 ⟨rfl, b6⟩)
        | (go_at_call 25; refine (over_no p s P _ (HN.out _ (K4.out.trans (Below.mono ((Below.refl _ w4).drew.trans b6) K4.out.size)))).mono ?_; rintro x w5 ⟨rfl, rfl⟩)
        | (go_at_call 26; refine (size_no P _ (HN.out _ (K4.out.trans (Below.mono ((Below.refl _ w4).drew.trans b6) K4.out.size)))).mono ?_; rintro x w5 ⟨rfl, rfl⟩)
        | (go_at_call 27; refine (ops_no P _ (HN.out _ (K4.out.trans (Below.mono ((Below.refl _ w4).drew.trans b6) K4.out.size)))).mono ?_; rintro x w5 ⟨rfl, rfl⟩)
        | (go_at_call 22; refine (down_no P _ (HN.out _ (K4.out.trans (Below.mono ((Below.refl _ w4).drew.trans b6) K4.out.size)))).mono ?_; rintro x w5 ⟨rfl, rfl⟩)
        | (go_at_call 8; refine (awake_any _).mono ?_; rintro x w8 ⟨rfl, b8⟩))
      go_wp2
      trace "end"
      go_ret
      exact ⟨rfl, by
        have ka := K4.out.trans (((Below.refl _ w4).drew.trans b6).mono K4.out.size)
        have kb := ka.trans (b8.mono ka.size)
        rw [← HG.out] at hlt
        exact HB1.out.trans (kb.mono HB1.out.size)⟩
end Go.Proofs.Ytmehehiobcpeoaa.Disk
