/-
  AreaApart's own text, walked: where all fits it counts each kind of sector, and returns true; else it returns what the chapter's example says.
-/
import Derived.Test.YthldakchlnnonaaPAreaApartx1
import Derived.Test.YthldakchlnnonaaPureAreaApart
import Derived.Lib.Hide
import Derived.Deep.QuietTactic
import Derived.BigQuiet
namespace Go.Proofs.Ythldakchlnnonaa.WalkAreaApart
open Go.RowKit Go.Proofs.Ythldakchlnnonaa.PAreaApart Go.Proofs.YthldakchlnnonaaW.PrintWords Go.Proofs.YthldakchlnnonaaW.PrintLast Go.Proofs.Ythldakchlnnonaa.Pure
set_option linter.unusedVariables false
theorem bcell {W w1 : World} (hb : Below W.heap.size W w1) : (∀ b o, b < W.heap.size → w1.cell? ⟨b, o, none⟩ = W.cell? ⟨b, o, none⟩) ∧ (∀ b o, b < W.heap.size → w1.frozen? ⟨b, o, none⟩ = W.frozen? ⟨b, o, none⟩) :=
  ⟨fun b o h => hb.cell (p := ⟨b, o, none⟩) h, fun b o h => hb.frozen (p := ⟨b, o, none⟩) h⟩
theorem awake_true (w : World) : Calls Try.prog 25 #[] w fun e w' => e = .returned (.bool true) ∧ Drawn0 w w' := pleachlaw09_awake.calls 3 true w (awake_eq' (by omega))
theorem fits_any (n p t r : Int) (w : World) (hp : p ≤ 9223372036854775807) (ht : t ≤ 9223372036854775807) (b : Bool) (hb : (if HF n - TK n p r ≥ 0 then decide (SC t ≤ HF n - TK n p r) else false) = b) :
    Calls Try.prog 32 #[.int .i64 n, .int .i64 p, .int .i64 t, .int .i64 r] w fun e w' => e = .returned (.bool b) ∧ Below w.heap.size w w' :=
  area_Fits.calls n p t r b w (by rw [fits_eq _ _ _ _ hp ht, hb])

set_option maxHeartbeats 400000 in
theorem no_fit (n h p t r : Int) (w : World) (hp : p ≤ 9223372036854775807) (ht : t ≤ 9223372036854775807)
    (hb : (if HF n - TK n p r ≥ 0 then decide (SC t ≤ HF n - TK n p r) else false) = false) :
    Calls Try.prog 10 #[.int .i64 n, .int .i64 h, .int .i64 p, .int .i64 t, .int .i64 r] w fun e w' => e = .returned (.bool true) ∧ Below w.heap.size w w' := by
  go_enter Try.func10, Try.ntmps10
  go_wp2_with (first | (go_at_call 32; refine (fits_any _ _ _ _ _ hp ht _ hb).mono ?_; rintro e w' ⟨rfl, hb1⟩) | (go_at_call 25; refine (awake_true _).mono ?_; rintro e w' ⟨rfl, hb2⟩))
  go_ret
  exact ⟨rfl, hb1.trans (hb2.below.mono hb1.size)⟩

/-- not gone through: one guard says no -/
def Out (n h p t r : Int) : Prop := n > 400 ∨ h < 0 ∨ h > 1 ∨ p < 0 ∨ t < 0 ∨ r < 0
set_option maxHeartbeats 800000 in
theorem out_of (n h p t r : Int) (w : World) (hp : p ≤ 9223372036854775807) (ht : t ≤ 9223372036854775807)
    (hb : (if HF n - TK n p r ≥ 0 then decide (SC t ≤ HF n - TK n p r) else false) = true) (ho : Out n h p t r) :
    Calls Try.prog 10 #[.int .i64 n, .int .i64 h, .int .i64 p, .int .i64 t, .int .i64 r] w fun e w' => e = .returned (.bool true) ∧ Below w.heap.size w w' := by
  unfold Out at ho
  have hx : n > 400 ∨ (n ≤ 400 ∧ h < 0) ∨ (n ≤ 400 ∧ 0 ≤ h ∧ h > 1) ∨ (n ≤ 400 ∧ 0 ≤ h ∧ h ≤ 1 ∧ p < 0) ∨ (n ≤ 400 ∧ 0 ≤ h ∧ h ≤ 1 ∧ 0 ≤ p ∧ t < 0) ∨ (n ≤ 400 ∧ 0 ≤ h ∧ h ≤ 1 ∧ 0 ≤ p ∧ 0 ≤ t ∧ r < 0) := by omega
  clear ho
  rcases hx with g1 | ⟨g1, g2⟩ | ⟨g1, g2, g3⟩ | ⟨g1, g2, g3, g4⟩ | ⟨g1, g2, g3, g4, g5⟩ | ⟨g1, g2, g3, g4, g5, g6⟩
  all_goals
    go_enter Try.func10, Try.ntmps10
    go_wp2_with (first | (go_at_call 32; refine (fits_any _ _ _ _ _ hp ht _ hb).mono ?_; rintro e w' ⟨rfl, hb1⟩) | (go_at_call 25; refine (awake_true _).mono ?_; rintro e w' ⟨rfl, hb2⟩))
    go_ret
    exact ⟨rfl, hb1.trans (hb2.below.mono hb1.size)⟩

/-- what memory holds ahead of sector number k: the head's block B, the counts' block behind it -/
structure St (w : World) (B : Nat) (n h p t r : Int) (k : Nat) (wr : World) : Prop where
  bel : Below w.heap.size w wr
  old : w.heap.size ≤ B
  siz : B + 2 ≤ wr.heap.size
  h0 : wr.cell? ⟨B, 0, none⟩ = some (.int .i64 0)
  h1 : wr.cell? ⟨B, 1, none⟩ = some (.int .i64 h)
  h2 : wr.cell? ⟨B, 2, none⟩ = some (.int .i64 p)
  h3 : wr.cell? ⟨B, 3, none⟩ = some (.int .i64 0)
  c : ∀ c : Nat, c < 7 → wr.cell? ⟨B + 1, c, none⟩ = some (.int .i64 (cnt n h p t r c k))
  fz : ∀ c : Nat, wr.frozen? ⟨B + 1, c, none⟩ = false

theorem St.after {w : World} {B : Nat} {n h p t r : Int} {k : Nat} {wr w1 : World} (s : St w B n h p t r k wr) (hb : Below wr.heap.size wr w1) : St w B n h p t r k w1 := by
  obtain ⟨bel, old, siz, h0, h1, h2, h3, hc, hfz⟩ := s
  obtain ⟨e, f⟩ := bcell hb
  have := hb.size
  exact ⟨bel.trans (hb.mono bel.size), old, by omega, by rw [e _ _ (by omega)]; exact h0, by rw [e _ _ (by omega)]; exact h1, by rw [e _ _ (by omega)]; exact h2, by rw [e _ _ (by omega)]; exact h3,
    fun c hlt => by rw [e _ _ (by omega)]; exact hc c hlt, fun c => by rw [f _ _ (by omega)]; exact hfz c⟩
theorem St.put {w : World} {B : Nat} {n h p t r : Int} {k c : Nat} {wr : World} (s : St w B n h p t r k wr) (hc : c < 7) (hk : (k : Int) ≤ 400) (hv : OF n h p t r k = c) :
    St w B n h p t r (k + 1) (wr.setCell ⟨B + 1, c, none⟩ (.int .i64 (wrap64 (cnt n h p t r c k + 1)))) := by
  obtain ⟨bel, old, siz, h0, h1, h2, h3, hcs, hfz⟩ := s
  have hb := cnt_bd n h p t r c k
  have hn : ∀ o, (⟨B, o, none⟩ : Addr) ≠ ⟨B + 1, c, none⟩ := fun o e => by have := congrArg Addr.block e; simp at this
  have hz : (wr.setCell ⟨B + 1, c, none⟩ (.int .i64 (wrap64 (cnt n h p t r c k + 1)))).heap.size = wr.heap.size := by simp [World.setCell]
  refine ⟨bel.setCell (by show w.heap.size ≤ B + 1; omega) _, old, by omega, ?_, ?_, ?_, ?_, ?_, ?_⟩
  · rw [World.cell?_setCell_other _ _ _ _ (hn 0).symm]; exact h0
  · rw [World.cell?_setCell_other _ _ _ _ (hn 1).symm]; exact h1
  · rw [World.cell?_setCell_other _ _ _ _ (hn 2).symm]; exact h2
  · rw [World.cell?_setCell_other _ _ _ _ (hn 3).symm]; exact h3
  · intro d hd
    by_cases e : d = c
    · subst e
      rw [World.cell?_setCell_same _ _ _ (hcs d hd)]
      simp only [cnt]
      rw [if_pos hv, w64 (by omega)]
    · rw [World.cell?_setCell_other _ _ _ _ (fun x => e (by have := congrArg Addr.off x; simpa using this.symm)), hcs d hd]
      simp only [cnt]
      rw [if_neg (by rw [hv]; omega), Int.add_zero]
  · intro d
    rw [World.frozen?_setCell]; exact hfz d
theorem place_any (n h q v : Int) (w : World) (h0 : 0 ≤ q) (h1 : q < HF n) (hv : (if h = 1 then 2 + HF n else 2) + HF n - 1 - q = v) :
    Calls Try.prog 15 #[.int .i64 n, .int .i64 h, .int .i64 q] w fun e w' => e = .returned (.tuple #[.int .i64 v, .int .i64 0]) ∧ Drawn0 w w' :=
  area_Place.calls 2 n h q v 0 w (by have := HF_bd n; rw [place_eq _ _ _ _ (by omega), if_neg (by omega), if_neg (by omega), hv])
theorem sectors_q (b v : Int) (w : World) (h : b ≤ 9223372036854775807) (hv : SC b = v) :
    Calls Try.prog 21 #[.int .i64 b] w fun e w' => e = .returned (.int .i64 v) ∧ ∃ n, w' = w.drewN n :=
  (area_Sectors.calls b v w (by rw [sectors_eq _ h, hv])).mono fun e w' ⟨he, hd⟩ => ⟨he, hd.out⟩
theorem awake_q (w : World) : Calls Try.prog 25 #[] w fun e w' => e = .returned (.bool true) ∧ ∃ n, w' = w.drewN n := (awake_true w).mono fun e w' ⟨he, hd⟩ => ⟨he, hd.out⟩
theorem of_any (n h p t r s v : Int) (w : World) (hp : p ≤ 9223372036854775807) (ht : t ≤ 9223372036854775807) (hv : OF n h p t r s = v) :
    Calls Try.prog 39 #[.int .i64 n, .agg #[.int .i64 0, .int .i64 h, .int .i64 p, .int .i64 0], .int .i64 t, .int .i64 r, .int .i64 s] w fun e w' => e = .returned (.int .i64 v) ∧ Below w.heap.size w w' :=
  area_Of.calls 3 n 0 h p 0 t r s v w (by rw [of_eq _ _ _ _ _ _ _ _ _ hp ht, hv])

set_option maxHeartbeats 6400000 in
theorem runs (n h p t r : Int) (w : World) (hp : p ≤ 9223372036854775807) (ht : t ≤ 9223372036854775807) (hr : r ≤ 9223372036854775807)
    (hb : (if HF n - TK n p r ≥ 0 then decide (SC t ≤ HF n - TK n p r) else false) = true)
    (g1 : ¬ n > 400) (g2 : ¬ h < 0) (g3 : ¬ h > 1) (g4 : ¬ p < 0) (g5 : ¬ t < 0) (g6 : ¬ r < 0) :
    Calls Try.prog 10 #[.int .i64 n, .int .i64 h, .int .i64 p, .int .i64 t, .int .i64 r] w fun e w' => e = .returned (.bool true) ∧ Below w.heap.size w w' := by
  have F := Fit.mk' hb g1 g2 g3 g4 g5 g6 hp ht
  have Hb := Lib.hid hb
  go_enter Try.func10, Try.ntmps10
  go_wp2_with (first | (go_at_call 32; refine (fits_any _ _ _ _ _ hp ht _ Hb.out).mono ?_; rintro e w' ⟨rfl, hb1⟩))
  clear hb
  go_loopw [54] (fun i wr => ∃ k : Nat, i = .int .i64 k ∧ (k : Int) ≤ n ∧ St w w'.heap.size n h p t r k wr) (fun i _ => (n - intOf i).toNat)
  case atStart =>
    refine ⟨0, rfl, by have := F.n1; omega, ?_⟩
    have hs : ((w'.alloc (.cells #[.int .i64 0, .int .i64 h, .int .i64 p, .int .i64 0] 47)).alloc (.cells #[.int .i64 0, .int .i64 0, .int .i64 0, .int .i64 0, .int .i64 0, .int .i64 0, .int .i64 0] 50)).heap.size = w'.heap.size + 2 := by simp
    refine ⟨(hb1.alloc hb1.size _).alloc (by simp; have := hb1.size; omega) _, hb1.size, by rw [hs]; omega, ?_, ?_, ?_, ?_, ?_, ?_⟩
    · go_simp
    · go_simp
    · go_simp
    · go_simp
    · intro c hc
      have : c = 0 ∨ c = 1 ∨ c = 2 ∨ c = 3 ∨ c = 4 ∨ c = 5 ∨ c = 6 := by omega
      rcases this with rfl | rfl | rfl | rfl | rfl | rfl | rfl <;> go_simp <;> simp [cnt]
    · intro c; go_simp
  case round =>
    obtain ⟨k, rfl, hk, hst⟩ := hrel
    by_cases hlt : (k : Int) < n
    · have ho := OF_bd n h p t r k
      have HS := Lib.hid hst
      obtain ⟨bel, old, siz, h0, h1, h2, h3, hc, hfz⟩ := hst
      clear hc
      have hv : OF n h p t r k = (0 : Nat) ∨ OF n h p t r k = (1 : Nat) ∨ OF n h p t r k = (2 : Nat) ∨ OF n h p t r k = (3 : Nat) ∨ OF n h p t r k = (4 : Nat) ∨ OF n h p t r k = (5 : Nat) ∨ OF n h p t r k = (6 : Nat) := by omega
      rcases hv with hv | hv | hv | hv | hv | hv | hv
      all_goals
        have Hv := Lib.hid hv
        clear hv ho
        go_wp2_with (first | (go_at_call 39; refine (of_any _ _ _ _ _ _ _ _ hp ht Hv.out).mono ?_; rintro e w1 ⟨rfl, hb2⟩; have st1 := St.after HS.out hb2; have HS1 := Lib.hid st1; obtain ⟨bel', old', siz', h0', h1', h2', h3', hc', hfz'⟩ := st1; have c0' := hc' 0 (by omega); have c1' := hc' 1 (by omega); have c2' := hc' 2 (by omega); have c3' := hc' 3 (by omega); have c4' := hc' 4 (by omega); have c5' := hc' 5 (by omega); have c6' := hc' 6 (by omega); clear hc'))
        go_roundw
        case rel => exact ⟨k + 1, by go_num, by omega, HS1.out.put (by decide) (by omega) Hv.out⟩
        case measure => simp [intOf]; omega
    · have hkn : (k : Int) = n := by omega
      obtain ⟨e0, e1, e2, e3, e6⟩ := cnt_all F k hkn
      have hge : n ≤ (k : Int) := by omega
      clear hlt hk
      obtain ⟨v, hv⟩ : ∃ v, (if h = 1 then 2 + HF n else 2) + HF n - 1 - r = v := ⟨_, rfl⟩
      have h4 : OF n h p t r v = 4 := by rw [← hv]; exact OF_empty F
      have hr2 : r < HF n := by have := F.fit; have := F.sp; have := F.st; omega
      have HS := Lib.hid hst
      have HK := Lib.hid hkn
      have H4 := Lib.hid h4
      have HV := Lib.hid hv
      have E0 := Lib.hid e0
      have E1 := Lib.hid e1
      have E2 := Lib.hid e2
      have E3 := Lib.hid e3
      have E6 := Lib.hid e6
      obtain ⟨bel, old, siz, h0, h1, h2, h3, hc, hfz⟩ := hst
      clear hc hkn h4 hv e0 e1 e2 e3 e6
      go_wp2_with fail
      refine (place_any n h r v _ g6 hr2 HV.out).mono ?_
      rintro e w1 ⟨rfl, hd1⟩
      obtain ⟨m1, rfl⟩ := hd1.out
      clear hd1
      go_wp2_with fail
      refine (of_any _ _ _ _ _ _ _ _ hp ht H4.out).mono ?_
      rintro e w2 ⟨rfl, hb2⟩
      have hb3 : Below wr.heap.size wr w2 := ⟨hb2.os, hb2.tape, hb2.output, hb2.size, hb2.block⟩
      clear hb2
      have st1 := St.after HS.out hb3
      have HS1 := Lib.hid st1
      obtain ⟨bel', old', siz', h0', h1', h2', h3', hc', hfz'⟩ := st1
      clear hc' hb3 h0 h1 h2 h3 hfz bel siz
      go_wp2_with fail
      go_loopw [89] (fun i wq => ∃ j : Nat, i = .int .i64 j ∧ (j : Int) ≤ r ∧ St w w'.heap.size n h p t r k wq) (fun i _ => (r - intOf i).toNat)
      case atStart => exact ⟨0, rfl, by omega, HS1.out⟩
      case round =>
        obtain ⟨j, rfl, hj, hst⟩ := hrel
        clear h0' h1' h2' h3' hfz' siz'
        by_cases hlt : (j : Int) < r
        · obtain ⟨v, hv⟩ : ∃ v, (if h = 1 then 2 + HF n else 2) + HF n - 1 - (j : Int) = v := ⟨_, rfl⟩
          have h3' : OF n h p t r v = 3 := by rw [← hv]; exact OF_rec F (by omega) hlt
          have H3 := Lib.hid h3'
          have HV' := Lib.hid hv
          have HS2 := Lib.hid hst
          have hj2 : (j : Int) < HF n := by omega
          have hj0 : 0 ≤ (j : Int) := by omega
          obtain ⟨bel, old, siz, h0, h1, h2, h3, hc, hfz⟩ := hst
          clear hc h3' hv
          go_wp2_with fail
          refine (place_any n h j _ _ hj0 hj2 HV'.out).mono ?_
          rintro e w3 ⟨rfl, hd1⟩
          obtain ⟨m2, rfl⟩ := hd1.out
          clear hd1
          go_wp2_with fail
          refine (of_any _ _ _ _ _ _ _ _ hp ht H3.out).mono ?_
          rintro e w4 ⟨rfl, hb2⟩
          go_wp2_with fail
          go_roundw
          case rel => exact ⟨j + 1, by go_num, by omega, St.after HS2.out ⟨hb2.os, hb2.tape, hb2.output, hb2.size, hb2.block⟩⟩
          case measure => simp [intOf]; omega
        · have hge2 : r ≤ (j : Int) := by omega
          have HS2 := Lib.hid hst
          obtain ⟨bel, old, siz, h0, h1, h2, h3, hc, hfz⟩ := hst
          have c0 := hc 0 (by omega)
          have c1 := hc 1 (by omega)
          have c2 := hc 2 (by omega)
          have c3 := hc 3 (by omega)
          have c6 := hc 6 (by omega)
          rw [show ((0 : Nat) : Int) = 0 from rfl, E0.out] at c0
          rw [show ((1 : Nat) : Int) = 1 from rfl, E1.out] at c1
          rw [show ((2 : Nat) : Int) = 2 from rfl, E2.out] at c2
          rw [show ((3 : Nat) : Int) = 3 from rfl, E3.out] at c3
          rw [show ((6 : Nat) : Int) = 6 from rfl, E6.out] at c6
          clear hc hlt
          go_wp2_with fail
          go_quiet ((first | (go_at_call 21; first | exact Calls.quiet_of (sectors_q p _ _ hp rfl) | exact Calls.quiet_of (sectors_q t _ _ ht rfl)) | (go_at_call 25; exact Calls.quiet_of (awake_q _))))
          go_wp2
          go_ret
          exact ⟨rfl, bel.trans ⟨rfl, rfl, rfl, Nat.le_refl _, fun _ _ => rfl⟩⟩

/-- AreaApart's text returns true for every input. -/
theorem walk (n h p t r : Int) (w : World) (wp : (Lit.int .i64 p).wf = true) (wt : (Lit.int .i64 t).wf = true) (wr : (Lit.int .i64 r).wf = true) :
    Calls Try.prog 10 #[.int .i64 n, .int .i64 h, .int .i64 p, .int .i64 t, .int .i64 r] w fun e w' => e = .returned (.bool true) ∧ Below w.heap.size w w' := by
  have b1 := wf_bd wp
  have b2 := wf_bd wt
  have b3 := wf_bd wr
  cases hb : (if HF n - TK n p r ≥ 0 then decide (SC t ≤ HF n - TK n p r) else false) with
  | false => exact no_fit n h p t r w b1.2 b2.2 hb
  | true =>
    by_cases ho : Out n h p t r
    · exact out_of n h p t r w b1.2 b2.2 hb ho
    · unfold Out at ho
      exact runs n h p t r w b1.2 b2.2 b3.2 hb (by omega) (by omega) (by omega) (by omega) (by omega) (by omega)
end Go.Proofs.Ythldakchlnnonaa.WalkAreaApart
