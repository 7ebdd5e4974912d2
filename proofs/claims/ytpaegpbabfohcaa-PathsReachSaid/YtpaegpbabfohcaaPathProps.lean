/-
  Rows of properties, and what labels and properties must be: elem.CheckProps, rest; the document's Props, rest.
-/
import Derived.Test.YtpaegpbabfohcaaPathVal
import Derived.Deep.DeepCutAuto
import Derived.Deep.CutBlock
namespace Go.Proofs.Ytpaegpbabfohcaa.Paths
open Go.RowKit Go.Proofs.Ytpaegpbabfohcaa.WalkBytes
set_option linter.unusedVariables false
set_option linter.unusedSimpArgs false
set_option maxRecDepth 100000

structure Pr where
  key : ByteArray
  k : Int
  n : Int
  t : ByteArray
instance : Inhabited Pr := ⟨⟨ByteArray.empty, 0, 0, ByteArray.empty⟩⟩
def pr (P : List Pr) (i : Nat) : Pr := P.getD i default
/-- a row of properties -/
def Prs (w : World) (A : Option Addr) (P : List Pr) : Prop :=
  P = [] ∨ ∃ g off, A = some ⟨g, off, none⟩ ∧ ∀ i, i < P.length → w.cell? ⟨g, off + i * 4, none⟩ = some (.string (pr P i).key) ∧ w.cell? ⟨g, off + i * 4 + 1, none⟩ = some (.int .i64 (pr P i).k) ∧ w.cell? ⟨g, off + i * 4 + 2, none⟩ = some (.int .i64 (pr P i).n) ∧ w.cell? ⟨g, off + i * 4 + 3, none⟩ = some (.string (pr P i).t)
/-- a row that is not empty lies below B -/
def Bd {α : Type} (B : Nat) (A : Option Addr) (l : List α) : Prop := l ≠ [] → ∀ g off, A = some ⟨g, off, none⟩ → g < B
theorem Prs.below {w w' : World} {A : Option Addr} {P : List Pr} (h : Prs w A P) {B : Nat} (b : Below B w w') (hB : Bd B A P) : Prs w' A P := by
  by_cases e : P = []
  · exact .inl e
  · rcases h with h | ⟨g, off, rfl, h⟩
    · exact absurd h e
    · refine .inr ⟨g, off, rfl, fun i hi => ?_⟩
      have hg := hB e g off rfl
      obtain ⟨h1, h2, h3, h4⟩ := h i hi
      exact ⟨(b.cell (p := ⟨g, off + i * 4, none⟩) hg).trans h1, (b.cell (p := ⟨g, off + i * 4 + 1, none⟩) hg).trans h2, (b.cell (p := ⟨g, off + i * 4 + 2, none⟩) hg).trans h3, (b.cell (p := ⟨g, off + i * 4 + 3, none⟩) hg).trans h4⟩
theorem strs_below {w w' : World} {A : Option Addr} {L : List ByteArray} (h : Strs w A L) {B : Nat} (b : Below B w w') (hB : Bd B A L) : Strs w' A L := h.below b (fun g off e hne => hB hne g off e)
theorem prs_parts {w : World} {A : Option Addr} {P : List Pr} (h : Prs w A P) : P = [] ∨ (P ≠ [] ∧ ∃ g off, A = some ⟨g, off, none⟩ ∧ ∀ i, i < P.length → w.cell? ⟨g, off + i * 4, none⟩ = some (.string (pr P i).key) ∧ w.cell? ⟨g, off + i * 4 + 1, none⟩ = some (.int .i64 (pr P i).k) ∧ w.cell? ⟨g, off + i * 4 + 2, none⟩ = some (.int .i64 (pr P i).n) ∧ w.cell? ⟨g, off + i * 4 + 3, none⟩ = some (.string (pr P i).t)) := by
  by_cases e : P = []
  · exact .inl e
  · exact .inr ⟨e, by rcases h with h | h; exact absurd h e; exact h⟩
def propOk (p : Pr) : Bool := isName p.key.data.toList && valOk p.k p.n p.t
def propBad (P : List Pr) (i : Nat) : Int := if propOk (pr P i) = false then 2 else if 0 < i ∧ lt (pr P (i - 1)).key (pr P i).key = false then 4 else 0
def propsWhy (P : List Pr) : Int := if 8 < P.length then 5 else fb (propBad P) P.length
def restWhy (L : List ByteArray) (P : List Pr) : Int := if 8 < L.length then 5 else if rowWhy L ≠ 0 then rowWhy L else propsWhy P
theorem heap_new (w : World) (o : Obj) : (w.alloc o).heap[w.heap.size]? = some o := by
  unfold World.alloc
  simp

set_option maxHeartbeats 6400000 in
theorem checkProps_any (A : Option Addr) (c : Nat) (P : List Pr) (w : World) (h : Prs w A P) (hb : Bd w.heap.size A P) (hl : P.length ≤ 9223372036854775807) :
    Calls Try.prog 106 #[.slice A P.length c] w fun e w' => e = .returned (.int .i64 (propsWhy P)) ∧ Below w.heap.size w w' := by
  obtain ⟨n, hn⟩ : ∃ n, n = P.length := ⟨_, rfl⟩
  rw [← hn]
  have hn9 : n ≤ 9223372036854775807 := by omega
  obtain ⟨R, hR⟩ : ∃ R, R = propsWhy P := ⟨_, rfl⟩
  rw [← hR]
  have HN := Lib.hid hn
  have HR := Lib.hid hR
  clear hl hn hR
  by_cases h8 : n ≤ 8
  · have HR : Hid (R = fb (propBad P) n) := by
      show _ = _
      rw [HR.out]; unfold propsWhy; rw [if_neg (by rw [← HN.out]; omega), ← HN.out]
    go_enter Try.func106, Try.ntmps106
    rcases prs_parts h with hnil | ⟨hne, g, off, rfl, hc⟩
    · have hm0 : n = 0 := by rw [HN.out, hnil]; rfl
      clear hnil
      subst hm0
      go_wp2_with fail
      go_loopw [10] (fun v wr => v = .int .i64 0 ∧ w = wr) (fun v _ => 0)
      case atStart => exact ⟨rfl, rfl⟩
      case round =>
        obtain ⟨rfl, rfl⟩ := hrel
        go_wp2_with fail
        go_ret
        exact ⟨by show Ending.returned (Value.int .i64 0) = _; rw [HR.out]; rfl, Below.refl _ _⟩
    · have hg := hb hne g off rfl
      clear hne hb h
      go_wp2_with fail
      go_loopw [10] (fun v wr => ∃ i : Nat, v = .int .i64 i ∧ i ≤ n ∧ (∀ j, j < i → propBad P j = 0) ∧ Below w.heap.size w wr) (fun v _ => n - (intOf v).toNat)
      case atStart => exact ⟨0, rfl, Nat.zero_le _, fun j hj => absurd hj (by omega), Below.refl _ _⟩
      case round =>
        obtain ⟨i, rfl, hi, hall, hB⟩ := hrel
        have HALL := Lib.hid hall
        clear hall
        by_cases hin : i < n
        · obtain ⟨q0, q1, q2, q3⟩ := hc i (by rw [← HN.out]; exact hin)
          have cl : ∀ o, wr.cell? ⟨g, o, none⟩ = w.cell? ⟨g, o, none⟩ := fun o => hB.cell (p := ⟨g, o, none⟩) hg
          have HP : Hid (0 < i → wr.cell? ⟨g, off + (i - 1) * 4, none⟩ = some (.string (pr P (i - 1)).key)) := fun h0 => by rw [cl]; exact (hc (i - 1) (by rw [← HN.out]; omega)).1
          rw [← cl] at q0 q1 q2 q3
          have HBAD : Hid (propBad P i = if (isName (pr P i).key.data.toList && valOk (pr P i).k (pr P i).n (pr P i).t) = false then 2 else if 0 < i ∧ lt (pr P (i - 1)).key (pr P i).key = false then 4 else 0) := rfl
          have HAT : Hid (propBad P i ≠ 0 → R = propBad P i) := fun hne => by rw [HR.out]; exact fb_at HALL.out hin hne
          have HOK : Hid (propBad P i = 0 → ∀ j, j < i + 1 → propBad P j = 0) := fun h0 j hj => by
            rcases Nat.lt_or_ge j i with q | q
            · exact HALL.out j q
            · rw [show j = i by omega]; exact h0
          obtain ⟨s, hs⟩ : ∃ s, s = (pr P i).key := ⟨_, rfl⟩
          obtain ⟨k, hk⟩ : ∃ k, k = (pr P i).k := ⟨_, rfl⟩
          obtain ⟨m, hm⟩ : ∃ m, m = (pr P i).n := ⟨_, rfl⟩
          obtain ⟨t, ht⟩ : ∃ t, t = (pr P i).t := ⟨_, rfl⟩
          obtain ⟨p, hp⟩ : ∃ p, p = (pr P (i - 1)).key := ⟨_, rfl⟩
          rw [← hs] at q0
          rw [← hk] at q1
          rw [← hm] at q2
          rw [← ht] at q3
          rw [← hs, ← hk, ← hm, ← ht, ← hp] at HBAD
          rw [← hp] at HP
          have hsz : w.heap.size ≤ wr.heap.size := hB.size
          clear hc hs hk hm ht hp cl
          obtain ⟨W2, hW2⟩ : ∃ W2, W2 = wr.alloc (.cells #[.string s, .int .i64 k, .int .i64 m, .string t] 127) := ⟨_, rfl⟩
          have HB2w : Hid (Below w.heap.size w W2) := by rw [hW2]; exact hB.trans ((Joins.below_alloc1 wr _).mono hsz)
          have z0 : W2.cell? ⟨wr.heap.size, 0, none⟩ = some (.string s) := by rw [hW2, cell_of_row _ _ 0 _ _ _ (heap_new wr _)]; rfl
          have z1 : W2.cell? ⟨wr.heap.size, 1, none⟩ = some (.int .i64 k) := by rw [hW2, cell_of_row _ _ 1 _ _ _ (heap_new wr _)]; rfl
          have z2 : W2.cell? ⟨wr.heap.size, 2, none⟩ = some (.int .i64 m) := by rw [hW2, cell_of_row _ _ 2 _ _ _ (heap_new wr _)]; rfl
          have z3 : W2.cell? ⟨wr.heap.size, 3, none⟩ = some (.string t) := by rw [hW2, cell_of_row _ _ 3 _ _ _ (heap_new wr _)]; rfl
          have zl : wr.heap.size < W2.heap.size := by rw [hW2]; simp
          have HP2 : Hid (0 < i → W2.cell? ⟨g, off + (i - 1) * 4, none⟩ = some (.string p)) := fun h0 => by
            rw [hW2, (Joins.below_alloc1 wr _).cell (p := ⟨g, off + (i - 1) * 4, none⟩) (by show g < wr.heap.size; omega)]; exact HP.out h0
          clear HP hB
          have FIN : Hid (∀ b : Bool, (isName s.data.toList && valOk k m t) = b → propBad P i = if b = false then 2 else if 0 < i ∧ lt p s = false then 4 else 0) := fun b hb => by rw [HBAD.out, hb]
          clear HBAD
          obtain ⟨b1, hb1⟩ : ∃ b1, isName s.data.toList = b1 := ⟨_, rfl⟩
          have HB1 := Lib.hid hb1
          rw [hb1] at FIN
          clear hb1
          go_upto_region 6 with (fail)
          rw [← hW2]
          clear hW2 q0 q1 q2 q3
          go_wp2_with fail
          refine (nameCheck_any s W2).mono ?_
          rintro e w' ⟨rfl, rfl⟩
          rw [HB1.out]
          cases b1 with
          | false =>
            have hR2 : Hid (R = 2) := by
              have := FIN.out false (by simp)
              rw [if_pos rfl] at this
              show R = 2
              rw [HAT.out (by rw [this]; decide), this]
            have e2 : arg false = 2 := rfl
            go_wp2_with fail
            go_ret
            exact ⟨by show Ending.returned (Value.int .i64 2) = _; rw [hR2.out], HB2w.out⟩
          | true =>
            have e0 : arg true = 0 := rfl
            obtain ⟨b2, hb2⟩ : ∃ b2, valOk k m t = b2 := ⟨_, rfl⟩
            have HB2 := Lib.hid hb2
            rw [hb2, Bool.true_and] at FIN
            clear hb2
            have FIN2 := Lib.hid (FIN.out b2 rfl)
            clear FIN
            go_wp2_with fail
            refine (valueCheck_any k m t W2).mono ?_
            rintro e w5 ⟨rfl, hB5⟩
            rw [HB2.out]
            have HB5 : Hid (Below w.heap.size w w5) := HB2w.out.trans (hB5.mono HB2w.out.size)
            have z0 : w5.cell? ⟨wr.heap.size, 0, none⟩ = some (.string s) := by rw [hB5.cell (p := ⟨wr.heap.size, 0, none⟩) zl]; exact z0
            have HP5 : Hid (0 < i → w5.cell? ⟨g, off + (i - 1) * 4, none⟩ = some (.string p)) := fun h0 => by
              rw [hB5.cell (p := ⟨g, off + (i - 1) * 4, none⟩) (by show g < W2.heap.size; omega)]; exact HP2.out h0
            clear hB5
            cases b2 with
            | false =>
              have hR2 : Hid (R = 2) := by
                have := FIN2.out
                rw [if_pos rfl] at this
                show R = 2
                rw [HAT.out (by rw [this]; decide), this]
              have e2 : arg false = 2 := rfl
              go_wp2_with fail
              go_ret
              exact ⟨by show Ending.returned (Value.int .i64 2) = _; rw [hR2.out], HB5.out⟩
            | true =>
              by_cases i0 : i = 0
              · have d : decide (0 < i) = false := by simp; omega
                have hbad : Hid (propBad P i = 0) := by
                  show _ = _
                  rw [FIN2.out, if_neg (by simp), if_neg (by omega)]
                clear i0
                go_wp2_with fail
                go_quiet (fail)
                go_wp2_with fail
                go_roundw
                case rel => exact ⟨i + 1, by go_num, by omega, HOK.out hbad.out, below_drewN HB5.out _⟩
                case measure => simp [intOf]; omega
              · have i0' : 0 < i := by omega
                have d : decide (0 < i) = true := by simp; omega
                have cp := HP5.out i0'
                have ei : (i : Int) - 1 = ((i - 1 : Nat) : Int) := by omega
                have ii : i - 1 < n := by omega
                clear i0
                generalize i - 1 = i1 at cp ei ii
                obtain ⟨r, hr⟩ : ∃ r, lt p s = r := ⟨_, rfl⟩
                have HRR : Hid (lt p s = r) := hr
                have hg2 : ∀ W : World, (binOp .geq 9 (.string p) (.string s)).run Try.prog W = .ok (.bool (!r)) W := fun W => by rw [geqS, hr]
                clear hr
                cases r with
                | true =>
                  have hbad : Hid (propBad P i = 0) := by
                    show _ = _
                    rw [FIN2.out, if_neg (by simp), if_neg (by rw [HRR.out]; simp)]
                  go_wp2_with fail
                  go_quiet (fail)
                  go_wp2_with fail
                  go_roundw
                  case rel => exact ⟨i + 1, by go_num, by omega, HOK.out hbad.out, below_drewN HB5.out _⟩
                  case measure => simp [intOf]; omega
                | false =>
                  have hR4 : Hid (R = 4) := by
                    have := FIN2.out
                    rw [if_neg (by simp), if_pos ⟨i0', HRR.out⟩] at this
                    show R = 4
                    rw [HAT.out (by rw [this]; decide), this]
                  go_wp2_with fail
                  go_quiet (fail)
                  go_wp2_with fail
                  go_ret
                  exact ⟨by show Ending.returned (Value.int .i64 4) = _; rw [hR4.out], below_drewN HB5.out _⟩
        · have hie : i = n := by omega
          have HIE := Lib.hid hie
          clear hie hc
          go_wp2_with fail
          go_ret
          exact ⟨by show Ending.returned (Value.int .i64 0) = _; rw [HR.out, fb_zero (by rw [← HIE.out]; exact HALL.out)], hB⟩
  · have hR5 : R = 5 := by rw [HR.out]; unfold propsWhy; rw [if_pos (by rw [← HN.out]; omega)]
    subst hR5
    clear h hb
    go_enter Try.func106, Try.ntmps106
    go_wp2_with fail
    go_ret
    exact ⟨rfl, Below.refl _ _⟩

set_option maxHeartbeats 6400000 in
theorem refProps_any (A : Option Addr) (c : Nat) (P : List Pr) (w : World) (h : Prs w A P) (hb : Bd w.heap.size A P) (hl : P.length ≤ 9223372036854775807) (hs : ∀ q ∈ P, q.key.size ≤ 9223372036854775806) :
    Calls Try.prog 97 #[.slice A P.length c] w fun e w' => e = .returned (.int .i64 (propsWhy P)) ∧ Below w.heap.size w w' := by
  obtain ⟨n, hn⟩ : ∃ n, n = P.length := ⟨_, rfl⟩
  rw [← hn]
  have hn9 : n ≤ 9223372036854775807 := by omega
  obtain ⟨R, hR⟩ : ∃ R, R = propsWhy P := ⟨_, rfl⟩
  rw [← hR]
  have HN := Lib.hid hn
  have HR := Lib.hid hR
  have HSZ := Lib.hid hs
  clear hs
  clear hl hn hR
  by_cases h8 : n ≤ 8
  · have HR : Hid (R = fb (propBad P) n) := by
      show _ = _
      rw [HR.out]; unfold propsWhy; rw [if_neg (by rw [← HN.out]; omega), ← HN.out]
    go_enter Try.func97, Try.ntmps97
    rcases prs_parts h with hnil | ⟨hne, g, off, rfl, hc⟩
    · have hm0 : n = 0 := by rw [HN.out, hnil]; rfl
      clear hnil
      subst hm0
      go_wp2_with fail
      go_loopw [3] (fun v wr => v = .int .i64 0 ∧ w = wr) (fun v _ => 0)
      case atStart => exact ⟨rfl, rfl⟩
      case round =>
        obtain ⟨rfl, rfl⟩ := hrel
        go_wp2_with fail
        go_ret
        exact ⟨by show Ending.returned (Value.int .i64 0) = _; rw [HR.out]; rfl, Below.refl _ _⟩
    · have hg := hb hne g off rfl
      clear hne hb h
      go_wp2_with fail
      go_loopw [3] (fun v wr => ∃ i : Nat, v = .int .i64 i ∧ i ≤ n ∧ (∀ j, j < i → propBad P j = 0) ∧ Below w.heap.size w wr) (fun v _ => n - (intOf v).toNat)
      case atStart => exact ⟨0, rfl, Nat.zero_le _, fun j hj => absurd hj (by omega), Below.refl _ _⟩
      case round =>
        obtain ⟨i, rfl, hi, hall, hB⟩ := hrel
        have HALL := Lib.hid hall
        clear hall
        by_cases hin : i < n
        · obtain ⟨q0, q1, q2, q3⟩ := hc i (by rw [← HN.out]; exact hin)
          have cl : ∀ o, wr.cell? ⟨g, o, none⟩ = w.cell? ⟨g, o, none⟩ := fun o => hB.cell (p := ⟨g, o, none⟩) hg
          have HP : Hid (0 < i → wr.cell? ⟨g, off + (i - 1) * 4, none⟩ = some (.string (pr P (i - 1)).key)) := fun h0 => by rw [cl]; exact (hc (i - 1) (by rw [← HN.out]; omega)).1
          rw [← cl] at q0 q1 q2 q3
          have HBAD : Hid (propBad P i = if (isName (pr P i).key.data.toList && valOk (pr P i).k (pr P i).n (pr P i).t) = false then 2 else if 0 < i ∧ lt (pr P (i - 1)).key (pr P i).key = false then 4 else 0) := rfl
          have HAT : Hid (propBad P i ≠ 0 → R = propBad P i) := fun hne => by rw [HR.out]; exact fb_at HALL.out hin hne
          have HOK : Hid (propBad P i = 0 → ∀ j, j < i + 1 → propBad P j = 0) := fun h0 j hj => by
            rcases Nat.lt_or_ge j i with q | q
            · exact HALL.out j q
            · rw [show j = i by omega]; exact h0
          have hkz : (pr P i).key.size ≤ 9223372036854775806 := HSZ.out _ (by unfold pr; rw [List.getD_eq_getElem?_getD, List.getElem?_eq_getElem (by rw [← HN.out]; exact hin)]; exact List.getElem_mem _)
          obtain ⟨s, hs⟩ : ∃ s, s = (pr P i).key := ⟨_, rfl⟩
          obtain ⟨k, hk⟩ : ∃ k, k = (pr P i).k := ⟨_, rfl⟩
          obtain ⟨m, hm⟩ : ∃ m, m = (pr P i).n := ⟨_, rfl⟩
          obtain ⟨t, ht⟩ : ∃ t, t = (pr P i).t := ⟨_, rfl⟩
          obtain ⟨p, hp⟩ : ∃ p, p = (pr P (i - 1)).key := ⟨_, rfl⟩
          rw [← hs] at q0
          rw [← hk] at q1
          rw [← hm] at q2
          rw [← ht] at q3
          rw [← hs, ← hk, ← hm, ← ht, ← hp] at HBAD
          rw [← hp] at HP
          rw [← hs] at hkz
          have hsz : w.heap.size ≤ wr.heap.size := hB.size
          clear hc hs hk hm ht hp cl
          have FIN : Hid (∀ b : Bool, (isName s.data.toList && valOk k m t) = b → propBad P i = if b = false then 2 else if 0 < i ∧ lt p s = false then 4 else 0) := fun b hb => by rw [HBAD.out, hb]
          clear HBAD
          obtain ⟨b1, hb1⟩ : ∃ b1, isName s.data.toList = b1 := ⟨_, rfl⟩
          have HB1 := Lib.hid hb1
          rw [hb1] at FIN
          clear hb1
          go_wp2_with fail
          refine (refName_any s wr hkz).mono ?_
          rintro e w' ⟨rfl, rfl⟩
          rw [HB1.out]
          cases b1 with
          | false =>
            have hR2 : Hid (R = 2) := by
              have := FIN.out false (by simp)
              rw [if_pos rfl] at this
              show R = 2
              rw [HAT.out (by rw [this]; decide), this]
            go_wp2_with fail
            go_ret
            exact ⟨by show Ending.returned (Value.int .i64 2) = _; rw [hR2.out], hB⟩
          | true =>
            obtain ⟨b2, hb2⟩ : ∃ b2, valOk k m t = b2 := ⟨_, rfl⟩
            have HB2 := Lib.hid hb2
            rw [hb2, Bool.true_and] at FIN
            clear hb2
            have FIN2 := Lib.hid (FIN.out b2 rfl)
            clear FIN
            go_wp2_with fail
            refine (refVal_any k m t wr).mono ?_
            rintro e w5 ⟨rfl, hB5⟩
            rw [HB2.out]
            have HB5 : Hid (Below w.heap.size w w5) := hB.trans (hB5.mono hB.size)
            have q0 : w5.cell? ⟨g, off + i * 4, none⟩ = some (.string s) := by rw [hB5.cell (p := ⟨g, off + i * 4, none⟩) (by show g < wr.heap.size; omega)]; exact q0
            have HP5 : Hid (0 < i → w5.cell? ⟨g, off + (i - 1) * 4, none⟩ = some (.string p)) := fun h0 => by
              rw [hB5.cell (p := ⟨g, off + (i - 1) * 4, none⟩) (by show g < wr.heap.size; omega)]; exact HP.out h0
            clear hB5
            cases b2 with
            | false =>
              have hR2 : Hid (R = 2) := by
                have := FIN2.out
                rw [if_pos rfl] at this
                show R = 2
                rw [HAT.out (by rw [this]; decide), this]
              go_wp2_with fail
              go_ret
              exact ⟨by show Ending.returned (Value.int .i64 2) = _; rw [hR2.out], HB5.out⟩
            | true =>
              by_cases i0 : i = 0
              · have d : decide (0 < i) = false := by simp; omega
                have hbad : Hid (propBad P i = 0) := by
                  show _ = _
                  rw [FIN2.out, if_neg (by simp), if_neg (by omega)]
                clear i0
                go_wp2_with fail
                go_quiet (fail)
                go_wp2_with fail
                go_roundw
                case rel => exact ⟨i + 1, by go_num, by omega, HOK.out hbad.out, below_drewN HB5.out _⟩
                case measure => simp [intOf]; omega
              · have i0' : 0 < i := by omega
                have d : decide (0 < i) = true := by simp; omega
                have cp := HP5.out i0'
                have ei : (i : Int) - 1 = ((i - 1 : Nat) : Int) := by omega
                have ii : i - 1 < n := by omega
                clear i0
                generalize i - 1 = i1 at cp ei ii
                obtain ⟨r, hr⟩ : ∃ r, lt p s = r := ⟨_, rfl⟩
                have HRR : Hid (lt p s = r) := hr
                have hg2 : ∀ W : World, (binOp .leq 9 (.string s) (.string p)).run Try.prog W = .ok (.bool (!r)) W := fun W => by rw [leqS, hr]
                clear hr
                cases r with
                | true =>
                  have hbad : Hid (propBad P i = 0) := by
                    show _ = _
                    rw [FIN2.out, if_neg (by simp), if_neg (by rw [HRR.out]; simp)]
                  go_wp2_with fail
                  go_quiet (fail)
                  go_wp2_with fail
                  go_roundw
                  case rel => exact ⟨i + 1, by go_num, by omega, HOK.out hbad.out, below_drewN HB5.out _⟩
                  case measure => simp [intOf]; omega
                | false =>
                  have hR4 : Hid (R = 4) := by
                    have := FIN2.out
                    rw [if_neg (by simp), if_pos ⟨i0', HRR.out⟩] at this
                    show R = 4
                    rw [HAT.out (by rw [this]; decide), this]
                  go_wp2_with fail
                  go_quiet (fail)
                  go_wp2_with fail
                  go_ret
                  exact ⟨by show Ending.returned (Value.int .i64 4) = _; rw [hR4.out], below_drewN HB5.out _⟩
        · have hie : i = n := by omega
          have HIE := Lib.hid hie
          clear hie hc
          go_wp2_with fail
          go_ret
          exact ⟨by show Ending.returned (Value.int .i64 0) = _; rw [HR.out, fb_zero (by rw [← HIE.out]; exact HALL.out)], hB⟩
  · have hR5 : R = 5 := by rw [HR.out]; unfold propsWhy; rw [if_pos (by rw [← HN.out]; omega)]
    subst hR5
    clear h hb
    go_enter Try.func97, Try.ntmps97
    go_wp2_with fail
    go_ret
    exact ⟨rfl, Below.refl _ _⟩

theorem rest_any (A B : Option Addr) (c d : Nat) (L : List ByteArray) (P : List Pr) (w : World) (h : Strs w A L) (hP : Prs w B P) (hb : Bd w.heap.size B P) (hl : L.length ≤ 9223372036854775807) (hp : P.length ≤ 9223372036854775807) :
    Calls Try.prog 94 #[.slice A L.length c, .slice B P.length d] w fun e w' => e = .returned (.int .i64 (restWhy L P)) ∧ Below w.heap.size w w' := by
  obtain ⟨R, hR⟩ : ∃ R, R = restWhy L P := ⟨_, rfl⟩
  rw [← hR]
  by_cases h8 : L.length ≤ 8
  · have HR : Hid (R = if rowWhy L ≠ 0 then rowWhy L else propsWhy P) := by show _ = _; rw [hR]; unfold restWhy; rw [if_neg (by omega)]
    clear hR
    go_enter Try.func94, Try.ntmps94
    go_wp2_with fail
    refine (nameRow_any A c L w h (by omega)).mono ?_
    rintro e w' ⟨rfl, rfl⟩
    obtain ⟨r, hr⟩ : ∃ r, rowWhy L = r := ⟨_, rfl⟩
    rw [hr] at HR
    rw [hr]
    clear hr
    by_cases r0 : r = 0
    · subst r0
      have HR2 : Hid (R = propsWhy P) := by show _ = _; rw [HR.out, if_neg (by simp)]
      go_wp2_with fail
      refine (checkProps_any B d P w hP hb hp).mono ?_
      rintro e w5 ⟨rfl, hB⟩
      rw [← HR2.out]
      clear h
      go_wp2_with fail
      go_ret
      exact ⟨rfl, hB⟩
    · have e0 : (r == 0) = false := by simpa using r0
      have hRr : R = r := by rw [HR.out, if_pos r0]
      subst hRr
      clear r0 HR
      go_wp2_with fail
      go_ret
      exact ⟨rfl, Below.refl _ _⟩
  · have hR5 : R = 5 := by rw [hR]; unfold restWhy; rw [if_pos (by omega)]
    subst hR5
    go_enter Try.func94, Try.ntmps94
    go_wp2_with fail
    go_ret
    exact ⟨rfl, Below.refl _ _⟩
theorem refRest_any (A B : Option Addr) (c d : Nat) (L : List ByteArray) (P : List Pr) (w : World) (h : Strs w A L) (hP : Prs w B P) (hb : Bd w.heap.size B P) (hl : L.length ≤ 9223372036854775807) (hp : P.length ≤ 9223372036854775807) (hs : ∀ s ∈ L, s.size ≤ 9223372036854775806) (hk : ∀ q ∈ P, q.key.size ≤ 9223372036854775806) :
    Calls Try.prog 84 #[.slice A L.length c, .slice B P.length d] w fun e w' => e = .returned (.int .i64 (restWhy L P)) ∧ Below w.heap.size w w' := by
  obtain ⟨R, hR⟩ : ∃ R, R = restWhy L P := ⟨_, rfl⟩
  rw [← hR]
  by_cases h8 : L.length ≤ 8
  · have HR : Hid (R = if rowWhy L ≠ 0 then rowWhy L else propsWhy P) := by show _ = _; rw [hR]; unfold restWhy; rw [if_neg (by omega)]
    have HS := Lib.hid hs
    have HKK := Lib.hid hk
    clear hR hs hk
    go_enter Try.func84, Try.ntmps84
    go_wp2_with fail
    refine (refRow_any A c L w h (by omega) HS.out).mono ?_
    rintro e w' ⟨rfl, m, rfl⟩
    obtain ⟨r, hr⟩ : ∃ r, rowWhy L = r := ⟨_, rfl⟩
    rw [hr] at HR
    rw [hr]
    clear hr
    have HB : Hid (Below w.heap.size w (w.drewN m)) := below_drewN (Below.refl _ _) m
    have hP2 : Prs (w.drewN m) B P := hP
    by_cases r0 : r = 0
    · subst r0
      have HR2 : Hid (R = propsWhy P) := by show _ = _; rw [HR.out, if_neg (by simp)]
      go_wp2_with fail
      refine (refProps_any B d P (w.drewN m) hP2 hb hp HKK.out).mono ?_
      rintro e w5 ⟨rfl, hB⟩
      rw [← HR2.out]
      have HB5 : Hid (Below w.heap.size w w5) := HB.out.trans hB
      clear h hB
      go_wp2_with fail
      go_ret
      exact ⟨rfl, HB5.out⟩
    · have e0 : (r == 0) = false := by simpa using r0
      have e1 : (r != 0) = true := by simpa using r0
      have hRr : R = r := by rw [HR.out, if_pos r0]
      subst hRr
      clear r0 HR
      go_wp2_with fail
      go_ret
      exact ⟨rfl, HB.out⟩
  · have hR5 : R = 5 := by rw [hR]; unfold restWhy; rw [if_pos (by omega)]
    subst hR5
    go_enter Try.func84, Try.ntmps84
    go_wp2_with fail
    go_ret
    exact ⟨rfl, Below.refl _ _⟩
end Go.Proofs.Ytpaegpbabfohcaa.Paths
