/-
  Rows of names: name.Row, and the document's Row.
-/
import Derived.Test.YtpaegpbabfohcaaPathName
import Derived.Test.YtpaegpbabfohcaaStrs
import Derived.Below
import Derived.Lib.SmallJoins
import Derived.Sort.Walk0
namespace Go.Proofs.Ytpaegpbabfohcaa.Paths
open Go.RowKit Go.Proofs.Ytpaegpbabfohcaa.WalkBytes
set_option linter.unusedVariables false
set_option linter.unusedSimpArgs false
set_option maxRecDepth 100000

theorem below_drewN {B : Nat} {w w' : World} (h : Below B w w') (n : Nat) : Below B w (w'.drewN n) := h.trans ⟨rfl, rfl, rfl, Nat.le_refl _, fun _ _ => rfl⟩
theorem ret_i64 {a b : Int} (h : a = b) : Ending.returned (.int .i64 a) = .returned (.int .i64 b) := by rw [h]
/-- the first of what is wrong -/
def fb (f : Nat → Int) : Nat → Int
  | 0 => 0
  | n + 1 => if fb f n ≠ 0 then fb f n else f n
theorem fb_zero {f : Nat → Int} {n : Nat} (h : ∀ j, j < n → f j = 0) : fb f n = 0 := by
  induction n with
  | zero => rfl
  | succ n ih =>
    have h1 := ih fun j hj => h j (by omega)
    rw [fb, h1, if_neg (by simp)]
    exact h n (by omega)
theorem fb_at {f : Nat → Int} {n i : Nat} (h : ∀ j, j < i → f j = 0) (hi : i < n) (hf : f i ≠ 0) : fb f n = f i := by
  induction n with
  | zero => omega
  | succ n ih =>
    by_cases e : i < n
    · have h1 := ih e
      rw [fb, h1, if_pos hf]
    · have e : i = n := by omega
      subst e
      rw [fb, fb_zero h, if_neg (by simp)]
theorem fb_none {f : Nat → Int} {n : Nat} (h : fb f n = 0) : ∀ j, j < n → f j = 0 := by
  induction n with
  | zero => intro j hj; omega
  | succ n ih =>
    intro j hj
    rw [fb] at h
    by_cases e : fb f n ≠ 0
    · rw [if_pos e] at h
      exact absurd h e
    · rw [if_neg e] at h
      have e : fb f n = 0 := by simpa using e
      rcases Nat.lt_or_ge j n with q | q
      · exact ih e j q
      · rw [show j = n by omega]; exact h
/-- the order of texts -/
def lt (a b : ByteArray) : Bool := Op.bytesLess a.toList b.toList
theorem toList_inj {a b : ByteArray} (h : a.toList = b.toList) : a = b := by
  rw [ByteArray.toList_eq, ByteArray.toList_eq] at h
  exact ByteArray.ext (Array.toList_inj.1 h)
theorem lt_irrefl (a : ByteArray) : lt a a = false := by
  unfold lt; rw [Proofs.bytesLess_eq, decide_eq_false_iff_not]; exact List.lt_irrefl _
theorem lt_trans {a b c : ByteArray} (h : lt a b = true) (k : lt b c = true) : lt a c = true := by
  unfold lt at *
  rw [Proofs.bytesLess_eq, decide_eq_true_iff] at *
  exact List.lt_trans h k
theorem lt_tri (a b : ByteArray) : lt a b = true ∨ a = b ∨ lt b a = true := by
  unfold lt
  rw [Proofs.bytesLess_eq, Proofs.bytesLess_eq, decide_eq_true_iff, decide_eq_true_iff]
  rcases Classical.em (a.toList < b.toList) with h | h
  · exact .inl h
  · rcases Classical.em (b.toList < a.toList) with k | k
    · exact .inr (.inr k)
    · exact .inr (.inl (toList_inj (List.le_antisymm (List.not_lt.1 k) (List.not_lt.1 h))))
theorem lt_asymm {a b : ByteArray} (h : lt a b = true) : lt b a = false := by
  cases k : lt b a with
  | false => rfl
  | true => have := lt_trans h k; rw [lt_irrefl] at this; cases this
theorem le_not {a b : ByteArray} : (Op.bytesLess b.toList a.toList || b.toList == a.toList) = !lt a b := by
  have h1 : Op.bytesLess b.toList a.toList = lt b a := rfl
  rw [h1]
  rcases lt_tri a b with h | rfl | h
  · have ne : (b.toList == a.toList) = false := by
      rw [beq_eq_false_iff_ne]
      intro e
      have := toList_inj e
      subst this
      rw [lt_irrefl] at h; cases h
    rw [h, lt_asymm h, ne]; rfl
  · rw [lt_irrefl]; simp
  · rw [h, lt_asymm h]; rfl
theorem geqS (a b : ByteArray) (w : World) : (binOp .geq 9 (.string a) (.string b)).run Try.prog w = .ok (.bool (!lt a b)) w := by kernel_rfl
theorem leqS0 (a b : ByteArray) (w : World) : (binOp .leq 9 (.string a) (.string b)).run Try.prog w = .ok (.bool (Op.bytesLess a.toList b.toList || a.toList == b.toList)) w := by kernel_rfl
theorem leqS (a b : ByteArray) (w : World) : (binOp .leq 9 (.string a) (.string b)).run Try.prog w = .ok (.bool (!lt b a)) w := by rw [leqS0, le_not]
theorem lssS (a b : ByteArray) (w : World) : (binOp .lss 9 (.string a) (.string b)).run Try.prog w = .ok (.bool (lt a b)) w := by kernel_rfl
def tx (L : List ByteArray) (i : Nat) : ByteArray := L.getD i ByteArray.empty
def rowBad (L : List ByteArray) (i : Nat) : Int := if isName (tx L i).data.toList = false then 2 else if 0 < i ∧ lt (tx L (i - 1)) (tx L i) = false then 4 else 0
def rowWhy (L : List ByteArray) : Int := fb (rowBad L) L.length

set_option maxHeartbeats 3200000 in
theorem nameRow_any (A : Option Addr) (c : Nat) (L : List ByteArray) (w : World) (h : Strs w A L) (hl : L.length ≤ 1000000) :
    Calls Try.prog 105 #[.slice A L.length c] w fun e w' => e = .returned (.int .i64 (rowWhy L)) ∧ w = w' := by
  obtain ⟨n, hn⟩ : ∃ n, n = L.length := ⟨_, rfl⟩
  rw [← hn]
  have hnl : n ≤ 1000000 := by omega
  obtain ⟨R, hR⟩ : ∃ R, R = rowWhy L := ⟨_, rfl⟩
  rw [← hR]
  have HR : Hid (R = fb (rowBad L) n) := by rw [hn]; exact hR
  have HN := Lib.hid hn
  clear hn hl hR
  go_enter Try.func105, Try.ntmps105
  rcases h with hnil | ⟨g, off, rfl, hc⟩
  · have hm0 : n = 0 := by rw [HN.out, hnil]; rfl
    clear hnil
    subst hm0
    go_wp2_with fail
    go_loop [8] (fun v => v = .int .i64 0) (fun v => 0)
    case atStart => rfl
    case round =>
      subst hrel
      go_wp2_with fail
      go_ret
      exact ⟨by show Ending.returned (Value.int .i64 0) = _; rw [HR.out]; rfl, rfl⟩
  · go_wp2_with fail
    go_loop [8] (fun v => ∃ i : Nat, v = .int .i64 i ∧ i ≤ n ∧ (∀ j, j < i → rowBad L j = 0)) (fun v => n - (intOf v).toNat)
    case atStart => exact ⟨0, rfl, Nat.zero_le _, fun j hj => absurd hj (by omega)⟩
    case round =>
      obtain ⟨i, rfl, hi, hall⟩ := hrel
      have HALL := Lib.hid hall
      clear hall
      by_cases hin : i < n
      · have c1 := hc i (by rw [← HN.out]; exact hin)
        have HP : Hid (0 < i → w.cell? ⟨g, off + (i - 1), none⟩ = some (.string (tx L (i - 1)))) := fun h0 => hc (i - 1) (by rw [← HN.out]; omega)
        have HBAD : Hid (rowBad L i = if isName (tx L i).data.toList = false then 2 else if 0 < i ∧ lt (tx L (i - 1)) (tx L i) = false then 4 else 0) := rfl
        obtain ⟨s, hs⟩ : ∃ s, s = tx L i := ⟨_, rfl⟩
        obtain ⟨p, hp⟩ : ∃ p, p = tx L (i - 1) := ⟨_, rfl⟩
        replace c1 : w.cell? ⟨g, off + i, none⟩ = some (.string s) := by rw [hs]; exact c1
        rw [← hs, ← hp] at HBAD
        rw [← hp] at HP
        have HAT : Hid (rowBad L i ≠ 0 → R = rowBad L i) := fun hne => by rw [HR.out]; exact fb_at HALL.out hin hne
        clear hc hs hp
        obtain ⟨b, hb⟩ : ∃ b, b = isName s.data.toList := ⟨_, rfl⟩
        rw [← hb] at HBAD
        have HB := Lib.hid hb
        clear hb
        go_wp2_with fail
        refine (nameCheck_any s w).mono ?_
        rintro e w' ⟨rfl, rfl⟩
        rw [← HB.out]
        cases b with
        | false =>
          have e2 : arg false = 2 := rfl
          have hR2 : Hid (R = 2) := by
            have := HBAD.out
            rw [if_pos rfl] at this
            show R = 2
            rw [HAT.out (by rw [this]; decide), this]
          go_wp2_with fail
          go_ret
          exact ⟨by show Ending.returned (Value.int .i64 2) = _; rw [hR2.out], rfl⟩
        | true =>
          have e2 : arg true = 0 := rfl
          by_cases i0 : i = 0
          · have d : decide (0 < i) = false := by simp; omega
            have hbad : Hid (rowBad L i = 0) := by
              show _ = _
              rw [HBAD.out, if_neg (by simp), if_neg (by omega)]
            clear i0
            go_wp2_with fail
            go_round
            case rel => exact ⟨i + 1, by go_num, by omega, fun j hj => by
              rcases Nat.lt_or_ge j i with q | q
              · exact HALL.out j q
              · rw [show j = i by omega]; exact hbad.out⟩
            case measure => simp [intOf]; omega
          · have i0' : 0 < i := by omega
            have d : decide (0 < i) = true := by simp; omega
            have cp := HP.out i0'
            have ei : (i : Int) - 1 = ((i - 1 : Nat) : Int) := by omega
            have ii : i - 1 < n := by omega
            clear i0
            generalize i - 1 = i1 at cp ei ii
            obtain ⟨r, hr⟩ : ∃ r, lt p s = r := ⟨_, rfl⟩
            have HRR : Hid (lt p s = r) := hr
            have hg : ∀ W : World, (binOp .geq 9 (.string p) (.string s)).run Try.prog W = .ok (.bool (!r)) W := fun W => by rw [geqS, hr]
            clear hr
            cases r with
            | true =>
              have hbad : Hid (rowBad L i = 0) := by
                show _ = _
                rw [HBAD.out, if_neg (by simp), if_neg (by rw [HRR.out]; simp)]
              go_wp2_with fail
              go_round
              case rel => exact ⟨i + 1, by go_num, by omega, fun j hj => by
                rcases Nat.lt_or_ge j i with q | q
                · exact HALL.out j q
                · rw [show j = i by omega]; exact hbad.out⟩
              case measure => simp [intOf]; omega
            | false =>
              have hR4 : Hid (R = 4) := by
                have := HBAD.out
                rw [if_neg (by simp), if_pos ⟨i0', HRR.out⟩] at this
                show R = 4
                rw [HAT.out (by rw [this]; decide), this]
              go_wp2_with fail
              go_ret
              exact ⟨by show Ending.returned (Value.int .i64 4) = _; rw [hR4.out], rfl⟩
      · have hie : i = n := by omega
        have HIE := Lib.hid hie
        clear hie hc
        go_wp2_with fail
        go_ret
        exact ⟨by show Ending.returned (Value.int .i64 0) = _; rw [HR.out, fb_zero (by rw [← HIE.out]; exact HALL.out)], rfl⟩

set_option maxHeartbeats 3200000 in
theorem refRow_any (A : Option Addr) (c : Nat) (L : List ByteArray) (w : World) (h : Strs w A L) (hl : L.length ≤ 1000000) (hs : ∀ s ∈ L, s.size ≤ 9223372036854775806) :
    Calls Try.prog 96 #[.slice A L.length c] w fun e w' => e = .returned (.int .i64 (rowWhy L)) ∧ ∃ m, w' = w.drewN m := by
  obtain ⟨n, hn⟩ : ∃ n, n = L.length := ⟨_, rfl⟩
  rw [← hn]
  have hnl : n ≤ 1000000 := by omega
  obtain ⟨R, hR⟩ : ∃ R, R = rowWhy L := ⟨_, rfl⟩
  rw [← hR]
  have HR : Hid (R = fb (rowBad L) n) := by rw [hn]; exact hR
  have HN := Lib.hid hn
  have HSZ := Lib.hid hs
  clear hn hl hR hs
  go_enter Try.func96, Try.ntmps96
  rcases h with hnil | ⟨g, off, rfl, hc⟩
  · have hm0 : n = 0 := by rw [HN.out, hnil]; rfl
    clear hnil
    subst hm0
    go_wp2_with fail
    go_loop [3] (fun v => v = .int .i64 0) (fun v => 0)
    case atStart => rfl
    case round =>
      subst hrel
      go_wp2_with fail
      go_ret
      exact ⟨by show Ending.returned (Value.int .i64 0) = _; rw [HR.out]; rfl, 0, rfl⟩
  · go_wp2_with fail
    go_loopw [3] (fun v wr => ∃ i : Nat, v = .int .i64 i ∧ i ≤ n ∧ (∀ j, j < i → rowBad L j = 0) ∧ ∃ m, wr = w.drewN m) (fun v _ => n - (intOf v).toNat)
    case atStart => exact ⟨0, rfl, Nat.zero_le _, fun j hj => absurd hj (by omega), 0, rfl⟩
    case round =>
      obtain ⟨i, rfl, hi, hall, m, rfl⟩ := hrel
      have HALL := Lib.hid hall
      clear hall
      by_cases hin : i < n
      · have c1 := hc i (by rw [← HN.out]; exact hin)
        have HP : Hid (0 < i → w.cell? ⟨g, off + (i - 1), none⟩ = some (.string (tx L (i - 1)))) := fun h0 => hc (i - 1) (by rw [← HN.out]; omega)
        have HBAD : Hid (rowBad L i = if isName (tx L i).data.toList = false then 2 else if 0 < i ∧ lt (tx L (i - 1)) (tx L i) = false then 4 else 0) := rfl
        have hsz : (tx L i).size ≤ 9223372036854775806 := HSZ.out _ (by unfold tx; rw [List.getD_eq_getElem?_getD, List.getElem?_eq_getElem (by rw [← HN.out]; exact hin)]; exact List.getElem_mem _)
        obtain ⟨s, hs⟩ : ∃ s, s = tx L i := ⟨_, rfl⟩
        obtain ⟨p, hp⟩ : ∃ p, p = tx L (i - 1) := ⟨_, rfl⟩
        replace c1 : w.cell? ⟨g, off + i, none⟩ = some (.string s) := by rw [hs]; exact c1
        rw [← hs] at hsz
        rw [← hs, ← hp] at HBAD
        rw [← hp] at HP
        have HAT : Hid (rowBad L i ≠ 0 → R = rowBad L i) := fun hne => by rw [HR.out]; exact fb_at HALL.out hin hne
        clear hc hs hp
        obtain ⟨b, hb⟩ : ∃ b, b = isName s.data.toList := ⟨_, rfl⟩
        rw [← hb] at HBAD
        have HB := Lib.hid hb
        clear hb
        go_wp2_with fail
        refine (refName_any s _ hsz).mono ?_
        rintro e w' ⟨rfl, rfl⟩
        rw [← HB.out]
        cases b with
        | false =>
          have hR2 : Hid (R = 2) := by
            have := HBAD.out
            rw [if_pos rfl] at this
            show R = 2
            rw [HAT.out (by rw [this]; decide), this]
          go_wp2_with fail
          go_ret
          exact ⟨by show Ending.returned (Value.int .i64 2) = _; rw [hR2.out], _, rfl⟩
        | true =>
          by_cases i0 : i = 0
          · have d : decide (0 < i) = false := by simp; omega
            have hbad : Hid (rowBad L i = 0) := by
              show _ = _
              rw [HBAD.out, if_neg (by simp), if_neg (by omega)]
            clear i0
            go_wp2_with fail
            go_quiet (fail)
            go_wp2_with fail
            go_roundw
            case rel => exact ⟨i + 1, by go_num, by omega, fun j hj => by
              rcases Nat.lt_or_ge j i with q | q
              · exact HALL.out j q
              · rw [show j = i by omega]; exact hbad.out, _, rfl⟩
            case measure => simp [intOf]; omega
          · have i0' : 0 < i := by omega
            have d : decide (0 < i) = true := by simp; omega
            have cp := HP.out i0'
            have ei : (i : Int) - 1 = ((i - 1 : Nat) : Int) := by omega
            have ii : i - 1 < n := by omega
            clear i0
            generalize i - 1 = i1 at cp ei ii
            obtain ⟨r, hr⟩ : ∃ r, lt p s = r := ⟨_, rfl⟩
            have HRR : Hid (lt p s = r) := hr
            have hg : ∀ W : World, (binOp .leq 9 (.string s) (.string p)).run Try.prog W = .ok (.bool (!r)) W := fun W => by rw [leqS, hr]
            clear hr
            cases r with
            | true =>
              have hbad : Hid (rowBad L i = 0) := by
                show _ = _
                rw [HBAD.out, if_neg (by simp), if_neg (by rw [HRR.out]; simp)]
              go_wp2_with fail
              go_quiet (fail)
              go_wp2_with fail
              go_roundw
              case rel => exact ⟨i + 1, by go_num, by omega, fun j hj => by
                rcases Nat.lt_or_ge j i with q | q
                · exact HALL.out j q
                · rw [show j = i by omega]; exact hbad.out, _, rfl⟩
              case measure => simp [intOf]; omega
            | false =>
              have hR4 : Hid (R = 4) := by
                have := HBAD.out
                rw [if_neg (by simp), if_pos ⟨i0', HRR.out⟩] at this
                show R = 4
                rw [HAT.out (by rw [this]; decide), this]
              go_wp2_with fail
              go_quiet (fail)
              go_wp2_with fail
              go_ret
              exact ⟨by show Ending.returned (Value.int .i64 4) = _; rw [hR4.out], m + nq, by simp [World.drewN, Nat.add_assoc]⟩
      · have hie : i = n := by omega
        have HIE := Lib.hid hie
        clear hie hc
        go_wp2_with fail
        go_ret
        exact ⟨by show Ending.returned (Value.int .i64 0) = _; rw [HR.out, fb_zero (by rw [← HIE.out]; exact HALL.out)], _, rfl⟩
end Go.Proofs.Ytpaegpbabfohcaa.Paths
