/-
  How much a graph holds: the document's weight, Few.
-/
import Derived.Test.YtpaegpbabfohcaaPathWrong
import Derived.Deep.DeepCutAuto
namespace Go.Proofs.Ytpaegpbabfohcaa.Paths
open Go.RowKit Go.Proofs.Ytpaegpbabfohcaa.WalkBytes
set_option linter.unusedVariables false
set_option linter.unusedSimpArgs false
set_option maxRecDepth 100000

theorem minInt2 (k k' : IntKind) (x y : Int) : Builtin.min2 (.int k x) (.int k' y) = pure (.int k (if y < x then y else x)) := by simp only [Builtin.min2]
theorem minTwo (ats : Array TypeId) (ty : TypeId) (a b : Value) : Builtin.min_ ats ty #[a, b] = (Builtin.min2 a b >>= fun s => pure s) := by simp only [Builtin.min_, List.foldlM_cons, List.foldlM_nil]
/-- the lesser one of a size and 5000 -/
def cut5 (n : Nat) : Nat := if 5000 < n then 5000 else n
theorem cut5_le (n : Nat) : cut5 n ≤ 5000 := by unfold cut5; split <;> omega
theorem min5 (n : Nat) : (if (5000 : Int) < (n : Int) then (5000 : Int) else (n : Int)) = (cut5 n : Int) := by
  unfold cut5
  by_cases h : 5000 < n
  · rw [if_pos h, if_pos (by omega)]; rfl
  · rw [if_neg h, if_neg (by omega)]
theorem min5k (k k' : IntKind) (n : Nat) : Builtin.min2 (.int k (n : Int)) (.int k' 5000) = pure (.int k (cut5 n : Int)) := by rw [minInt2, min5]
attribute [local go_sem] min5k minTwo

def sum (f : Nat → Nat) : Nat → Nat
  | 0 => 0
  | n + 1 => sum f n + f n
theorem sum_le {f : Nat → Nat} {B : Nat} (h : ∀ i, f i ≤ B) : ∀ n, sum f n ≤ n * B
  | 0 => by simp [sum]
  | n + 1 => by have := sum_le h n; have := h n; rw [sum, Nat.succ_mul]; omega
def wL (L : List ByteArray) (i : Nat) : Nat := cut5 (L.getD i ByteArray.empty).size
def wP (P : List Pr) (i : Nat) : Nat := cut5 (pr P i).key.size + cut5 (pr P i).t.size
def weightV (L : List ByteArray) (P : List Pr) : Nat := if 20 < L.length ∨ 20 < P.length then 100000 else sum (wL L) L.length + sum (wP P) P.length
theorem weightV_le (L : List ByteArray) (P : List Pr) : weightV L P ≤ 300000 := by
  unfold weightV
  split
  · omega
  · rename_i h
    have h1 := sum_le (f := wL L) (B := 5000) (fun i => cut5_le _) L.length
    have h2 := sum_le (f := wP P) (B := 10000) (fun i => by have := cut5_le (pr P i).key.size; have := cut5_le (pr P i).t.size; unfold wP; omega) P.length
    have : L.length * 5000 ≤ 20 * 5000 := Nat.mul_le_mul_right _ (by omega)
    have : P.length * 10000 ≤ 20 * 10000 := Nat.mul_le_mul_right _ (by omega)
    omega

set_option maxHeartbeats 6400000 in
theorem weight_any (A B : Option Addr) (c d : Nat) (L : List ByteArray) (P : List Pr) (w : World) (h : Strs w A L) (hP : Prs w B P) (hl : L.length ≤ 9223372036854775807) (hp : P.length ≤ 9223372036854775807) :
    Calls Try.prog 57 #[.slice A L.length c, .slice B P.length d] w fun e w' => e = .returned (.int .i64 (weightV L P : Nat)) ∧ ∃ m, w' = w.drewN m := by
  obtain ⟨n, hn⟩ : ∃ n, n = L.length := ⟨_, rfl⟩
  obtain ⟨m, hm⟩ : ∃ m, m = P.length := ⟨_, rfl⟩
  rw [← hn, ← hm]
  have hn9 : n ≤ 9223372036854775807 := by omega
  have hm9 : m ≤ 9223372036854775807 := by omega
  obtain ⟨R, hR⟩ : ∃ R, R = weightV L P := ⟨_, rfl⟩
  rw [← hR]
  have HR : Hid (R = if 20 < n ∨ 20 < m then 100000 else sum (wL L) n + sum (wP P) m) := by show _ = _; rw [hR, hn, hm]; rfl
  have HN := Lib.hid hn
  have HM := Lib.hid hm
  clear hl hp hn hm hR
  by_cases hbig : 20 < n ∨ 20 < m
  · obtain rfl : R = 100000 := by rw [HR.out, if_pos hbig]
    by_cases q : 20 < n
    · have d1 : decide (20 < n) = true := by simpa using q
      clear hbig
      go_enter Try.func57, Try.ntmps57
      go_wp2_with fail
      go_ret
      exact ⟨rfl, 0, rfl⟩
    · have q2 : 20 < m := by omega
      have d1 : decide (20 < n) = false := by simpa using q
      have d2 : decide (20 < m) = true := by simpa using q2
      clear hbig
      go_enter Try.func57, Try.ntmps57
      go_wp2_with fail
      go_ret
      exact ⟨rfl, 0, rfl⟩
  · have hn2 : n ≤ 20 := by omega
    have hm2 : m ≤ 20 := by omega
    have HR2 : Hid (R = sum (wL L) n + sum (wP P) m) := by show _ = _; rw [HR.out, if_neg hbig]
    clear hbig HR
    go_enter Try.func57, Try.ntmps57
    go_wp2_with fail
    have D1 : decide ((20 : Int) < (n : Int)) = false := by simp; omega
    have D2 : decide ((20 : Int) < (m : Int)) = false := by simp; omega
    rw [D1, D2]
    simp only [Bool.or_self]
    clear D1 D2
    go_loopw [5, 6] (fun u v wr => ∃ i s : Nat, v = .int .i64 i ∧ u = .int .i64 s ∧ i ≤ n ∧ s ≤ i * 5000 ∧ Hid (s = sum (wL L) i) ∧ w = wr) (fun _ v _ => n - (intOf v).toNat)
    case atStart => exact ⟨0, 0, rfl, rfl, Nat.zero_le _, by omega, rfl, rfl⟩
    case round =>
      obtain ⟨i, s, rfl, rfl, hi, hs, HS, rfl⟩ := hrel
      by_cases hin : i < n
      · rcases h with hnil | ⟨g, off, rfl, hc⟩
        · exact absurd (show n = 0 by rw [HN.out, hnil]; rfl) (by omega)
        have c1 := hc i (by rw [← HN.out]; exact hin)
        have HS2 : Hid (s + cut5 (L.getD i ByteArray.empty).size = sum (wL L) (i + 1)) := by show _ = _; rw [HS.out]; rfl
        generalize L.getD i ByteArray.empty = t at c1 HS2
        have hq := cut5_le t.size
        go_wp2_with fail
        go_roundw
        case rel => exact ⟨i + 1, s + cut5 t.size, by go_num, by go_num, by omega, by omega, HS2, trivial⟩
        case measure => simp [intOf]; omega
      · have hge : decide (i < n) = false := by simp; omega
        have hs2 : s ≤ 100000 := by omega
        have HS2 : Hid (s = sum (wL L) n) := by show _ = _; rw [HS.out, show i = n by omega]
        clear hs hin hi h HS
        go_wp2_with fail
        go_loopw [5, 7] (fun u v wr => ∃ j t : Nat, v = .int .i64 j ∧ u = .int .i64 t ∧ j ≤ m ∧ t ≤ 100000 + j * 10000 ∧ Hid (t = sum (wL L) n + sum (wP P) j) ∧ ∃ q, wr = w.drewN q) (fun _ v _ => m - (intOf v).toNat)
        case atStart => exact ⟨0, s, rfl, rfl, Nat.zero_le _, by omega, HS2, 0, rfl⟩
        case round =>
          obtain ⟨j, t, rfl, rfl, hj, ht, HT, q, rfl⟩ := hrel
          by_cases hjn : j < m
          · rcases hP with hnil | ⟨g, off, rfl, hc⟩
            · exact absurd (show m = 0 by rw [HM.out, hnil]; rfl) (by omega)
            obtain ⟨c1, c2, c3, c4⟩ := hc j (by rw [← HM.out]; exact hjn)
            have HT2 : Hid (t + cut5 (pr P j).key.size + cut5 (pr P j).t.size = sum (wL L) n + sum (wP P) (j + 1)) := by
              show _ = _
              rw [HT.out, sum]; unfold wP; omega
            generalize pr P j = x at c1 c2 c3 c4 HT2
            obtain ⟨k, n1, n2, t1⟩ := x
            have hq := cut5_le k.size
            have hq1 := cut5_le t1.size
            go_wp2_with fail
            go_quiet (fail)
            go_wp2_with fail
            go_roundw
            case rel => exact ⟨j + 1, t + cut5 k.size + cut5 t1.size, by go_num, by go_num, by omega, by omega, HT2, _, rfl⟩
            case measure => simp [intOf]; omega
          · have hge : m ≤ j := by omega
            have HT2 : Hid (t = R) := by show _ = _; rw [HR2.out, HT.out, show j = m by omega]
            clear ht hjn hj hP HT
            go_wp2_with fail
            go_ret
            exact ⟨by show Ending.returned (Value.int .i64 (t : Int)) = _; rw [HT2.out], q, rfl⟩

/-- few parts, if so it says -/
def FewR (n m : Nat) (e : Ending) : Prop := ∃ b, e = .returned (.bool b) ∧ (b = true → n ≤ 40 ∧ m ≤ 60)
set_option maxHeartbeats 12800000 in
theorem few_any (g : Gr) (gn ge : Value) (hgn : gn = g.n) (hge : ge = g.e) (w : World) (h : GrAt w.heap.size w g) :
    Calls Try.prog 26 #[.agg #[gn, ge]] w fun e w' => FewR g.N.length g.E.length e ∧ Below w.heap.size w w' := by
  obtain ⟨A, N, a, B, M, b⟩ := g
  subst hgn hge
  obtain ⟨n, hn⟩ : ∃ n, n = N.length := ⟨_, rfl⟩
  obtain ⟨m, hm⟩ : ∃ m, m = M.length := ⟨_, rfl⟩
  have hn9 : n ≤ 9223372036854775807 := by rw [hn]; exact h.ln
  have hm9 : m ≤ 9223372036854775807 := by rw [hm]; exact h.le
  obtain ⟨W, hW⟩ : ∃ W, W = w.alloc (.cells #[.slice A n a, .slice B m b] 45) := ⟨_, rfl⟩
  have hB : Below w.heap.size w W := by rw [hW]; exact Joins.below_alloc1 w _
  have z0 : W.cell? ⟨w.heap.size, 0, none⟩ = some (.slice A n a) := by rw [hW, cell_of_row _ _ 0 _ _ _ (heap_new w _)]; rfl
  have z1 : W.cell? ⟨w.heap.size, 1, none⟩ = some (.slice B m b) := by rw [hW, cell_of_row _ _ 1 _ _ _ (heap_new w _)]; rfl
  have HG0 : Hid (GrAt w.heap.size W ⟨A, N, a, B, M, b⟩) := h.below hB
  have HB := Lib.hid hB
  obtain ⟨bx, hbx⟩ : ∃ bx, bx = w.heap.size := ⟨_, rfl⟩
  have hbW : bx < W.heap.size := by rw [hbx, hW]; simp
  have e1 : (⟨A, N, a, B, M, b⟩ : Gr).n = .slice A n a := by rw [hn]; rfl
  have e2 : (⟨A, N, a, B, M, b⟩ : Gr).e = .slice B m b := by rw [hm]; rfl
  rw [e1, e2]
  have HPOST : Hid (∀ e, FewR n m e → FewR (⟨A, N, a, B, M, b⟩ : Gr).N.length (⟨A, N, a, B, M, b⟩ : Gr).E.length e) := fun e q => by rw [hn, hm] at q; exact q
  have HN := Lib.hid hn
  have HM := Lib.hid hm
  have hrow : Nds w.heap.size W A N := HG0.out.n
  have hrowE : Eds w.heap.size W B M := HG0.out.e
  rw [← hbx] at z0 z1 hrow hrowE HB
  have HROW := Lib.hid hrow
  have HROWE := Lib.hid hrowE
  have HBB : Hid (∀ w', Below bx w w' → Below w.heap.size w w') := fun w' k => by rw [← hbx]; exact k
  clear h hB e1 e2 hn hm hrow hrowE
  by_cases hbig : 40 < n ∨ 60 < m
  · go_enter Try.func26, Try.ntmps26
    go_upto_region 1 with (fail)
    rw [← hW, ← hbx]
    clear hW hbx
    by_cases q : 40 < n
    · have d1 : decide (40 < n) = true := by simpa using q
      clear hbig
      go_wp2_with fail
      go_ret
      exact ⟨HPOST.out _ ⟨false, rfl, by simp⟩, HBB.out _ HB.out⟩
    · have q2 : 60 < m := by omega
      have d1 : decide (40 < n) = false := by simpa using q
      have d2 : decide (60 < m) = true := by simpa using q2
      clear hbig
      go_wp2_with fail
      go_ret
      exact ⟨HPOST.out _ ⟨false, rfl, by simp⟩, HBB.out _ HB.out⟩
  · have hn2 : n ≤ 40 := by omega
    have hm2 : m ≤ 60 := by omega
    have HNM : Hid (n ≤ 40 ∧ m ≤ 60) := ⟨hn2, hm2⟩
    clear hbig
    go_enter Try.func26, Try.ntmps26
    go_upto_region 1 with (fail)
    rw [← hW, ← hbx]
    clear hW hbx
    go_wp2_with fail
    have D1 : decide ((40 : Int) < (n : Int)) = false := by simp; omega
    have D2 : decide ((60 : Int) < (m : Int)) = false := by simp; omega
    rw [D1, D2]
    simp only [Bool.or_self]
    clear D1 D2
    go_loopw [3, 4] (fun u v wr => ∃ i s : Nat, v = .int .i64 i ∧ u = .int .i64 s ∧ i ≤ n ∧ s ≤ i * 400000 ∧ Below W.heap.size W wr) (fun _ v _ => n - (intOf v).toNat)
    case atStart => exact ⟨0, 0, rfl, rfl, Nat.zero_le _, by omega, Below.refl _ _⟩
    case round =>
      obtain ⟨i, s, rfl, rfl, hi, hs, hB⟩ := hrel
      have y0 : wr.cell? ⟨bx, 0, none⟩ = some (.slice A n a) := by rw [hB.cell (p := ⟨bx, 0, none⟩) hbW]; exact z0
      have y1 : wr.cell? ⟨bx, 1, none⟩ = some (.slice B m b) := by rw [hB.cell (p := ⟨bx, 1, none⟩) hbW]; exact z1
      by_cases hin : i < n
      · rcases HROW.out with hnil | ⟨g, off, hA, hg, hc⟩
        · exact absurd (show n = 0 by rw [HN.out, hnil]; rfl) (by omega)
        subst hA
        obtain ⟨c0, c1, c2, c3, c4⟩ := hc i (by rw [← HN.out]; exact hin)
        generalize nd N i = x at c0 c1 c2 c3 c4
        obtain ⟨id, ⟨A', L', a', B', P', b'⟩⟩ := x
        obtain ⟨hl, hp, bl, bp, ll, lp, sl, sp⟩ := c3
        have cl : ∀ o, wr.cell? ⟨g, o, none⟩ = W.cell? ⟨g, o, none⟩ := fun o => hB.cell (p := ⟨g, o, none⟩) (by show g < _; omega)
        rw [← cl] at c0 c1 c2
        replace c0 : wr.cell? ⟨g, off + i * 3, none⟩ = some (.string id) := c0
        replace c1 : wr.cell? ⟨g, off + i * 3 + 1, none⟩ = some (.slice A' L'.length a') := c1
        replace c2 : wr.cell? ⟨g, off + i * 3 + 2, none⟩ = some (.slice B' P'.length b') := c2
        have hbx2 : Below bx W wr := hB.mono (Nat.le_of_lt hbW)
        have HCW : Hid (∀ k, Calls Try.prog 57 #[.slice A' L'.length a', .slice B' P'.length b'] (wr.drewN k) fun e w' => e = .returned (.int .i64 (weightV L' P' : Nat)) ∧ ∃ m, w' = (wr.drewN k).drewN m) := fun k => weight_any A' B' a' b' L' P' (wr.drewN k) (strs_below hl (below_drewN hbx2 k) bl) (hp.below (below_drewN hbx2 k) bp) ll lp
        have hwle := weightV_le L' P'
        have hq := cut5_le id.size
        generalize weightV L' P' = wv at HCW hwle
        clear hc c4 hl hp bl bp ll lp sl sp cl hbx2
        go_wp2_with fail
        go_quiet ((go_at_call 57; exact Calls.quiet_of (HCW.out _)))
        go_wp2_with fail
        go_roundw
        case rel => exact ⟨i + 1, s + cut5 id.size + wv, by go_num, by go_num, by omega, by omega, below_drewN hB _⟩
        case measure => simp [intOf]; omega
      · have hge : decide (i < n) = false := by simp; omega
        have hs2 : s ≤ 16000000 := by omega
        clear hs hin hi
        go_wp2_with fail
        clear y0 y1
        go_loopw [3, 5] (fun u v wr => ∃ j t : Nat, v = .int .i64 j ∧ u = .int .i64 t ∧ j ≤ m ∧ t ≤ 16000000 + j * 400000 ∧ Below W.heap.size W wr) (fun _ v _ => m - (intOf v).toNat)
        case atStart => exact ⟨0, s, rfl, rfl, Nat.zero_le _, by omega, hB⟩
        case round =>
          clear hB
          obtain ⟨j, t, rfl, rfl, hj, ht, hB⟩ := hrel
          have y1 : wr.cell? ⟨bx, 1, none⟩ = some (.slice B m b) := by rw [hB.cell (p := ⟨bx, 1, none⟩) hbW]; exact z1
          by_cases hjn : j < m
          · rcases HROWE.out with hnil | ⟨g, off, hA, hg, hc⟩
            · exact absurd (show m = 0 by rw [HM.out, hnil]; rfl) (by omega)
            subst hA
            obtain ⟨c0, c1, c2, c3, c4, c5, c6⟩ := hc j (by rw [← HM.out]; exact hjn)
            generalize ed M j = x at c0 c1 c2 c3 c4 c5 c6
            obtain ⟨id, fr, tt, ⟨A', L', a', B', P', b'⟩⟩ := x
            obtain ⟨hl, hp, bl, bp, ll, lp, sl, sp⟩ := c5
            have cl : ∀ o, wr.cell? ⟨g, o, none⟩ = W.cell? ⟨g, o, none⟩ := fun o => hB.cell (p := ⟨g, o, none⟩) (by show g < _; omega)
            rw [← cl] at c0 c1 c2 c3 c4
            replace c0 : wr.cell? ⟨g, off + j * 5, none⟩ = some (.string id) := c0
            replace c1 : wr.cell? ⟨g, off + j * 5 + 1, none⟩ = some (.string fr) := c1
            replace c2 : wr.cell? ⟨g, off + j * 5 + 2, none⟩ = some (.string tt) := c2
            replace c3 : wr.cell? ⟨g, off + j * 5 + 3, none⟩ = some (.slice A' L'.length a') := c3
            replace c4 : wr.cell? ⟨g, off + j * 5 + 4, none⟩ = some (.slice B' P'.length b') := c4
            obtain ⟨W2, hW2⟩ : ∃ W2, W2 = wr.alloc (.cells #[.string id, .string fr, .string tt, .slice A' L'.length a', .slice B' P'.length b'] 74) := ⟨_, rfl⟩
            have hB2 : Below W.heap.size W W2 := by rw [hW2]; exact hB.trans ((Joins.below_alloc1 wr _).mono hB.size)
            have hbx2 : Below bx W W2 := hB2.mono (Nat.le_of_lt hbW)
            have x0 : W2.cell? ⟨wr.heap.size, 0, none⟩ = some (.string id) := by rw [hW2, cell_of_row _ _ 0 _ _ _ (heap_new wr _)]; rfl
            have x1 : W2.cell? ⟨wr.heap.size, 1, none⟩ = some (.string fr) := by rw [hW2, cell_of_row _ _ 1 _ _ _ (heap_new wr _)]; rfl
            have x2 : W2.cell? ⟨wr.heap.size, 2, none⟩ = some (.string tt) := by rw [hW2, cell_of_row _ _ 2 _ _ _ (heap_new wr _)]; rfl
            have x3 : W2.cell? ⟨wr.heap.size, 3, none⟩ = some (.slice A' L'.length a') := by rw [hW2, cell_of_row _ _ 3 _ _ _ (heap_new wr _)]; rfl
            have x4 : W2.cell? ⟨wr.heap.size, 4, none⟩ = some (.slice B' P'.length b') := by rw [hW2, cell_of_row _ _ 4 _ _ _ (heap_new wr _)]; rfl
            have HCW : Hid (∀ k, Calls Try.prog 57 #[.slice A' L'.length a', .slice B' P'.length b'] (W2.drewN k) fun e w' => e = .returned (.int .i64 (weightV L' P' : Nat)) ∧ ∃ m, w' = (W2.drewN k).drewN m) := fun k => weight_any A' B' a' b' L' P' (W2.drewN k) (strs_below hl (below_drewN hbx2 k) bl) (hp.below (below_drewN hbx2 k) bp) ll lp
            have hwle := weightV_le L' P'
            have hq := cut5_le id.size
            have hq1 := cut5_le fr.size
            have hq2 := cut5_le tt.size
            generalize weightV L' P' = wv at HCW hwle
            have HB2 := Lib.hid hB2
            clear hc hl hp bl bp ll lp sl sp cl hbx2 hB2
            go_upto_region 12 with (fail)
            rw [← hW2]
            clear hW2 hB c0 c1 c2 c3 c4 c6
            go_quiet ((go_at_call 57; exact Calls.quiet_of (HCW.out _)))
            go_wp2_with fail
            go_roundw
            case rel => exact ⟨j + 1, t + cut5 id.size + cut5 fr.size + cut5 tt.size + wv, by go_num, by go_num, by omega, by omega, below_drewN HB2.out _⟩
            case measure => simp [intOf]; omega
          · have hge : m ≤ j := by omega
            go_wp2_with fail
            go_ret
            exact ⟨HPOST.out _ ⟨_, rfl, fun _ => HNM.out⟩, HBB.out _ (HB.out.trans (hB.mono (Nat.le_of_lt hbW)))⟩
end Go.Proofs.Ytpaegpbabfohcaa.Paths
