/-
  dag: a walk's pop.
-/
import Derived.Test.YtpaegpbabfohcaaWalkDagA
import Derived.Test.YtpaegpbabfohcaaWalkInts
namespace Go.Proofs.Ytpaegpbabfohcaa.WalkDag
open Go.RowKit Go.Proofs.Ytpaegpbabfohcaa.HeapPure Go.Proofs.Ytpaegpbabfohcaa.HeapA Go.Proofs.Ytpaegpbabfohcaa.MapAt Go.Proofs.Ytpaegpbabfohcaa.DagPure Go.Proofs.Ytpaegpbabfohcaa.WalkInts
set_option linter.unusedVariables false
set_option linter.unusedSimpArgs false
set_option maxRecDepth 100000

/-- what a knot comes of stands behind it -/
def Closed : List K → Prop
  | [] => True
  | k :: t => (∀ p ∈ k.ps, ∃ y ∈ t, y.n = p) ∧ Closed t
theorem closed_tail {t1 t2 : List K} (h : Closed (t1 ++ t2)) : Closed t2 := by
  induction t1 with
  | nil => exact h
  | cons k t ih => exact ih h.2
/-- a row that is not empty lies below B -/
def Bd (B : Nat) (A : Option Addr) (l : List Int) : Prop := l ≠ [] → ∀ g off, A = some ⟨g, off, none⟩ → g < B
theorem ints_parts {w : World} {A : Option Addr} {l : List Int} (h : Ints w A l) : l = [] ∨ (l ≠ [] ∧ ∃ b off, A = some ⟨b, off, none⟩ ∧ ∀ i, i < l.length → w.cell? ⟨b, off + i, none⟩ = some (.int .i64 (l.getD i 0))) := by
  by_cases e : l = []
  · exact .inl e
  · exact .inr ⟨e, by rcases h with h | h; exact absurd h e; exact h⟩
theorem ints_bd {w w' : World} {A : Option Addr} {l : List Int} (h : Ints w A l) {B : Nat} (b : Below B w w') (hB : Bd B A l) : Ints w' A l :=
  h.block fun g off e hne => b.block g (hB hne g off e)
/-- what a knot comes of lies in memory below B0 -/
def KV (B0 : Nat) (w : World) (kf : Int → Option Value) (k : K) : Prop :=
  k.ps.length ≤ 5 ∧ ∃ A c, kf k.n = some (.slice A k.ps.length c) ∧ Ints w A k.ps ∧ Bd B0 A k.ps
/-- what is to come of a walk -/
structure St (B0 : Nat) (w0 : World) (kf : Int → Option Value) (t : List K) (f : Int → M) (q : List Int) : Prop where
  falls : Falls t
  closed : Closed t
  pend : q.Perm (pend t f)
  kv : ∀ k ∈ t, KV B0 w0 kf k
  few : t.length ≤ 1000
theorem St.len {B0 : Nat} {w0 : World} {kf : Int → Option Value} {t : List K} {f : Int → M} {q : List Int} (h : St B0 w0 kf t f q) : q.length ≤ 1000 := by
  rw [h.pend.length_eq]
  unfold DagPure.pend
  rw [List.length_map]
  exact Nat.le_trans (List.length_filter_le _ _) h.few
theorem and_code (m : M) : (bits .and .i64 m.code 3 == 3) = m.both := by
  cases m with | mk a b c => cases a <;> cases b <;> cases c <;> decide
theorem or4_code (m : M) (h : m.both = true) : bits .or .i64 m.code 4 = m.on.code := by
  cases m with | mk a b c => revert h; cases a <;> cases b <;> cases c <;> simp [M.both, M.on, M.code] <;> decide
theorem on_not (m : M) (h : m.both = false) : m.on = m := by
  cases m with | mk a b c => revert h; cases a <;> cases b <;> cases c <;> simp [M.both, M.on]
/-- one more mark -/
theorem St.step {B0 : Nat} {w0 : World} {kf : Int → Option Value} {t : List K} {f : Int → M} {q q' : List Int} {p : Int} {o : M} (h : St B0 w0 kf t f q) (ho : o.z = false) (hp : ∃ y ∈ t, y.n = p) (hq : ((f p).z = true ∧ q'.Perm (p :: q)) ∨ ((f p).z = false ∧ q' = q)) : St B0 w0 kf t (mark1 f p o) q' := by
  refine ⟨h.falls, h.closed, ?_, h.kv, h.few⟩
  rcases hq with ⟨hz, hq⟩ | ⟨hz, rfl⟩
  · exact hq.trans ((h.pend.cons p).trans (pend_new h.falls hp hz ho))
  · rw [pend_again hz ho]; exact h.pend
/-- the greatest one has come -/
theorem St.pop {B0 : Nat} {w0 : World} {kf : Int → Option Value} {t : List K} {f : Int → M} {q q' : List Int} {x : Int} (h : St B0 w0 kf t f q) (hx : (x :: q').Perm q) (hm : ∀ y ∈ q, y ≤ x) :
    ∃ k t2, k.n = x ∧ KV B0 w0 kf k ∧ St B0 w0 kf t2 f q' ∧ (∀ p ∈ k.ps, ∃ y ∈ t2, y.n = p) ∧ run t f = (x, f x) :: run t2 (marks f k.ps (f x).on) ∧ (f x).z = false := by
  obtain ⟨t1, k, t2, rfl, rfl, h1, h2, h3⟩ := pend_pop h.falls h.pend hx hm
  have hf := falls_tail h.falls
  have hc := closed_tail h.closed
  have hl := h.few
  exact ⟨k, t2, rfl, h.kv k (by simp), ⟨hf.2, hc.2, h1, fun y hy => h.kv y (by simp [hy]), by simp at hl; omega⟩, hc.1, h2, h3⟩

set_option maxHeartbeats 3200000 in
theorem pop_any (F : Nat → Prop) (B0 b bk bm : Nat) (kf : Int → Option Value) (t : List K) (f : Int → M) (q : List Int) (w0 w : World) (h : WAt F b bk bm kf f q w) (hs : St B0 w0 kf t f q) (hp : 0 < q.length) (hb : Below B0 w0 w) (hF : ∀ k, k < B0 → F k) (hB0 : B0 ≤ w.heap.size) :
    Calls Try.prog 55 #[.pointer (some ⟨b, 0, none⟩)] w fun e w' => (∃ (k : K) (t2 : List K) (q' : List Int), e = .returned (.tuple #[.int .i64 k.n, .int .i64 (f k.n).code]) ∧ run t f = (k.n, f k.n) :: run t2 (marks f k.ps (f k.n).on) ∧ WAt F b bk bm kf (marks f k.ps (f k.n).on) q' w' ∧ St B0 w0 kf t2 (marks f k.ps (f k.n).on) q') ∧ Kp F w w' := by
  have hta := as_int
  have hlen := hs.len
  go_enter Try.func55, Try.ntmps55
  go_wp2_with fail
  refine (hpop_any _ b q w h.qa h.hp hp (by omega)).mono ?_
  rintro e w1 ⟨⟨x, q1, rfl, k1, k2, k3, k4⟩, p⟩
  have h1 := h.ps p k1 k3
  have hB1 := Ps.kp p
  obtain ⟨k, t2, hkx, ⟨hk5, A, c, hkf, hints, hA⟩, hst, hcl, hrun, hz⟩ := hs.pop k2 k4
  have hc0 := h1.c0
  have hc1 := h1.c1
  have hlk := h1.look x
  have hkn := h1.knot x
  rw [← hkx, hkf, hkx] at hkn
  replace hkn : (Instr.lookup 86 (.map (some bk)) (.int .i64 x) false).run Try.prog w1 = .ok (.slice A k.ps.length c) w1 := hkn
  obtain ⟨m, hm⟩ : ∃ m, m = f x := ⟨_, rfl⟩
  rw [← hm] at hlk hrun hz
  have hac := and_code m
  obtain ⟨o, ho⟩ : ∃ o, o = m.on := ⟨_, rfl⟩
  rw [← ho] at hrun
  have oz : o.z = false := by rw [ho]; exact on_z hz
  have hints1 := ints_bd hints (hb.trans (hB1.below hF hB0)) hA
  obtain ⟨ps, hps⟩ : ∃ ps, ps = k.ps := ⟨_, rfl⟩
  rw [← hps] at hk5 hkn hcl hrun hints1
  have hbo : (bits .and .i64 m.code 3 == 3) = true → bits .or .i64 m.code 4 = o.code := fun e => by rw [hac] at e; rw [ho]; exact or4_code m e
  have hbn : (bits .and .i64 m.code 3 == 3) = false → m.code = o.code := fun e => by rw [hac] at e; rw [ho, on_not m e]
  obtain ⟨mc, hmc⟩ : ∃ mc, mc = m.code := ⟨_, rfl⟩
  obtain ⟨oc, hoc⟩ : ∃ oc, oc = o.code := ⟨_, rfl⟩
  obtain ⟨a3, ha3⟩ : ∃ a3, a3 = bits .and .i64 mc 3 := ⟨_, rfl⟩
  rw [← hmc, ← hoc, ← ha3] at hbo hbn
  rw [← hmc] at hlk
  have ha3' : bits .and .i64 mc 3 = a3 := ha3.symm
  have HKX := Lib.hid hkx
  have HM := Lib.hid hm
  have HO := Lib.hid ho
  have HPS := Lib.hid hps
  have HMC := Lib.hid hmc
  have HOC := Lib.hid hoc
  have HST := Lib.hid hst
  have HCL := Lib.hid hcl
  have HRUN := Lib.hid hrun
  have HB1 := Lib.hid hB1
  have H1 := Lib.hid h1
  have done : ∀ (q2 : List Int) (w2 : World), WAt F b bk bm kf (marks f ps o) q2 w2 → St B0 w0 kf t2 (marks f ps o) q2 → Kp F w w2 → (∃ (k : K) (t2 : List K) (q' : List Int), Ending.returned (.tuple #[.int .i64 x, .int .i64 mc]) = .returned (.tuple #[.int .i64 k.n, .int .i64 (f k.n).code]) ∧ run t f = (k.n, f k.n) :: run t2 (marks f k.ps (f k.n).on) ∧ WAt F b bk bm kf (marks f k.ps (f k.n).on) q' w2 ∧ St B0 w0 kf t2 (marks f k.ps (f k.n).on) q') ∧ Kp F w w2 := by
    intro q2 w2 a1 a2 a3
    have e1 := HKX.out
    have e2 := HM.out
    have e3 := HO.out
    have e4 := HPS.out
    subst e1
    rw [e4, e3, e2] at a1 a2
    exact ⟨⟨k, t2, q2, by rw [HMC.out, HM.out], by rw [HRUN.out, e4, e3, e2], a1, a2⟩, a3⟩
  have HD := Lib.hid done
  have HA : Hid (ps ≠ [] → ∀ g off, A = some ⟨g, off, none⟩ → g < w1.heap.size ∧ F g) := fun ne g off e => ⟨Nat.lt_of_lt_of_le (Nat.lt_of_lt_of_le (hA (by rw [← HPS.out]; exact ne) g off e) hB0) hB1.size, hF g (hA (by rw [← HPS.out]; exact ne) g off e)⟩
  clear hF hkx hm ho hps hmc hoc ha3 hst hcl hrun hac h hs k1 k2 k3 k4 hkf hints hb hB1 h1 done hA p
  cases hcase : (a3 == 3) with
  | true =>
    have hbo' := hbo hcase
    clear hbo hbn
    rcases ints_parts hints1 with hnil | ⟨hne, g, off, rfl, hcell⟩
    · have HN := Lib.hid hnil
      have hl0 : ps.length = 0 := by rw [hnil]; rfl
      clear hnil
      go_wp2_with fail
      go_loopw [38] (fun i wr => i = .int .i64 0 ∧ wr = w1) (fun _ _ => 0)
      case atStart => exact ⟨rfl, rfl⟩
      case round =>
        obtain ⟨rfl, rfl⟩ := hrel
        go_wp2_with fail
        go_ret2
        exact HD.out q1 _ (by rw [HN.out, marks_nil]; exact H1.out) (by rw [HN.out, marks_nil]; exact HST.out) HB1.out
    · obtain ⟨hg, hgF⟩ := HA.out hne g off rfl
      clear hne
      go_wp2_with fail
      go_loopw [38] (fun i wr => ∃ (j : Nat) (qj : List Int), i = .int .i64 j ∧ j ≤ ps.length ∧ WAt F b bk bm kf (marks f (ps.take j) o) qj wr ∧ St B0 w0 kf t2 (marks f (ps.take j) o) qj ∧ Kp F w1 wr) (fun i _ => ps.length - (intOf i).toNat)
      case atStart => exact ⟨0, q1, rfl, Nat.zero_le _, by rw [List.take_zero, marks_nil]; exact H1.out, by rw [List.take_zero, marks_nil]; exact HST.out, Kp.refl _ _⟩
      case round =>
        obtain ⟨j, qj, rfl, hj, hw, hst, hbw⟩ := hrel
        clear hc0 hc1 hlk hkn
        have ql := hst.len
        by_cases hlt : j < ps.length
        · have hck := hcell j hlt
          rw [← World.cell?_of_block (w := w1) (w' := wr) (a := ⟨g, off + j, none⟩) (hbw.block g hg hgF)] at hck
          have hpm : ps.getD j 0 ∈ ps := by rw [List.getD_eq_getElem?_getD, List.getElem?_eq_getElem hlt]; exact List.getElem_mem hlt
          have htk : ps.take (j + 1) = ps.take j ++ [ps.getD j 0] := by rw [List.take_succ_eq_append_getElem hlt, List.getD_eq_getElem?_getD, List.getElem?_eq_getElem hlt]; rfl
          have HTK := Lib.hid htk
          have hp2 := HCL.out _ hpm
          clear hcell hpm htk
          generalize ps.getD j 0 = p at hck HTK hp2
          have HP2 := Lib.hid hp2
          clear hp2
          go_wp2_with fail
          refine (mark_any F b bk bm kf (marks f (ps.take j) o) qj p o wr hw (by omega) oc HOC.out).mono ?_
          rintro e w2 ⟨rfl, ⟨q2, g1, g2⟩, g3⟩
          have G2 := Lib.hid g2
          clear g2
          go_wp2_with fail
          go_roundw
          case rel => exact ⟨j + 1, q2, by go_num, by omega, by rw [HTK.out, ← marks_snoc]; exact g1, by rw [HTK.out, ← marks_snoc]; exact hst.step oz HP2.out G2.out, hbw.trans g3⟩
          case measure => simp [intOf]; omega
        · have hje : j = ps.length := by omega
          have HJ := Lib.hid hje
          clear hje hcell
          go_wp2_with fail
          go_ret2
          exact HD.out qj _ (by have := hw; rw [HJ.out, List.take_length] at this; exact this) (by have := hst; rw [HJ.out, List.take_length] at this; exact this) (HB1.out.trans hbw)
  | false =>
    obtain rfl := hbn hcase
    clear hbo hbn
    rcases ints_parts hints1 with hnil | ⟨hne, g, off, rfl, hcell⟩
    · have HN := Lib.hid hnil
      have hl0 : ps.length = 0 := by rw [hnil]; rfl
      clear hnil
      go_wp2_with fail
      go_loopw [38] (fun i wr => i = .int .i64 0 ∧ wr = w1) (fun _ _ => 0)
      case atStart => exact ⟨rfl, rfl⟩
      case round =>
        obtain ⟨rfl, rfl⟩ := hrel
        go_wp2_with fail
        go_ret2
        exact HD.out q1 _ (by rw [HN.out, marks_nil]; exact H1.out) (by rw [HN.out, marks_nil]; exact HST.out) HB1.out
    · obtain ⟨hg, hgF⟩ := HA.out hne g off rfl
      clear hne
      go_wp2_with fail
      go_loopw [38] (fun i wr => ∃ (j : Nat) (qj : List Int), i = .int .i64 j ∧ j ≤ ps.length ∧ WAt F b bk bm kf (marks f (ps.take j) o) qj wr ∧ St B0 w0 kf t2 (marks f (ps.take j) o) qj ∧ Kp F w1 wr) (fun i _ => ps.length - (intOf i).toNat)
      case atStart => exact ⟨0, q1, rfl, Nat.zero_le _, by rw [List.take_zero, marks_nil]; exact H1.out, by rw [List.take_zero, marks_nil]; exact HST.out, Kp.refl _ _⟩
      case round =>
        obtain ⟨j, qj, rfl, hj, hw, hst, hbw⟩ := hrel
        clear hc0 hc1 hlk hkn
        have ql := hst.len
        by_cases hlt : j < ps.length
        · have hck := hcell j hlt
          rw [← World.cell?_of_block (w := w1) (w' := wr) (a := ⟨g, off + j, none⟩) (hbw.block g hg hgF)] at hck
          have hpm : ps.getD j 0 ∈ ps := by rw [List.getD_eq_getElem?_getD, List.getElem?_eq_getElem hlt]; exact List.getElem_mem hlt
          have htk : ps.take (j + 1) = ps.take j ++ [ps.getD j 0] := by rw [List.take_succ_eq_append_getElem hlt, List.getD_eq_getElem?_getD, List.getElem?_eq_getElem hlt]; rfl
          have HTK := Lib.hid htk
          have hp2 := HCL.out _ hpm
          clear hcell hpm htk
          generalize ps.getD j 0 = p at hck HTK hp2
          have HP2 := Lib.hid hp2
          clear hp2
          go_wp2_with fail
          refine (mark_any F b bk bm kf (marks f (ps.take j) o) qj p o wr hw (by omega) mc HOC.out).mono ?_
          rintro e w2 ⟨rfl, ⟨q2, g1, g2⟩, g3⟩
          have G2 := Lib.hid g2
          clear g2
          go_wp2_with fail
          go_roundw
          case rel => exact ⟨j + 1, q2, by go_num, by omega, by rw [HTK.out, ← marks_snoc]; exact g1, by rw [HTK.out, ← marks_snoc]; exact hst.step oz HP2.out G2.out, hbw.trans g3⟩
          case measure => simp [intOf]; omega
        · have hje : j = ps.length := by omega
          have HJ := Lib.hid hje
          clear hje hcell
          go_wp2_with fail
          go_ret2
          exact HD.out qj _ (by have := hw; rw [HJ.out, List.take_length] at this; exact this) (by have := hst; rw [HJ.out, List.take_length] at this; exact this) (HB1.out.trans hbw)
end Go.Proofs.Ytpaegpbabfohcaa.WalkDag
