/-
  parts: root, join; the place of a node.
-/
import Derived.Test.YtpaegpbabfohcaaPathCyc
import Derived.Test.YtpaegpbabfohcaaPartsPure
namespace Go.Proofs.Ytpaegpbabfohcaa.Paths
open Go.RowKit Go.Proofs.Ytpaegpbabfohcaa.WalkBytes Go.Proofs.Ytpaegpbabfohcaa.PathPure Go.Proofs.Ytpaegpbabfohcaa.MapAt Go.Proofs.Ytpaegpbabfohcaa.PartsPure
set_option linter.unusedVariables false
set_option linter.unusedSimpArgs false
set_option maxRecDepth 100000

/-- a row of places -/
def PAt (w : World) (bp n : Nat) (p : Nat → Nat) : Prop := ∃ cur, w.heap[bp]? = some (.cells cur 3 (0, 0)) ∧ cur.size = n ∧ ∀ i, i < n → cur[i]? = some (.int .i64 (p i : Nat))
section
variable {w w' : World} {bp n : Nat} {p : Nat → Nat}
theorem PAt.lt (h : PAt w bp n p) : bp < w.heap.size := by obtain ⟨cur, h1, -⟩ := h; exact (Array.getElem?_eq_some_iff.1 h1).1
theorem PAt.kept (h : PAt w bp n p) (e : w'.heap[bp]? = w.heap[bp]?) : PAt w' bp n p := by obtain ⟨cur, h1, h2⟩ := h; exact ⟨cur, e.trans h1, h2⟩
theorem PAt.cell (h : PAt w bp n p) {i : Nat} (hi : i < n) : w.cell? ⟨bp, i, none⟩ = some (.int .i64 (p i : Nat)) := by
  obtain ⟨cur, h1, h2, h3⟩ := h
  simp [World.cell?, h1, h3 i hi]
theorem PAt.free (h : PAt w bp n p) (i : Nat) : w.frozen? ⟨bp, i, none⟩ = false := by
  obtain ⟨cur, h1, h2, h3⟩ := h
  exact frozen_of_row _ _ i _ _ h1
theorem PAt.set (h : PAt w bp n p) {i : Nat} (hi : i < n) (v : Nat) : PAt (w.setCell ⟨bp, i, none⟩ (.int .i64 v)) bp n (up p i v) := by
  obtain ⟨cur, h1, h2, h3⟩ := h
  refine ⟨cur.setIfInBounds i (.int .i64 v), Joins.block_setCell h1 _, by simp [h2], fun j hj => ?_⟩
  rw [Array.getElem?_setIfInBounds]
  by_cases e : i = j
  · subst e; rw [if_pos rfl, if_pos (by omega), up_at]
  · rw [if_neg e, up_ne (fun q => e q.symm)]; exact h3 j hj
theorem PAt.congr {q : Nat → Nat} (h : PAt w bp n p) (e : ∀ i, i < n → p i = q i) : PAt w bp n q := by
  obtain ⟨cur, h1, h2, h3⟩ := h
  exact ⟨cur, h1, h2, fun i hi => by rw [h3 i hi, e i hi]⟩
end
def But (b : Nat) : Nat → Prop := fun k => k ≠ b
set_option maxHeartbeats 3200000 in
theorem root_any (bp n c : Nat) (p : Nat → Nat) (i : Nat) (w : World) (h : PAt w bp n p) (hp : Low p) (hi : i < n) (hn : n ≤ 1000) :
    Calls Try.prog 64 #[.slice (some ⟨bp, 0, none⟩) n c, .int .i64 (i : Nat)] w fun e w' => (∃ p', e = .returned (.int .i64 (rt p i : Nat)) ∧ PAt w' bp n p' ∧ Low p' ∧ ∀ j, rt p' j = rt p j) ∧ Kp (But bp) w w' := by
  obtain ⟨R, hR⟩ : ∃ R, R = rt p i := ⟨_, rfl⟩
  rw [← hR]
  have HR := Lib.hid hR
  clear hR
  go_enter Try.func64, Try.ntmps64
  go_wp2_with fail
  go_loopw [1] (fun v wr => ∃ (k : Nat) (p' : Nat → Nat), v = .int .i64 k ∧ k < n ∧ PAt wr bp n p' ∧ Low p' ∧ (∀ j, rt p' j = rt p j) ∧ Hid (rt p k = R) ∧ Kp (But bp) w wr) (fun v _ => (intOf v).toNat)
  case atStart => exact ⟨i, p, rfl, hi, h, hp, fun _ => rfl, HR.out.symm, Kp.refl _ _⟩
  case round =>
    clear h hp
    obtain ⟨k, p', rfl, hk, hP, hL, hJ, HK, hB⟩ := hrel
    have c1 := hP.cell hk
    have hle := hL k
    obtain ⟨q, hq⟩ : ∃ q, q = p' k := ⟨_, rfl⟩
    rw [← hq] at c1 hle
    have HJ := Lib.hid hJ
    have HL := Lib.hid hL
    have HP := Lib.hid hP
    have HB := Lib.hid hB
    by_cases e : q = k
    · have e0 : ((q : Int) != (k : Int)) = false := by simp; omega
      have hRk : R = k := by rw [← HK.out, ← HJ.out, rt_self (by rw [← hq]; exact e)]
      have HQ := Lib.hid e
      clear hq hle e hP hL hJ hB
      subst hRk
      go_wp2_with fail
      go_ret
      exact ⟨⟨p', rfl, HP.out, HL.out, HJ.out⟩, HB.out⟩
    · have e0 : ((q : Int) != (k : Int)) = true := by simp; omega
      have hqk : q < k := by omega
      have hqn : q < n := by omega
      have c2 := hP.cell hqn
      obtain ⟨q2, hq2⟩ : ∃ q2, q2 = p' q := ⟨_, rfl⟩
      rw [← hq2] at c2
      have hle2 := hL q
      rw [← hq2] at hle2
      have f1 := hP.free k
      have hset := hP.set hk q2
      have hNEXT : Hid (PAt (wr.setCell ⟨bp, k, none⟩ (.int .i64 q2)) bp n (up p' k (p' (p' k))) ∧ Low (up p' k (p' (p' k))) ∧ (∀ j, rt (up p' k (p' (p' k))) j = rt p j) ∧ rt p q2 = R ∧ Kp (But bp) w (wr.setCell ⟨bp, k, none⟩ (.int .i64 q2))) := by
        refine ⟨by rw [← hq, ← hq2]; exact hset, half_low hL k, fun j => by rw [half_rt hL k j]; exact hJ j, ?_, hB.set _ _ _ (fun z => z rfl)⟩
        rw [← HK.out, ← hJ, ← hJ, hq2, hq, rt_p hL, rt_p hL]
      have c3 : (wr.setCell ⟨bp, k, none⟩ (.int .i64 q2)).cell? ⟨bp, k, none⟩ = some (.int .i64 q2) := World.cell?_setCell_same _ _ _ c1
      have hq2n : q2 < n := by omega
      have hq2k : q2 < k := by omega
      clear hq hle e hP hL hJ hB hq2 hle2 hset HJ HL HP HB
      go_wp2_with fail
      go_roundw
      case rel => exact ⟨q2, _, rfl, hq2n, hNEXT.out.1, hNEXT.out.2.1, hNEXT.out.2.2.1, hNEXT.out.2.2.2.1, hNEXT.out.2.2.2.2⟩
      case measure => simp [intOf]; omega
theorem max2N (k k' : IntKind) (a b : Nat) : Builtin.max2 (.int k (a : Int)) (.int k' (b : Int)) = pure (.int k ((max a b : Nat) : Int)) := by
  simp only [Builtin.max2]
  congr 2
  split <;> omega
theorem min2N (k k' : IntKind) (a b : Nat) : Builtin.min2 (.int k (a : Int)) (.int k' (b : Int)) = pure (.int k ((min a b : Nat) : Int)) := by
  simp only [Builtin.min2]
  congr 2
  split <;> omega
theorem minTwo' (ats : Array TypeId) (ty : TypeId) (a b : Value) : Builtin.min_ ats ty #[a, b] = (Builtin.min2 a b >>= fun s => pure s) := by simp only [Builtin.min_, List.foldlM_cons, List.foldlM_nil]
theorem maxTwo' (ats : Array TypeId) (ty : TypeId) (a b : Value) : Builtin.max_ ats ty #[a, b] = (Builtin.max2 a b >>= fun s => pure s) := by simp only [Builtin.max_, List.foldlM_cons, List.foldlM_nil]
attribute [local go_sem] minTwo' maxTwo'
set_option maxHeartbeats 3200000 in
theorem join_any (bp n c : Nat) (p : Nat → Nat) (E : List (Nat × Nat)) (i k : Nat) (w : World) (h : PAt w bp n p) (hp : Is p E) (hi : i < n) (hk : k < n) (hn : n ≤ 1000) :
    Calls Try.prog 63 #[.slice (some ⟨bp, 0, none⟩) n c, .int .i64 (i : Nat), .int .i64 (k : Nat)] w fun e w' => (e = .returned (.tuple #[]) ∧ ∃ p', PAt w' bp n p' ∧ Is p' (E ++ [(i, k)])) ∧ Kp (But bp) w w' := by
  have HP := Lib.hid hp
  have h1 := root_any bp n c p i w h hp.low hi hn
  clear hp
  go_enter Try.func63, Try.ntmps63
  go_wp2_with fail
  refine h1.mono ?_
  rintro e w1 ⟨⟨p1, rfl, a1, a2, a3⟩, b1⟩
  have h2 := root_any bp n c p1 k w1 a1 a2 hk hn
  have HA := Lib.hid (And.intro a2 a3)
  rw [a3] at h2
  obtain ⟨ri, hri⟩ : ∃ ri, ri = rt p i := ⟨_, rfl⟩
  obtain ⟨rk, hrk⟩ : ∃ rk, rk = rt p k := ⟨_, rfl⟩
  rw [← hrk] at h2
  rw [← hri]
  have HRI := Lib.hid hri
  have HRK := Lib.hid hrk
  have hrin : ri < n := by have := rt_le (p := p) i; omega
  have hrkn : rk < n := by have := rt_le (p := p) k; omega
  have HB1 := Lib.hid b1
  clear h1 a2 a3 hri hrk b1
  go_wp2_with fail
  refine h2.mono ?_
  rintro e w2 ⟨⟨p2, rfl, b1, b2, b3⟩, b4⟩
  obtain ⟨M, hM⟩ : ∃ M, M = max ri rk := ⟨_, rfl⟩
  obtain ⟨m, hm⟩ : ∃ m, m = min ri rk := ⟨_, rfl⟩
  have hMn : M < n := by omega
  have c1 := b1.cell hMn
  have f1 := b1.free M
  have hset := b1.set hMn m
  have b3' : ∀ j, rt p2 j = rt p j := fun j => (b3 j).trans (HA.out.2 j)
  have hJ := (HP.out.congr b2 b3').join i k
  rw [b3', b3', ← HRI.out, ← HRK.out, ← hM, ← hm] at hJ
  have HEND : Hid ((∃ p', PAt (w2.setCell ⟨bp, M, none⟩ (.int .i64 m)) bp n p' ∧ Is p' (E ++ [(i, k)])) ∧ Kp (But bp) w (w2.setCell ⟨bp, M, none⟩ (.int .i64 m))) := ⟨⟨_, hset, hJ⟩, (HB1.out.trans b4).set _ _ _ (fun z => z rfl)⟩
  generalize p2 M = y at c1
  have q1 : ∀ k k' : IntKind, Builtin.max2 (.int k (ri : Int)) (.int k' (rk : Int)) = pure (.int k (M : Int)) := fun k k' => by rw [max2N, hM]
  have q2 : ∀ k k' : IntKind, Builtin.min2 (.int k (ri : Int)) (.int k' (rk : Int)) = pure (.int k (m : Int)) := fun k k' => by rw [min2N, hm]
  clear h2 b1 b2 b3 b4 b3' hset hJ hM hm a1
  go_wp2_with fail
  go_end0
  exact ⟨⟨rfl, HEND.out.1⟩, HEND.out.2⟩
/-- the place of a node that there is -/
theorem place_any (g : Gr) (gn ge : Value) (hgn : gn = g.n) (hge : ge = g.e) (bx : Nat) (s : ByteArray) (w : World) (h : Nds w.heap.size w g.A g.N) (z0 : w.cell? ⟨bx, 0, none⟩ = some gn) (hr : Rise (fun i => (nd g.N i).id) g.N.length) (hl : g.N.length ≤ 1000) (hs : HasN g.N s) :
    Calls Try.prog 59 #[.string s, .pointer (some ⟨bx, 0, none⟩)] w fun e w' => (∃ p : Nat, e = .returned (.int .i64 p) ∧ p < g.N.length ∧ (nd g.N p).id = s) ∧ Below w.heap.size w w' := by
  obtain ⟨A, N, a, B, M, b⟩ := g
  subst hgn hge
  obtain ⟨n, hn⟩ : ∃ n, n = N.length := ⟨_, rfl⟩
  have e1 : (⟨A, N, a, B, M, b⟩ : Gr).n = .slice A n a := by rw [hn]; rfl
  rw [e1] at z0
  have HC := Lib.hid (searchPart_any A a N s w h hl hr)
  rw [← hn] at HC
  have HN := Lib.hid hn
  have HS : Hid (HasN N s) := hs
  clear h hr hl hs e1 hn
  go_enter Try.func59, Try.ntmps59
  go_wp2_with fail
  refine HC.out.mono ?_
  rintro e w5 ⟨⟨p, b, rfl, hf⟩, hB5⟩
  have HEND : Hid ((∃ p' : Nat, Ending.returned (.int .i64 (p : Nat)) = .returned (.int .i64 p') ∧ p' < N.length ∧ (nd N p').id = s) ∧ Below w.heap.size w w5) := by
    rw [HN.out] at hf
    have hb := (found_has hf).2 HS.out
    obtain ⟨q1, q2⟩ := hf.2.1 hb
    exact ⟨⟨p, rfl, q1, q2⟩, hB5⟩
  clear hf hB5
  go_wp2_with fail
  go_ret
  exact HEND.out
end Go.Proofs.Ytpaegpbabfohcaa.Paths
