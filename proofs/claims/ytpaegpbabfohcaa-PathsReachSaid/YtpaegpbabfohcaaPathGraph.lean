/-
  Graphs as they lie in memory; the order of texts; cmp.Compare.
-/
import Derived.Test.YtpaegpbabfohcaaPathElemB
namespace Go.Proofs.Ytpaegpbabfohcaa.Paths
open Go.RowKit Go.Proofs.Ytpaegpbabfohcaa.WalkBytes
set_option linter.unusedVariables false
set_option linter.unusedSimpArgs false
set_option maxRecDepth 100000

/-- a node, an edge, as they lie in memory -/
structure Nd where
  id : ByteArray
  x : Lp
structure Ed where
  id : ByteArray
  fr : ByteArray
  tt : ByteArray
  x : Lp
instance : Inhabited Nd := ⟨⟨ByteArray.empty, default⟩⟩
instance : Inhabited Ed := ⟨⟨ByteArray.empty, ByteArray.empty, ByteArray.empty, default⟩⟩
def nd (N : List Nd) (i : Nat) : Nd := N.getD i default
def ed (E : List Ed) (i : Nat) : Ed := E.getD i default
def Nd.v (x : Nd) : Value := .agg #[.string x.id, x.x.l, x.x.p]
def Ed.v (x : Ed) : Value := .agg #[.string x.id, .string x.fr, .string x.tt, x.x.l, x.x.p]
def Nds (H : Nat) (w : World) (A : Option Addr) (N : List Nd) : Prop :=
  N = [] ∨ ∃ g off, A = some ⟨g, off, none⟩ ∧ g < H ∧ ∀ i, i < N.length → w.cell? ⟨g, off + i * 3, none⟩ = some (.string (nd N i).id) ∧ w.cell? ⟨g, off + i * 3 + 1, none⟩ = some (nd N i).x.l ∧ w.cell? ⟨g, off + i * 3 + 2, none⟩ = some (nd N i).x.p ∧ LpAt H w (nd N i).x ∧ (nd N i).id.size ≤ 9223372036854775806
def Eds (H : Nat) (w : World) (A : Option Addr) (N : List Ed) : Prop :=
  N = [] ∨ ∃ g off, A = some ⟨g, off, none⟩ ∧ g < H ∧ ∀ i, i < N.length → w.cell? ⟨g, off + i * 5, none⟩ = some (.string (ed N i).id) ∧ w.cell? ⟨g, off + i * 5 + 1, none⟩ = some (.string (ed N i).fr) ∧ w.cell? ⟨g, off + i * 5 + 2, none⟩ = some (.string (ed N i).tt) ∧ w.cell? ⟨g, off + i * 5 + 3, none⟩ = some (ed N i).x.l ∧ w.cell? ⟨g, off + i * 5 + 4, none⟩ = some (ed N i).x.p ∧ LpAt H w (ed N i).x ∧ (ed N i).id.size ≤ 9223372036854775806 ∧ (ed N i).fr.size ≤ 9223372036854775806 ∧ (ed N i).tt.size ≤ 9223372036854775806
theorem Nds.below {H : Nat} {w w' : World} {A : Option Addr} {N : List Nd} (h : Nds H w A N) (b : Below H w w') : Nds H w' A N := by
  rcases h with rfl | ⟨g, off, rfl, hg, h⟩
  · exact .inl rfl
  · refine .inr ⟨g, off, rfl, hg, fun i hi => ?_⟩
    obtain ⟨h1, h2, h3, h4, h5⟩ := h i hi
    exact ⟨(b.cell (p := ⟨g, off + i * 3, none⟩) hg).trans h1, (b.cell (p := ⟨g, off + i * 3 + 1, none⟩) hg).trans h2, (b.cell (p := ⟨g, off + i * 3 + 2, none⟩) hg).trans h3, h4.below b, h5⟩
theorem Nds.mono {H H' : Nat} {w : World} {A : Option Addr} {N : List Nd} (h : Nds H w A N) (b : H ≤ H') : Nds H' w A N := by
  rcases h with rfl | ⟨g, off, rfl, hg, h⟩
  · exact .inl rfl
  · refine .inr ⟨g, off, rfl, by omega, fun i hi => ?_⟩
    obtain ⟨h1, h2, h3, h4, h5⟩ := h i hi
    exact ⟨h1, h2, h3, h4.mono b, h5⟩
theorem Eds.below {H : Nat} {w w' : World} {A : Option Addr} {N : List Ed} (h : Eds H w A N) (b : Below H w w') : Eds H w' A N := by
  rcases h with rfl | ⟨g, off, rfl, hg, h⟩
  · exact .inl rfl
  · refine .inr ⟨g, off, rfl, hg, fun i hi => ?_⟩
    obtain ⟨h1, h2, h3, h4, h5, h6, h7⟩ := h i hi
    exact ⟨(b.cell (p := ⟨g, off + i * 5, none⟩) hg).trans h1, (b.cell (p := ⟨g, off + i * 5 + 1, none⟩) hg).trans h2, (b.cell (p := ⟨g, off + i * 5 + 2, none⟩) hg).trans h3, (b.cell (p := ⟨g, off + i * 5 + 3, none⟩) hg).trans h4, (b.cell (p := ⟨g, off + i * 5 + 4, none⟩) hg).trans h5, h6.below b, h7⟩
theorem Eds.mono {H H' : Nat} {w : World} {A : Option Addr} {N : List Ed} (h : Eds H w A N) (b : H ≤ H') : Eds H' w A N := by
  rcases h with rfl | ⟨g, off, rfl, hg, h⟩
  · exact .inl rfl
  · refine .inr ⟨g, off, rfl, by omega, fun i hi => ?_⟩
    obtain ⟨h1, h2, h3, h4, h5, h6, h7⟩ := h i hi
    exact ⟨h1, h2, h3, h4, h5, h6.mono b, h7⟩
/-- a graph -/
structure Gr where
  A : Option Addr
  N : List Nd
  a : Nat
  B : Option Addr
  E : List Ed
  b : Nat
def Gr.n (g : Gr) : Value := .slice g.A g.N.length g.a
def Gr.e (g : Gr) : Value := .slice g.B g.E.length g.b
def Gr.v (g : Gr) : Value := .agg #[g.n, g.e]
structure GrAt (H : Nat) (w : World) (g : Gr) : Prop where
  n : Nds H w g.A g.N
  e : Eds H w g.B g.E
  ln : g.N.length ≤ 9223372036854775807
  le : g.E.length ≤ 9223372036854775807
theorem GrAt.below {H : Nat} {w w' : World} {g : Gr} (h : GrAt H w g) (b : Below H w w') : GrAt H w' g := { h with n := h.n.below b, e := h.e.below b }
theorem GrAt.mono {H H' : Nat} {w : World} {g : Gr} (h : GrAt H w g) (b : H ≤ H') : GrAt H' w g := { h with n := h.n.mono b, e := h.e.mono b }

/-! ## searches -/
def cmpI (a b : ByteArray) : Int := if lt a b = true then -1 else if lt b a = true then 1 else 0
theorem cmp_neg {a b : ByteArray} : cmpI a b < 0 ↔ lt a b = true := by
  unfold cmpI
  by_cases h : lt a b = true
  · rw [if_pos h]; simp [h]
  · rw [if_neg h]
    by_cases k : lt b a = true
    · rw [if_pos k]; simp [h]
    · rw [if_neg k]; simp [h]
theorem cmp_zero {a b : ByteArray} : cmpI a b = 0 ↔ a = b := by
  unfold cmpI
  rcases lt_tri a b with h | rfl | h
  · rw [if_pos h]
    constructor
    · intro e; omega
    · rintro rfl; rw [lt_irrefl] at h; cases h
  · simp [lt_irrefl]
  · rw [if_neg (by rw [lt_asymm h]; simp), if_pos h]
    constructor
    · intro e; omega
    · rintro rfl; rw [lt_irrefl] at h; cases h
theorem isNaN_any (a : ByteArray) (w : World) : Calls Try.prog 82 #[.string a] w fun e w' => e = .returned (.bool false) ∧ w = w' := by
  go_enter Try.func82, Try.ntmps82
  go_wp2_with fail
  go_ret
  exact ⟨by simp, rfl⟩
theorem gtrS (a b : ByteArray) (w : World) : (binOp .gtr 9 (.string a) (.string b)).run Try.prog w = .ok (.bool (lt b a)) w := by
  have h : (binOp .gtr 9 (.string a) (.string b)).run Try.prog w = .ok (.bool (!(Op.bytesLess a.toList b.toList || a.toList == b.toList))) w := by kernel_rfl
  rw [h, le_not]; simp
theorem compare_any (a b : ByteArray) (w : World) : Calls Try.prog 62 #[.string a, .string b] w fun e w' => e = .returned (.int .i64 (cmpI a b)) ∧ w = w' := by
  obtain ⟨r, hr⟩ : ∃ r, lt a b = r := ⟨_, rfl⟩
  obtain ⟨q, hq⟩ : ∃ q, lt b a = q := ⟨_, rfl⟩
  obtain ⟨C, hC⟩ : ∃ C, C = cmpI a b := ⟨_, rfl⟩
  rw [← hC]
  have HC : Hid (C = if r = true then -1 else if q = true then 1 else 0) := by show _ = _; rw [hC]; unfold cmpI; rw [hr, hq]
  have f0 : Op.bytesLess a.toList b.toList = r := hr
  have f1 : ∀ W : World, (binOp .lss 9 (.string a) (.string b)).run Try.prog W = .ok (.bool r) W := fun W => by rw [lssS, hr]
  have f2 : ∀ W : World, (binOp .gtr 9 (.string a) (.string b)).run Try.prog W = .ok (.bool q) W := fun W => by rw [gtrS, hq]
  clear hr hq hC
  cases r with
  | true =>
    obtain rfl : C = -1 := HC.out
    go_enter Try.func62, Try.ntmps62
    go_wp2_with (go_at_call 82; refine (isNaN_any _ _).mono ?_; rintro e w' ⟨rfl, rfl⟩)
    go_ret
    exact ⟨rfl, rfl⟩
  | false =>
    cases q with
    | true =>
      obtain rfl : C = 1 := HC.out
      go_enter Try.func62, Try.ntmps62
      go_wp2_with (go_at_call 82; refine (isNaN_any _ _).mono ?_; rintro e w' ⟨rfl, rfl⟩)
      go_ret
      exact ⟨rfl, rfl⟩
    | false =>
      obtain rfl : C = 0 := HC.out
      go_enter Try.func62, Try.ntmps62
      go_wp2_with (go_at_call 82; refine (isNaN_any _ _).mono ?_; rintro e w' ⟨rfl, rfl⟩)
      go_ret
      exact ⟨rfl, rfl⟩
/-- ids rise -/
def Rise (f : Nat → ByteArray) (n : Nat) : Prop := ∀ i j, i < j → j < n → lt (f i) (f j) = true
/-- what a search tells -/
def Found (f : Nat → ByteArray) (n : Nat) (s : ByteArray) (p : Nat) (b : Bool) : Prop := p ≤ n ∧ (b = true → p < n ∧ f p = s) ∧ (b = false → ∀ i, i < n → f i ≠ s)
end Go.Proofs.Ytpaegpbabfohcaa.Paths
