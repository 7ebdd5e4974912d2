/-
  What a graph must be.
-/
import Derived.Test.YtpaegpbabfohcaaPathAt
import Derived.Deep.DeepCutAuto
import Derived.Deep.CutBlock
namespace Go.Proofs.Ytpaegpbabfohcaa.Paths
open Go.RowKit Go.Proofs.Ytpaegpbabfohcaa.WalkBytes
set_option linter.unusedVariables false
set_option linter.unusedSimpArgs false
set_option maxRecDepth 100000

def HasN (N : List Nd) (s : ByteArray) : Prop := ∃ i, i < N.length ∧ (nd N i).id = s
def nodeBad (N : List Nd) (i : Nat) : Int := if nodeWhy (nd N i).id (nd N i).x ≠ 0 then nodeWhy (nd N i).id (nd N i).x else if 0 < i ∧ lt (nd N (i - 1)).id (nd N i).id = false then 4 else 0
open Classical in
noncomputable def has2 (N : List Nd) (f t : ByteArray) : Int := if HasN N f ∧ HasN N t then 0 else 9
theorem has2_yes {N : List Nd} {f t : ByteArray} (h : HasN N f) (k : HasN N t) : has2 N f t = 0 := if_pos ⟨h, k⟩
theorem has2_no {N : List Nd} {f t : ByteArray} (h : ¬ (HasN N f ∧ HasN N t)) : has2 N f t = 9 := if_neg h
noncomputable def edgeBad (N : List Nd) (E : List Ed) (i : Nat) : Int := if edgeWhy (ed E i).id (ed E i).fr (ed E i).tt (ed E i).x ≠ 0 then edgeWhy (ed E i).id (ed E i).fr (ed E i).tt (ed E i).x else if 0 < i ∧ lt (ed E (i - 1)).id (ed E i).id = false then 4 else has2 N (ed E i).fr (ed E i).tt
noncomputable def graphWhy (g : Gr) : Int := if 500 < g.N.length ∨ 1000 < g.E.length then 5 else if fb (nodeBad g.N) g.N.length ≠ 0 then fb (nodeBad g.N) g.N.length else fb (edgeBad g.N g.E) g.E.length
theorem rise_of {f : Nat → ByteArray} {n : Nat} (h : ∀ i, 0 < i → i < n → lt (f (i - 1)) (f i) = true) : Rise f n := by
  intro i j hij hj
  obtain ⟨d, rfl⟩ : ∃ d, j = i + 1 + d := ⟨j - i - 1, by omega⟩
  clear hij
  induction d with
  | zero => exact h (i + 1) (by omega) (by omega)
  | succ d ih => exact lt_trans (ih (by omega)) (h (i + 1 + d + 1) (by omega) (by omega))
theorem nodes_rise {N : List Nd} {n : Nat} (h : ∀ i, i < n → nodeBad N i = 0) : Rise (fun i => (nd N i).id) n := by
  refine rise_of fun i h0 hi => ?_
  have := h i hi
  unfold nodeBad at this
  by_cases e : nodeWhy (nd N i).id (nd N i).x ≠ 0
  · rw [if_pos e] at this
    exact absurd this e
  · rw [if_neg e] at this
    cases q : lt (nd N (i - 1)).id (nd N i).id with
    | true => rfl
    | false => rw [if_pos ⟨h0, q⟩] at this; cases this
theorem edges_rise {N : List Nd} {M : List Ed} {n : Nat} (h : ∀ i, i < n → edgeBad N M i = 0) : Rise (fun i => (ed M i).id) n := by
  refine rise_of fun i h0 hi => ?_
  have := h i hi
  unfold edgeBad at this
  by_cases e : edgeWhy (ed M i).id (ed M i).fr (ed M i).tt (ed M i).x ≠ 0
  · rw [if_pos e] at this
    exact absurd this e
  · rw [if_neg e] at this
    cases q : lt (ed M (i - 1)).id (ed M i).id with
    | true => rfl
    | false => rw [if_pos ⟨h0, q⟩] at this; cases this
theorem found_has {N : List Nd} {s : ByteArray} {p : Nat} {b : Bool} (h : Found (fun i => (nd N i).id) N.length s p b) : b = true ↔ HasN N s := by
  obtain ⟨h1, h2, h3⟩ := h
  constructor
  · intro e
    exact ⟨p, h2 e⟩
  · rintro ⟨i, hi, e⟩
    cases b with
    | true => rfl
    | false => exact absurd e (h3 rfl i hi)
theorem at_has {N : List Nd} {s : ByteArray} {r : Int} (h : AtI (fun i => (nd N i).id) N.length s r) : 0 ≤ r ↔ HasN N s := by
  rcases h with ⟨rfl, h⟩ | ⟨i, hi, rfl, h1, h2⟩
  · constructor
    · intro e; omega
    · rintro ⟨i, hi, e⟩; exact absurd e (h i hi)
  · exact ⟨fun _ => ⟨i, hi, h1⟩, fun _ => by omega⟩
theorem checkNode_at (id : ByteArray) (x : Lp) (vl vp : Value) (hl : vl = x.l) (hp : vp = x.p) (w : World) (h : LpAt w.heap.size w x) : Calls Try.prog 79 #[.agg #[.string id, vl, vp]] w fun e w' => e = .returned (.int .i64 (nodeWhy id x)) ∧ Below w.heap.size w w' := by
  subst hl hp; exact checkNode_any id x w h
theorem refNode_at (id : ByteArray) (x : Lp) (vl vp : Value) (hl : vl = x.l) (hp : vp = x.p) (w : World) (h : LpAt w.heap.size w x) (hi : id.size ≤ 9223372036854775806) : Calls Try.prog 68 #[.agg #[.string id, vl, vp]] w fun e w' => e = .returned (.int .i64 (nodeWhy id x)) ∧ Below w.heap.size w w' := by
  subst hl hp; exact refNode_any id x w h hi
theorem checkEdge_at (id f t : ByteArray) (x : Lp) (vl vp : Value) (hl : vl = x.l) (hp : vp = x.p) (w : World) (h : LpAt w.heap.size w x) : Calls Try.prog 80 #[.agg #[.string id, .string f, .string t, vl, vp]] w fun e w' => e = .returned (.int .i64 (edgeWhy id f t x)) ∧ Below w.heap.size w w' := by
  subst hl hp; exact checkEdge_any id f t x w h
theorem refEdge_at (id f t : ByteArray) (x : Lp) (vl vp : Value) (hl : vl = x.l) (hp : vp = x.p) (w : World) (h : LpAt w.heap.size w x) (hi : id.size ≤ 9223372036854775806) (hf : f.size ≤ 9223372036854775806) (ht : t.size ≤ 9223372036854775806) : Calls Try.prog 69 #[.agg #[.string id, .string f, .string t, vl, vp]] w fun e w' => e = .returned (.int .i64 (edgeWhy id f t x)) ∧ Below w.heap.size w w' := by
  subst hl hp; exact refEdge_any id f t x w h hi hf ht
end Go.Proofs.Ytpaegpbabfohcaa.Paths
