/-
  Nodes and edges: elem.CheckNode, CheckEdge; the document's Node, Edge.
-/
import Derived.Test.YtpaegpbabfohcaaPathProps
namespace Go.Proofs.Ytpaegpbabfohcaa.Paths
open Go.RowKit Go.Proofs.Ytpaegpbabfohcaa.WalkBytes
set_option linter.unusedVariables false
set_option linter.unusedSimpArgs false
set_option maxRecDepth 100000

/-- labels and properties as they lie in memory -/
structure Lp where
  A : Option Addr
  L : List ByteArray
  a : Nat
  B : Option Addr
  P : List Pr
  b : Nat
instance : Inhabited Lp := ⟨⟨none, [], 0, none, [], 0⟩⟩
def Lp.l (x : Lp) : Value := .slice x.A x.L.length x.a
def Lp.p (x : Lp) : Value := .slice x.B x.P.length x.b
structure LpAt (H : Nat) (w : World) (x : Lp) : Prop where
  hl : Strs w x.A x.L
  hp : Prs w x.B x.P
  bl : Bd H x.A x.L
  bp : Bd H x.B x.P
  ll : x.L.length ≤ 9223372036854775807
  lp : x.P.length ≤ 9223372036854775807
  sl : ∀ s ∈ x.L, s.size ≤ 9223372036854775806
  sp : ∀ q ∈ x.P, q.key.size ≤ 9223372036854775806
theorem LpAt.below {H : Nat} {w w' : World} {x : Lp} (h : LpAt H w x) (b : Below H w w') : LpAt H w' x :=
  { h with hl := strs_below h.hl b h.bl, hp := h.hp.below b h.bp }
theorem Bd.mono {α : Type} {B B' : Nat} {A : Option Addr} {l : List α} (h : Bd B A l) (hB : B ≤ B') : Bd B' A l := fun ne g off e => Nat.lt_of_lt_of_le (h ne g off e) hB
theorem LpAt.mono {H H' : Nat} {w : World} {x : Lp} (h : LpAt H w x) (b : H ≤ H') : LpAt H' w x :=
  { h with bl := h.bl.mono b, bp := h.bp.mono b }
def lpWhy (x : Lp) : Int := restWhy x.L x.P
def nodeWhy (id : ByteArray) (x : Lp) : Int := if isName id.data.toList = false then 2 else lpWhy x
def edgeWhy (id fr tt : ByteArray) (x : Lp) : Int := if (isName id.data.toList && isName fr.data.toList && isName tt.data.toList) = false then 2 else lpWhy x
theorem restL (x : Lp) (w : World) (h : LpAt w.heap.size w x) : Calls Try.prog 94 #[x.l, x.p] w fun e w' => e = .returned (.int .i64 (lpWhy x)) ∧ Below w.heap.size w w' :=
  rest_any x.A x.B x.a x.b x.L x.P w h.hl h.hp h.bp h.ll h.lp
theorem refRestL (x : Lp) (w : World) (h : LpAt w.heap.size w x) : Calls Try.prog 84 #[x.l, x.p] w fun e w' => e = .returned (.int .i64 (lpWhy x)) ∧ Below w.heap.size w w' :=
  refRest_any x.A x.B x.a x.b x.L x.P w h.hl h.hp h.bp h.ll h.lp h.sl h.sp

set_option maxHeartbeats 1600000 in
theorem checkNode_any (id : ByteArray) (x : Lp) (w : World) (h : LpAt w.heap.size w x) :
    Calls Try.prog 79 #[.agg #[.string id, x.l, x.p]] w fun e w' => e = .returned (.int .i64 (nodeWhy id x)) ∧ Below w.heap.size w w' := by
  obtain ⟨R, hR⟩ : ∃ R, R = nodeWhy id x := ⟨_, rfl⟩
  rw [← hR]
  have HR : Hid (R = if isName id.data.toList = false then 2 else lpWhy x) := hR
  obtain ⟨W, hW⟩ : ∃ W, W = w.alloc (.cells #[.string id, x.l, x.p] 59) := ⟨_, rfl⟩
  have hB : Below w.heap.size w W := by rw [hW]; exact Joins.below_alloc1 w _
  have HL : Hid (LpAt W.heap.size W x) := (h.below hB).mono hB.size
  have z1 : W.cell? ⟨w.heap.size, 1, none⟩ = some x.l := by rw [hW, cell_of_row _ _ 1 _ _ _ (heap_new w _)]; rfl
  have z2 : W.cell? ⟨w.heap.size, 2, none⟩ = some x.p := by rw [hW, cell_of_row _ _ 2 _ _ _ (heap_new w _)]; rfl
  have z0 : W.cell? ⟨w.heap.size, 0, none⟩ = some (.string id) := by rw [hW, cell_of_row _ _ 0 _ _ _ (heap_new w _)]; rfl
  have HB := Lib.hid hB
  obtain ⟨vl, hvl⟩ : ∃ vl, vl = x.l := ⟨_, rfl⟩
  obtain ⟨vp, hvp⟩ : ∃ vp, vp = x.p := ⟨_, rfl⟩
  rw [← hvl] at z1 hW
  rw [← hvp] at z2 hW
  rw [← hvl, ← hvp]
  have HVL := Lib.hid hvl
  have HVP := Lib.hid hvp
  clear h hB hR
  have hsl : ∃ a n c, vl = .slice a n c := ⟨_, _, _, hvl⟩
  have hsp : ∃ a n c, vp = .slice a n c := ⟨_, _, _, hvp⟩
  clear hvl hvp
  obtain ⟨a1, n1, c1, rfl⟩ := hsl
  obtain ⟨a2, n2, c2, rfl⟩ := hsp
  obtain ⟨b, hb⟩ : ∃ b, isName id.data.toList = b := ⟨_, rfl⟩
  rw [hb] at HR
  have HBB := Lib.hid hb
  clear hb
  go_enter Try.func79, Try.ntmps79
  go_upto_region 1 with (fail)
  rw [← hW]
  clear hW
  go_wp2_with fail
  refine (nameCheck_any id W).mono ?_
  rintro e w' ⟨rfl, rfl⟩
  rw [HBB.out]
  cases b with
  | false =>
    have e2 : arg false = 2 := rfl
    have hR2 : R = 2 := by rw [HR.out, if_pos rfl]
    subst hR2
    go_wp2_with fail
    go_ret
    exact ⟨rfl, HB.out⟩
  | true =>
    have e2 : arg true = 0 := rfl
    have HR2 : Hid (lpWhy x = R) := by show _ = _; rw [HR.out, if_neg (by simp)]
    go_wp2_with fail
    rw [HVL.out, HVP.out]
    refine (restL x W HL.out).mono ?_
    rintro e w5 ⟨rfl, hB5⟩
    rw [HR2.out]
    have HB5 : Hid (Below w.heap.size w w5) := HB.out.trans (hB5.mono HB.out.size)
    clear hB5
    go_wp2_with fail
    go_ret
    exact ⟨rfl, HB5.out⟩
end Go.Proofs.Ytpaegpbabfohcaa.Paths
