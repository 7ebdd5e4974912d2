/-
  Parts, as they grow in memory: a row of rows of texts, and a map of their places.
-/
import Derived.Test.YtpaegpbabfohcaaPathRoot
import Derived.Laws.OwnMore
namespace Go.Proofs.Ytpaegpbabfohcaa.Paths
open Go.RowKit Go.Proofs.Ytpaegpbabfohcaa.WalkBytes Go.Proofs.Ytpaegpbabfohcaa.PathPure Go.Proofs.Ytpaegpbabfohcaa.MapAt Go.Proofs.Ytpaegpbabfohcaa.PartsPure
set_option linter.unusedVariables false
set_option linter.unusedSimpArgs false
set_option maxRecDepth 100000

/-- keys that are whole numbers -/
def KI : Keys Try.prog 3 Int where
  d := .int .i64
  hd := Try.underlying3
  enc := .int .i64
  inj := fun a b h => by injection h
  is := fun a => rfl
abbrev Grp := List (Nat × List ByteArray)
def vget (vs : List Value) (j : Nat) : Value := vs.getD j (.slice none 0 0)
/-- rows of texts, each in a block of its own -/
structure Rows (w : World) (B : Nat) (V : Value) (vs : List Value) (G : Grp) : Prop where
  len : vs.length = G.length
  row : ∀ j (h : j < G.length), w.ownsRow B 9 1 (vget vs j) (G[j].2).length ((G[j].2).map Value.string)
  sep : ∀ j, j < G.length → ∀ x, (vget vs j).ownBlock = some x → V.ownBlock ≠ some x ∧ ∀ k, k < G.length → k ≠ j → (vget vs k).ownBlock ≠ some x
structure Gs2 (W : World) (bx bp bm n : Nat) (r : Nat → Nat) (V : Value) (K G : Grp) (wr : World) : Prop where
  p : ∃ p, PAt wr bp n p ∧ Low p ∧ ∀ j, rt p j = r j
  met : ∃ mf, MapAt KI wr bm mf ∧ ∀ j (h : j < K.length), mf ((K[j].1 : Nat) : Int) = some (.int .i64 (j : Nat))
  out : ∃ vs : List Value, wr.ownsRow (bm + 1) 56 1 V G.length vs ∧ Rows wr (bm + 1) V vs G
  b : Below (bx + 1) W wr
  lb : bx + 1 ≤ bp ∧ bp < bm
section
variable {W wr w' : World} {bx bp bm n : Nat} {r : Nat → Nat} {V : Value} {K G : Grp}
theorem own_grown {w w' : World} {B : Nat} {e : TypeId} {k m : Nat} {v : Value} {l : List Value} {row : Option Nat} (h : w.ownsRow B e k v m l) (g : w.grownBy w' row) (hne : ∀ x, v.ownBlock = some x → row ≠ some x) : w'.ownsRow B e k v m l := by
  refine World.ownsRow.kept h g ?_
  cases hv : v.ownBlock with
  | none => exact .inl rfl
  | some x => exact .inr (fun e => hne x hv e.symm)
theorem Rows.grown {w w' : World} {B : Nat} {vs : List Value} {row : Option Nat} (h : Rows w B V vs G) (g : w.grownBy w' row) (hne : ∀ j, j < G.length → ∀ x, (vget vs j).ownBlock = some x → row ≠ some x) : Rows w' B V vs G :=
  ⟨h.len, fun j hj => own_grown (h.row j hj) g (hne j hj), h.sep⟩
theorem kp_grown {w w' : World} {b : Nat} (k : Kp (But b) w w') : w.grownBy w' (some b) := ⟨k.os, k.tape, k.output, k.size, fun j hj hn => k.block j hj (fun e => hn (by rw [e]))⟩
/-- blocks have changed that are none of these -/
theorem Gs2.grown {row : Option Nat} (h : Gs2 W bx bp bm n r V K G wr) (g : wr.grownBy w' row) (h1 : row ≠ some bp) (h2 : row ≠ some bm) (h3 : ∀ x, row = some x → x ≤ bm) (hx : ∀ x, row = some x → bx + 1 ≤ x) : Gs2 W bx bp bm n r V K G w' := by
  obtain ⟨p, p1, p2⟩ := h.p
  obtain ⟨mf, m1, m2⟩ := h.met
  obtain ⟨vs, o1, o2⟩ := h.out
  have hl := m1.lt
  have hb := h.lb
  refine ⟨⟨p, p1.kept (g.block bp p1.lt (fun e => h1 e.symm)), p2⟩, ⟨mf, m1.kept (g.block bm m1.lt (fun e => h2 e.symm)), m2⟩, ⟨vs, own_grown o1 g (fun x q e => by have := (o1.lt x q).1; have := h3 x e; omega), o2.grown g (fun j hj x q e => by have := ((o2.row j hj).lt x q).1; have := h3 x e; omega)⟩, h.b.trans ((Below.refl (bx + 1) wr).grown g (by omega) (fun x e => hx x e)), hb⟩
theorem Gs2.later (h : Gs2 W bx bp bm n r V K G wr) (k : Below wr.heap.size wr w') : Gs2 W bx bp bm n r V K G w' :=
  h.grown (row := none) ⟨k.os, k.tape, k.output, k.size, fun j hj _ => k.block j hj⟩ (by simp) (by simp) (by simp) (by simp)
theorem Gs2.size (h : Gs2 W bx bp bm n r V K G wr) : bm + 1 ≤ wr.heap.size := by obtain ⟨mf, m1, -⟩ := h.met; exact m1.lt
/-- a root was told -/
theorem Gs2.root {p' : Nat → Nat} (h : Gs2 W bx bp bm n r V K G wr) (k : Kp (But bp) wr w') (hp : PAt w' bp n p') (hl : Low p') (hr : ∀ j, rt p' j = r j) : Gs2 W bx bp bm n r V K G w' := by
  obtain ⟨mf, m1, m2⟩ := h.met
  obtain ⟨vs, o1, o2⟩ := h.out
  have hb := h.lb
  have hs := m1.lt
  have g := kp_grown k
  refine ⟨⟨p', hp, hl, hr⟩, ⟨mf, m1.kept (k.block bm m1.lt (by show bm ≠ bp; omega)), m2⟩, ⟨vs, own_grown o1 g (fun x q e => by have := (o1.lt x q).1; have := Option.some.inj e; omega), o2.grown g (fun j hj x q e => by have := ((o2.row j hj).lt x q).1; have := Option.some.inj e; omega)⟩, h.b.trans (k.below (fun j hj => by show j ≠ bp; omega) (by omega)), hb⟩
/-- a key more -/
theorem Gs2.key (h : Gs2 W bx bp bm n r V G G wr) (i : Nat) (hi : ∀ j (q : j < G.length), G[j].1 ≠ i) : ∃ w3, (Instr.mapUpdate 87 (.map (some bm)) (.int .i64 (i : Nat)) (.int .i64 (G.length : Nat))).run Try.prog wr = .ok () w3 ∧ Gs2 W bx bp bm n r V (G ++ [(i, [])]) G w3 ∧ wr.grownBy w3 (some bm) := by
  obtain ⟨p, p1, p2⟩ := h.p
  obtain ⟨mf, m1, m2⟩ := h.met
  obtain ⟨vs, o1, o2⟩ := h.out
  have hb := h.lb
  have hs := m1.lt
  obtain ⟨w3, u1, u2, g, u4⟩ := m1.set Try.underlying87 (i : Int) (.int .i64 (G.length : Nat))
  refine ⟨w3, u1, ⟨⟨p, p1.kept (g.block bp p1.lt (fun e => by have := Option.some.inj e; omega)), p2⟩, ⟨_, u2, fun j hj => ?_⟩, ⟨vs, own_grown o1 g (fun x q e => by have := (o1.lt x q).1; have := Option.some.inj e; omega), o2.grown g (fun j hj x q e => by have := ((o2.row j hj).lt x q).1; have := Option.some.inj e; omega)⟩, h.b.trans ((Below.refl (bx + 1) wr).grown g (by omega) (fun x e => by have := Option.some.inj e; omega)), hb⟩, g⟩
  show (if ((((G ++ [(i, [])])[j]).1 : Nat) : Int) = (i : Int) then _ else _) = _
  rw [List.length_append] at hj
  have hj : j < G.length + 1 := hj
  by_cases q : j < G.length
  · have : (G ++ [(i, ([] : List ByteArray))])[j]'(by simp; omega) = G[j] := List.getElem_append_left q
    rw [this, if_neg (fun e => hi j q (by omega))]
    exact m2 j q
  · obtain rfl : j = G.length := by omega
    rw [if_pos (by simp)]
/-- an empty row more -/
theorem Gs2.app {V' : Value} {vs : List Value} {i : Nat} (h : Gs2 W bx bp bm n r V K G wr) (hv : Rows wr (bm + 1) V vs G) (ho : wr.ownsRow (bm + 1) 56 1 V G.length vs) {w4 : World} (o : w4.ownsRow (bm + 1) 56 1 V' (G.length + 1) (vs ++ [.slice none 0 0])) (g : wr.grownBy w4 V.ownBlock) (b4 : V'.ownBlock = V.ownBlock ∨ V'.ownBlock = some wr.heap.size) : Gs2 W bx bp bm n r V' K (G ++ [(i, [])]) w4 := by
  obtain ⟨p, p1, p2⟩ := h.p
  obtain ⟨mf, m1, m2⟩ := h.met
  have hb := h.lb
  have hs := m1.lt
  have vlt : ∀ x, V.ownBlock = some x → bm + 1 ≤ x := fun x q => (ho.lt x q).1
  refine ⟨⟨p, p1.kept (g.block bp p1.lt (fun e => by have := vlt bp e.symm; omega)), p2⟩, ⟨mf, m1.kept (g.block bm m1.lt (fun e => by have := vlt bm e.symm; omega)), m2⟩, ⟨vs ++ [.slice none 0 0], by rw [List.length_append]; exact o, by simp [hv.len], fun j hj => ?_, fun j hj x hx => ?_⟩, h.b.trans ((Below.refl (bx + 1) wr).grown g (by omega) (fun x e => by have := vlt x e; omega)), hb⟩
  · rw [List.length_append] at hj
    have hj : j < G.length + 1 := hj
    by_cases q : j < G.length
    · have e1 : (G ++ [(i, ([] : List ByteArray))])[j]'(by simp; omega) = G[j] := List.getElem_append_left q
      have e2 : vget (vs ++ [.slice none 0 0]) j = vget vs j := by
        unfold vget
        rw [List.getD_eq_getElem?_getD, List.getD_eq_getElem?_getD, List.getElem?_append_left (by rw [hv.len]; exact q)]
      rw [e1, e2]
      exact own_grown (hv.row j q) g (fun x hx => (hv.sep j q x hx).1)
    · obtain rfl : j = G.length := by omega
      have e2 : vget (vs ++ [.slice none 0 0]) G.length = .slice none 0 0 := by
        unfold vget
        rw [List.getD_eq_getElem?_getD, ← hv.len, List.getElem?_append_right (Nat.le_refl _)]
        simp
      rw [e2]
      simp
      exact World.ownsRow_nil _ _ _ _
  · rw [List.length_append] at hj
    have hj : j < G.length + 1 := hj
    have e2 : ∀ k, k < G.length → vget (vs ++ [.slice none 0 0]) k = vget vs k := fun k q => by
      unfold vget
      rw [List.getD_eq_getElem?_getD, List.getD_eq_getElem?_getD, List.getElem?_append_left (by rw [hv.len]; exact q)]
    have e3 : vget (vs ++ [.slice none 0 0]) G.length = .slice none 0 0 := by
      unfold vget
      rw [List.getD_eq_getElem?_getD, ← hv.len, List.getElem?_append_right (Nat.le_refl _)]
      simp
    by_cases q : j < G.length
    · rw [e2 j q] at hx
      refine ⟨fun e => ?_, fun k hk hkj e => ?_⟩
      · rcases b4 with z | z
        · rw [z] at e; exact (hv.sep j q x hx).1 e
        · rw [z] at e; have := Option.some.inj e; have := ((hv.row j q).lt x hx).2; omega
      · rw [List.length_append] at hk
        have hk : k < G.length + 1 := hk
        by_cases q2 : k < G.length
        · rw [e2 k q2] at e; exact (hv.sep j q x hx).2 k q2 hkj e
        · obtain rfl : k = G.length := by omega
          rw [e3] at e; cases e
    · obtain rfl : j = G.length := by omega
      rw [e3] at hx; cases hx
/-- one row has grown, and stands in the row of rows -/
theorem Gs2.longer {gV capV j : Nat} {vs : List Value} {v' : Value} {s : ByteArray} (h : Gs2 W bx bp bm n r (.slice (some ⟨gV, 0, none⟩) G.length capV) K G wr) (hv : Rows wr (bm + 1) (.slice (some ⟨gV, 0, none⟩) G.length capV) vs G) (ho : wr.ownsRow (bm + 1) 56 1 (.slice (some ⟨gV, 0, none⟩) G.length capV) G.length vs) (hj : j < G.length) {w4 : World} (o : w4.ownsRow (bm + 1) 9 1 v' ((G[j].2).length + 1) ((G[j].2).map Value.string ++ [.string s])) (g : wr.grownBy w4 (vget vs j).ownBlock) (b4 : v'.ownBlock = (vget vs j).ownBlock ∨ v'.ownBlock = some wr.heap.size) : Gs2 W bx bp bm n r (.slice (some ⟨gV, 0, none⟩) G.length capV) K (ext G j s) (w4.setCell ⟨gV, j, none⟩ v') := by
  obtain ⟨p, p1, p2⟩ := h.p
  obtain ⟨mf, m1, m2⟩ := h.met
  have hb := h.lb
  have hs := m1.lt
  have hgV := (ho.lt gV rfl)
  have vlt : ∀ x, (vget vs j).ownBlock = some x → bm + 1 ≤ x := fun x q => ((hv.row j hj).lt x q).1
  have hsep := hv.sep j hj
  have hVne : (vget vs j).ownBlock ≠ some gV := fun e => (hsep gV e).1 rfl
  have ho4 : w4.ownsRow (bm + 1) 56 1 (.slice (some ⟨gV, 0, none⟩) G.length capV) G.length vs := own_grown ho g (fun x hx e => by have : gV = x := Option.some.inj hx; subst this; exact hVne e)
  obtain ⟨ho5, g5⟩ := ho4.stored j v'
  have hel : (ext G j s).length = G.length := by simp [PartsPure.ext]
  have v'ne : ∀ x, v'.ownBlock = some x → x ≠ gV ∧ ∀ k, k < G.length → k ≠ j → (vget vs k).ownBlock ≠ some x := fun x hx => by
    rcases b4 with z | z
    · rw [z] at hx
      exact ⟨fun e => hVne (e ▸ hx), (hsep x hx).2⟩
    · rw [z] at hx
      have hx := Option.some.inj hx
      exact ⟨by omega, fun k hk _ e => by have := ((hv.row k hk).lt x e).2; omega⟩
  have e1 : ∀ k, k ≠ j → vget (vs.set j v') k = vget vs k := fun k hk => by
    unfold vget
    rw [List.getD_eq_getElem?_getD, List.getD_eq_getElem?_getD, List.getElem?_set_ne (fun e => hk e.symm)]
  have e2 : vget (vs.set j v') j = v' := by
    unfold vget
    rw [List.getD_eq_getElem?_getD, List.getElem?_set_self (by rw [hv.len]; exact hj)]; rfl
  refine ⟨⟨p, ((p1.kept (g.block bp p1.lt (fun e => by have := vlt bp e.symm; omega))).kept (Below.heap_setCell _ _ _ _ (by show bp ≠ gV; omega))), p2⟩, ⟨mf, (m1.kept (g.block bm m1.lt (fun e => by have := vlt bm e.symm; omega))).kept (Below.heap_setCell _ _ _ _ (by show bm ≠ gV; omega)), m2⟩, ⟨vs.set j v', by rw [hel]; exact ho5, ?_⟩, (h.b.trans ((Below.refl (bx + 1) wr).grown g (by omega) (fun x e => by have := vlt x e; omega))).setCell (p := ⟨gV, j, none⟩) (by show bx + 1 ≤ gV; omega) _, hb⟩
  refine ⟨by simp [hv.len, PartsPure.ext], fun k hk => ?_, fun k hk x hx => ?_⟩
  · have hk' : k < G.length := by rw [hel] at hk; exact hk
    by_cases q : k = j
    · subst q
      rw [e2]
      have : (PartsPure.ext G k s)[k]'hk = (G[k]'hk' |>.1, (G[k]'hk').2 ++ [s]) := by simp [PartsPure.ext, List.getElem_modify]
      rw [this]
      show World.ownsRow _ _ _ _ _ ((G[k]'hk').2 ++ [s]).length (((G[k]'hk').2 ++ [s]).map Value.string)
      rw [List.length_append, List.map_append]
      exact own_set o _ _ _ (fun x hx => (v'ne x hx).1)
    · rw [e1 k q]
      have : (PartsPure.ext G j s)[k]'hk = G[k]'hk' := by simp [PartsPure.ext, List.getElem_modify, Ne.symm q]
      rw [this]
      exact own_set (own_grown (hv.row k hk') g (fun x hx e => (hv.sep k hk' x hx).2 j hj (fun z => q z.symm) e)) _ _ _ (fun x hx e => (hv.sep k hk' x hx).1 (by rw [e]; rfl))
  · rw [hel] at hk
    by_cases q : k = j
    · subst q
      rw [e2] at hx
      refine ⟨fun e => (v'ne x hx).1 (Option.some.inj e).symm, fun l hl hlk e => ?_⟩
      rw [hel] at hl
      rw [e1 l hlk] at e
      exact (v'ne x hx).2 l hl hlk e
    · rw [e1 k q] at hx
      refine ⟨(hv.sep k hk x hx).1, fun l hl hlk e => ?_⟩
      rw [hel] at hl
      by_cases q2 : l = j
      · subst q2
        rw [e2] at e
        exact (v'ne x e).2 k hk q hx
      · rw [e1 l q2] at e
        exact (hv.sep k hk x hx).2 l hl hlk e
end
end Go.Proofs.Ytpaegpbabfohcaa.Paths
