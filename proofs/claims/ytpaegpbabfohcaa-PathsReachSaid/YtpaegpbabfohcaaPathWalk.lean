/-
  A walk through a graph: paths.arrive.
-/
import Derived.Test.YtpaegpbabfohcaaPathNode
import Derived.Test.YtpaegpbabfohcaaPathPure
import Derived.Test.YtpaegpbabfohcaaMapAt
import Derived.Deep.RegionLaw
import Derived.StillTailTactics
import Derived.Deep.AppendLies
namespace Go.Proofs.Ytpaegpbabfohcaa.Paths
open Go.RowKit Go.Proofs.Ytpaegpbabfohcaa.WalkBytes Go.Proofs.Ytpaegpbabfohcaa.PathPure Go.Proofs.Ytpaegpbabfohcaa.MapAt
set_option linter.unusedVariables false
set_option linter.unusedSimpArgs false
set_option maxRecDepth 100000

/-- append onto an own row, as one step of a region that draws -/
theorem step_app {P : Program} {ops : Array Oper} {o : Oper} {a : Act} {w : World} {Q : Exit → Act → World → Prop} {K : Act → World → Prop} {E : Prop} (hg : o.guard = none) (sl x : Operand) (t : TypeId)
    (ho : o.op = .call { callee := .builtin .append, args := #[sl, x], argTypes := #[t, t] }) (base : Nat) (e : TypeId) (i : TypeInfo) (z : Value) (size bytes : Nat) (ht : P.underlying t = some (.slice e)) (hi : P.info? e = some i) (hz : i.zero = some z)
    (hsize : i.size = size) (hby : i.bytes = bytes) (hzs : z.cells.size = size) (hsz : 0 < size) (v : Value) (n : Nat) (xs : List Value) (hs : a.eval sl = v) (hown : w.ownsRow base e size v n xs)
    (ad : Addr) (m c : Nat) (news : List Value) (hx : a.eval x = .slice (some ad) m c) (hl : news.length = m * size) (hnews : ∀ j u, news[j]? = some u → w.cell? (ad.add j) = some u) (h1 : ∀ u ∈ news, u.oneCell' = true)
    (h63 : n + m ≤ maxLen) (hbytes : (n + m) * bytes ≤ 140737488355328) (hbase : base ≤ w.heap.size)
    (h : ∀ v' w', w'.ownsRow base e size v' (n + m) (xs ++ news) → w.grownBy w' v.ownBlock → (v'.ownBlock = v.ownBlock ∨ v'.ownBlock = some w.heap.size) → K (a.put o.dst v') w') : if Region.wanted o (yielded ops a.tmps) = true then Oper.wp P o a w K Q else E := by
  have hw : Region.wanted o (yielded ops a.tmps) = true := by simp [Region.wanted, hg]
  rw [if_pos hw]
  obtain ⟨v', w', hr, h2, h3, h4, h5⟩ := run_append_own_at (P := P) w base t o.type e i z size bytes ht hi hz hsize hby hzs hsz v n xs hown ad m c news hl hnews h1 h63 hbytes hbase
  unfold Oper.wp execOp
  simp only [ho, resolve, invoke, builtin, Sem.run_bind, Sem.run_pure, Result.andThen_ok, List.map_toArray, List.map_cons, List.map_nil, hs, hx, hr]
  exact h v' w' h2 h3 h5

/-- keys that are texts -/
def KS : Keys Try.prog 9 ByteArray where
  d := .string
  hd := Try.underlying9
  enc := .string
  inj := fun a b h => by injection h
  is := fun a => trivial
theorem zero_int (w : World) : (zeroValue 3).run Try.prog w = .ok (.int .i64 0) w := by kernel_rfl
abbrev Hop := Hp ByteArray
def hcells (h : Hop) : List Value := [.string h.id, .string h.edge, .int .i64 h.far]
def hrow (L : List Hop) : List Value := L.flatMap hcells
theorem hrow_len (L : List Hop) : (hrow L).length = L.length * 3 := by
  induction L with
  | nil => rfl
  | cons p P ih => unfold hrow at *; rw [List.flatMap_cons, List.length_append, ih]; show 3 + _ = _; simp; omega
theorem hrow_app (L : List Hop) (h : Hop) : hrow (L ++ [h]) = hrow L ++ hcells h := by simp [hrow]
theorem info_hop : (Try.prog.info? 113).map (fun i => (i.zero, i.size, i.bytes)) = some (some (.agg #[.string ⟨#[]⟩, .string ⟨#[]⟩, .int .i64 0]), 3, 40) := by kernel_rfl
/-- where a node stands among the hops, and one -/
def Pos (L : List Hop) (s : ByteArray) (v : Option Value) : Prop := (s ∉ L.map (·.id) ∧ v.getD (.int .i64 0) = .int .i64 0) ∨ ∃ p : Nat, p < L.length ∧ (hop L p).id = s ∧ v.getD (.int .i64 0) = .int .i64 (p + 1 : Nat)
theorem pos_app {L : List Hop} {h : Hop} {f : ByteArray → Option Value} (hf : ∀ s, Pos L s (f s)) (hn : h.id ∉ L.map (·.id)) : ∀ s, Pos (L ++ [h]) s (if s = h.id then some (.int .i64 (L.length + 1 : Nat)) else f s) := by
  intro s
  by_cases e : s = h.id
  · subst e
    rw [if_pos rfl]
    exact .inr ⟨L.length, by simp, by rw [hop_end], rfl⟩
  · rw [if_neg e]
    rcases hf s with ⟨h1, h2⟩ | ⟨p, hp, h1, h2⟩
    · refine .inl ⟨?_, h2⟩
      rw [List.map_append, List.mem_append]
      rintro (q | q)
      · exact h1 q
      · simp at q; exact e q
    · exact .inr ⟨p, by simp; omega, by rw [hop_pre hp]; exact h1, h2⟩
/-- these blocks are as they were -/
structure Kp (F : Nat → Prop) (w w' : World) : Prop where
  os : w'.os = w.os
  tape : w'.tape = w.tape
  output : w'.output = w.output
  size : w.heap.size ≤ w'.heap.size
  block : ∀ k, k < w.heap.size → F k → w'.heap[k]? = w.heap[k]?
theorem Kp.refl (F : Nat → Prop) (w : World) : Kp F w w := ⟨rfl, rfl, rfl, Nat.le_refl _, fun _ _ _ => rfl⟩
theorem Kp.trans {F : Nat → Prop} {a b c : World} (h : Kp F a b) (k : Kp F b c) : Kp F a c :=
  ⟨k.os.trans h.os, k.tape.trans h.tape, k.output.trans h.output, Nat.le_trans h.size k.size, fun j hj hF => (k.block j (Nat.lt_of_lt_of_le hj h.size) hF).trans (h.block j hj hF)⟩
theorem Kp.sub {F G : Nat → Prop} {w w' : World} (h : Kp F w w') (hs : ∀ k, G k → F k) : Kp G w w' := ⟨h.os, h.tape, h.output, h.size, fun j hj hG => h.block j hj (hs j hG)⟩
theorem Kp.drewN {F : Nat → Prop} {a w : World} (h : Kp F a w) (n : Nat) : Kp F a (w.drewN n) := ⟨h.os, h.tape, h.output, h.size, h.block⟩
theorem Kp.drew {F : Nat → Prop} {a w : World} (h : Kp F a w) : Kp F a w.drew := ⟨h.os, h.tape, h.output, h.size, h.block⟩
theorem Kp.below {F : Nat → Prop} {B : Nat} {w w' : World} (h : Kp F w w') (hs : ∀ k, k < B → F k) (hB : B ≤ w.heap.size) : Below B w w' := ⟨h.os, h.tape, h.output, h.size, fun k hk => h.block k (by omega) (hs k hk)⟩
theorem kp_below {F : Nat → Prop} {w w' : World} (h : Below w.heap.size w w') : Kp F w w' := ⟨h.os, h.tape, h.output, h.size, fun j hj _ => h.block j hj⟩
theorem Kp.grown {F : Nat → Prop} {a w w' : World} {row : Option Nat} (h : Kp F a w) (hg : w.grownBy w' row) (hr : ∀ k, row = some k → ¬ F k) : Kp F a w' :=
  h.trans ⟨hg.os, hg.tape, hg.output, hg.size, fun k hk hF => hg.block k hk (fun e => hr k e.symm hF)⟩
theorem Kp.set {F : Nat → Prop} {a w : World} (h : Kp F a w) (g off : Nat) (u : Value) (hg : ¬ F g) : Kp F a (w.setCell ⟨g, off, none⟩ u) :=
  h.trans ⟨rfl, rfl, rfl, by simp [World.setCell], fun k hk hF => Below.heap_setCell _ _ _ _ (fun e => hg (by have e : k = g := e; rw [← e]; exact hF))⟩
theorem Kp.cell {F : Nat → Prop} {w w' : World} (h : Kp F w w') {g : Nat} (hg : g < w.heap.size) (hF : F g) (off : Nat) : w'.cell? ⟨g, off, none⟩ = w.cell? ⟨g, off, none⟩ := World.cell?_of_block (a := ⟨g, off, none⟩) (h.block g hg hF)
/-- a set of blocks, and one -/
def And1 (F : Nat → Prop) (x : Nat) : Nat → Prop := fun k => F k ∨ k = x

/-- a walk, as it lies in memory: a block, its map, its hops in a row of its own; none of these in F -/
structure Wk2 (F : Nat → Prop) (b bm : Nat) (gn ge : Value) (L M : List Hop) (w : World) : Prop where
  c0 : w.cell? ⟨b, 0, none⟩ = some gn
  c1 : w.cell? ⟨b, 1, none⟩ = some ge
  c3 : w.cell? ⟨b, 3, none⟩ = some (.map (some bm))
  f2 : w.frozen? ⟨b, 2, none⟩ = false
  row : ∃ V, w.cell? ⟨b, 2, none⟩ = some V ∧ w.ownsRow 0 113 3 V L.length (hrow L) ∧ V.ownBlock ≠ some b ∧ V.ownBlock ≠ some bm ∧ ∀ k, V.ownBlock = some k → ¬ F k
  met : ∃ mf, MapAt KS w bm mf ∧ ∀ s, Pos M s (mf s)
  nf : ¬ F b ∧ ¬ F bm ∧ b ≠ bm ∧ b < w.heap.size
  top : ∀ k, F k → k < w.heap.size
abbrev Wk (F : Nat → Prop) (b bm : Nat) (gn ge : Value) (L : List Hop) (w : World) : Prop := Wk2 F b bm gn ge L L w
section
variable {F : Nat → Prop} {b bm : Nat} {gn ge : Value} {L M : List Hop} {w w' : World}
theorem Wk2.look (h : Wk2 F b bm gn ge L M w) (s : ByteArray) : ∃ v, (Instr.lookup 102 (.map (some bm)) (.string s) false).run Try.prog w = .ok (v.getD (.int .i64 0)) w ∧ (∀ n, (Instr.lookup 102 (.map (some bm)) (.string s) false).run Try.prog (w.drewN n) = .ok (v.getD (.int .i64 0)) (w.drewN n)) ∧ Pos M s v := by
  obtain ⟨mf, h1, h2⟩ := h.met
  exact ⟨mf s, h1.look Try.underlying102 (zero_int w) s, fun n => (h1.drewN n).look Try.underlying102 (zero_int _) s, h2 s⟩
theorem own_later {w w' : World} {base : Nat} {e : TypeId} {k : Nat} {v : Value} {n : Nat} {l : List Value} (h : w.ownsRow base e k v n l) (b : Below w.heap.size w w') : w'.ownsRow base e k v n l :=
  World.ownsRow.kept h (row := none) ⟨b.os, b.tape, b.output, b.size, fun j hj _ => b.block j hj⟩ (by cases v.ownBlock with | none => exact .inl rfl | some k => exact .inr (by simp))
theorem own_set {w : World} {base : Nat} {e : TypeId} {k : Nat} {v : Value} {n : Nat} {l : List Value} (h : w.ownsRow base e k v n l) (g off : Nat) (u : Value) (hne : ∀ k, v.ownBlock = some k → k ≠ g) : (w.setCell ⟨g, off, none⟩ u).ownsRow base e k v n l := by
  refine World.ownsRow.kept h (w' := w.setCell ⟨g, off, none⟩ u) (row := some g) ⟨rfl, rfl, rfl, by simp [World.setCell], fun j hj hn => Below.heap_setCell _ _ _ _ (fun e => hn (congrArg some e))⟩ ?_
  cases hv : v.ownBlock with
  | none => exact .inl rfl
  | some k => exact .inr (fun e => hne k hv (Option.some.inj e))
/-- blocks were made; some of these are foreign now -/
theorem Wk2.later {G : Nat → Prop} (h : Wk2 F b bm gn ge L M w) (k : Below w.heap.size w w') (hG : ∀ k, k < w.heap.size → G k → F k) (hT : ∀ k, G k → k < w'.heap.size) : Wk2 G b bm gn ge L M w' := by
  obtain ⟨V, r1, r2, r3, r4, r5⟩ := h.row
  obtain ⟨mf, m1, m2⟩ := h.met
  have hb := k.block b h.nf.2.2.2
  exact ⟨(World.cell?_of_block (a := ⟨b, 0, none⟩) hb).trans h.c0, (World.cell?_of_block (a := ⟨b, 1, none⟩) hb).trans h.c1, (World.cell?_of_block (a := ⟨b, 3, none⟩) hb).trans h.c3, (World.frozen?_of_block (a := ⟨b, 2, none⟩) hb).trans h.f2, ⟨V, (World.cell?_of_block (a := ⟨b, 2, none⟩) hb).trans r1, own_later r2 k, r3, r4, fun j hj hGj => r5 j hj (hG j (r2.lt j hj).2 hGj)⟩, ⟨mf, m1.kept (k.block bm m1.lt), m2⟩, ⟨fun q => h.nf.1 (hG b h.nf.2.2.2 q), fun q => h.nf.2.1 (hG bm m1.lt q), h.nf.2.2.1, Nat.lt_of_lt_of_le h.nf.2.2.2 k.size⟩, hT⟩
theorem Wk2.same (h : Wk2 F b bm gn ge L M w) (k : Below w.heap.size w w') : Wk2 F b bm gn ge L M w' := h.later k (fun _ _ q => q) (fun j hj => Nat.lt_of_lt_of_le (h.top j hj) k.size)
theorem Wk2.drewN (h : Wk2 F b bm gn ge L M w) (n : Nat) : Wk2 F b bm gn ge L M (w.drewN n) := h.same (below_drewN (Below.refl _ _) n)
theorem Wk2.less {G : Nat → Prop} (h : Wk2 F b bm gn ge L M w) (hG : ∀ k, G k → F k) : Wk2 G b bm gn ge L M w := h.later (Below.refl _ _) (fun _ _ q => hG _ q) (fun k q => h.top k (hG k q))
/-- one block more is foreign -/
theorem Wk2.add (h : Wk2 F b bm gn ge L M w) (k : Below w.heap.size w w') {x : Nat} (hx : w.heap.size ≤ x) (hx2 : x < w'.heap.size) : Wk2 (And1 F x) b bm gn ge L M w' :=
  h.later k (fun j hj q => by rcases q with q | q; exact q; omega) (fun j q => by rcases q with q | q; exact Nat.lt_of_lt_of_le (h.top j q) k.size; omega)
/-- a row has grown, and the walk has it -/
theorem Wk2.row_put {L' : List Hop} {w4 : World} {V V' : Value} (h : Wk2 F b bm gn ge L M w) (hV : w.cell? ⟨b, 2, none⟩ = some V) (hr : V.ownBlock ≠ some b ∧ V.ownBlock ≠ some bm ∧ ∀ k, V.ownBlock = some k → ¬ F k) (o4 : w4.ownsRow 0 113 3 V' L'.length (hrow L')) (g4 : w.grownBy w4 V.ownBlock) (b4 : V'.ownBlock = V.ownBlock ∨ V'.ownBlock = some w.heap.size) : Wk2 F b bm gn ge L' M (w4.setCell ⟨b, 2, none⟩ V') ∧ Kp F w (w4.setCell ⟨b, 2, none⟩ V') := by
  obtain ⟨mf, m1, m2⟩ := h.met
  have hbl := h.nf
  have eb : w4.heap[b]? = w.heap[b]? := g4.block b hbl.2.2.2 (fun e => hr.1 e.symm)
  have em : w4.heap[bm]? = w.heap[bm]? := g4.block bm m1.lt (fun e => hr.2.1 e.symm)
  have em2 : (w4.setCell ⟨b, 2, none⟩ V').heap[bm]? = w4.heap[bm]? := Below.heap_setCell _ _ _ _ (fun e => hbl.2.2.1 e.symm)
  have c (k : Nat) (hk : k ≠ 2) : (w4.setCell ⟨b, 2, none⟩ V').cell? ⟨b, k, none⟩ = w.cell? ⟨b, k, none⟩ :=
    (World.cell?_setCell_other _ ⟨b, 2, none⟩ ⟨b, k, none⟩ _ (fun e => by injection e with _ e; omega)).trans (World.cell?_of_block (a := ⟨b, k, none⟩) eb)
  have c4 : w4.cell? ⟨b, 2, none⟩ = some V := (World.cell?_of_block (a := ⟨b, 2, none⟩) eb).trans hV
  have own (k : Nat) (hk : V'.ownBlock = some k) : k ≠ b ∧ k ≠ bm ∧ ¬ F k := by
    rcases b4 with q | q
    · rw [q] at hk
      exact ⟨fun e => hr.1 (e ▸ hk), fun e => hr.2.1 (e ▸ hk), hr.2.2 k hk⟩
    · rw [q] at hk
      have e := Option.some.inj hk
      have := m1.lt
      exact ⟨by omega, by omega, fun hF => by have := h.top k hF; omega⟩
  have hsz : (w4.setCell ⟨b, 2, none⟩ V').heap.size = w4.heap.size := by simp [World.setCell]
  refine ⟨⟨(c 0 (by omega)).trans h.c0, (c 1 (by omega)).trans h.c1, (c 3 (by omega)).trans h.c3, ?_, ⟨V', World.cell?_setCell_same _ _ _ c4, own_set o4 _ _ _ (fun k hk => (own k hk).1), fun e => (own b e).1 rfl, fun e => (own bm e).2.1 rfl, fun k hk => (own k hk).2.2⟩, ⟨mf, m1.kept (em2.trans em), m2⟩, ⟨hbl.1, hbl.2.1, hbl.2.2.1, by rw [hsz]; exact Nat.lt_of_lt_of_le hbl.2.2.2 g4.size⟩, fun k hk => by rw [hsz]; exact Nat.lt_of_lt_of_le (h.top k hk) g4.size⟩, ((Kp.refl F w).grown g4 hr.2.2).set _ _ _ hbl.1⟩
  rw [World.frozen?_setCell]
  exact (World.frozen?_of_block (a := ⟨b, 2, none⟩) eb).trans h.f2
/-- a map is another one, and the walk has it -/
theorem Wk2.met_put {M' : List Hop} {w3 : World} {f : ByteArray → Option Value} (h : Wk2 F b bm gn ge L M w) (hm : MapAt KS w3 bm f) (g : w.drew.grownBy w3 (some bm)) (hp : ∀ s, Pos M' s (f s)) : Wk2 F b bm gn ge L M' w3 ∧ Kp F w w3 := by
  obtain ⟨V, r1, r2, r3, r4, r5⟩ := h.row
  have eb : w3.heap[b]? = w.heap[b]? := g.block b h.nf.2.2.2 (fun e => h.nf.2.2.1 (Option.some.inj e))
  refine ⟨⟨(World.cell?_of_block (a := ⟨b, 0, none⟩) eb).trans h.c0, (World.cell?_of_block (a := ⟨b, 1, none⟩) eb).trans h.c1, (World.cell?_of_block (a := ⟨b, 3, none⟩) eb).trans h.c3, (World.frozen?_of_block (a := ⟨b, 2, none⟩) eb).trans h.f2, ⟨V, (World.cell?_of_block (a := ⟨b, 2, none⟩) eb).trans r1, ?_, r3, r4, r5⟩, ⟨f, hm, hp⟩, ⟨h.nf.1, h.nf.2.1, h.nf.2.2.1, Nat.lt_of_lt_of_le h.nf.2.2.2 g.size⟩, fun k hk => Nat.lt_of_lt_of_le (h.top k hk) g.size⟩, ((Kp.refl F w).drew).grown g (fun k hk => by obtain rfl := Option.some.inj hk; exact h.nf.2.1)⟩
  exact World.ownsRow.kept r2 (w' := w3) (row := some bm) ⟨g.os, g.tape, g.output, g.size, g.block⟩ (.inr r4)
theorem Wk2.put_to {w4 : World} {V : Value} (h : Wk2 F b bm gn ge L M w) (hV : w.cell? ⟨b, 2, none⟩ = some V) (hr : V.ownBlock ≠ some b ∧ V.ownBlock ≠ some bm ∧ ∀ k, V.ownBlock = some k → ¬ F k) (g4 : w.grownBy w4 V.ownBlock) : w4.cell? ⟨b, 2, none⟩ = some V ∧ w4.frozen? ⟨b, 2, none⟩ = false := by
  have eb : w4.heap[b]? = w.heap[b]? := g4.block b h.nf.2.2.2 (fun e => hr.1 e.symm)
  exact ⟨(World.cell?_of_block (a := ⟨b, 2, none⟩) eb).trans hV, (World.frozen?_of_block (a := ⟨b, 2, none⟩) eb).trans h.f2⟩
end
set_option maxHeartbeats 3200000 in
theorem arrive_any (F : Nat → Prop) (b bm : Nat) (gn ge : Value) (L : List Hop) (h : Hop) (w : World) (hw : Wk F b bm gn ge L w) (hl : L.length ≤ 1000) :
    Calls Try.prog 86 #[.pointer (some ⟨b, 0, none⟩), .agg #[.string h.id, .string h.edge, .int .i64 h.far]] w fun e w' => e = .returned (.tuple #[]) ∧ Wk F b bm gn ge (arr L h) w' ∧ Kp F w w' := by
  obtain ⟨id, ed, far⟩ := h
  obtain ⟨W, hW⟩ : ∃ W, W = w.alloc (.cells #[.string id, .string ed, .int .i64 far] 113) := ⟨_, rfl⟩
  obtain ⟨bx, hbx⟩ : ∃ bx, bx = w.heap.size := ⟨_, rfl⟩
  have hB : Below w.heap.size w W := by rw [hW]; exact Joins.below_alloc1 w _
  have hsz : W.heap.size = bx + 1 := by rw [hW, hbx]; simp
  have z0 : W.cell? ⟨bx, 0, none⟩ = some (.string id) := by rw [hW, hbx, cell_of_row _ _ 0 _ _ _ (heap_new w _)]; rfl
  have z1 : W.cell? ⟨bx, 1, none⟩ = some (.string ed) := by rw [hW, hbx, cell_of_row _ _ 1 _ _ _ (heap_new w _)]; rfl
  have z2 : W.cell? ⟨bx, 2, none⟩ = some (.int .i64 far) := by rw [hW, hbx, cell_of_row _ _ 2 _ _ _ (heap_new w _)]; rfl
  have hW1 : Wk (And1 F bx) b bm gn ge L W := hw.add hB (by omega) (by omega)
  have HKW : Hid (Kp F w W) := kp_below hB
  clear hw
  obtain ⟨v, -, lk, hpos⟩ := hW1.look id
  have c3 := hW1.c3
  have FIN : Hid (∀ L' wf, Wk (And1 F bx) b bm gn ge L' wf → Kp (And1 F bx) W wf → Wk F b bm gn ge L' wf ∧ Kp F w wf) := fun L' wf k1 k2 => ⟨k1.less fun k q => .inl q, HKW.out.trans (k2.sub fun k q => .inl q)⟩
  by_cases hin : id ∈ L.map (·.id)
  · have harr : arr L ⟨id, ed, far⟩ = L := by unfold arr; rw [if_pos hin]
    rw [harr]
    rcases hpos with ⟨q, _⟩ | ⟨p, hp, -, hv⟩
    · exact absurd hin q
    rw [hv] at lk
    have hne : (((p + 1 : Nat) : Int) == 0) = false := by simp; omega
    obtain ⟨p1, hp1⟩ : ∃ p1, p1 = p + 1 := ⟨_, rfl⟩
    rw [← hp1] at lk hne
    have H1 := Lib.hid hW1
    clear hv hin harr hp1 hW1 hB
    go_enter Try.func86, Try.ntmps86
    go_upto_region 1 with (fail)
    rw [← hW, ← hbx]
    clear hW hbx
    go_quiet (fail)
    go_wp2_with fail
    go_end0
    exact ⟨rfl, FIN.out _ _ (H1.out.drewN _) ((Kp.refl _ _).drewN _)⟩
  · have harr : arr L ⟨id, ed, far⟩ = L ++ [⟨id, ed, far⟩] := by unfold arr; rw [if_neg hin]
    rw [harr]
    rcases hpos with ⟨_, hv⟩ | ⟨p, hp, hq, -⟩
    · rw [hv] at lk
      have H1 := Lib.hid hW1
      have hnot : Hid (id ∉ L.map (·.id)) := hin
      clear hv hin harr hW1 hB
      go_enter Try.func86, Try.ntmps86
      go_upto_region 1 with (fail)
      rw [← hW, ← hbx]
      clear hW hbx
      go_quiet (fail)
      obtain ⟨X, hX⟩ : ∃ X, X = W.drewN nq := ⟨_, rfl⟩
      rw [← hX]
      have hX1 : Wk (And1 F bx) b bm gn ge L X := by rw [hX]; exact H1.out.drewN _
      have hXK : Hid (Kp (And1 F bx) W X) := by rw [hX]; exact (Kp.refl _ _).drewN _
      have x0 : X.cell? ⟨bx, 0, none⟩ = some (.string id) := by rw [hX]; exact z0
      have x1 : X.cell? ⟨bx, 1, none⟩ = some (.string ed) := by rw [hX]; exact z1
      have x2 : X.cell? ⟨bx, 2, none⟩ = some (.int .i64 far) := by rw [hX]; exact z2
      obtain ⟨V, r1, r2, r3, r4, r5⟩ := hX1.row
      have HZ : Hid (bx < W.heap.size ∧ W.cell? ⟨bx, 0, none⟩ = some (.string id)) := ⟨by omega, z0⟩
      clear hX z0 z1 z2 lk hsz
      obtain ⟨av, cv, rfl⟩ := slice_of_own r2
      have f2 := hX1.f2
      have HX1 := Lib.hid hX1
      have HR := Lib.hid (And.intro r3 (And.intro r4 r5))
      have HO := Lib.hid (own_later r2 (bd X (.cells #[.string id, .string ed, .int .i64 far] 113)))
      have HY : Hid (Wk (And1 F bx) b bm gn ge L ((X.alloc (.cells #[.string id, .string ed, .int .i64 far] 113)).drew)) := hX1.same (bd X _)
      have HY1 : Hid (((X.alloc (.cells #[.string id, .string ed, .int .i64 far] 113)).drew).cell? ⟨b, 2, none⟩ = some (.slice av L.length cv)) := ((bd X (.cells #[.string id, .string ed, .int .i64 far] 113)).cell (p := ⟨b, 2, none⟩) hX1.nf.2.2.2).trans r1
      have HYK : Hid (Kp (And1 F bx) W ((X.alloc (.cells #[.string id, .string ed, .int .i64 far] 113)).drew)) := hXK.out.trans (kp_below (bd X _))
      obtain ⟨i, hi, hz, hsz, hby⟩ := info_parts info_hop
      go_wp2_with fail
      go_cut [] from 12 to 21 (fun wx => Wk2 (And1 F bx) b bm gn ge (L ++ [⟨id, ed, far⟩]) L wx ∧ Kp (And1 F bx) W wx)
      case first =>
        have y1 : (X.alloc (.cells #[.string id, .string ed, .int .i64 far] 113)).cell? ⟨b, 2, none⟩ = some (.slice av L.length cv) := HY1.out
        clear hX1 r2 r3 r4 r5 c3
        go_region_law (refine step_app rfl (.tmp 16) (.tmp 18) 62 rfl 0 113 i (.agg #[.string ⟨#[]⟩, .string ⟨#[]⟩, .int .i64 0]) 3 40 Try.underlying62 hi hz hsz hby rfl (by decide) (.slice av L.length cv) L.length (hrow L) rfl HO.out ⟨X.heap.size, 0, none⟩ 1 1 (hcells ⟨id, ed, far⟩) rfl rfl (World.news_of_block (w := (X.alloc (.cells #[.string id, .string ed, .int .i64 far] 113)).drew) (heap_new X _)) (by simp [hcells, Value.oneCell']) (by unfold maxLen; omega) (by omega) (Nat.zero_le _) ?_; intro v4 w4 o4 g4 b4; obtain ⟨av4, cv4, rfl⟩ := slice_of_own o4; obtain ⟨c4, f4⟩ := HY.out.put_to HY1.out HR.out g4)
        all_goals go_wp2_with fail
        all_goals go_meet
        all_goals
          have k4 := HY.out.row_put (L' := L ++ [⟨id, ed, far⟩]) HY1.out HR.out (by rw [List.length_append, hrow_app]; exact o4) g4 b4
          exact ⟨k4.1, HYK.out.trans k4.2⟩
      case rest =>
        obtain ⟨hk, kK⟩ := hcut
        clear x0 x1 x2 r1 r2 r3 r4 r5 f2 hX1 c3
        have k0 : wc.cell? ⟨bx, 0, none⟩ = some (.string id) := (kK.cell HZ.out.1 (.inr rfl) 0).trans HZ.out.2
        obtain ⟨V', s1, s2, s3, s4⟩ := hk.row
        obtain ⟨av', cv', rfl⟩ := slice_of_own s2
        have s5 := hk.c3
        obtain ⟨mf, m1, m2⟩ := hk.met
        obtain ⟨w3, u1, u2, u3, u4⟩ := (m1.drew).set Try.underlying102 id (.int .i64 ((L ++ [(⟨id, ed, far⟩ : Hop)]).length : Nat))
        have u1 : (Instr.mapUpdate 102 (.map (some bm)) (.string id) (.int .i64 ((L ++ [(⟨id, ed, far⟩ : Hop)]).length : Nat))).run Try.prog wc.drew = .ok () w3 := u1
        have HEND : Hid (Wk F b bm gn ge (L ++ [⟨id, ed, far⟩]) w3 ∧ Kp F w w3) := by
          have k3 := hk.met_put u2 u3 (by simpa using pos_app (h := ⟨id, ed, far⟩) m2 hnot.out)
          exact FIN.out _ _ k3.1 (kK.trans k3.2)
        obtain ⟨n1, hn1⟩ : ∃ n1, n1 = (L ++ [(⟨id, ed, far⟩ : Hop)]).length := ⟨_, rfl⟩
        rw [← hn1] at s1 u1
        clear m1 m2 u2 u3 u4 hk s2 s3 s4 hn1 kK
        go_wp2_with fail
        go_still_tail 11, (by kernel_rfl)
        change wpList _ _ _ _ _ wc.drew
        go_wp2_with fail
        go_end0
        exact ⟨rfl, HEND.out.1, HEND.out.2⟩
    · exact absurd (List.mem_map.2 ⟨_, hop_mem hp, hq⟩) hin

end Go.Proofs.Ytpaegpbabfohcaa.Paths
