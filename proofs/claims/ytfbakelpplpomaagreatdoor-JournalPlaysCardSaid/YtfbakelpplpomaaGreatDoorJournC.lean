/-
  Rows of records that a call owns; the journal's reading, as a function.
-/
import Derived.Test.YtfbakelpplpomaaGreatDoorJournB
import Derived.Test.YtfbakelpplpomaaGreatDoorDiskMore
import Derived.Test.YtfbakelpplpomaaGreatDoorWalkEntryIs
namespace Go.Proofs.YtfbakelpplpomaaGreatDoor.Disk
open Go.RowKit Go.Proofs.YtfbakelpplpomaaGreatDoor.DiskRows Go.Proofs.YtfbakelpplpomaaGreatDoor.WalkCrc
open Go.Proofs.YtfbakelpplpomaaGreatDoor.WalkSeat (isRB isRV entryIs_at)
open Pl.Seat (Rec)
set_option linter.unusedVariables false
set_option linter.unusedSimpArgs false
set_option maxRecDepth 100000

theorem tab_kp {w w' : World} (h : Tab w) {F : Nat → Prop} (k : Kp F w w') (hF : F 0) : Tab w' :=
  fun i hi => (World.cell?_of_block (w := w) (k.block _ h.lt hF)).trans (h i hi)
/-- a record's cells -/
def rcells (x : Rec) : List Value := [.int .i64 x.epoch, .int .i64 x.seq, .int .i64 x.kind, .string (WalkVar.bs x.name), .string (WalkVar.bs x.old), .string (WalkVar.bs x.new), .int .i64 x.tail, .int .i64 x.num]
/-- records as cells -/
def rvs (l : List Rec) : List Value := l.flatMap rcells
theorem rvs_snoc (l : List Rec) (x : Rec) : rvs (l ++ [x]) = rvs l ++ rcells x := by simp [rvs]
theorem rvs_cons (l : List Rec) (x : Rec) : rvs (x :: l) = rcells x ++ rvs l := by simp [rvs]
theorem rvs_length (l : List Rec) : (rvs l).length = l.length * 8 := by
  induction l with
  | nil => rfl
  | cons x l ih => rw [rvs_cons, List.length_append, ih, List.length_cons]; simp [rcells]; omega
theorem info_rec : (Tryz.prog.info? 24).map (fun i => (i.zero, i.size, i.bytes)) = some (some (.agg #[.int .i64 0, .int .i64 0, .int .i64 0, .string ByteArray.empty, .string ByteArray.empty, .string ByteArray.empty, .int .i64 0, .int .i64 0]), 8, 88) := by kernel_rfl
section
variable {ops : Array Oper} {rest : List Oper} {o : Oper} {a : Act} {w : World} {Q : Exit → Act → World → Prop}
/-- append of one record onto a row of its own -/
theorem wpList_append_r (hgd : o.guard = none) (sl x : Operand) (ho : o.op = .call { callee := .builtin .append, args := #[sl, x], argTypes := #[22, 22] })
    (base : Nat) (v : Value) (l : List Rec) (r : Rec) (hs : a.eval sl = v) (hown : w.ownsRow base 24 8 v l.length (rvs l)) (g c : Nat) (hx : a.eval x = .slice (some ⟨g, 0, none⟩) 1 c)
    (hc : ∀ j u, (rcells r)[j]? = some u → w.cell? ⟨g, j, none⟩ = some u) (hb : l.length ≤ 100000) (hbase : base ≤ w.heap.size)
    (h : ∀ v' w', w'.ownsRow base 24 8 v' (l ++ [r]).length (rvs (l ++ [r])) → w.grownBy w' v.ownBlock → (v'.ownBlock = v.ownBlock ∨ v'.ownBlock = some w.heap.size) → wpList Tryz.prog ops Q rest (a.put o.dst v') w') : wpList Tryz.prog ops Q (o :: rest) a w := by
  obtain ⟨i0, hi, hz0, hz1, hz2⟩ := info_parts info_rec
  refine wpList_plain hgd fun K hK => ?_
  obtain ⟨v', w', hr, h2, h3, _, h5⟩ := run_append_own_at (P := Tryz.prog) w base 22 o.type 24 i0 _ 8 88 Tryz.underlying22 hi hz0 hz1 hz2 rfl (by decide) v l.length (rvs l) hown
    ⟨g, 0, none⟩ 1 c (rcells r) rfl (fun j u hj => by rw [Addr.add_lit, Nat.zero_add]; exact hc j u hj) (by intro u hu; simp [rcells] at hu; rcases hu with rfl | rfl | rfl | rfl | rfl | rfl | rfl | rfl <;> rfl) (by unfold maxLen; omega) (by omega) hbase
  unfold Oper.wp execOp
  simp only [ho, resolve, invoke, builtin, Sem.run_bind, Sem.run_pure, Result.andThen_ok, List.map_toArray, List.map_cons, List.map_nil, hs, hx, hr]
  exact hK _ _ (h v' w' (by rw [rvs_snoc, List.length_append]; exact h2) h3 h5)
end
theorem rcells_cell (r : Rec) (T : TypeId) (w : World) : ∀ j u, (rcells r)[j]? = some u → (w.alloc (.cells #[.int .i64 r.epoch, .int .i64 r.seq, .int .i64 r.kind, .string (WalkVar.bs r.name), .string (WalkVar.bs r.old), .string (WalkVar.bs r.new), .int .i64 r.tail, .int .i64 r.num] T)).cell? ⟨w.heap.size, j, none⟩ = some u := by
  intro j u hj
  rw [cell_of_row _ _ j _ _ _ (heap_alloc_last _ _), ← hj]
  simp [rcells]
/-- the records from one on, so many at most -/
def jscan (S : Nat → List UInt8) (ep : Nat) : Nat → Nat → List Rec
  | 0, _ => []
  | f + 1, k => if isRB (S k) ep k = true then isRV (S k) ep k :: jscan S ep f (k + 1) else []
theorem jscan_le (S : Nat → List UInt8) (ep : Nat) : ∀ f k, (jscan S ep f k).length ≤ f := by
  intro f
  induction f with
  | zero => intro k; simp [jscan]
  | succ f ih =>
    intro k
    rw [jscan]
    split
    · have := ih (k + 1); simp; omega
    · simp
/-- what the sectors of a half show -/
def shown (d : Dk) (half : Nat) : Nat → List UInt8 := fun k => (d.H.getD (placeV d.S.length half k) ByteArray.empty).data.toList
/-- the records of a half -/
def jrecs (d : Dk) (half ep : Nat) : List Rec := jscan (shown d half) ep (halfV d.S.length) 0
/-- how many reads that takes -/
def jreads (d : Dk) (half ep : Nat) : Nat := if (jrecs d half ep).length < halfV d.S.length then (jrecs d half ep).length + 1 else (jrecs d half ep).length
theorem jscan_step {S : Nat → List UInt8} {ep h k : Nat} {acc L : List Rec} (hL : acc ++ jscan S ep (h - k) k = L) (hk : k < h) (hb : isRB (S k) ep k = true) : (acc ++ [isRV (S k) ep k]) ++ jscan S ep (h - (k + 1)) (k + 1) = L := by
  rw [← hL, show h - k = (h - (k + 1)) + 1 by omega, jscan, if_pos hb, List.append_assoc]
  rfl
theorem jscan_stop {S : Nat → List UInt8} {ep h k : Nat} {acc L : List Rec} (hL : acc ++ jscan S ep (h - k) k = L) (hb : isRB (S k) ep k = false) : acc = L := by
  rw [← hL]
  cases hf : h - k with
  | zero => simp [jscan]
  | succ f => rw [jscan, if_neg (by rw [hb]; decide)]; simp
end Go.Proofs.YtfbakelpplpomaaGreatDoor.Disk
