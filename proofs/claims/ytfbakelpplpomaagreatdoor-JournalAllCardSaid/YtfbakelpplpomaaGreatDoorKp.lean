/-
  What stays: a world in which some blocks are as they were.
-/
import Derived.Test.YtfbakelpplpomaaGreatDoorDiskRows
namespace Go.Proofs.YtfbakelpplpomaaGreatDoor.Disk
open Go.RowKit Go.Proofs.YtfbakelpplpomaaGreatDoor.DiskRows
/-- a block is none of these -/
def Nf (F : Nat → Prop) (k : Nat) : Prop := ¬ F k
/-- all of these lie below n -/
def Top (F : Nat → Prop) (n : Nat) : Prop := ∀ k, F k → k < n
/-- all blocks below n -/
def lo (n : Nat) : Nat → Prop := fun k => k < n
theorem Top.trans {F : Nat → Prop} {n m : Nat} (h : Top F n) (k : n ≤ m) : Top F m := fun j hj => Nat.lt_of_lt_of_le (h j hj) k
theorem Top.nf {F : Nat → Prop} {n g : Nat} (h : Top F n) (k : n ≤ g) : Nf F g := fun hj => absurd (h g hj) (by omega)
theorem lo_top (n : Nat) : Top (lo n) n := fun _ h => h
theorem lo_nf {n g : Nat} (h : n ≤ g) : Nf (lo n) g := fun k => by unfold lo at k; omega
theorem nf_lo {n g : Nat} (h : Nf (lo n) g) : n ≤ g := by unfold Nf lo at h; omega
/-- these blocks are as they were -/
structure Kp (F : Nat → Prop) (w w' : World) : Prop where
  os : w'.os = w.os
  tape : w'.tape = w.tape
  output : w'.output = w.output
  size : w.heap.size ≤ w'.heap.size
  block : ∀ k, k < w.heap.size → F k → w'.heap[k]? = w.heap[k]?
theorem Kp.refl (F : Nat → Prop) (w : World) : Kp F w w := ⟨rfl, rfl, rfl, Nat.le_refl _, fun _ _ _ => rfl⟩
theorem Kp.trans {F : Nat → Prop} {a b c : World} (h : Kp F a b) (k : Kp F b c) : Kp F a c :=
  ⟨k.os.trans h.os, k.tape.trans h.tape, k.output.trans h.output, Nat.le_trans h.size k.size, fun j hj hF => (k.block j (Nat.lt_of_lt_of_le hj h.size) hF).trans (h.block j hj hF)⟩
theorem Kp.sub {F G : Nat → Prop} {w w' : World} (h : Kp F w w') (hs : ∀ k, G k → F k) : Kp G w w' := ⟨h.os, h.tape, h.output, h.size, fun j hj hG => h.block j hj (hs j hG)⟩
theorem _root_.Go.RowKit.Below.kp {F : Nat → Prop} {w w' : World} (h : Below w.heap.size w w') : Kp F w w' := ⟨h.os, h.tape, h.output, h.size, fun j hj _ => h.block j hj⟩
theorem Kp.below {n : Nat} {w w' : World} (h : Kp (lo n) w w') (hn : n ≤ w.heap.size) : Below n w w' := ⟨h.os, h.tape, h.output, h.size, fun j hj => h.block j (by omega) hj⟩
theorem _root_.Go.RowKit.Below.kpl {n : Nat} {w w' : World} (h : Below n w w') : Kp (lo n) w w' := ⟨h.os, h.tape, h.output, h.size, fun j _ hj => h.block j hj⟩
theorem Kp.drew {F : Nat → Prop} {a w : World} (h : Kp F a w) : Kp F a w.drew := ⟨h.os, h.tape, h.output, h.size, h.block⟩
theorem Kp.alloc {F : Nat → Prop} {a w : World} (h : Kp F a w) (_ : Top F w.heap.size) (o : Obj) : Kp F a (w.alloc o) := h.trans ((Below.refl _ w).alloc (Nat.le_refl _) o).kp
theorem Kp.setCell {F : Nat → Prop} {a w : World} (h : Kp F a w) {p : Addr} (hp : Nf F p.block) (u : Value) : Kp F a (w.setCell p u) :=
  h.trans ⟨rfl, rfl, rfl, by simp [World.setCell], fun k hk hF => Below.heap_setCell _ _ _ _ (fun e => hp (e ▸ hF))⟩
theorem Kp.grown {F : Nat → Prop} {a w w' : World} {row : Option Nat} (h : Kp F a w) (hg : w.grownBy w' row) (_ : Top F w.heap.size) (hr : ∀ k, row = some k → Nf F k) : Kp F a w' :=
  h.trans ⟨hg.os, hg.tape, hg.output, hg.size, fun k hk hF => hg.block k hk (fun e => hr k e.symm hF)⟩
end Go.Proofs.YtfbakelpplpomaaGreatDoor.Disk
