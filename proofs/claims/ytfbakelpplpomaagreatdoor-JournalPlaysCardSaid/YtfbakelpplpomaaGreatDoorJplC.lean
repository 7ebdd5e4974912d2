/-
  JournalPlays: a disk and the document's one, side by side; what each call leaves.
-/
import Derived.Test.YtfbakelpplpomaaGreatDoorRefSame
import Derived.Test.YtfbakelpplpomaaGreatDoorDiskMore
import Derived.Test.YtfbakelpplpomaaGreatDoorJournJ
import Derived.Test.YtfbakelpplpomaaGreatDoorJallS
namespace Go.Proofs.YtfbakelpplpomaaGreatDoor.Disk
open Go.RowKit Go.Proofs.YtfbakelpplpomaaGreatDoor.DiskRows
set_option linter.unusedVariables false
set_option linter.unusedSimpArgs false
set_option maxRecDepth 100000
/-- a row lies in one of these blocks -/
def RIn (F : Nat → Prop) (A : Option Addr) (n : Nat) : Prop := n = 0 ∨ ∃ g off, A = some ⟨g, off, none⟩ ∧ F g
theorem Txs.keep {w w' : World} {A : Option Addr} {l : List ByteArray} (h : Txs w A l) (hs : w.heap.size ≤ w'.heap.size) (k : ∀ g off, A = some ⟨g, off, none⟩ → l.length ≠ 0 → w'.heap[g]? = w.heap[g]?) : Txs w' A l := by
  rcases h with rfl | ⟨g, off, rfl, hg, hc⟩
  · exact .inl rfl
  · rcases Nat.eq_zero_or_pos l.length with h0 | h0
    · exact .inl (List.eq_nil_of_length_eq_zero h0)
    · exact .inr ⟨g, off, rfl, by omega, fun i hi => by rw [World.cell?_of_block (w := w) (a := ⟨g, off + i, none⟩) (k g off rfl (by omega))]; exact hc i hi⟩
theorem Wrs.keep {w w' : World} {A : Option Addr} {C : List (Int × ByteArray)} (h : Wrs w A C) (hs : w.heap.size ≤ w'.heap.size) (k : ∀ g off, A = some ⟨g, off, none⟩ → C.length ≠ 0 → w'.heap[g]? = w.heap[g]?) : Wrs w' A C := by
  rcases h with rfl | ⟨g, off, rfl, hg, hc⟩
  · exact .inl rfl
  · rcases Nat.eq_zero_or_pos C.length with h0 | h0
    · exact .inl (List.eq_nil_of_length_eq_zero h0)
    · exact .inr ⟨g, off, rfl, by omega, fun i hi => by rw [World.cell?_of_block (w := w) (a := ⟨g, off + i * 2, none⟩) (k g off rfl (by omega)), World.cell?_of_block (w := w) (a := ⟨g, off + i * 2 + 1, none⟩) (k g off rfl (by omega))]; exact hc i hi⟩
theorem Txs.lt {w : World} {l : List ByteArray} {g off : Nat} (h : Txs w (some ⟨g, off, none⟩) l) (hn : l.length ≠ 0) : g < w.heap.size := by
  rcases h with rfl | ⟨g', off', e, hg, _⟩
  · simp at hn
  · simp at e; omega
theorem Wrs.lt {w : World} {C : List (Int × ByteArray)} {g off : Nat} (h : Wrs w (some ⟨g, off, none⟩) C) (hn : C.length ≠ 0) : g < w.heap.size := by
  rcases h with rfl | ⟨g', off', e, hg, _⟩
  · simp at hn
  · simp at e; omega
/-- the document's rows, in such blocks -/
structure RQ (Q : Nat → Prop) (w : World) (A A' : Option Addr) (d : Dk) : Prop where
  rows : RAt w A A' d
  one : RIn Q A d.S.length
  two : RIn Q A' d.C.length
theorem RQ.keep {Q : Nat → Prop} {w w' : World} {A A' : Option Addr} {d : Dk} (h : RQ Q w A A' d) (hs : w.heap.size ≤ w'.heap.size) (k : ∀ g, Q g → g < w.heap.size → w'.heap[g]? = w.heap[g]?) : RQ Q w' A A' d := by
  refine ⟨⟨h.rows.1.keep hs (fun g off e hn => ?_), h.rows.2.keep hs (fun g off e hn => ?_)⟩, h.one, h.two⟩
  · subst e
    rcases h.one with h1 | ⟨g', off', e, h1⟩
    · exact absurd h1 hn
    · simp at e
      obtain ⟨rfl, rfl⟩ := e
      exact k g h1 (h.rows.1.lt hn)
  · subst e
    rw [ints_length] at hn
    rcases h.two with h1 | ⟨g', off', e, h1⟩
    · exact absurd h1 hn
    · simp at e
      obtain ⟨rfl, rfl⟩ := e
      exact k g h1 (h.rows.2.lt (by rw [ints_length]; exact hn))
theorem RQ.later {Q : Nat → Prop} {w w' : World} {A A' : Option Addr} {d : Dk} (h : RQ Q w A A' d) (k : Below w.heap.size w w') : RQ Q w' A A' d := h.keep k.size (fun g _ hg => k.block g hg)
theorem RQ.set {Q : Nat → Prop} {w : World} {A A' : Option Addr} {d : Dk} (h : RQ Q w A A' d) (p : Addr) (u : Value) (hp : ¬ Q p.block) : RQ Q (w.setCell p u) A A' d := h.keep (by simp [World.setCell]) (fun g hg _ => Below.heap_setCell _ _ _ _ (fun e => hp (e ▸ hg)))
theorem RQ.kp {Q F : Nat → Prop} {w w' : World} {A A' : Option Addr} {d : Dk} (h : RQ Q w A A' d) (k : Kp F w w') (hq : ∀ g, Q g → g < w.heap.size → F g) : RQ Q w' A A' d := h.keep k.size (fun g hg hl => k.block g hl (hq g hg hl))
theorem RQ.sub {Q Q' : Nat → Prop} {w : World} {A A' : Option Addr} {d : Dk} (h : RQ Q w A A' d) (k : ∀ g, Q g → g < w.heap.size → Q' g) : RQ Q' w A A' d := by
  refine ⟨h.rows, ?_, ?_⟩
  · rcases h.one with h1 | ⟨g, off, rfl, h1⟩
    · exact .inl h1
    · rcases Nat.eq_zero_or_pos d.S.length with h0 | h0
      · exact .inl h0
      · exact .inr ⟨g, off, rfl, k g h1 (h.rows.1.lt (by omega))⟩
  · rcases h.two with h1 | ⟨g, off, rfl, h1⟩
    · exact .inl h1
    · rcases Nat.eq_zero_or_pos d.C.length with h0 | h0
      · exact .inl h0
      · exact .inr ⟨g, off, rfl, k g h1 (h.rows.2.lt (by rw [ints_length]; omega))⟩
theorem RNew.rq {Q : Nat → Prop} {w w' : World} {A A' A1 A2 : Option Addr} {d d1 : Dk} (h : RNew w w' A A' A1 A2 d d1) (hr : RQ Q w A A' d) (hq : ∀ g, w.heap.size ≤ g → Q g) : RQ Q w' A1 A2 d1 := by
  refine ⟨h.rows, ?_, ?_⟩
  · rcases h.one with h1 | ⟨rfl, e⟩ | ⟨g, rfl, h1⟩
    · exact .inl h1
    · rw [e]; exact hr.one
    · exact .inr ⟨g, 0, rfl, hq g h1⟩
  · rcases h.two with h1 | ⟨rfl, e⟩ | ⟨g, rfl, h1⟩
    · exact .inl h1
    · rw [e]; exact hr.two
    · exact .inr ⟨g, 0, rfl, hq g h1⟩
/-- a disk and the document's one -/
structure Both (F Q : Nat → Prop) (b : Nat) (d : Dk) (A A' : Option Addr) (w : World) : Prop where
  disk : DiskAt F b d w
  rows : RQ Q w A A' d
  sub : ∀ k, Q k → F k
  shown : d.H = shows d.S d.C
  top : Top F w.heap.size

theorem inv_write (d : Dk) (i : Int) (s : ByteArray) (h : d.H = shows d.S d.C) : (d.write i s).1.H = shows (d.write i s).1.S (d.write i s).1.C ∧ (d.write i s).1.S.length = d.S.length ∧ (d.write i s).1.ops ≤ d.ops + 1 ∧ (d.write i s).1.C.length ≤ d.C.length + 1 := by
  obtain ⟨eS, eH, eC⟩ := step_same d
  have eo : d.step.1.ops ≤ d.ops + 1 := by unfold Dk.step; split <;> simp
  unfold Dk.write
  split
  · exact ⟨h, rfl, by simp, by simp⟩
  · split
    · split
      · split
        · exact ⟨by rw [eS, eH, eC]; exact h, by rw [eS], eo, by rw [eC]; simp⟩
        · refine ⟨?_, by simp [eS], eo, by simp⟩
          show d.H.set i.toNat s = shows d.step.1.S (d.C ++ [(i.toNat, s)])
          rw [eS, h]
          simp [shows]
      · exact ⟨h, rfl, by simp, by simp⟩
    · exact ⟨h, rfl, by simp, by simp⟩
theorem inv_flush (d : Dk) (h : d.H = shows d.S d.C) : d.flush.1.H = shows d.flush.1.S d.flush.1.C ∧ d.flush.1.S.length = d.S.length ∧ d.flush.1.ops ≤ d.ops + 1 ∧ d.flush.1.C.length ≤ d.C.length + 1 := by
  obtain ⟨eS, eH, eC⟩ := step_same d
  have eo : d.step.1.ops ≤ d.ops + 1 := by unfold Dk.step; split <;> simp
  unfold Dk.flush
  split
  · exact ⟨h, rfl, by simp, by simp⟩
  · split
    · exact ⟨by rw [eS, eH, eC]; exact h, by rw [eS], eo, by rw [eC]; simp⟩
    · refine ⟨?_, shows_length _ _, eo, by simp⟩
      show d.step.1.H = shows (shows d.S d.C) []
      rw [eH, h]
      rfl
theorem inv_read (d : Dk) (i : Int) (h : d.H = shows d.S d.C) : (d.read i).1.H = shows (d.read i).1.S (d.read i).1.C ∧ (d.read i).1.S.length = d.S.length ∧ (d.read i).1.ops ≤ d.ops + 1 ∧ (d.read i).1.C.length ≤ d.C.length + 1 := by
  unfold Dk.read
  split
  · exact ⟨h, rfl, by simp, by simp⟩
  · split
    · exact ⟨h, rfl, by simp, by simp⟩
    · exact ⟨h, rfl, by simp, by simp⟩
theorem inv_arm (d : Dk) (i : Int) (h : d.H = shows d.S d.C) : (d.arm i).1.H = shows (d.arm i).1.S (d.arm i).1.C ∧ (d.arm i).1.S.length = d.S.length ∧ (d.arm i).1.ops ≤ d.ops + 1 ∧ (d.arm i).1.C.length ≤ d.C.length + 1 := by
  unfold Dk.arm
  split
  · exact ⟨h, rfl, by simp, by simp⟩
  · split
    · exact ⟨h, rfl, by simp, by simp⟩
    · exact ⟨h, rfl, by simp, by simp⟩
theorem inv_crash (d : Dk) (K : List Int) : (d.crash K).H = shows (d.crash K).S (d.crash K).C ∧ (d.crash K).S.length = d.S.length ∧ (d.crash K).ops ≤ d.ops + 1 ∧ (d.crash K).C.length ≤ d.C.length + 1 :=
  ⟨rfl, keeps_length _ _ _ _, by simp [Dk.crash], by simp [Dk.crash]⟩
theorem inv_boot (d : Dk) : d.boot.H = shows d.boot.S d.boot.C ∧ d.boot.S.length = d.S.length ∧ d.boot.ops ≤ d.ops + 1 ∧ d.boot.C.length ≤ d.C.length + 1 :=
  ⟨rfl, rfl, by simp [Dk.boot], by simp [Dk.boot]⟩
theorem inv_over (d : Dk) (i : Int) (s : ByteArray) (h : d.H = shows d.S d.C) : (d.over i s).1.H = shows (d.over i s).1.S (d.over i s).1.C ∧ (d.over i s).1.S.length = d.S.length ∧ (d.over i s).1.ops ≤ d.ops + 1 ∧ (d.over i s).1.C.length ≤ d.C.length + 1 := by
  unfold Dk.over
  split
  · split
    · exact ⟨rfl, by simp, by simp, by simp⟩
    · exact ⟨h, rfl, by simp, by simp⟩
  · exact ⟨h, rfl, by simp, by simp⟩
theorem RQ.same {Q : Nat → Prop} {w : World} {A A' : Option Addr} {d d' : Dk} (h : RQ Q w A A' d) (hS : d'.S = d.S) (hC : d'.C = d.C) : RQ Q w A A' d' :=
  ⟨⟨by rw [hS]; exact h.rows.1, by rw [hC]; exact h.rows.2⟩, by rw [hS]; exact h.one, by rw [hC]; exact h.two⟩
theorem arm_same (d : Dk) (n : Int) : (d.arm n).1.S = d.S ∧ (d.arm n).1.C = d.C := by
  unfold Dk.arm
  split
  · exact ⟨rfl, rfl⟩
  · split <;> exact ⟨rfl, rfl⟩
theorem read_same (d : Dk) (n : Int) : (d.read n).1.S = d.S ∧ (d.read n).1.C = d.C := by
  unfold Dk.read
  split
  · exact ⟨rfl, rfl⟩
  · split <;> exact ⟨rfl, rfl⟩
/-- every sector, and every one that was written, has 128 bytes -/
structure Sz (d : Dk) : Prop where
  S : ∀ x ∈ d.S, x.size = 128
  H : ∀ x ∈ d.H, x.size = 128
  C : ∀ c ∈ d.C, c.2.size = 128
theorem set_sz {S : List ByteArray} (h : ∀ x ∈ S, x.size = 128) (p : Nat) {y : ByteArray} (hy : y.size = 128) : ∀ x ∈ S.set p y, x.size = 128 := by
  intro x hx
  rcases List.mem_or_eq_of_mem_set hx with hx | rfl
  · exact h x hx
  · exact hy
theorem keeps_sz {S : List ByteArray} {C : List (Nat × ByteArray)} (h : ∀ x ∈ S, x.size = 128) (hC : ∀ c ∈ C, c.2.size = 128) (l : List Int) : ∀ n, n ≤ C.length → ∀ x ∈ keeps S C l n, x.size = 128 := by
  intro n
  induction n with
  | zero => intro _; exact h
  | succ n ih =>
    intro hn
    rw [keeps]
    split
    · refine set_sz (ih (by omega)) _ ?_
      have e : C.getD n (0, ByteArray.empty) = C[n] := by simp [List.getD, List.getElem?_eq_getElem (show n < C.length by omega)]
      rw [e]
      exact hC _ (List.getElem_mem _)
    · exact ih (by omega)
theorem Sz.crash {d : Dk} (h : Sz d) (l : List Int) : Sz (d.crash l) :=
  ⟨keeps_sz h.S h.C l _ (Nat.le_refl _), keeps_sz h.S h.C l _ (Nat.le_refl _), fun c hc => by cases hc⟩
theorem Sz.boot {d : Dk} (h : Sz d) : Sz d.boot := ⟨h.S, h.S, fun c hc => by cases hc⟩
theorem Sz.step {d : Dk} (h : Sz d) : Sz d.step.1 := by
  unfold Dk.step
  split
  · exact ⟨h.S, h.H, h.C⟩
  · exact ⟨h.S, h.H, h.C⟩
theorem Sz.arm {d : Dk} (h : Sz d) (n : Int) : Sz (d.arm n).1 := by
  unfold Dk.arm
  split
  · exact h
  · split
    · exact h
    · exact ⟨h.S, h.H, h.C⟩
theorem Sz.write {d : Dk} (h : Sz d) (i : Int) (x : ByteArray) : Sz (d.write i x).1 := by
  unfold Dk.write
  split
  · exact h
  · split
    · split
      · rename_i hx
        split
        · exact h.step
        · refine ⟨h.step.S, set_sz h.H _ hx, ?_⟩
          intro c hc
          rcases List.mem_append.1 hc with hc | hc
          · exact h.C c hc
          · obtain rfl : c = (i.toNat, x) := by simpa using hc
            exact hx
      · exact h
    · exact h
theorem shows_sz {S : List ByteArray} {C : List (Nat × ByteArray)} (h : ∀ x ∈ S, x.size = 128) (hC : ∀ c ∈ C, c.2.size = 128) : ∀ x ∈ shows S C, x.size = 128 := by
  unfold shows
  induction C generalizing S with
  | nil => exact h
  | cons c C ih => exact ih (set_sz h c.1 (hC c (List.mem_cons_self ..))) (fun x hx => hC x (List.mem_cons_of_mem _ hx))
theorem Sz.flush {d : Dk} (h : Sz d) : Sz d.flush.1 := by
  unfold Dk.flush
  split
  · exact h
  · split
    · exact h.step
    · exact ⟨shows_sz h.S h.C, h.step.H, fun c hc => by cases hc⟩
theorem Sz.over {d : Dk} (h : Sz d) (i : Int) (x : ByteArray) : Sz (d.over i x).1 := by
  unfold Dk.over
  split
  · split
    · rename_i hx
      exact ⟨set_sz h.S _ hx, shows_sz (set_sz h.S _ hx) h.C, h.C⟩
    · exact h
  · exact h
theorem Sz.ops {d : Dk} (h : Sz d) (n : Nat) : Sz { d with ops := n } := ⟨h.S, h.H, h.C⟩
/-- what always is so -/
structure Inv (d : Dk) : Prop where
  shown : d.H = shows d.S d.C
  sz : Sz d
theorem Inv.len {d : Dk} (h : Inv d) : d.H.length = d.S.length := by rw [h.shown, shows_length]
theorem Inv.ops {d : Dk} (h : Inv d) (n : Nat) : Inv { d with ops := n } := ⟨h.shown, h.sz.ops n⟩
theorem Inv.write {d : Dk} (h : Inv d) (i : Int) (x : ByteArray) : Inv (d.write i x).1 := ⟨(inv_write d i x h.shown).1, h.sz.write i x⟩
theorem Inv.flush {d : Dk} (h : Inv d) : Inv d.flush.1 := ⟨(inv_flush d h.shown).1, h.sz.flush⟩
theorem Inv.arm {d : Dk} (h : Inv d) (n : Int) : Inv (d.arm n).1 := ⟨(inv_arm d n h.shown).1, h.sz.arm n⟩
theorem Inv.over {d : Dk} (h : Inv d) (i : Int) (x : ByteArray) : Inv (d.over i x).1 := ⟨(inv_over d i x h.shown).1, h.sz.over i x⟩
theorem Inv.crash {d : Dk} (h : Inv d) (l : List Int) : Inv (d.crash l) := ⟨(inv_crash d l).1, h.sz.crash l⟩
theorem Inv.boot {d : Dk} (h : Inv d) : Inv d.boot := ⟨(inv_boot d).1, h.sz.boot⟩
end Go.Proofs.YtfbakelpplpomaaGreatDoor.Disk
/-
  JournalPlays: the play's own object, a disk and a journal and the document's disk.
-/
namespace Go.Proofs.YtfbakelpplpomaaGreatDoor.Disk
open Go.RowKit Go.Proofs.YtfbakelpplpomaaGreatDoor.DiskRows Go.Proofs.YtfbakelpplpomaaGreatDoor.WalkCrc
open Pl.Seat (Rec)
set_option linter.unusedVariables false
set_option linter.unusedSimpArgs false
set_option maxRecDepth 100000

/-- its cells -/
abbrev jwV (b : Nat) (jv : Value) (A1 A2 : Option Addr) (c1 c2 : Nat) (r : Dk) (half epoch count : Nat) : Array Value :=
  #[.pointer (some ⟨b, 0, none⟩), jv, .slice A1 r.S.length c1, .slice A2 r.C.length c2, .int .i64 (r.armed : Nat), .bool r.down, .int .i64 (r.ops : Nat), .int .i64 (half : Nat), .int .i64 (epoch : Nat), .int .i64 (count : Nat)]
/-- the document's disk is put there -/
abbrev set5 (w : World) (g : Nat) (A1 A2 : Option Addr) (c1 c2 : Nat) (r : Dk) : World :=
  ((((w.setCell ⟨g, 2, none⟩ (.slice A1 r.S.length c1)).setCell ⟨g, 3, none⟩ (.slice A2 r.C.length c2)).setCell ⟨g, 4, none⟩ (.int .i64 (r.armed : Nat))).setCell ⟨g, 5, none⟩ (.bool r.down)).setCell ⟨g, 6, none⟩ (.int .i64 (r.ops : Nat))
/-- a journal is put there -/
abbrev set4 (w : World) (g : Nat) (jv : Value) (half epoch count : Nat) : World :=
  (((w.setCell ⟨g, 1, none⟩ jv).setCell ⟨g, 7, none⟩ (.int .i64 (half : Nat))).setCell ⟨g, 8, none⟩ (.int .i64 (epoch : Nat))).setCell ⟨g, 9, none⟩ (.int .i64 (count : Nat))
theorem tab_set {w : World} (h : Tab w) {p : Addr} (hp : p.block ≠ 0) (u : Value) : Tab (w.setCell p u) :=
  fun i hi => (World.cell?_of_block (w := w) (Below.heap_setCell _ _ _ _ (fun e => hp e.symm))).trans (h i hi)
/-- the object: the blocks F are not the disk's, those of Q the document's rows -/
structure JX (F Q : Nat → Prop) (b gw : Nat) (d r : Dk) (A1 A2 : Option Addr) (c1 c2 : Nat) (jv : Value) (half epoch count : Nat) (w : World) : Prop where
  disk : DiskAt F b d w
  rows : RQ Q w A1 A2 r
  sub : ∀ k, Q k → F k
  top : Top F w.heap.size
  gwF : F gw
  gwQ : ¬ Q gw
  gwT : gw ≠ 0
  box : w.heap[gw]? = some (.cells (jwV b jv A1 A2 c1 c2 r half epoch count) 56 (0, 0))
  tab : Tab w
  tabF : F 0
section
variable {F Q : Nat → Prop} {b gw : Nat} {d d' r r' : Dk} {A1 A2 A3 A4 : Option Addr} {c1 c2 c3 c4 : Nat} {jv : Value} {half epoch count : Nat} {w w' : World}
theorem JX.lt (h : JX F Q b gw d r A1 A2 c1 c2 jv half epoch count w) : gw < w.heap.size := (Array.getElem?_eq_some_iff.1 h.box).1
theorem JX.later (h : JX F Q b gw d r A1 A2 c1 c2 jv half epoch count w) (k : Below w.heap.size w w') : JX F Q b gw d r A1 A2 c1 c2 jv half epoch count w' :=
  ⟨h.disk.later k, h.rows.later k, h.sub, h.top.trans k.size, h.gwF, h.gwQ, h.gwT, by rw [k.block _ h.lt]; exact h.box, h.tab.below k h.tab.lt, h.tabF⟩
/-- what was made since is foreign, too -/
theorem JX.grow (h : JX F Q b gw d r A1 A2 c1 c2 jv half epoch count w) (k : Below w.heap.size w w') : JX (Plus F w.heap.size w'.heap.size) Q b gw d r A1 A2 c1 c2 jv half epoch count w' :=
  ⟨h.disk.grow k, h.rows.later k, fun j hj => .inl (h.sub j hj), Plus.top h.top k.size, .inl h.gwF, h.gwQ, h.gwT, by rw [k.block _ h.lt]; exact h.box, h.tab.below k h.tab.lt, .inl h.tabF⟩
theorem JX.cells (h : JX F Q b gw d r A1 A2 c1 c2 jv half epoch count w) :
    (w.cell? ⟨gw, 0, none⟩ = some (.pointer (some ⟨b, 0, none⟩)) ∧ w.cell? ⟨gw, 1, none⟩ = some jv ∧ w.cell? ⟨gw, 2, none⟩ = some (.slice A1 r.S.length c1) ∧ w.cell? ⟨gw, 3, none⟩ = some (.slice A2 r.C.length c2) ∧ w.cell? ⟨gw, 4, none⟩ = some (.int .i64 (r.armed : Nat)) ∧ w.cell? ⟨gw, 5, none⟩ = some (.bool r.down) ∧ w.cell? ⟨gw, 6, none⟩ = some (.int .i64 (r.ops : Nat)) ∧ w.cell? ⟨gw, 7, none⟩ = some (.int .i64 (half : Nat)) ∧ w.cell? ⟨gw, 8, none⟩ = some (.int .i64 (epoch : Nat)) ∧ w.cell? ⟨gw, 9, none⟩ = some (.int .i64 (count : Nat))) ∧ ∀ i, w.frozen? ⟨gw, i, none⟩ = false :=
  ⟨⟨(cell_of_row w _ 0 _ _ _ h.box).trans rfl, (cell_of_row w _ 1 _ _ _ h.box).trans rfl, (cell_of_row w _ 2 _ _ _ h.box).trans rfl, (cell_of_row w _ 3 _ _ _ h.box).trans rfl, (cell_of_row w _ 4 _ _ _ h.box).trans rfl, (cell_of_row w _ 5 _ _ _ h.box).trans rfl, (cell_of_row w _ 6 _ _ _ h.box).trans rfl, (cell_of_row w _ 7 _ _ _ h.box).trans rfl, (cell_of_row w _ 8 _ _ _ h.box).trans rfl, (cell_of_row w _ 9 _ _ _ h.box).trans rfl⟩, fun i => frozen_of_row w _ i _ _ h.box⟩
/-- the object with any cells in its own block -/
theorem JX.put (h : JX F Q b gw d r A1 A2 c1 c2 jv half epoch count w) (i : Nat) (u : Value) : DiskAt F b d (w.setCell ⟨gw, i, none⟩ u) ∧ RQ Q (w.setCell ⟨gw, i, none⟩ u) A1 A2 r ∧ Top F (w.setCell ⟨gw, i, none⟩ u).heap.size ∧ Tab (w.setCell ⟨gw, i, none⟩ u) :=
  ⟨h.disk.put _ _ h.gwF, h.rows.set _ _ h.gwQ, h.top.trans (by simp [World.setCell]), tab_set h.tab h.gwT _⟩
theorem set5_box {v0 v1 v2 v3 v4 v5 v6 v7 v8 v9 : Value} {T : TypeId} (hb : w.heap[gw]? = some (.cells #[v0, v1, v2, v3, v4, v5, v6, v7, v8, v9] T (0, 0))) : (set5 w gw A1 A2 c1 c2 r).heap[gw]? = some (.cells #[v0, v1, .slice A1 r.S.length c1, .slice A2 r.C.length c2, .int .i64 (r.armed : Nat), .bool r.down, .int .i64 (r.ops : Nat), v7, v8, v9] T (0, 0)) := by
  rw [Joins.block_setCell (i := 6) (Joins.block_setCell (i := 5) (Joins.block_setCell (i := 4) (Joins.block_setCell (i := 3) (Joins.block_setCell (i := 2) hb _) _) _) _) _]; rfl
theorem set4_box {v0 v1 v2 v3 v4 v5 v6 v7 v8 v9 : Value} {T : TypeId} (hb : w.heap[gw]? = some (.cells #[v0, v1, v2, v3, v4, v5, v6, v7, v8, v9] T (0, 0))) : (set4 w gw jv half epoch count).heap[gw]? = some (.cells #[v0, jv, v2, v3, v4, v5, v6, .int .i64 (half : Nat), .int .i64 (epoch : Nat), .int .i64 (count : Nat)] T (0, 0)) := by
  rw [Joins.block_setCell (i := 9) (Joins.block_setCell (i := 8) (Joins.block_setCell (i := 7) (Joins.block_setCell (i := 1) hb _) _) _) _]; rfl
theorem set_other {p : Addr} {u : Value} {k : Nat} (h : k ≠ p.block) : (w.setCell p u).heap[k]? = w.heap[k]? := Below.heap_setCell _ _ _ _ h
theorem set5_other {k : Nat} (h : k ≠ gw) : (set5 w gw A1 A2 c1 c2 r).heap[k]? = w.heap[k]? := by
  unfold set5
  rw [set_other (by exact h), set_other (by exact h), set_other (by exact h), set_other (by exact h), set_other (by exact h)]
theorem set4_other {k : Nat} (h : k ≠ gw) : (set4 w gw jv half epoch count).heap[k]? = w.heap[k]? := by
  unfold set4
  rw [set_other (by exact h), set_other (by exact h), set_other (by exact h), set_other (by exact h)]
theorem set5_kp {G : Nat → Prop} (h : ¬ G gw) : Kp G w (set5 w gw A1 A2 c1 c2 r) :=
  (((((Kp.refl G w).setCell (p := ⟨gw, 2, none⟩) h _).setCell (p := ⟨gw, 3, none⟩) h _).setCell (p := ⟨gw, 4, none⟩) h _).setCell (p := ⟨gw, 5, none⟩) h _).setCell (p := ⟨gw, 6, none⟩) h _
theorem set4_kp {G : Nat → Prop} (h : ¬ G gw) : Kp G w (set4 w gw jv half epoch count) :=
  ((((Kp.refl G w).setCell (p := ⟨gw, 1, none⟩) h _).setCell (p := ⟨gw, 7, none⟩) h _).setCell (p := ⟨gw, 8, none⟩) h _).setCell (p := ⟨gw, 9, none⟩) h _
theorem disk_put5 {G : Nat → Prop} (h : DiskAt G b d w) (hg : G gw) : DiskAt G b d (set5 w gw A1 A2 c1 c2 r) :=
  ((((h.put _ _ hg).put _ _ hg).put _ _ hg).put _ _ hg).put _ _ hg
theorem disk_put4 {G : Nat → Prop} (h : DiskAt G b d w) (hg : G gw) : DiskAt G b d (set4 w gw jv half epoch count) :=
  (((h.put _ _ hg).put _ _ hg).put _ _ hg).put _ _ hg
theorem tab_put5 (h : Tab w) (hg : gw ≠ 0) : Tab (set5 w gw A1 A2 c1 c2 r) :=
  tab_set (tab_set (tab_set (tab_set (tab_set h hg _) hg _) hg _) hg _) hg _
theorem tab_put4 (h : Tab w) (hg : gw ≠ 0) : Tab (set4 w gw jv half epoch count) :=
  tab_set (tab_set (tab_set (tab_set h hg _) hg _) hg _) hg _
theorem rows_put5 {G : Nat → Prop} {B1 B2 : Option Addr} {q : Dk} (h : RQ G w B1 B2 q) (hg : ¬ G gw) : RQ G (set5 w gw A1 A2 c1 c2 r) B1 B2 q :=
  ((((h.set _ _ hg).set _ _ hg).set _ _ hg).set _ _ hg).set _ _ hg
theorem rows_put4 {G : Nat → Prop} {B1 B2 : Option Addr} {q : Dk} (h : RQ G w B1 B2 q) (hg : ¬ G gw) : RQ G (set4 w gw jv half epoch count) B1 B2 q :=
  (((h.set _ _ hg).set _ _ hg).set _ _ hg).set _ _ hg
/-- the document's disk behind a call -/
theorem JX.ref (h : JX F Q b gw d r A1 A2 c1 c2 jv half epoch count w) (k : Below w.heap.size w w') (hn : RNew w w' A1 A2 A3 A4 r r') :
    JX (Plus F w.heap.size w'.heap.size) (Plus Q w.heap.size w'.heap.size) b gw d r' A3 A4 c3 c4 jv half epoch count (set5 w' gw A3 A4 c3 c4 r') := by
  have hg := h.grow k
  have hlt := h.lt
  have hq : ¬ Plus Q w.heap.size w'.heap.size gw := fun q => by
    rcases q with q | q
    · exact h.gwQ q
    · omega
  have hr : RQ (Plus Q w.heap.size w'.heap.size) w' A3 A4 r' :=
    (hn.rq (Q := fun g => Q g ∨ w.heap.size ≤ g) (h.rows.sub (fun g hg _ => .inl hg)) (fun g hg => .inr hg)).sub (fun g hg hl => hg.elim .inl (fun q => .inr ⟨q, hl⟩))
  refine ⟨disk_put5 hg.disk hg.gwF, rows_put5 hr hq, fun j hj => hj.elim (fun q => .inl (h.sub j q)) .inr, hg.top.trans (by simp [World.setCell]), hg.gwF, hq, h.gwT, set5_box hg.box, tab_put5 hg.tab h.gwT, hg.tabF⟩
/-- the disk behind a call -/
theorem JX.go (h : JX F Q b gw d r A1 A2 c1 c2 jv half epoch count w) (hd : DiskAt F b d' w') (k : Kp F w w') : JX F Q b gw d' r A1 A2 c1 c2 jv half epoch count w' :=
  ⟨hd, h.rows.kp k (fun g hg _ => h.sub g hg), h.sub, h.top.trans k.size, h.gwF, h.gwQ, h.gwT, by rw [k.block _ h.lt h.gwF]; exact h.box, tab_kp h.tab k h.tabF, h.tabF⟩
/-- another journal -/
theorem JX.journal (h : JX F Q b gw d r A1 A2 c1 c2 jv half epoch count w) (jv' : Value) (half' epoch' count' : Nat) : JX F Q b gw d r A1 A2 c1 c2 jv' half' epoch' count' (set4 w gw jv' half' epoch' count') :=
  ⟨disk_put4 h.disk h.gwF, rows_put4 h.rows h.gwQ, h.sub, h.top.trans (by simp [World.setCell]), h.gwF, h.gwQ, h.gwT, set4_box h.box, tab_put4 h.tab h.gwT, h.tabF⟩
theorem JX.counts (h : JX F Q b gw d r A1 A2 c1 c2 jv half epoch count w) (count' : Nat) : JX F Q b gw d r A1 A2 c1 c2 jv half epoch count' (w.setCell ⟨gw, 9, none⟩ (.int .i64 (count' : Nat))) :=
  ⟨h.disk.put _ _ h.gwF, h.rows.set _ _ h.gwQ, h.sub, h.top.trans (by simp [World.setCell]), h.gwF, h.gwQ, h.gwT, by rw [Joins.block_setCell (i := 9) h.box]; rfl, tab_set h.tab h.gwT _, h.tabF⟩
end
/-- the journal of the play -/
structure JJ (F Q : Nat → Prop) (gw bj b half epoch count : Nat) (w : World) : Prop where
  jn : JnAt bj b half epoch count w
  inF : F bj
  outQ : ¬ Q bj
  ne : bj ≠ gw
  neT : bj ≠ 0
section
variable {F Q F' Q' : Nat → Prop} {b gw bj half epoch count : Nat} {w w' : World}
theorem JJ.mv (h : JJ F Q gw bj b half epoch count w) (k : w'.heap[bj]? = w.heap[bj]?) (hF : F' bj) (hQ : ¬ Q' bj) : JJ F' Q' gw bj b half epoch count w' :=
  ⟨⟨by rw [k]; exact h.jn.box⟩, hF, hQ, h.ne, h.neT⟩
theorem JJ.later (h : JJ F Q gw bj b half epoch count w) (k : Below w.heap.size w w') : JJ F Q gw bj b half epoch count w' := h.mv (k.block _ h.jn.lt) h.inF h.outQ
theorem JJ.kp (h : JJ F Q gw bj b half epoch count w) (k : Kp F w w') : JJ F Q gw bj b half epoch count w' := h.mv (k.block _ h.jn.lt h.inF) h.inF h.outQ
theorem JJ.ref (h : JJ F Q gw bj b half epoch count w) (k : Below w.heap.size w w') {A3 A4 : Option Addr} {c3 c4 : Nat} {r' : Dk} : JJ (Plus F w.heap.size w'.heap.size) (Plus Q w.heap.size w'.heap.size) gw bj b half epoch count (set5 w' gw A3 A4 c3 c4 r') :=
  h.mv ((set5_other h.ne).trans (k.block _ h.jn.lt)) (.inl h.inF) (fun q => by
    have := h.jn.lt
    rcases q with q | q
    · exact h.outQ q
    · omega)
theorem JJ.counts (h : JJ F Q gw bj b half epoch count w) (u : Value) : JJ F Q gw bj b half epoch count (w.setCell ⟨gw, 9, none⟩ u) := h.mv (set_other h.ne) h.inF h.outQ
end
end Go.Proofs.YtfbakelpplpomaaGreatDoor.Disk
