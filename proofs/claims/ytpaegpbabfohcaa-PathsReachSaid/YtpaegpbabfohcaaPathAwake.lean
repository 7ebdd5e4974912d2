/-
  The chapter's example: awake.
-/
import Derived.Test.YtpaegpbabfohcaaPathParts
namespace Go.Proofs.Ytpaegpbabfohcaa.Paths
open Go.RowKit Go.Proofs.Ytpaegpbabfohcaa.WalkBytes Go.Proofs.Ytpaegpbabfohcaa.PathPure Go.Proofs.Ytpaegpbabfohcaa.MapAt Go.Proofs.Ytpaegpbabfohcaa.PartsPure
set_option linter.unusedVariables false
set_option linter.unusedSimpArgs false
set_option maxRecDepth 100000

def lp0 : Lp := ⟨none, [], 0, none, [], 0⟩
def sA : ByteArray := ⟨#[97]⟩
def sB : ByteArray := ⟨#[98]⟩
def sX : ByteArray := ⟨#[120]⟩
def sY : ByteArray := ⟨#[121]⟩
def N0 : List Nd := [⟨sA, lp0⟩, ⟨sB, lp0⟩]
def E0 : List Ed := [⟨sX, sA, sB, lp0⟩, ⟨sY, sB, sA, lp0⟩]
def g0 (k : Nat) : Gr := ⟨some ⟨k, 0, none⟩, N0, 2, some ⟨k + 1, 0, none⟩, E0, 2⟩
theorem lp0_at (H : Nat) (w : World) : LpAt H w lp0 := ⟨.inl rfl, .inl rfl, fun h => absurd rfl h, fun h => absurd rfl h, by simp [lp0], by simp [lp0], by simp [lp0], by simp [lp0]⟩
theorem lt_ab : lt sA sB = true := by
  unfold lt
  rw [ByteArray.toList_eq, ByteArray.toList_eq]
  decide
theorem lt_xy : lt sX sY = true := by
  unfold lt
  rw [ByteArray.toList_eq, ByteArray.toList_eq]
  decide
theorem why0 (k : Nat) : graphWhy (g0 k) = 0 := by
  have n0 : ∀ j, j < 2 → nodeBad N0 j = 0 := by
    intro j hj
    match j, hj with
    | 0, _ => rfl
    | 1, _ =>
      unfold nodeBad
      rw [if_neg (fun q => q rfl), if_neg (fun q => by have q2 : lt sA sB = false := q.2; rw [lt_ab] at q2; cases q2)]
  have hA : HasN N0 sA := ⟨0, by decide, rfl⟩
  have hB : HasN N0 sB := ⟨1, by decide, rfl⟩
  have e0 : ∀ j, j < 2 → edgeBad N0 E0 j = 0 := by
    intro j hj
    match j, hj with
    | 0, _ =>
      unfold edgeBad
      rw [if_neg (fun q => q rfl), if_neg (fun q => by have := q.1; omega)]
      exact has2_yes hA hB
    | 1, _ =>
      unfold edgeBad
      rw [if_neg (fun q => q rfl), if_neg (fun q => by have q2 : lt sX sY = false := q.2; rw [lt_xy] at q2; cases q2)]
      exact has2_yes hB hA
  unfold graphWhy
  rw [if_neg (by show ¬ (500 < 2 ∨ 1000 < 2); omega)]
  have h1 : fb (nodeBad (g0 k).N) (g0 k).N.length = 0 := fb_zero n0
  have h2 : fb (edgeBad (g0 k).N (g0 k).E) (g0 k).E.length = 0 := fb_zero e0
  rw [h1, h2]; rfl
theorem cyc0 : KahnPure.Cyc (egs E0) :=
  ⟨⟨sX, sA, sB⟩, by simp [egs, E0, Ed.eg], 1, Walk.snoc (x := ⟨sY, sB, sA⟩) .nil (by simp [egs, E0, Ed.eg]) rfl⟩
theorem prt0 (k : Nat) (r : Nat → Nat) (h : RP (g0 k) r) : (prt (g0 k) r).length = 1 := by
  obtain ⟨p, hp, hr⟩ := h
  have ok := gr_ok (why0 k)
  have pA : posN N0 sA = 0 := (posN_one (N := N0) ok.rn (p := 0) (s := sA) (by decide) rfl).symm
  have pB : posN N0 sB = 1 := (posN_one (N := N0) ok.rn (p := 1) (s := sB) (by decide) rfl).symm
  have he : eps (g0 k).N (g0 k).E = [(0, 1), (1, 0)] := by
    show [(posN N0 sA, posN N0 sB), (posN N0 sB, posN N0 sA)] = _
    rw [pA, pB]
  rw [he] at hp
  have h01 : rt p 0 = rt p 1 := (hp.con 0 1).2 (.fwd .refl (by simp))
  have h0 := rt_le (p := p) 0
  have r0 : r 0 = 0 := by rw [hr]; omega
  have r1 : r 1 = 0 := by rw [hr]; omega
  have hle : ∀ i, r i ≤ i := fun i => by rw [hr]; exact rt_le i
  have hrr : ∀ i, r (r i) = r i := fun i => by rw [hr, hr]; exact rt_rt hp.low i
  unfold prt
  rw [grp_is _ r hle hrr, List.length_map]
  show ((List.range 2).filter _).length = 1
  have : List.range 2 = [0, 1] := rfl
  rw [this]
  simp [r0, r1]
theorem at0 {w : World} {k : Nat} (h1 : w.heap[k]? = some (.cells #[.string ⟨#[97]⟩, .slice none 0 0, .slice none 0 0, .string ⟨#[98]⟩, .slice none 0 0, .slice none 0 0] 59 (0, 0))) (h2 : w.heap[k + 1]? = some (.cells #[.string ⟨#[120]⟩, .string ⟨#[97]⟩, .string ⟨#[98]⟩, .slice none 0 0, .slice none 0 0, .string ⟨#[121]⟩, .string ⟨#[98]⟩, .string ⟨#[97]⟩, .slice none 0 0, .slice none 0 0] 74 (0, 0))) (hk : k + 1 < w.heap.size) : GrAt w.heap.size w (g0 k) := by
  refine ⟨.inr ⟨k, 0, rfl, by omega, fun i hi => ?_⟩, .inr ⟨k + 1, 0, rfl, hk, fun i hi => ?_⟩, by show 2 ≤ _; omega, by show 2 ≤ _; omega⟩
  · match i, hi with
    | 0, _ => exact ⟨(cell_of_row _ _ 0 _ _ _ h1).trans rfl, (cell_of_row _ _ 1 _ _ _ h1).trans rfl, (cell_of_row _ _ 2 _ _ _ h1).trans rfl, lp0_at _ _, by show 1 ≤ _; omega⟩
    | 1, _ => exact ⟨(cell_of_row _ _ 3 _ _ _ h1).trans rfl, (cell_of_row _ _ 4 _ _ _ h1).trans rfl, (cell_of_row _ _ 5 _ _ _ h1).trans rfl, lp0_at _ _, by show 1 ≤ _; omega⟩
  · match i, hi with
    | 0, _ => exact ⟨(cell_of_row _ _ 0 _ _ _ h2).trans rfl, (cell_of_row _ _ 1 _ _ _ h2).trans rfl, (cell_of_row _ _ 2 _ _ _ h2).trans rfl, (cell_of_row _ _ 3 _ _ _ h2).trans rfl, (cell_of_row _ _ 4 _ _ _ h2).trans rfl, lp0_at _ _, by show 1 ≤ _; omega, by show 1 ≤ _; omega, by show 1 ≤ _; omega⟩
    | 1, _ => exact ⟨(cell_of_row _ _ 5 _ _ _ h2).trans rfl, (cell_of_row _ _ 6 _ _ _ h2).trans rfl, (cell_of_row _ _ 7 _ _ _ h2).trans rfl, (cell_of_row _ _ 8 _ _ _ h2).trans rfl, (cell_of_row _ _ 9 _ _ _ h2).trans rfl, lp0_at _ _, by show 1 ≤ _; omega, by show 1 ≤ _; omega, by show 1 ≤ _; omega⟩
set_option maxHeartbeats 3200000 in
theorem awake30_any (w : World) : Calls Try.prog 27 #[] w fun e w' => e = .returned (.bool true) ∧ Below w.heap.size w w' := by
  obtain ⟨W, hW⟩ : ∃ W, W = ((w.alloc (.cells #[.string ⟨#[97]⟩, .slice none 0 0, .slice none 0 0, .string ⟨#[98]⟩, .slice none 0 0, .slice none 0 0] 59)).alloc (.cells #[.string ⟨#[120]⟩, .string ⟨#[97]⟩, .string ⟨#[98]⟩, .slice none 0 0, .slice none 0 0, .string ⟨#[121]⟩, .string ⟨#[98]⟩, .string ⟨#[97]⟩, .slice none 0 0, .slice none 0 0] 74)).alloc (.cells #[.slice (some ⟨w.heap.size, 0, none⟩) 2 2, .slice (some ⟨w.heap.size + 1, 0, none⟩) 2 2] 45) := ⟨_, rfl⟩
  obtain ⟨k, hk⟩ : ∃ k, k = w.heap.size := ⟨_, rfl⟩
  have hb1 := Joins.below_alloc1 w (.cells #[.string ⟨#[97]⟩, .slice none 0 0, .slice none 0 0, .string ⟨#[98]⟩, .slice none 0 0, .slice none 0 0] 59)
  have hb2 := Joins.below_alloc1 (w.alloc (.cells #[.string ⟨#[97]⟩, .slice none 0 0, .slice none 0 0, .string ⟨#[98]⟩, .slice none 0 0, .slice none 0 0] 59)) (.cells #[.string ⟨#[120]⟩, .string ⟨#[97]⟩, .string ⟨#[98]⟩, .slice none 0 0, .slice none 0 0, .string ⟨#[121]⟩, .string ⟨#[98]⟩, .string ⟨#[97]⟩, .slice none 0 0, .slice none 0 0] 74)
  have h1 : W.heap[k]? = some (.cells #[.string ⟨#[97]⟩, .slice none 0 0, .slice none 0 0, .string ⟨#[98]⟩, .slice none 0 0, .slice none 0 0] 59 (0, 0)) := by
    rw [hW, hk]
    exact ((Joins.below_alloc1 _ _).block _ (by simp; omega)).trans (((Joins.below_alloc1 _ _).block _ (by simp)).trans (heap_new w _))
  have h2 : W.heap[k + 1]? = some (.cells #[.string ⟨#[120]⟩, .string ⟨#[97]⟩, .string ⟨#[98]⟩, .slice none 0 0, .slice none 0 0, .string ⟨#[121]⟩, .string ⟨#[98]⟩, .string ⟨#[97]⟩, .slice none 0 0, .slice none 0 0] 74 (0, 0)) := by
    have e := heap_new (w.alloc (.cells #[.string ⟨#[97]⟩, .slice none 0 0, .slice none 0 0, .string ⟨#[98]⟩, .slice none 0 0, .slice none 0 0] 59)) (.cells #[.string ⟨#[120]⟩, .string ⟨#[97]⟩, .string ⟨#[98]⟩, .slice none 0 0, .slice none 0 0, .string ⟨#[121]⟩, .string ⟨#[98]⟩, .string ⟨#[97]⟩, .slice none 0 0, .slice none 0 0] 74)
    rw [show (w.alloc (.cells #[.string ⟨#[97]⟩, .slice none 0 0, .slice none 0 0, .string ⟨#[98]⟩, .slice none 0 0, .slice none 0 0] 59)).heap.size = w.heap.size + 1 from by simp] at e
    rw [hW, hk]
    exact ((Joins.below_alloc1 _ _).block _ (by simp)).trans e
  have hsz : W.heap.size = k + 3 := by rw [hW, hk]; simp
  have h3 : W.heap[k + 2]? = some (.cells #[.slice (some ⟨k, 0, none⟩) 2 2, .slice (some ⟨k + 1, 0, none⟩) 2 2] 45 (0, 0)) := by
    have e := heap_new ((w.alloc (.cells #[.string ⟨#[97]⟩, .slice none 0 0, .slice none 0 0, .string ⟨#[98]⟩, .slice none 0 0, .slice none 0 0] 59)).alloc (.cells #[.string ⟨#[120]⟩, .string ⟨#[97]⟩, .string ⟨#[98]⟩, .slice none 0 0, .slice none 0 0, .string ⟨#[121]⟩, .string ⟨#[98]⟩, .string ⟨#[97]⟩, .slice none 0 0, .slice none 0 0] 74)) (.cells #[.slice (some ⟨k, 0, none⟩) 2 2, .slice (some ⟨k + 1, 0, none⟩) 2 2] 45)
    rw [show ((w.alloc (.cells #[.string ⟨#[97]⟩, .slice none 0 0, .slice none 0 0, .string ⟨#[98]⟩, .slice none 0 0, .slice none 0 0] 59)).alloc (.cells #[.string ⟨#[120]⟩, .string ⟨#[97]⟩, .string ⟨#[98]⟩, .slice none 0 0, .slice none 0 0, .string ⟨#[121]⟩, .string ⟨#[98]⟩, .string ⟨#[97]⟩, .slice none 0 0, .slice none 0 0] 74)).heap.size = k + 2 from by simp [hk]] at e
    rw [hW, ← hk]; exact e
  have hB : Below w.heap.size w W := by rw [hW]; exact (hb1.trans (hb2.mono (by simp))).trans ((Joins.below_alloc1 _ _).mono (by simp; omega))
  have z0 : W.cell? ⟨k + 2, 0, none⟩ = some (.slice (some ⟨k, 0, none⟩) 2 2) := (cell_of_row _ _ 0 _ _ _ h3).trans rfl
  have z1 : W.cell? ⟨k + 2, 1, none⟩ = some (.slice (some ⟨k + 1, 0, none⟩) 2 2) := (cell_of_row _ _ 1 _ _ _ h3).trans rfl
  have HB := Lib.hid hB
  have HG : Hid (∀ w', Below W.heap.size W w' → GrAt w'.heap.size w' (g0 k)) := fun w' q => at0 ((q.block k (by omega)).trans h1) ((q.block (k + 1) (by omega)).trans h2) (by have := q.size; omega)
  have HK : Hid (k = w.heap.size ∧ W.heap.size = k + 3) := ⟨hk, hsz⟩
  clear hb1 hb2 h1 h2 h3 hsz hB
  go_enter Try.func27, Try.ntmps27
  go_upto_region 2 with (fail)
  rw [← hk] at hW
  rw [← hk, ← hW]
  clear hW hk
  go_wp2_with fail
  refine (cycle_any (g0 k) _ _ rfl rfl W (HG.out W (Below.refl _ _))).mono ?_
  rintro e w5 ⟨hr, hB5⟩
  obtain ⟨c, rfl, hc⟩ := hr.2 (why0 k)
  have hct : c = true := hc.2 cyc0
  subst hct
  have HB5 := Lib.hid hB5
  have y0 : w5.cell? ⟨k + 2, 0, none⟩ = some (.slice (some ⟨k, 0, none⟩) 2 2) := (hB5.cell (p := ⟨k + 2, 0, none⟩) (by show k + 2 < W.heap.size; have := HK.out; omega)).trans z0
  have y1 : w5.cell? ⟨k + 2, 1, none⟩ = some (.slice (some ⟨k + 1, 0, none⟩) 2 2) := (hB5.cell (p := ⟨k + 2, 1, none⟩) (by show k + 2 < W.heap.size; have := HK.out; omega)).trans z1
  clear hr hc hB5 z0 z1
  go_wp2_with fail
  refine (parts_any (g0 k) _ _ rfl rfl w5 (HG.out w5 HB5.out)).mono ?_
  rintro e w6 ⟨hr, hB6⟩
  obtain ⟨V, r, B, vs, rfl, hrp, o1, o2⟩ := hr.2 (why0 k)
  have hl := prt0 k r hrp
  rw [hl] at o1
  obtain ⟨av, cv, rfl⟩ := slice_of_own o1
  have HF : Hid (Below w.heap.size w w6) := HB.out.trans ((HB5.out.trans (hB6.mono HB5.out.size)).mono (by have := HK.out; omega))
  clear hr hrp o1 o2 hl hB6 y0 y1
  go_wp2_with fail
  go_ret
  exact ⟨rfl, HF.out⟩
end Go.Proofs.Ytpaegpbabfohcaa.Paths
