/-
  The walks of pleachref07: kept, Shows, done.
-/
import Derived.Test.YtfbakelpplpomaaGreatDoorRefCopy
namespace Go.Proofs.YtfbakelpplpomaaGreatDoor.Disk
open Go.RowKit Go.Proofs.YtfbakelpplpomaaGreatDoor.DiskRows
set_option linter.unusedVariables false
set_option linter.unusedSimpArgs false
set_option maxRecDepth 100000

/-- none of the first k numbers is z -/
def noneOf (K : List Int) (z : Int) (k : Nat) : Prop := ∀ i, i < k → K.getD i 0 ≠ z
theorem noneOf_all {K : List Int} {z : Int} (h : noneOf K z K.length) : K.contains z = false := by
  cases hc : K.contains z with
  | false => rfl
  | true =>
    rw [List.contains_iff_mem] at hc
    obtain ⟨i, hi, e⟩ := List.mem_iff_getElem.1 hc
    exact absurd (by rw [List.getD_eq_getElem?_getD, List.getElem?_eq_getElem hi]; exact e) (h i hi)
theorem kept_any (A : Option Addr) (c : Nat) (K : List Int) (z : Int) (w : World) (h : Nums w A K) (hn : (K.length : Int) ≤ 9223372036854775807) (r : Bool) (hr : K.contains z = r) :
    Calls Tryz.prog 113 #[.slice A K.length c, .int .i64 z] w fun x w' => x = .returned (.bool r) ∧ w = w' := by
  have HN := Lib.hid h
  have HR := Lib.hid hr
  clear h hr
  go_enter Tryz.func113, Tryz.ntmps113
  go_upto_region 2 with fail
  go_loopw [5] (fun i wr => ∃ k : Nat, k ≤ K.length ∧ i = .int .i64 k ∧ noneOf K z k ∧ w = wr) (fun i _ => K.length - (intOf i).toNat)
  case atStart => exact ⟨0, by omega, rfl, fun i hi => by omega, rfl⟩
  case round =>
    obtain ⟨k, hk, rfl, hf, rfl⟩ := hrel
    have HF := Lib.hid hf
    clear hf
    by_cases hlt : k < K.length
    · obtain ⟨g, off, rfl, hg, hc⟩ : ∃ g off, A = some ⟨g, off, none⟩ ∧ g < w.heap.size ∧ ∀ i, i < K.length → w.cell? ⟨g, off + i, none⟩ = some (.int .i64 (K.getD i 0)) := by
        rcases HN.out with h0 | h0
        · rw [h0] at hlt; simp at hlt
        · exact h0
      have q := hc k hlt
      have hlti : (k : Int) < (K.length : Int) := by omega
      obtain ⟨x, hxe⟩ : ∃ x, K.getD k 0 = x := ⟨_, rfl⟩
      rw [hxe] at q
      have HX := Lib.hid hxe
      clear hxe hc
      by_cases hx : x = z
      · subst hx
        have e : r = true := by
          rw [← HR.out, List.contains_iff_mem]
          have := HX.out
          rw [List.getD_eq_getElem?_getD, List.getElem?_eq_getElem hlt] at this
          rw [← this]
          exact List.getElem_mem hlt
        subst e
        go_wp2
        go_ret
        exact ⟨rfl, rfl⟩
      · have hn2 : noneOf K z (k + 1) := fun i hi => by
          by_cases e : i = k
          · subst e; rw [HX.out]; exact hx
          · exact HF.out i (by omega)
        have HN2 := Lib.hid hn2
        clear hn2
        go_wp2
        refine ⟨⟨k + 1, by omega, by go_num, HN2.out, trivial⟩, by simp [intOf]; omega⟩
    · obtain rfl : k = K.length := by omega
      obtain rfl : r = false := by rw [← HR.out]; exact noneOf_all HF.out
      go_wp2
      go_ret
      exact ⟨rfl, rfl⟩
/-- what a sector shows behind the first k writes -/
theorem shows_at (S : List ByteArray) (C : List (Nat × ByteArray)) (k i : Nat) (hk : k < C.length) (hi : i < S.length) :
    (shows S (C.take (k + 1))).getD i ByteArray.empty = if (C.getD k (0, ByteArray.empty)).1 = i then (C.getD k (0, ByteArray.empty)).2 else (shows S (C.take k)).getD i ByteArray.empty := by
  rw [shows_take S C k hk _ rfl]
  by_cases h : (C.getD k (0, ByteArray.empty)).1 = i
  · rw [if_pos h, h]
    have := shows_length S (C.take k)
    simp [List.getD_eq_getElem?_getD, List.getElem?_set, this, hi]
  · rw [if_neg h]
    rw [List.getD_eq_getElem?_getD, List.getElem?_set_ne h, ← List.getD_eq_getElem?_getD]
theorem shows_one (A A' : Option Addr) (c c' : Nat) (S : List ByteArray) (C : List (Nat × ByteArray)) (i : Nat) (w : World) (h : Txs w A S) (h' : Wrs w A' (ints C)) (hi : i < S.length) (hS : S.length ≤ 4096) (hC : C.length ≤ 100000) (s : ByteArray) (hs : (shows S C).getD i ByteArray.empty = s) :
    Calls Tryz.prog 102 #[.agg #[.slice A S.length c, .slice A' C.length c'], .int .i64 i] w fun x w' => x = .returned (.string s) ∧ Below w.heap.size w w' := by
  have kb := Joins.below_alloc1 w (.cells #[.slice A S.length c, .slice A' C.length c'] 51)
  obtain ⟨g, off, rfl, hg, hc⟩ : ∃ g off, A = some ⟨g, off, none⟩ ∧ g < w.heap.size ∧ ∀ i, i < S.length → w.cell? ⟨g, off + i, none⟩ = some (.string (S.getD i ByteArray.empty)) := by
    rcases h with h0 | h0
    · rw [h0] at hi; simp at hi
    · exact h0
  have q := (kb.cell (p := ⟨g, off + i, none⟩) hg).trans (hc i hi)
  have hii : (i : Int) < (S.length : Int) := by omega
  have hSi : (S.length : Int) ≤ 4096 := by omega
  have hCi : (C.length : Int) ≤ 100000 := by omega
  have h2 := h'.later kb
  have HK := Lib.hid kb
  have HW := Lib.hid h2
  have HS := Lib.hid hs
  have h0 : S.getD i ByteArray.empty = (shows S (C.take 0)).getD i ByteArray.empty := rfl
  rw [h0] at q
  obtain ⟨u, hu⟩ : ∃ u, (shows S (C.take 0)).getD i ByteArray.empty = u := ⟨_, rfl⟩
  rw [hu] at q
  have HU := Lib.hid hu
  have HI := Lib.hid hi
  clear h h' kb hc hi hs h0 hu h2
  go_enter Tryz.func102, Tryz.ntmps102
  go_upto_region 3 with fail
  have w0 : (w.alloc (.cells #[.slice (some ⟨g, off, none⟩) S.length c, .slice A' C.length c'] 51)).cell? ⟨w.heap.size, 1, none⟩ = some (.slice A' C.length c') := (cell_of_row _ _ 1 _ _ _ (heap_alloc_last _ _)).trans rfl
  generalize w.alloc _ = wb at *
  go_loopw [5, 6] (fun v j wr => ∃ k : Nat, k ≤ C.length ∧ j = .int .i64 k ∧ v = .string ((shows S (C.take k)).getD i ByteArray.empty) ∧ wb = wr) (fun _ j _ => C.length - (intOf j).toNat)
  case atStart => exact ⟨0, by omega, rfl, by rw [HU.out], rfl⟩
  case round =>
    obtain ⟨k, hk, rfl, rfl, rfl⟩ := hrel
    by_cases hlt : k < C.length
    · obtain ⟨gC, oC, rfl, hgC, hcC⟩ : ∃ g off, A' = some ⟨g, off, none⟩ ∧ g < wb.heap.size ∧ ∀ k, k < (ints C).length → wb.cell? ⟨g, off + k * 2, none⟩ = some (.int .i64 ((ints C).getD k (0, ByteArray.empty)).1) ∧ wb.cell? ⟨g, off + k * 2 + 1, none⟩ = some (.string ((ints C).getD k (0, ByteArray.empty)).2) := by
        rcases HW.out with h0 | h0
        · have := congrArg List.length h0; rw [ints_length] at this; simp at this; subst this; simp at hlt
        · exact h0
      obtain ⟨q1, q2⟩ := hcC k (by rw [ints_length]; exact hlt)
      have hgi : (ints C).getD k (0, ByteArray.empty) = (((C.getD k (0, ByteArray.empty)).1 : Int), (C.getD k (0, ByteArray.empty)).2) := by
        simp [ints, List.getD_eq_getElem?_getD, List.getElem?_eq_getElem hlt]
      rw [hgi] at q1 q2
      have hsh := shows_at S C k i hlt HI.out
      obtain ⟨x, hx⟩ : ∃ x, C.getD k (0, ByteArray.empty) = x := ⟨_, rfl⟩
      rw [hx] at q1 q2 hsh
      obtain ⟨p, t⟩ := x
      dsimp only at q1 q2 hsh
      have hkl : (k : Int) < (C.length : Int) := by omega
      have HSH := Lib.hid hsh
      obtain ⟨v, hv⟩ : ∃ v, (shows S (C.take k)).getD i ByteArray.empty = v := ⟨_, rfl⟩
      rw [hv] at HSH ⊢
      clear hx hgi hcC hsh hv
      by_cases hp : p = i
      · have hpi : (p : Int) = (i : Int) := by omega
        go_wp2
        refine ⟨⟨k + 1, by omega, by go_num, by rw [HSH.out, if_pos hp], trivial⟩, by simp [intOf]; omega⟩
      · have hpi : ((p : Int) == (i : Int)) = false := by simp; omega
        go_wp2
        refine ⟨⟨k + 1, by omega, by go_num, by rw [HSH.out, if_neg hp], trivial⟩, by simp [intOf]; omega⟩
    · obtain rfl : k = C.length := by omega
      rw [List.take_length, HS.out]
      go_wp2
      go_ret
      exact ⟨rfl, HK.out⟩
/-- of the first n writes those that are told -/
def keepsB (S : List ByteArray) (C : List (Nat × ByteArray)) (f : Nat → Bool) : Nat → List ByteArray
  | 0 => S
  | n + 1 => if f n = true then (keepsB S C f n).set (C.getD n (0, ByteArray.empty)).1 (C.getD n (0, ByteArray.empty)).2 else keepsB S C f n
theorem keepsB_length (S : List ByteArray) (C : List (Nat × ByteArray)) (f : Nat → Bool) (n : Nat) : (keepsB S C f n).length = S.length := by
  induction n with
  | zero => rfl
  | succ n ih => rw [keepsB]; split <;> simp [ih]
theorem keepsB_keeps (S : List ByteArray) (C : List (Nat × ByteArray)) (l : List Int) (n : Nat) : keepsB S C (fun i => false || l.contains (i : Int)) n = keeps S C l n := by
  induction n with
  | zero => rfl
  | succ n ih => rw [keepsB, keeps, ih]; simp
theorem keepsB_shows (S : List ByteArray) (C : List (Nat × ByteArray)) (l : List Int) (n : Nat) (h : n ≤ C.length) : keepsB S C (fun i => true || l.contains (i : Int)) n = shows S (C.take n) := by
  induction n with
  | zero => rfl
  | succ n ih =>
    rw [keepsB, ih (by omega), shows_take S C n (by omega) _ rfl]
    simp
theorem OwnW.other {b : Nat} {w : World} {A : Option Addr} {c : Nat} {C : List (Int × ByteArray)} (h : OwnW b w A c C) (p : Addr) (u : Value) (hp : ∀ g, A = some ⟨g, 0, none⟩ → C.length ≠ 0 → p.block ≠ g) : OwnW b (w.setCell p u) A c C := by
  rcases h with h | ⟨g, rfl, hg, hr⟩
  · exact .inl h
  · exact .inr ⟨g, rfl, hg, own_other hr _ _ (fun k hk => by
        simp [Value.ownBlock] at hk
        subst hk
        exact (hp g rfl (by omega)).symm)⟩
/-- what lies there while done goes round -/
structure Dn (w : World) (g c1 : Nat) (A2 : Option Addr) (c2 n m : Nat) (L : List ByteArray) (C : List (Nat × ByteArray)) (W : World) : Prop where
  box : W.heap[w.heap.size]? = some (.cells #[.slice (some ⟨g, 0, none⟩) n c1, .slice A2 m c2] 51 (0, 0))
  res : W.heap[w.heap.size + 1]? = some (.cells #[.slice none 0 0, .slice none 0 0] 51 (0, 0))
  row : RowS W g c1 L
  wrs : OwnW (w.heap.size + 2) W A2 c2 (ints C)
  sep : ∀ g', A2 = some ⟨g', 0, none⟩ → (ints C).length ≠ 0 → g ≠ g'
  hg : w.heap.size + 2 ≤ g
  bel : Below w.heap.size w W
theorem Dn.set {w : World} {g c1 : Nat} {A2 : Option Addr} {c2 n m : Nat} {L : List ByteArray} {C : List (Nat × ByteArray)} {W : World} (h : Dn w g c1 A2 c2 n m L C W) {p : Nat} (hp : p < L.length) (s : ByteArray) : Dn w g c1 A2 c2 n m (L.set p s) C (W.setCell ⟨g, p, none⟩ (.string s)) := by
  have := h.hg
  exact ⟨by rw [Below.heap_setCell _ _ _ _ (by show w.heap.size ≠ g; omega)]; exact h.box, by rw [Below.heap_setCell _ _ _ _ (by show w.heap.size + 1 ≠ g; omega)]; exact h.res, h.row.set hp s, h.wrs.other _ _ h.sep, h.sep, h.hg, h.bel.setCell (p := ⟨g, p, none⟩) (by show w.heap.size ≤ g; omega) _⟩
theorem Dn.drew {w : World} {g c1 : Nat} {A2 : Option Addr} {c2 n m : Nat} {L : List ByteArray} {C : List (Nat × ByteArray)} {W : World} (h : Dn w g c1 A2 c2 n m L C W) : Dn w g c1 A2 c2 n m L C W.drew :=
  ⟨h.box, h.res, h.row.drew, h.wrs.keep (Below.refl _ W).drew (Nat.le_refl _), h.sep, h.hg, h.bel.drew⟩
theorem Dn.cells {w : World} {g c1 : Nat} {A2 : Option Addr} {c2 n m : Nat} {L : List ByteArray} {C : List (Nat × ByteArray)} {W : World} (h : Dn w g c1 A2 c2 n m L C W) :
    W.cell? ⟨w.heap.size, 0, none⟩ = some (.slice (some ⟨g, 0, none⟩) n c1) ∧ W.cell? ⟨w.heap.size, 1, none⟩ = some (.slice A2 m c2) ∧ W.cell? ⟨w.heap.size + 1, 0, none⟩ = some (.slice none 0 0) ∧ W.cell? ⟨w.heap.size + 1, 1, none⟩ = some (.slice none 0 0) ∧ (∀ i, W.frozen? ⟨w.heap.size, i, none⟩ = false) ∧ ∀ i, W.frozen? ⟨w.heap.size + 1, i, none⟩ = false :=
  ⟨(cell_of_row W _ 0 _ _ _ h.box).trans rfl, (cell_of_row W _ 1 _ _ _ h.box).trans rfl, (cell_of_row W _ 0 _ _ _ h.res).trans rfl, (cell_of_row W _ 1 _ _ _ h.res).trans rfl, fun i => frozen_of_row W _ i _ _ h.box, fun i => frozen_of_row W _ i _ _ h.res⟩
theorem Dn.start {w w3 : World} {vS vC : Value} {g c1 : Nat} {A2 : Option Addr} {c2 n m : Nat} {L : List ByteArray} {C : List (Nat × ByteArray)}
    (k : Below ((w.alloc (.cells #[vS, vC] 51)).alloc (.cells #[.slice none 0 0, .slice none 0 0] 51)).heap.size ((w.alloc (.cells #[vS, vC] 51)).alloc (.cells #[.slice none 0 0, .slice none 0 0] 51)) w3)
    (hr : RowS w3 g c1 L) (hg : ((w.alloc (.cells #[vS, vC] 51)).alloc (.cells #[.slice none 0 0, .slice none 0 0] 51)).heap.size ≤ g) (hw : OwnW ((w.alloc (.cells #[vS, vC] 51)).alloc (.cells #[.slice none 0 0, .slice none 0 0] 51)).heap.size w3 A2 c2 (ints C))
    (hs : ∀ g', A2 = some ⟨g', 0, none⟩ → (ints C).length ≠ 0 → g ≠ g') : Dn w g c1 A2 c2 n m L C ((w3.setCell ⟨w.heap.size, 0, none⟩ (.slice (some ⟨g, 0, none⟩) n c1)).setCell ⟨w.heap.size, 1, none⟩ (.slice A2 m c2)) := by
  have e1 : (w.alloc (.cells #[vS, vC] 51)).heap.size = w.heap.size + 1 := by simp
  have e2 : ((w.alloc (.cells #[vS, vC] 51)).alloc (.cells #[.slice none 0 0, .slice none 0 0] 51)).heap.size = w.heap.size + 2 := by simp
  have hb := ((Below.refl w.heap.size w).alloc (Nat.le_refl _) (.cells #[vS, vC] 51)).alloc (by simp) (.cells #[.slice none 0 0, .slice none 0 0] 51)
  have hbox : ((w.alloc (.cells #[vS, vC] 51)).alloc (.cells #[.slice none 0 0, .slice none 0 0] 51)).heap[w.heap.size]? = some (.cells #[vS, vC] 51 (0, 0)) := by
    rw [Below.heap_alloc _ _ _ (by simp)]; exact heap_alloc_last _ _
  have hres : ((w.alloc (.cells #[vS, vC] 51)).alloc (.cells #[.slice none 0 0, .slice none 0 0] 51)).heap[w.heap.size + 1]? = some (.cells #[.slice none 0 0, .slice none 0 0] 51 (0, 0)) := by
    rw [← e1]; exact heap_alloc_last _ _
  rw [e2] at k hg hw
  have b3 := (k.block w.heap.size (by omega)).trans hbox
  have r3 := (k.block (w.heap.size + 1) (by omega)).trans hres
  refine ⟨?_, ?_, ?_, ?_, hs, hg, ?_⟩
  · rw [Joins.block_setCell (i := 1) (Joins.block_setCell (i := 0) b3 _)]; rfl
  · rw [Below.heap_setCell _ _ _ _ (by simp), Below.heap_setCell _ _ _ _ (by simp)]; exact r3
  · exact (hr.other _ _ (by show g ≠ w.heap.size; omega)).other _ _ (by show g ≠ w.heap.size; omega)
  · exact (hw.store (by simp) _).store (by simp) _
  · exact ((hb.trans (k.mono (by omega))).setCell (p := ⟨w.heap.size, 0, none⟩) (Nat.le_refl _) _).setCell (p := ⟨w.heap.size, 1, none⟩) (Nat.le_refl _) _
theorem Dn.stop {w : World} {g c1 : Nat} {A2 : Option Addr} {c2 n m : Nat} {L : List ByteArray} {C : List (Nat × ByteArray)} {W : World} (h : Dn w g c1 A2 c2 n m L C W) (v : Value) (u0 u1 : Value) :
    (((W.setCell ⟨w.heap.size, 1, none⟩ v).setCell ⟨w.heap.size + 1, 0, none⟩ u0).setCell ⟨w.heap.size + 1, 1, none⟩ u1).cell? ⟨w.heap.size + 1, 0, none⟩ = some u0 ∧
    (((W.setCell ⟨w.heap.size, 1, none⟩ v).setCell ⟨w.heap.size + 1, 0, none⟩ u0).setCell ⟨w.heap.size + 1, 1, none⟩ u1).cell? ⟨w.heap.size + 1, 1, none⟩ = some u1 ∧
    RowS (((W.setCell ⟨w.heap.size, 1, none⟩ v).setCell ⟨w.heap.size + 1, 0, none⟩ u0).setCell ⟨w.heap.size + 1, 1, none⟩ u1) g c1 L ∧
    Below w.heap.size w (((W.setCell ⟨w.heap.size, 1, none⟩ v).setCell ⟨w.heap.size + 1, 0, none⟩ u0).setCell ⟨w.heap.size + 1, 1, none⟩ u1) := by
  have hg := h.hg
  have h1 : (W.setCell ⟨w.heap.size, 1, none⟩ v).heap[w.heap.size + 1]? = some (.cells #[.slice none 0 0, .slice none 0 0] 51 (0, 0)) := by
    rw [Below.heap_setCell _ _ _ _ (by simp)]; exact h.res
  have hcf := Joins.block_setCell (i := 1) (Joins.block_setCell (i := 0) h1 u0) u1
  refine ⟨(cell_of_row _ _ 0 _ _ _ hcf).trans rfl, (cell_of_row _ _ 1 _ _ _ hcf).trans rfl, ((h.row.other _ _ (by show g ≠ w.heap.size; omega)).other _ _ (by show g ≠ w.heap.size + 1; omega)).other _ _ (by show g ≠ w.heap.size + 1; omega), ?_⟩
  exact ((h.bel.setCell (p := ⟨w.heap.size, 1, none⟩) (Nat.le_refl _) _).setCell (p := ⟨w.heap.size + 1, 0, none⟩) (by simp) _).setCell (p := ⟨w.heap.size + 1, 1, none⟩) (by simp) _
set_option maxHeartbeats 3200000 in
theorem done_any (A A' : Option Addr) (c c' : Nat) (S : List ByteArray) (C : List (Nat × ByteArray)) (all : Bool) (B : Option Addr) (cb : Nat) (K : List Int) (w : World) (h : Txs w A S) (h' : Wrs w A' (ints C)) (hK : Nums w B K) (hKn : (K.length : Int) ≤ 9223372036854775807)
    (h16 : 16 ≤ S.length) (hS : S.length ≤ 4096) (hC : C.length ≤ 100000) (hats : ∀ x ∈ C, x.1 < S.length) (R : List ByteArray) (hR : keepsB S C (fun i => all || K.contains (i : Int)) C.length = R) :
    Calls Tryz.prog 80 #[.agg #[.slice A S.length c, .slice A' C.length c'], .bool all, .slice B K.length cb] w fun x w' => (∃ g c1, x = .returned (.agg #[.slice (some ⟨g, 0, none⟩) S.length c1, .slice none 0 0]) ∧ w.heap.size ≤ g ∧ RowS w' g c1 R) ∧ Below w.heap.size w w' := by
  have kb := (Joins.below_alloc1 w (.cells #[.slice A S.length c, .slice A' C.length c'] 51))
  have kb2 := kb.trans ((Joins.below_alloc1 _ (.cells #[.slice none 0 0, .slice none 0 0] 51)).mono kb.size)
  have hCp := copy_any A A' c c' S (ints C) _ (h.later kb2) (h'.later kb2) (by omega) (by rw [ints_length]; omega)
  rw [ints_length] at hCp
  have HK := Lib.hid (fun W (k : Below w.heap.size w W) (z : Int) (r : Bool) (hr : K.contains z = r) => kept_any B cb K z W (hK.later k) hKn r hr)
  obtain ⟨n, hn⟩ : ∃ n, S.length = n := ⟨_, rfl⟩
  obtain ⟨m, hm⟩ : ∃ n, C.length = n := ⟨_, rfl⟩
  obtain ⟨f, hf⟩ : ∃ f : Nat → Bool, (fun i : Nat => all || K.contains (i : Int)) = f := ⟨_, rfl⟩
  have hf' : ∀ i : Nat, f i = (all || K.contains (i : Int)) := fun i => by rw [← hf]
  rw [hf] at hR
  rw [hn, hm] at hCp
  have HCp := Lib.hid hCp
  have HN := Lib.hid (And.intro hn (And.intro hm (And.intro hats (And.intro hR (And.intro hf' h16)))))
  have hni : (n : Int) ≤ 4096 := by omega
  have hmi : (m : Int) ≤ 100000 := by omega
  rw [hn, hm]
  clear h h' hK hCp hn hm hats hR hf hf' h16 hS hC kb kb2
  go_enter Tryz.func80, Tryz.ntmps80
  go_wp2_with fail
  refine HCp.out.mono ?_
  rintro e w3 ⟨⟨A1, c1, A2, c2, rfl, ho1, ho2, hsep⟩, b3⟩
  obtain ⟨g, rfl, hg, hrow⟩ : ∃ g, A1 = some ⟨g, 0, none⟩ ∧ _ ≤ g ∧ RowS w3 g c1 S := by
    rcases ho1 with h0 | h0
    · have q1 := HN.out.2.2.2.2.2; rw [h0] at q1; simp at q1
    · exact h0
  have hD := Dn.start (n := n) (m := m) b3 hrow hg ho2 (fun g' e hne => hsep g g' rfl e (by have := HN.out.2.2.2.2.2; have := HN.out.1; omega) (by rw [ints_length, HN.out.2.1] at hne; exact hne))
  have c0 : w3.cell? ⟨w.heap.size, 0, none⟩ = some (.slice A n c) := by
    rw [b3.cell (p := ⟨w.heap.size, 0, none⟩) (by simp; omega)]; go_simp
  have c1' : w3.cell? ⟨w.heap.size, 1, none⟩ = some (.slice A' m c') := by
    rw [b3.cell (p := ⟨w.heap.size, 1, none⟩) (by simp; omega)]; go_simp
  have f0 : ∀ i, w3.frozen? ⟨w.heap.size, i, none⟩ = false := fun i => by
    rw [b3.frozen (p := ⟨w.heap.size, i, none⟩) (by simp; omega)]; go_simp
  have f00 := f0 0
  have f01 := f0 1
  clear f0 ho1 ho2 hsep b3 hrow hg HCp
  have HD := Lib.hid hD
  clear hD
  go_upto_region 3 with fail
  generalize World.setCell _ _ _ = wb at *
  clear c0 c1' f00 f01
  go_loopw [7] (fun i wr => ∃ k : Nat, k ≤ m ∧ i = .int .i64 k ∧ Dn w g c1 A2 c2 n m (keepsB S C f k) C wr) (fun i _ => m - (intOf i).toNat)
  case atStart => exact ⟨0, by omega, rfl, HD.out⟩
  case round =>
    obtain ⟨k, hk, rfl, hd⟩ := hrel
    obtain ⟨x0, x1, x2, x3, y0, y1⟩ := hd.cells
    have y01 := y0 1
    have y10 := y1 0
    have y11 := y1 1
    clear y0 y1
    by_cases hlt : k < m
    · have hlen : k < C.length := by rw [HN.out.2.1]; exact hlt
      obtain ⟨gC, oC, rfl, hgC, hcC⟩ : ∃ g off, A2 = some ⟨g, off, none⟩ ∧ g < wr.heap.size ∧ ∀ k, k < (ints C).length → wr.cell? ⟨g, off + k * 2, none⟩ = some (.int .i64 ((ints C).getD k (0, ByteArray.empty)).1) ∧ wr.cell? ⟨g, off + k * 2 + 1, none⟩ = some (.string ((ints C).getD k (0, ByteArray.empty)).2) := by
        rcases hd.wrs.wrs with h0 | h0
        · have := congrArg List.length h0; rw [ints_length] at this; simp at this; subst this; simp at hlen
        · exact h0
      obtain ⟨q1, q2⟩ := hcC k (by rw [ints_length]; exact hlen)
      have hgi : (ints C).getD k (0, ByteArray.empty) = (((C.getD k (0, ByteArray.empty)).1 : Int), (C.getD k (0, ByteArray.empty)).2) := by
        simp [ints, List.getD_eq_getElem?_getD, List.getElem?_eq_getElem hlen]
      rw [hgi] at q1 q2
      have hat := HN.out.2.2.1 (C.getD k (0, ByteArray.empty)) (by rw [List.getD_eq_getElem?_getD, List.getElem?_eq_getElem hlen]; exact List.getElem_mem hlen)
      have hst : ∀ b : Bool, f k = b → keepsB S C f (k + 1) = if b = true then (keepsB S C f k).set (C.getD k (0, ByteArray.empty)).1 (C.getD k (0, ByteArray.empty)).2 else keepsB S C f k := fun b hb => by rw [keepsB, hb]
      obtain ⟨x, hx⟩ : ∃ x, C.getD k (0, ByteArray.empty) = x := ⟨_, rfl⟩
      rw [hx] at q1 q2 hat hst
      obtain ⟨p, t⟩ := x
      dsimp only at q1 q2 hat hst
      have hpl : p < (keepsB S C f k).length := by rw [keepsB_length]; exact hat
      have r1 := hd.row.cell hpl
      have r2 := hd.row.frozen p
      have hset := (hd.set hpl t).drew
      have hkl : (k : Int) < (m : Int) := by omega
      have hpn : (p : Int) < (n : Int) := by have := HN.out.1; omega
      have hbel := hd.bel
      have HD1 := Lib.hid hd
      have HD2 := Lib.hid hset
      have HST := Lib.hid hst
      have HB := Lib.hid hbel
      obtain ⟨u, hu⟩ : ∃ u, (keepsB S C f k).getD p ByteArray.empty = u := ⟨_, rfl⟩
      rw [hu] at r1
      clear hd hset hst hbel hcC hgi hx hat hpl hu hlen hgC
      cases all
      · have hfk := HN.out.2.2.2.2.1 k
        rw [Bool.false_or] at hfk
        obtain ⟨b, hb⟩ : ∃ b, K.contains (k : Int) = b := ⟨_, rfl⟩
        rw [hb] at hfk
        have HF := Lib.hid hfk
        have hkc := HK.out wr HB.out (k : Int) b hb
        have HKC := Lib.hid hkc
        clear hfk hb hkc
        go_upto_region 5 with fail
        go_wp2_with fail
        refine HKC.out.mono ?_
        rintro e w' ⟨rfl, rfl⟩
        cases b
        · go_wp2
          refine ⟨⟨k + 1, by omega, by go_num, by rw [HST.out _ HF.out, if_neg (by decide)]; exact HD1.out⟩, by simp [intOf]; omega⟩
        · go_upto_region 6 with fail
          go_region
          go_wp2
          go_round
          case rel => exact ⟨k + 1, by omega, by go_num, by rw [HST.out _ HF.out, if_pos rfl]; exact HD2.out⟩
          case measure => simp [intOf]; omega
      · have hfk := HN.out.2.2.2.2.1 k
        rw [Bool.true_or] at hfk
        have HF := Lib.hid hfk
        clear hfk
        go_upto_region 6 with fail
        go_region
        go_wp2
        go_round
        case rel => exact ⟨k + 1, by omega, by go_num, by rw [HST.out _ HF.out, if_pos rfl]; exact HD2.out⟩
        case measure => simp [intOf]; omega
    · obtain rfl : k = m := by omega
      have hend := hd.stop (.slice none 0 0) (.slice (some ⟨g, 0, none⟩) n c1) (.slice none 0 0)
      have hR := HN.out.2.2.2.1
      rw [HN.out.2.1] at hR
      rw [hR] at hend
      have HE := Lib.hid hend
      clear hend hR hd
      go_wp2
      obtain ⟨e0, e1, e2, e3⟩ := HE.out
      refine bodyPost_ret (v := .agg #[.slice (some ⟨g, 0, none⟩) n c1, .slice none 0 0]) (by simp [results, Tryz.results80, go_sem, e0, e1]) rfl ?_
      exact ⟨⟨g, c1, rfl, by have := HD.out.hg; omega, e2⟩, e3⟩
end Go.Proofs.YtfbakelpplpomaaGreatDoor.Disk
/-
  Two blocks of a function over the document's disk: the argument's, the result's.
-/
namespace Go.Proofs.YtfbakelpplpomaaGreatDoor.Disk
open Go.RowKit Go.Proofs.YtfbakelpplpomaaGreatDoor.DiskRows
set_option linter.unusedVariables false
set_option linter.unusedSimpArgs false
set_option maxRecDepth 100000

structure Bx (w : World) (b0 b1 b2 b3 b4 : Value) (W : World) : Prop where
  box : W.heap[w.heap.size]? = some (.cells #[b0, b1, b2, b3, b4] 54 (0, 0))
  res : W.heap[w.heap.size + 1]? = some (.cells #[.slice none 0 0, .slice none 0 0, .int .i64 0, .bool false, .int .i64 0] 54 (0, 0))
  bel : Below w.heap.size w W
theorem Bx.start (w : World) (b0 b1 b2 b3 b4 : Value) : Bx w b0 b1 b2 b3 b4 ((w.alloc (.cells #[b0, b1, b2, b3, b4] 54)).alloc (.cells #[.slice none 0 0, .slice none 0 0, .int .i64 0, .bool false, .int .i64 0] 54)) := by
  have e : (w.alloc (.cells #[b0, b1, b2, b3, b4] 54)).heap.size = w.heap.size + 1 := by simp
  refine ⟨?_, ?_, ((Below.refl _ _).alloc (Nat.le_refl _) _).alloc (by simp) _⟩
  · rw [Below.heap_alloc _ _ _ (by simp)]; exact heap_alloc_last _ _
  · rw [← e]; exact heap_alloc_last _ _
theorem Bx.lt {w W : World} {b0 b1 b2 b3 b4 : Value} (h : Bx w b0 b1 b2 b3 b4 W) : w.heap.size + 2 ≤ W.heap.size := (Array.getElem?_eq_some_iff.1 h.res).1
theorem Bx.later {w W W' : World} {b0 b1 b2 b3 b4 : Value} (h : Bx w b0 b1 b2 b3 b4 W) (k : Below W.heap.size W W') : Bx w b0 b1 b2 b3 b4 W' := by
  have := h.lt
  exact ⟨by rw [k.block _ (by omega)]; exact h.box, by rw [k.block _ (by omega)]; exact h.res, h.bel.trans (k.mono (by omega))⟩
theorem Bx.drew {w W : World} {b0 b1 b2 b3 b4 : Value} (h : Bx w b0 b1 b2 b3 b4 W) : Bx w b0 b1 b2 b3 b4 W.drew := h.later (Below.refl _ _).drew
theorem Bx.cells {w W : World} {b0 b1 b2 b3 b4 : Value} (h : Bx w b0 b1 b2 b3 b4 W) : W.cell? ⟨w.heap.size, 0, none⟩ = some b0 ∧ W.cell? ⟨w.heap.size, 1, none⟩ = some b1 ∧ W.cell? ⟨w.heap.size, 2, none⟩ = some b2 ∧ W.cell? ⟨w.heap.size, 3, none⟩ = some b3 ∧ W.cell? ⟨w.heap.size, 4, none⟩ = some b4 ∧ W.cell? ⟨w.heap.size + 1, 0, none⟩ = some (.slice none 0 0) ∧ W.cell? ⟨w.heap.size + 1, 1, none⟩ = some (.slice none 0 0) ∧ W.cell? ⟨w.heap.size + 1, 2, none⟩ = some (.int .i64 0) ∧ W.cell? ⟨w.heap.size + 1, 3, none⟩ = some (.bool false) ∧ W.cell? ⟨w.heap.size + 1, 4, none⟩ = some (.int .i64 0) ∧ (∀ i, W.frozen? ⟨w.heap.size, i, none⟩ = false) ∧ ∀ i, W.frozen? ⟨w.heap.size + 1, i, none⟩ = false :=
  ⟨(cell_of_row W _ 0 _ _ _ h.box).trans rfl, (cell_of_row W _ 1 _ _ _ h.box).trans rfl, (cell_of_row W _ 2 _ _ _ h.box).trans rfl, (cell_of_row W _ 3 _ _ _ h.box).trans rfl, (cell_of_row W _ 4 _ _ _ h.box).trans rfl, (cell_of_row W _ 0 _ _ _ h.res).trans rfl, (cell_of_row W _ 1 _ _ _ h.res).trans rfl, (cell_of_row W _ 2 _ _ _ h.res).trans rfl, (cell_of_row W _ 3 _ _ _ h.res).trans rfl, (cell_of_row W _ 4 _ _ _ h.res).trans rfl, fun i => frozen_of_row W _ i _ _ h.box, fun i => frozen_of_row W _ i _ _ h.res⟩
theorem Bx.put0 {w W : World} {b0 b1 b2 b3 b4 : Value} (h : Bx w b0 b1 b2 b3 b4 W) (u : Value) : Bx w u b1 b2 b3 b4 (W.setCell ⟨w.heap.size, 0, none⟩ u) :=
  ⟨by rw [Joins.block_setCell (i := 0) h.box]; rfl, by rw [Below.heap_setCell _ _ _ _ (by simp)]; exact h.res, h.bel.setCell (p := ⟨w.heap.size, 0, none⟩) (Nat.le_refl _) _⟩
theorem Bx.put1 {w W : World} {b0 b1 b2 b3 b4 : Value} (h : Bx w b0 b1 b2 b3 b4 W) (u : Value) : Bx w b0 u b2 b3 b4 (W.setCell ⟨w.heap.size, 1, none⟩ u) :=
  ⟨by rw [Joins.block_setCell (i := 1) h.box]; rfl, by rw [Below.heap_setCell _ _ _ _ (by simp)]; exact h.res, h.bel.setCell (p := ⟨w.heap.size, 1, none⟩) (Nat.le_refl _) _⟩
theorem Bx.put2 {w W : World} {b0 b1 b2 b3 b4 : Value} (h : Bx w b0 b1 b2 b3 b4 W) (u : Value) : Bx w b0 b1 u b3 b4 (W.setCell ⟨w.heap.size, 2, none⟩ u) :=
  ⟨by rw [Joins.block_setCell (i := 2) h.box]; rfl, by rw [Below.heap_setCell _ _ _ _ (by simp)]; exact h.res, h.bel.setCell (p := ⟨w.heap.size, 2, none⟩) (Nat.le_refl _) _⟩
theorem Bx.put3 {w W : World} {b0 b1 b2 b3 b4 : Value} (h : Bx w b0 b1 b2 b3 b4 W) (u : Value) : Bx w b0 b1 b2 u b4 (W.setCell ⟨w.heap.size, 3, none⟩ u) :=
  ⟨by rw [Joins.block_setCell (i := 3) h.box]; rfl, by rw [Below.heap_setCell _ _ _ _ (by simp)]; exact h.res, h.bel.setCell (p := ⟨w.heap.size, 3, none⟩) (Nat.le_refl _) _⟩
theorem Bx.put4 {w W : World} {b0 b1 b2 b3 b4 : Value} (h : Bx w b0 b1 b2 b3 b4 W) (u : Value) : Bx w b0 b1 b2 b3 u (W.setCell ⟨w.heap.size, 4, none⟩ u) :=
  ⟨by rw [Joins.block_setCell (i := 4) h.box]; rfl, by rw [Below.heap_setCell _ _ _ _ (by simp)]; exact h.res, h.bel.setCell (p := ⟨w.heap.size, 4, none⟩) (Nat.le_refl _) _⟩
theorem Bx.fin {w W : World} {b0 b1 b2 b3 b4 : Value} (h : Bx w b0 b1 b2 b3 b4 W) (u0 u1 u2 u3 u4 : Value) :
    ((((((W.setCell ⟨w.heap.size + 1, 0, none⟩ u0).setCell ⟨w.heap.size + 1, 1, none⟩ u1).setCell ⟨w.heap.size + 1, 2, none⟩ u2).setCell ⟨w.heap.size + 1, 3, none⟩ u3).setCell ⟨w.heap.size + 1, 4, none⟩ u4).cell? ⟨w.heap.size + 1, 0, none⟩ = some u0 ∧ (((((W.setCell ⟨w.heap.size + 1, 0, none⟩ u0).setCell ⟨w.heap.size + 1, 1, none⟩ u1).setCell ⟨w.heap.size + 1, 2, none⟩ u2).setCell ⟨w.heap.size + 1, 3, none⟩ u3).setCell ⟨w.heap.size + 1, 4, none⟩ u4).cell? ⟨w.heap.size + 1, 1, none⟩ = some u1 ∧ (((((W.setCell ⟨w.heap.size + 1, 0, none⟩ u0).setCell ⟨w.heap.size + 1, 1, none⟩ u1).setCell ⟨w.heap.size + 1, 2, none⟩ u2).setCell ⟨w.heap.size + 1, 3, none⟩ u3).setCell ⟨w.heap.size + 1, 4, none⟩ u4).cell? ⟨w.heap.size + 1, 2, none⟩ = some u2 ∧ (((((W.setCell ⟨w.heap.size + 1, 0, none⟩ u0).setCell ⟨w.heap.size + 1, 1, none⟩ u1).setCell ⟨w.heap.size + 1, 2, none⟩ u2).setCell ⟨w.heap.size + 1, 3, none⟩ u3).setCell ⟨w.heap.size + 1, 4, none⟩ u4).cell? ⟨w.heap.size + 1, 3, none⟩ = some u3 ∧ (((((W.setCell ⟨w.heap.size + 1, 0, none⟩ u0).setCell ⟨w.heap.size + 1, 1, none⟩ u1).setCell ⟨w.heap.size + 1, 2, none⟩ u2).setCell ⟨w.heap.size + 1, 3, none⟩ u3).setCell ⟨w.heap.size + 1, 4, none⟩ u4).cell? ⟨w.heap.size + 1, 4, none⟩ = some u4) ∧ Below w.heap.size w (((((W.setCell ⟨w.heap.size + 1, 0, none⟩ u0).setCell ⟨w.heap.size + 1, 1, none⟩ u1).setCell ⟨w.heap.size + 1, 2, none⟩ u2).setCell ⟨w.heap.size + 1, 3, none⟩ u3).setCell ⟨w.heap.size + 1, 4, none⟩ u4) ∧ (∀ A c l, OwnT (w.heap.size + 2) W A c l → OwnT (w.heap.size + 2) (((((W.setCell ⟨w.heap.size + 1, 0, none⟩ u0).setCell ⟨w.heap.size + 1, 1, none⟩ u1).setCell ⟨w.heap.size + 1, 2, none⟩ u2).setCell ⟨w.heap.size + 1, 3, none⟩ u3).setCell ⟨w.heap.size + 1, 4, none⟩ u4) A c l) ∧ (∀ A c C, OwnW (w.heap.size + 2) W A c C → OwnW (w.heap.size + 2) (((((W.setCell ⟨w.heap.size + 1, 0, none⟩ u0).setCell ⟨w.heap.size + 1, 1, none⟩ u1).setCell ⟨w.heap.size + 1, 2, none⟩ u2).setCell ⟨w.heap.size + 1, 3, none⟩ u3).setCell ⟨w.heap.size + 1, 4, none⟩ u4) A c C) := by
  have hc := Joins.block_setCell (i := 4) (Joins.block_setCell (i := 3) (Joins.block_setCell (i := 2) (Joins.block_setCell (i := 1) (Joins.block_setCell (i := 0) h.res u0) u1) u2) u3) u4
  refine ⟨⟨(cell_of_row _ _ 0 _ _ _ hc).trans rfl, (cell_of_row _ _ 1 _ _ _ hc).trans rfl, (cell_of_row _ _ 2 _ _ _ hc).trans rfl, (cell_of_row _ _ 3 _ _ _ hc).trans rfl, (cell_of_row _ _ 4 _ _ _ hc).trans rfl⟩, ?_, fun A c l hl => ?_, fun A c C hl => ?_⟩
  · exact ((((h.bel.setCell (p := ⟨w.heap.size + 1, 0, none⟩) (by simp) _).setCell (p := ⟨w.heap.size + 1, 1, none⟩) (by simp) _).setCell (p := ⟨w.heap.size + 1, 2, none⟩) (by simp) _).setCell (p := ⟨w.heap.size + 1, 3, none⟩) (by simp) _).setCell (p := ⟨w.heap.size + 1, 4, none⟩) (by simp) _
  · exact ((((hl.store (by simp) _).store (by simp) _).store (by simp) _).store (by simp) _).store (by simp) _
  · exact ((((hl.store (by simp) _).store (by simp) _).store (by simp) _).store (by simp) _).store (by simp) _
/-- its rows -/
def RAt (w : World) (A A' : Option Addr) (d : Dk) : Prop := Txs w A d.S ∧ Wrs w A' (ints d.C)
theorem RAt.later {w w' : World} {A A' : Option Addr} {d : Dk} (h : RAt w A A' d) (k : Below w.heap.size w w') : RAt w' A A' d := ⟨h.1.later k, h.2.later k⟩
/-- a row is the one that came, or lies in a new block -/
def Fresh (w : World) (A A1 : Option Addr) (n0 n : Nat) : Prop := n = 0 ∨ (A1 = A ∧ n = n0) ∨ ∃ g, A1 = some ⟨g, 0, none⟩ ∧ w.heap.size ≤ g
theorem OwnT.fresh {w W : World} {A A1 : Option Addr} {c n0 : Nat} {l : List ByteArray} (h : OwnT (w.heap.size + 2) W A1 c l) : Fresh w A A1 n0 l.length := by
  rcases h with rfl | ⟨g, rfl, hg, _⟩
  · exact .inl rfl
  · exact .inr (.inr ⟨g, rfl, by omega⟩)
theorem OwnW.fresh {w W : World} {A A1 : Option Addr} {c n n0 : Nat} {C : List (Int × ByteArray)} (h : OwnW (w.heap.size + 2) W A1 c C) (hn : C.length = n) : Fresh w A A1 n0 n := by
  subst hn
  rcases h with ⟨rfl, _⟩ | ⟨g, rfl, hg, _⟩
  · exact .inl rfl
  · exact .inr (.inr ⟨g, rfl, by omega⟩)
/-- the rows behind a call -/
structure RNew (w w' : World) (A A' A1 A2 : Option Addr) (d0 d : Dk) : Prop where
  rows : RAt w' A1 A2 d
  one : Fresh w A A1 d0.S.length d.S.length
  two : Fresh w A' A2 d0.C.length d.C.length
/-- a disk as small as it must be -/
structure Dk.Ok (d : Dk) : Prop where
  pos : 16 ≤ d.S.length
  most : d.S.length ≤ 4096
  few : d.C.length ≤ 100000
  ats : ∀ x ∈ d.C, x.1 < d.S.length
  low : d.armed ≤ 9223372036854775807 ∧ d.ops ≤ 1000000000000
theorem DiskAt.ok {base : Nat → Prop} {b : Nat} {d : Dk} {w : World} (h : DiskAt base b d w) : d.Ok := by
  obtain ⟨gS, cS, gH, cH, vC, h⟩ := h
  exact ⟨h.pos, h.most, h.few, h.ats, h.low⟩
end Go.Proofs.YtfbakelpplpomaaGreatDoor.Disk
