/-
  container/heap over numbers of which the greatest is next: the plain law, over a function from places to numbers.
-/
set_option linter.unusedSimpArgs false
namespace Go.Proofs.Ytpaegpbabfohcaa.HeapPure
def swap (f : Nat → Int) (i j : Nat) : Nat → Int := fun k => if k = i then f j else if k = j then f i else f k
/-- none is greater than what it hangs under -/
def Heap (f : Nat → Int) (n : Nat) : Prop := ∀ c, 0 < c → c < n → f c ≤ f ((c - 1) / 2)
/-- .. but for the one at j, which may be too great -/
def Up (f : Nat → Int) (n j : Nat) : Prop := (∀ c, 0 < c → c < n → c ≠ j → f c ≤ f ((c - 1) / 2)) ∧ ∀ c, 0 < c → c < n → (c - 1) / 2 = j → 0 < j → f c ≤ f ((j - 1) / 2)
/-- .. but for the one at i, which may be too small -/
def Down (f : Nat → Int) (n i : Nat) : Prop := (∀ c, 0 < c → c < n → (c - 1) / 2 ≠ i → f c ≤ f ((c - 1) / 2)) ∧ ∀ c, 0 < c → c < n → (c - 1) / 2 = i → 0 < i → f c ≤ f ((i - 1) / 2)

theorem up_start {f : Nat → Int} {n : Nat} (h : Heap f n) : Up f (n + 1) n :=
  ⟨fun c h0 h1 h2 => h c h0 (by omega), fun c h0 h1 h2 _ => by omega⟩
theorem up_done {f : Nat → Int} {n j : Nat} (h : Up f n j) (hd : j = 0 ∨ f j ≤ f ((j - 1) / 2)) : Heap f n := fun c h0 h1 => by
  by_cases q : c = j
  · subst q
    rcases hd with hd | hd
    · omega
    · exact hd
  · exact h.1 c h0 h1 q
theorem up_step {f : Nat → Int} {n j : Nat} (h : Up f n j) (hj : 0 < j) (hn : j < n) (hg : f ((j - 1) / 2) < f j) : Up (swap f ((j - 1) / 2) j) n ((j - 1) / 2) := by
  obtain ⟨h1, h2⟩ := h
  generalize hp : (j - 1) / 2 = p at *
  have hpj : p < j := by omega
  refine ⟨fun c c0 cn cp => ?_, fun c c0 cn cp p0 => ?_⟩
  · unfold swap
    rw [if_neg cp]
    by_cases q : c = j
    · subst q
      rw [if_pos rfl, hp, if_pos rfl]
      omega
    · rw [if_neg q]
      have b := h1 c c0 cn q
      by_cases a : (c - 1) / 2 = p
      · rw [if_pos a]
        rw [a] at b
        omega
      · rw [if_neg a]
        by_cases e : (c - 1) / 2 = j
        · rw [if_pos e]
          have := h2 c c0 cn e hj
          exact this
        · rw [if_neg e]; exact b
  · have hpp : (p - 1) / 2 ≠ p := by omega
    have hpq : (p - 1) / 2 ≠ j := by omega
    have hbp := h1 p p0 (by omega) (by omega)
    unfold swap
    rw [if_neg hpp, if_neg hpq]
    have cne : c ≠ p := by omega
    rw [if_neg cne]
    by_cases q : c = j
    · rw [if_pos q]; exact hbp
    · rw [if_neg q]
      have b := h1 c c0 cn q
      rw [cp] at b
      omega
theorem down_done {f : Nat → Int} {n i : Nat} (h : Down f n i) (hd : ∀ c, 0 < c → c < n → (c - 1) / 2 = i → f c ≤ f i) : Heap f n := fun c h0 h1 => by
  by_cases q : (c - 1) / 2 = i
  · rw [q]; exact hd c h0 h1 q
  · exact h.1 c h0 h1 q
/-- what hangs under the first one, once the last one has come there -/
theorem down_start {f : Nat → Int} {n : Nat} (h : Heap f (n + 1)) : Down (swap f 0 n) n 0 := by
  refine ⟨fun c c0 cn cp => ?_, fun c c0 cn cp z => by omega⟩
  unfold swap
  rw [if_neg (by omega), if_neg (by omega), if_neg cp, if_neg (by omega)]
  exact h c c0 (by omega)
theorem down_step {f : Nat → Int} {n i j : Nat} (h : Down f n i) (hj0 : 0 < j) (hjn : j < n) (hji : (j - 1) / 2 = i) (hbest : ∀ c, 0 < c → c < n → (c - 1) / 2 = i → f c ≤ f j) (hg : f i < f j) : Down (swap f i j) n j := by
  obtain ⟨h1, h2⟩ := h
  have hij : i < j := by omega
  refine ⟨fun c c0 cn cp => ?_, fun c c0 cn cp _ => ?_⟩
  · unfold swap
    rw [if_neg cp]
    by_cases a : (c - 1) / 2 = i
    · rw [if_pos a]
      have ci : c ≠ i := by omega
      rw [if_neg ci]
      by_cases q : c = j
      · rw [if_pos q]; omega
      · rw [if_neg q]; exact hbest c c0 cn a
    · rw [if_neg a]
      by_cases q : c = i
      · rw [if_pos q]
        subst q
        exact h2 j hj0 hjn hji c0
      · rw [if_neg q]
        have cj : c ≠ j := fun e => a (by rw [e]; exact hji)
        rw [if_neg cj]
        exact h1 c c0 cn a
  · unfold swap
    rw [hji, if_pos rfl]
    have ci : c ≠ i := by omega
    have cj : c ≠ j := by omega
    rw [if_neg ci, if_neg cj]
    have := h1 c c0 cn (by omega)
    rw [cp] at this
    exact this
theorem heap_top {f : Nat → Int} {n : Nat} (h : Heap f n) : ∀ c, c < n → f c ≤ f 0 := by
  intro c
  induction c using Nat.strongRecOn with
  | ind c ih =>
    intro hc
    rcases Nat.eq_zero_or_pos c with rfl | h0
    · exact Int.le_refl _
    · exact Int.le_trans (h c h0 hc) (ih ((c - 1) / 2) (by omega) (by omega))

/-! ## over lists -/
/-- two places' numbers change places -/
def swapL (q : List Int) (i j : Nat) : List Int := (q.set i (q.getD j 0)).set j (q.getD i 0)
theorem swapL_length (q : List Int) (i j : Nat) : (swapL q i j).length = q.length := by simp [swapL]
theorem swapL_get (q : List Int) (i j : Nat) (hi : i < q.length) (hj : j < q.length) : (fun k => (swapL q i j).getD k 0) = swap (fun k => q.getD k 0) i j := by
  funext k
  show (swapL q i j).getD k 0 = if k = i then q.getD j 0 else if k = j then q.getD i 0 else q.getD k 0
  unfold swapL
  simp only [List.getD_eq_getElem?_getD, List.getElem?_set]
  by_cases a : j = k
  · subst a
    by_cases b : j = i
    · subst b; simp [hj]
    · simp [hj, b]
  · by_cases b : i = k
    · subst b; simp [a, hi]
    · simp [a, b, Ne.symm a, Ne.symm b]
theorem swapL_perm (q : List Int) (i j : Nat) (hi : i < q.length) (hj : j < q.length) : (swapL q i j).Perm q := by
  unfold swapL
  have e1 : q.getD i 0 = q[i] := by simp [List.getD_eq_getElem?_getD, hi]
  have e2 : q.getD j 0 = q[j] := by simp [List.getD_eq_getElem?_getD, hj]
  rw [e1, e2]
  exact List.set_set_perm hi hj
/-- the first n of a list are a heap -/
def HeapL (q : List Int) (n : Nat) : Prop := Heap (fun k => q.getD k 0) n
def UpL (q : List Int) (n j : Nat) : Prop := Up (fun k => q.getD k 0) n j
def DownL (q : List Int) (n i : Nat) : Prop := Down (fun k => q.getD k 0) n i
theorem upL_start {q : List Int} (x : Int) (h : HeapL q q.length) : UpL (q ++ [x]) (q.length + 1) q.length := by
  refine up_start fun c c0 cn => ?_
  have h := h c c0 cn
  have e : ∀ k, k < q.length → (q ++ [x]).getD k 0 = q.getD k 0 := fun k hk => by
    simp [List.getD_eq_getElem?_getD, List.getElem?_append_left hk]
  show (q ++ [x]).getD c 0 ≤ (q ++ [x]).getD ((c - 1) / 2) 0
  rw [e _ cn, e _ (by omega)]
  exact h
theorem upL_step {q : List Int} {n j : Nat} (h : UpL q n j) (hn : n ≤ q.length) (hj : 0 < j) (hjn : j < n) (hg : q.getD ((j - 1) / 2) 0 < q.getD j 0) : UpL (swapL q ((j - 1) / 2) j) n ((j - 1) / 2) := by
  unfold UpL
  rw [swapL_get q _ _ (by omega) (by omega)]
  exact up_step h hj hjn hg
theorem downL_start {q : List Int} {n : Nat} (hl : q.length = n + 1) (h : HeapL q (n + 1)) : DownL (swapL q 0 n) n 0 := by
  unfold DownL
  rw [swapL_get q _ _ (by omega) (by omega)]
  exact down_start h
theorem downL_step {q : List Int} {n i j : Nat} (h : DownL q n i) (hn : n ≤ q.length) (hj0 : 0 < j) (hjn : j < n) (hji : (j - 1) / 2 = i) (hbest : ∀ c, 0 < c → c < n → (c - 1) / 2 = i → q.getD c 0 ≤ q.getD j 0) (hg : q.getD i 0 < q.getD j 0) : DownL (swapL q i j) n j := by
  unfold DownL
  rw [swapL_get q _ _ (by omega) (by omega)]
  exact down_step h hj0 hjn hji hbest hg
theorem swapL_same {q : List Int} {i j k : Nat} (hi : i < q.length) (hj : j < q.length) (a : k ≠ i) (b : k ≠ j) : (swapL q i j).getD k 0 = q.getD k 0 := by
  have := congrFun (swapL_get q i j hi hj) k
  rw [show (swapL q i j).getD k 0 = _ from this]
  show (if k = i then _ else if k = j then _ else _) = _
  rw [if_neg a, if_neg b]
theorem take_perm {q p : List Int} {n : Nat} (hl : p.length = n + 1) (hp : p.Perm q) : (p.getD n 0 :: p.take n).Perm q := by
  have e : p = p.take n ++ [p.getD n 0] := by
    have h1 : p.drop n = [p.getD n 0] := by
      rw [List.drop_eq_getElem_cons (by omega), List.drop_eq_nil_of_le (by omega)]
      simp [List.getD_eq_getElem?_getD, show n < p.length by omega]
    rw [← h1, List.take_append_drop]
  refine .trans ?_ hp
  conv => rhs; rw [e]
  exact (List.perm_append_singleton _ _).symm
theorem heapL_take {q : List Int} {n : Nat} (h : HeapL q n) (hn : n ≤ q.length) : HeapL (q.take n) (q.take n).length := by
  have hl : (q.take n).length = n := by simp; omega
  rw [hl]
  intro c c0 cn
  have := h c c0 cn
  have e : ∀ k, k < n → (q.take n).getD k 0 = q.getD k 0 := fun k hk => by simp [List.getD_eq_getElem?_getD, List.getElem?_take, hk]
  show (q.take n).getD c 0 ≤ (q.take n).getD ((c - 1) / 2) 0
  rw [e _ cn, e _ (by omega)]
  exact this
theorem heapL_top {q : List Int} {n : Nat} (h : HeapL q n) (hn : q.length = n) : ∀ y ∈ q, y ≤ q.getD 0 0 := by
  intro y hy
  obtain ⟨k, hk, rfl⟩ := List.getElem_of_mem hy
  have := heap_top h k (by omega)
  simpa [List.getD_eq_getElem?_getD, hk] using this
end Go.Proofs.Ytpaegpbabfohcaa.HeapPure
