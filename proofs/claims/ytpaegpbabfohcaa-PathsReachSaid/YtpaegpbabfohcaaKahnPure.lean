/-
  Does one come back to some node: the plain law. Nodes to which no edge is left to go are taken away; all are, or there is a way back.
-/
import Derived.Test.YtpaegpbabfohcaaPathPure
namespace Go.Proofs.Ytpaegpbabfohcaa.KahnPure
open Go.Proofs.Ytpaegpbabfohcaa.PathPure
set_option linter.unusedSectionVars false
set_option linter.unusedSimpArgs false
set_option linter.unusedVariables false
variable {α : Type} [DecidableEq α] [Inhabited α]

structure St (α : Type) where
  left : α → Int
  free : List α
/-- one more edge to y -/
def more (f : α → Int) (x : Eg α) : α → Int := fun y => if y = x.tt then f y + 1 else f y
/-- one edge less -/
def less (f : α → Int) (x : Eg α) : α → Int := fun y => if y = x.tt then f y - 1 else f y
def count (E : List (Eg α)) : α → Int := E.foldl more (fun _ => 0)
def take (left : α → Int) (N : List α) : List α := N.filter (fun y => left y = 0)
def one (u : α) (s : St α) (x : Eg α) : St α := if x.fr = u then ⟨less s.left x, if less s.left x x.tt = 0 then s.free ++ [x.tt] else s.free⟩ else s
def st (N : List α) (E : List (Eg α)) : Nat → St α
  | 0 => ⟨count E, take (count E) N⟩
  | i + 1 => E.foldl (one ((st N E i).free.getD i default)) (st N E i)

def cnt (E : List (Eg α)) (D : List α) (y : α) : Nat := E.countP (fun x => x.tt = y ∧ x.fr ∉ D)
theorem cnt_nil (D : List α) (y : α) : cnt [] D y = 0 := rfl
theorem cnt_cons (x : Eg α) (E : List (Eg α)) (D : List α) (y : α) : cnt (x :: E) D y = cnt E D y + if x.tt = y ∧ x.fr ∉ D then 1 else 0 := by
  unfold cnt
  rw [List.countP_cons]
  simp only [decide_eq_true_eq]
theorem cnt_append (A B : List (Eg α)) (D : List α) (y : α) : cnt (A ++ B) D y = cnt A D y + cnt B D y := by
  unfold cnt; rw [List.countP_append]
theorem cnt_zero {E : List (Eg α)} {D : List α} {y : α} (h : cnt E D y = 0) : ∀ x ∈ E, x.tt = y → x.fr ∈ D := by
  unfold cnt at h
  rw [List.countP_eq_zero] at h
  intro x hx e
  have := h x hx
  simp [e] at this
  exact this
theorem cnt_pos {E : List (Eg α)} {D : List α} {y : α} (h : cnt E D y ≠ 0) : ∃ x ∈ E, x.tt = y ∧ x.fr ∉ D := by
  have : 0 < cnt E D y := by omega
  unfold cnt at this
  rw [List.countP_pos_iff] at this
  obtain ⟨x, hx, e⟩ := this
  simp at e
  exact ⟨x, hx, e⟩
theorem count_go (E : List (Eg α)) : ∀ (f : α → Int) y, E.foldl more f y = f y + cnt E [] y := by
  induction E with
  | nil => intro f y; simp [cnt]
  | cons x E ih =>
    intro f y
    rw [List.foldl_cons, ih, cnt_cons]
    unfold more
    by_cases e : y = x.tt
    · subst e; simp; omega
    · simp [e, Ne.symm e]
theorem count_is (E : List (Eg α)) (y : α) : count E y = cnt E [] y := by
  unfold count; rw [count_go]; simp

theorem getD_app {l t : List α} {i : Nat} (h : i < l.length) : (l ++ t).getD i default = l.getD i default := by
  rw [List.getD_eq_getElem?_getD, List.getD_eq_getElem?_getD, List.getElem?_append_left h]
theorem getD_mem {l : List α} {i : Nat} (h : i < l.length) : l.getD i default ∈ l := by
  rw [List.getD_eq_getElem?_getD, List.getElem?_eq_getElem h]
  exact List.getElem_mem h
theorem mem_getD {l : List α} {y : α} (h : y ∈ l) : ∃ i, i < l.length ∧ l.getD i default = y := by
  obtain ⟨i, hi, e⟩ := List.getElem_of_mem h
  refine ⟨i, hi, ?_⟩
  rw [List.getD_eq_getElem?_getD, List.getElem?_eq_getElem hi]
  exact e
theorem getD_inj {l : List α} (n : l.Nodup) {a b : Nat} (ha : a < l.length) (hb : b < l.length) (e : l.getD a default = l.getD b default) : a = b := by
  rw [List.getD_eq_getElem?_getD, List.getElem?_eq_getElem ha, List.getD_eq_getElem?_getD, List.getElem?_eq_getElem hb] at e
  have e : l[a] = l[b] := e
  rcases Nat.lt_trichotomy a b with q | q | q
  · exact absurd e (List.pairwise_iff_getElem.1 n a b ha hb q)
  · exact q
  · exact absurd e.symm (List.pairwise_iff_getElem.1 n b a hb ha q)

/-- where i nodes were gone on from, the next one along the edges A, not B -/
structure Inv (N : List α) (E : List (Eg α)) (D D' : List α) (A B : List (Eg α)) (i : Nat) (s : St α) : Prop where
  left : ∀ y, s.left y = (cnt A D' y + cnt B D y : Nat)
  nodup : s.free.Nodup
  sub : ∀ y ∈ s.free, y ∈ N
  mem : ∀ y ∈ N, s.left y = 0 → y ∈ s.free
  zero : ∀ y ∈ s.free, s.left y = 0
  ord : ∀ a, a < s.free.length → ∀ x ∈ E, x.tt = s.free.getD a default → ∃ b, b < a ∧ b < i ∧ x.fr = s.free.getD b default

theorem inv0 {N : List α} (hN : N.Nodup) (E : List (Eg α)) : Inv N E [] [] [] E 0 (st N E 0) where
  left := by intro y; show count E y = _; rw [count_is, cnt_nil]; simp
  nodup := hN.filter _
  sub := by intro y hy; exact (List.mem_filter.1 hy).1
  mem := by
    intro y hy h
    exact List.mem_filter.2 ⟨hy, decide_eq_true h⟩
  zero := by
    intro y hy
    have := (List.mem_filter.1 hy).2
    exact of_decide_eq_true this
  ord := by
    intro a ha x hx e
    have h1 : count E ((st N E 0).free.getD a default) = 0 := of_decide_eq_true (List.mem_filter.1 (getD_mem ha)).2
    rw [count_is] at h1
    have := cnt_zero (D := []) (by omega) x hx e
    cases this
theorem mem_take {l : List α} {i : Nat} {y : α} (h : y ∈ l.take i) : ∃ b, b < i ∧ b < l.length ∧ y = l.getD b default := by
  obtain ⟨k, hk, e⟩ := List.getElem_of_mem h
  rw [List.length_take] at hk
  rw [List.getElem_take] at e
  exact ⟨k, by omega, by omega, by rw [List.getD_eq_getElem?_getD, List.getElem?_eq_getElem (by omega)]; exact e.symm⟩
theorem inv_one {N : List α} {E : List (Eg α)} (hE : Within E N) {A B : List (Eg α)} {F : List α} {u : α} {i : Nat} {s : St α} {x : Eg α} (hAB : E = A ++ x :: B) (hu : s.free.getD i default = u) (hi : i < s.free.length) (hF : F = s.free.take i) (I : Inv N E F (F ++ [u]) A (x :: B) (i + 1) s) :
    Inv N E F (F ++ [u]) (A ++ [x]) B (i + 1) (one u s x) := by
  have hx : x ∈ E := by rw [hAB]; simp
  have huF : u ∉ F := by
    rw [hF]
    intro m
    obtain ⟨b, hb, hb2, e⟩ := mem_take m
    have := getD_inj I.nodup hb2 hi (e.symm.trans hu.symm)
    omega
  have inF : ∀ y ∈ F ++ [u], ∃ b, b < i + 1 ∧ b < s.free.length ∧ y = s.free.getD b default := fun y hy => by
    rcases List.mem_append.1 hy with hy | hy
    · rw [hF] at hy
      obtain ⟨b, hb, hb2, e⟩ := mem_take hy
      exact ⟨b, by omega, hb2, e⟩
    · simp at hy
      subst hy
      exact ⟨i, by omega, hi, hu.symm⟩
  unfold one
  by_cases hf : x.fr = u
  · rw [if_pos hf]
    have hc1 : ∀ y, cnt [x] (F ++ [u]) y = 0 := fun y => by rw [cnt_cons, cnt_nil, if_neg (by simp [hf])]
    have hc2 : ∀ y, cnt (x :: B) F y = cnt B F y + if x.tt = y then 1 else 0 := fun y => by
      rw [cnt_cons]
      congr 1
      by_cases e : x.tt = y
      · rw [if_pos ⟨e, by rw [hf]; exact huF⟩, if_pos e]
      · rw [if_neg (fun q => e q.1), if_neg e]
    have hl : ∀ y, less s.left x y = (cnt (A ++ [x]) (F ++ [u]) y + cnt B F y : Nat) := fun y => by
      rw [cnt_append, hc1]
      unfold less
      have := I.left y
      rw [hc2] at this
      by_cases e : y = x.tt
      · subst e; rw [if_pos rfl, this, if_pos rfl]; omega
      · rw [if_neg e, this, if_neg (Ne.symm e)]; omega
    have hpos : s.left x.tt ≠ 0 := by
      have := I.left x.tt
      rw [hc2, if_pos rfl] at this
      omega
    have hnf : x.tt ∉ s.free := fun m => hpos (I.zero _ m)
    have hun : ∀ y ∈ s.free, less s.left x y = s.left y := fun y hy => by
      unfold less; rw [if_neg]; rintro rfl; exact hnf hy
    by_cases hz : less s.left x x.tt = 0
    · simp only [hz, if_true]
      refine ⟨hl, ?_, ?_, ?_, ?_, ?_⟩
      · rw [List.nodup_append]
        refine ⟨I.nodup, by simp, ?_⟩
        intro a ha b hb
        simp at hb
        subst hb
        rintro rfl
        exact hnf ha
      · intro y hy
        rcases List.mem_append.1 hy with hy | hy
        · exact I.sub y hy
        · simp at hy; subst hy; exact (hE x hx).2
      · intro y hy h
        by_cases e : y = x.tt
        · subst e; simp
        · have h : less s.left x y = 0 := h
          unfold less at h
          rw [if_neg e] at h
          exact List.mem_append.2 (.inl (I.mem y hy h))
      · intro y hy
        rcases List.mem_append.1 hy with hy | hy
        · show less s.left x y = 0
          rw [hun y hy]; exact I.zero y hy
        · simp at hy; subst hy; exact hz
      · intro a ha z hz' e
        show ∃ b, b < a ∧ b < i + 1 ∧ z.fr = (s.free ++ [x.tt]).getD b default
        rcases Nat.lt_or_ge a s.free.length with q | q
        · have e : z.tt = (s.free ++ [x.tt]).getD a default := e
          rw [getD_app q] at e
          obtain ⟨b, h1, h2, h3⟩ := I.ord a q z hz' e
          exact ⟨b, h1, h2, by rw [getD_app (by omega)]; exact h3⟩
        · have ha : a < (s.free ++ [x.tt]).length := ha
          rw [List.length_append] at ha
          have ha : a < s.free.length + 1 := ha
          obtain rfl : a = s.free.length := by omega
          have e : z.tt = (s.free ++ [x.tt]).getD s.free.length default := e
          rw [List.getD_eq_getElem?_getD, List.getElem?_append_right (Nat.le_refl _)] at e
          simp at e
          have hz2 := hl x.tt
          rw [hz] at hz2
          have h0 : cnt (A ++ [x]) (F ++ [u]) x.tt = 0 ∧ cnt B F x.tt = 0 := by omega
          have hfr : z.fr ∈ F ++ [u] := by
            rw [hAB] at hz'
            rcases List.mem_append.1 hz' with m | m
            · exact cnt_zero h0.1 z (by simp [m]) e
            · rcases List.mem_cons.1 m with rfl | m
              · exact cnt_zero h0.1 z (by simp) e
              · exact List.mem_append.2 (.inl (cnt_zero h0.2 z m e))
          obtain ⟨b, h1, h2, h3⟩ := inF _ hfr
          exact ⟨b, h2, h1, by rw [getD_app h2]; exact h3⟩
    · simp only [hz, if_false]
      refine ⟨hl, I.nodup, I.sub, ?_, ?_, I.ord⟩
      · intro y hy h
        have h : less s.left x y = 0 := h
        by_cases e : y = x.tt
        · subst e; exact absurd h hz
        · unfold less at h
          rw [if_neg e] at h
          exact I.mem y hy h
      · intro y hy
        show less s.left x y = 0
        rw [hun y hy]; exact I.zero y hy
  · rw [if_neg hf]
    refine { I with left := fun y => ?_ }
    rw [I.left y, cnt_append, cnt_cons x B, cnt_cons x [], cnt_nil]
    have : (x.tt = y ∧ x.fr ∉ F ++ [u]) ↔ (x.tt = y ∧ x.fr ∉ F) := by
      simp [hf]
    by_cases q : x.tt = y ∧ x.fr ∉ F
    · rw [if_pos q, if_pos (this.2 q)]; omega
    · rw [if_neg q, if_neg (fun p => q (this.1 p))]; omega
theorem one_pre (u : α) (s : St α) (x : Eg α) : ∃ t, (one u s x).free = s.free ++ t := by
  unfold one
  split
  · split
    · exact ⟨_, rfl⟩
    · exact ⟨[], by simp⟩
  · exact ⟨[], by simp⟩
theorem inv_go {N : List α} {E : List (Eg α)} (hE : Within E N) {F : List α} {u : α} {i : Nat} : ∀ (B A : List (Eg α)) (s : St α), E = A ++ B → s.free.getD i default = u → i < s.free.length → F = s.free.take i → Inv N E F (F ++ [u]) A B (i + 1) s → Inv N E F (F ++ [u]) E [] (i + 1) (B.foldl (one u) s) ∧ ∃ t, (B.foldl (one u) s).free = s.free ++ t := by
  intro B
  induction B with
  | nil =>
    intro A s hAB hu hi hF I
    rw [List.append_nil] at hAB
    subst hAB
    exact ⟨I, [], by simp⟩
  | cons x B ih =>
    intro A s hAB hu hi hF I
    have I2 := inv_one hE hAB hu hi hF I
    obtain ⟨t, ht⟩ := one_pre u s x
    have hi2 : i < (one u s x).free.length := by rw [ht, List.length_append]; omega
    obtain ⟨h1, t2, h2⟩ := ih (A ++ [x]) (one u s x) (by rw [hAB]; simp) (by rw [ht, getD_app hi]; exact hu) hi2 (by rw [ht, hF, List.take_append_of_le_length (by omega)]) I2
    exact ⟨h1, t ++ t2, by rw [List.foldl_cons, h2, ht]; simp⟩
theorem cnt_same {E : List (Eg α)} {D D' : List α} (h : ∀ y, y ∈ D ↔ y ∈ D') (y : α) : cnt E D y = cnt E D' y := by
  unfold cnt
  congr 1
  funext x
  simp [h]
/-- between the rounds -/
structure Out (N : List α) (E : List (Eg α)) (i : Nat) (s : St α) : Prop where
  le : i ≤ s.free.length
  inv : Inv N E (s.free.take i) [] [] E i s
theorem out_step {N : List α} {E : List (Eg α)} (hE : Within E N) {i : Nat} {s : St α} (I : Out N E i s) (hi : i < s.free.length) : Out N E (i + 1) (E.foldl (one (s.free.getD i default)) s) ∧ ∃ t, (E.foldl (one (s.free.getD i default)) s).free = s.free ++ t := by
  obtain ⟨I2, t, ht⟩ := inv_go hE (F := s.free.take i) (u := s.free.getD i default) E [] s rfl rfl hi rfl
    { I.inv with
      left := fun y => by rw [I.inv.left y]; rfl
      ord := fun a ha x hx e => by
        obtain ⟨b, h1, h2, h3⟩ := I.inv.ord a ha x hx e
        exact ⟨b, h1, by omega, h3⟩ }
  refine ⟨⟨by rw [ht, List.length_append]; omega, { I2 with left := fun y => ?_ }⟩, t, ht⟩
  rw [I2.left y, ht]
  have : ∀ z, z ∈ s.free.take i ++ [s.free.getD i default] ↔ z ∈ (s.free ++ t).take (i + 1) := fun z => by
    rw [List.take_append_of_le_length (by omega), List.take_succ_eq_append_getElem hi]
    rw [List.getD_eq_getElem?_getD, List.getElem?_eq_getElem hi]; rfl
  rw [cnt_same this, cnt_nil, cnt_nil]; omega
theorem out0 {N : List α} (hN : N.Nodup) (E : List (Eg α)) : Out N E 0 (st N E 0) where
  le := Nat.zero_le _
  inv := inv0 hN E
theorem out_st {N : List α} (hN : N.Nodup) {E : List (Eg α)} (hE : Within E N) : ∀ i, (∀ j, j < i → j < (st N E j).free.length) → Out N E i (st N E i)
  | 0, _ => out0 hN E
  | i + 1, h => (out_step hE (out_st hN hE i fun j hj => h j (by omega)) (h i (by omega))).1
theorem st_len {N : List α} {E : List (Eg α)} {i : Nat} {s : St α} (I : Out N E i s) : s.free.length ≤ N.length := I.inv.nodup.length_le_of_subset I.inv.sub
theorem st_len1 {N : List α} {E : List (Eg α)} {F D A B} {i : Nat} {s : St α} (I : Inv N E F D A B i s) : s.free.length ≤ N.length := I.nodup.length_le_of_subset I.sub

/-- within a round -/
def mid (N : List α) (E : List (Eg α)) (i k : Nat) : St α := (E.take k).foldl (one ((st N E i).free.getD i default)) (st N E i)
theorem mid_zero (N : List α) (E : List (Eg α)) (i : Nat) : mid N E i 0 = st N E i := by simp [mid]
theorem mid_all (N : List α) (E : List (Eg α)) (i : Nat) : mid N E i E.length = st N E (i + 1) := by simp [mid, st]
theorem mid_succ {N : List α} {E : List (Eg α)} {i k : Nat} (hk : k < E.length) : mid N E i (k + 1) = one ((st N E i).free.getD i default) (mid N E i k) (eg E k) := by
  unfold mid
  rw [List.take_succ_eq_append_getElem hk, List.foldl_append]
  simp [eg, hk]
theorem mid_inv {N : List α} {E : List (Eg α)} (hE : Within E N) {i : Nat} (I : Out N E i (st N E i)) (hi : i < (st N E i).free.length) : ∀ k, k ≤ E.length → Inv N E ((st N E i).free.take i) ((st N E i).free.take i ++ [(st N E i).free.getD i default]) (E.take k) (E.drop k) (i + 1) (mid N E i k) ∧ ∃ t, (mid N E i k).free = (st N E i).free ++ t
  | 0, _ => by
    rw [mid_zero]
    exact ⟨{ I.inv with
      left := fun y => by rw [I.inv.left y]; simp [cnt_nil]
      ord := fun a ha x hx e => by
        obtain ⟨b, h1, h2, h3⟩ := I.inv.ord a ha x hx e
        exact ⟨b, h1, by omega, h3⟩ }, [], by simp⟩
  | k + 1, hk => by
    obtain ⟨I2, t, ht⟩ := mid_inv hE I hi k (by omega)
    have hk' : k < E.length := by omega
    have hd : E.drop k = eg E k :: E.drop (k + 1) := by
      rw [List.drop_eq_getElem_cons hk']
      simp [eg, hk']
    have ht2 : E.take (k + 1) = E.take k ++ [eg E k] := by
      rw [List.take_succ_eq_append_getElem hk']
      simp [eg, hk']
    rw [hd] at I2
    have hlen : i < (mid N E i k).free.length := by rw [ht, List.length_append]; omega
    have I3 := inv_one hE (by rw [← hd, List.take_append_drop]) (by rw [ht, getD_app hi]) hlen (by rw [ht, List.take_append_of_le_length (by omega)]) I2
    obtain ⟨t2, e2⟩ := one_pre ((st N E i).free.getD i default) (mid N E i k) (eg E k)
    rw [mid_succ hk', ht2]
    exact ⟨I3, t ++ t2, by rw [e2, ht]; simp⟩
theorem cnt_le (E : List (Eg α)) (D : List α) (y : α) : cnt E D y ≤ E.length := List.countP_le_length
theorem mid_bound {N : List α} {E : List (Eg α)} (hE : Within E N) {i : Nat} (I : Out N E i (st N E i)) (hi : i < (st N E i).free.length) {k : Nat} (hk : k ≤ E.length) : (∀ y, 0 ≤ (mid N E i k).left y ∧ (mid N E i k).left y ≤ E.length) ∧ (mid N E i k).free.length ≤ N.length ∧ i < (mid N E i k).free.length ∧ (mid N E i k).free.getD i default = (st N E i).free.getD i default := by
  obtain ⟨I2, t, ht⟩ := mid_inv hE I hi k hk
  refine ⟨fun y => ?_, st_len1 I2, by rw [ht, List.length_append]; omega, by rw [ht, getD_app hi]⟩
  rw [I2.left y]
  have h1 := cnt_le (E.take k) ((st N E i).free.take i ++ [(st N E i).free.getD i default]) y
  have h2 := cnt_le (E.drop k) ((st N E i).free.take i) y
  rw [List.length_take] at h1
  rw [List.length_drop] at h2
  omega
def cntTo (E : List (Eg α)) (k : Nat) : α → Int := (E.take k).foldl more (fun _ => 0)
theorem cntTo_zero (E : List (Eg α)) (y : α) : cntTo E 0 y = 0 := by simp [cntTo]
theorem cntTo_all (E : List (Eg α)) : cntTo E E.length = count E := by simp [cntTo, count]
theorem cntTo_succ {E : List (Eg α)} {k : Nat} (hk : k < E.length) : cntTo E (k + 1) = more (cntTo E k) (eg E k) := by
  unfold cntTo
  rw [List.take_succ_eq_append_getElem hk, List.foldl_append]
  simp [eg, hk]
theorem cntTo_bound (E : List (Eg α)) (k : Nat) (y : α) : 0 ≤ cntTo E k y ∧ cntTo E k y ≤ k := by
  unfold cntTo
  rw [count_go]
  have := cnt_le (E.take k) [] y
  rw [List.length_take] at this
  omega
theorem count_bound (E : List (Eg α)) (y : α) : 0 ≤ count E y ∧ count E y ≤ E.length := by
  rw [← cntTo_all]; exact cntTo_bound E _ y
def takeTo (left : α → Int) (N : List α) (k : Nat) : List α := take left (N.take k)
theorem takeTo_all (left : α → Int) (N : List α) : takeTo left N N.length = take left N := by simp [takeTo]
theorem takeTo_succ {left : α → Int} {N : List α} {k : Nat} (hk : k < N.length) : takeTo left N (k + 1) = if left (N.getD k default) = 0 then takeTo left N k ++ [N.getD k default] else takeTo left N k := by
  unfold takeTo take
  rw [List.take_succ_eq_append_getElem hk, List.filter_append]
  have : N.getD k default = N[k] := by rw [List.getD_eq_getElem?_getD, List.getElem?_eq_getElem hk]; rfl
  rw [this]
  split
  · rename_i h; simp [h]
  · rename_i h; simp [h]
theorem takeTo_len (left : α → Int) (N : List α) (k : Nat) : (takeTo left N k).length ≤ k := by
  unfold takeTo take
  refine Nat.le_trans (List.length_filter_le _ _) ?_
  rw [List.length_take]; omega
/-! ## what it tells -/
def Cyc (E : List (Eg α)) : Prop := ∃ x ∈ E, ∃ d, Walk E x.tt x.fr d
/-- all is done -/
structure End (N : List α) (E : List (Eg α)) (free : List α) : Prop where
  nodup : free.Nodup
  sub : ∀ y ∈ free, y ∈ N
  rest : ∀ y ∈ N, y ∉ free → ∃ x ∈ E, x.tt = y ∧ x.fr ∉ free
  ord : ∀ a, a < free.length → ∀ x ∈ E, x.tt = free.getD a default → ∃ b, b < a ∧ x.fr = free.getD b default
theorem Out.done {N : List α} {E : List (Eg α)} {i : Nat} {s : St α} (I : Out N E i s) (h : s.free.length ≤ i) : End N E s.free where
  nodup := I.inv.nodup
  sub := I.inv.sub
  rest := by
    intro y hy hn
    have h1 : s.left y ≠ 0 := fun q => hn (I.inv.mem y hy q)
    have h2 := I.inv.left y
    rw [cnt_nil, List.take_of_length_le h] at h2
    exact cnt_pos (by omega)
  ord := by
    intro a ha x hx e
    obtain ⟨b, h1, -, h2⟩ := I.inv.ord a ha x hx e
    exact ⟨b, h1, h2⟩
theorem End.no {N : List α} {E : List (Eg α)} (hE : Within E N) {F : List α} (I : End N E F) (h : N.length ≤ F.length) : ¬ Cyc E := by
  have all : ∀ y ∈ N, y ∈ F := fun y hy => by
    by_cases q : y ∈ F
    · exact q
    · have : (y :: F).Nodup := List.nodup_cons.2 ⟨q, I.nodup⟩
      have := this.length_le_of_subset (l₂ := N) (fun z hz => by
        rcases List.mem_cons.1 hz with rfl | hz
        · exact hy
        · exact I.sub z hz)
      simp at this
      omega
  have key : ∀ {s v : α} {d : Nat}, Walk E s v d → ∀ a, a < F.length → F.getD a default = v → ∃ b, b ≤ a ∧ s = F.getD b default := by
    intro s v d w
    induction w with
    | nil => intro a _ e; exact ⟨a, Nat.le_refl _, e.symm⟩
    | snoc w hx he ih =>
      intro a ha e
      obtain ⟨b, hb, e2⟩ := I.ord a ha _ hx e.symm
      obtain ⟨c, hc, e3⟩ := ih b (by omega) (by rw [← e2, he])
      exact ⟨c, by omega, e3⟩
  rintro ⟨x, hx, d, w⟩
  obtain ⟨a, ha, ea⟩ := mem_getD (all _ (hE x hx).1)
  obtain ⟨b, hb, eb⟩ := key w a ha ea
  obtain ⟨c, hc, ec⟩ := I.ord b (by omega) x hx eb
  have := getD_inj I.nodup ha (by omega) (ea.trans ec)
  omega
open Classical in
theorem End.yes {N : List α} (hN : N.Nodup) {E : List (Eg α)} (hE : Within E N) {F : List α} (I : End N E F) (h : F.length < N.length) : Cyc E := by
  refine Classical.byContradiction fun hc => ?_
  let R (v : α) : List α := N.filter (fun u => decide (∃ d, Walk E u v d))
  have none : ∀ m (v : α), (R v).length ≤ m → v ∈ N → v ∈ F := by
    intro m
    induction m with
    | zero =>
      intro v hm hv
      have : v ∈ R v := List.mem_filter.2 ⟨hv, decide_eq_true ⟨0, .nil⟩⟩
      have := List.length_pos_of_mem this
      omega
    | succ m ih =>
      intro v hm hv
      by_cases q : v ∈ F
      · exact q
      · obtain ⟨x, hx, e, hn⟩ := I.rest v hv q
        refine absurd (ih x.fr ?_ (hE x hx).1) hn
        have hvR : v ∉ R x.fr := fun m => by
          obtain ⟨d, w⟩ := of_decide_eq_true (List.mem_filter.1 m).2
          exact hc ⟨x, hx, d, by rw [e]; exact w⟩
        have h1 : (v :: R x.fr).Nodup := List.nodup_cons.2 ⟨hvR, hN.filter _⟩
        have h2 := h1.length_le_of_subset (l₂ := R v) (fun z hz => by
          rcases List.mem_cons.1 hz with rfl | hz
          · exact List.mem_filter.2 ⟨hv, decide_eq_true ⟨0, .nil⟩⟩
          · obtain ⟨h3, h4⟩ := List.mem_filter.1 hz
            obtain ⟨d, w⟩ := of_decide_eq_true h4
            exact List.mem_filter.2 ⟨h3, decide_eq_true ⟨d + 1, by rw [← e]; exact .snoc w hx rfl⟩⟩)
        simp at h2
        omega
  have := hN.length_le_of_subset (l₂ := F) (fun y hy => none _ y (Nat.le_refl _) hy)
  omega
end Go.Proofs.Ytpaegpbabfohcaa.KahnPure
