/-
  Parts that hang together: the plain law. Roots of joined places are what rounds of least labels tell.
-/
import Derived.Test.YtpaegpbabfohcaaPathPure
namespace Go.Proofs.Ytpaegpbabfohcaa.PartsPure
open Go.Proofs.Ytpaegpbabfohcaa.PathPure
set_option linter.unusedSectionVars false
set_option linter.unusedSimpArgs false
set_option linter.unusedVariables false

/-- the root of a place -/
def rt (p : Nat → Nat) (i : Nat) : Nat := if h : p i < i then rt p (p i) else i
termination_by i
def Low (p : Nat → Nat) : Prop := ∀ i, p i ≤ i
def up (p : Nat → Nat) (i v : Nat) : Nat → Nat := fun y => if y = i then v else p y
theorem up_at (p : Nat → Nat) (i v : Nat) : up p i v i = v := by unfold up; rw [if_pos rfl]
theorem up_ne {p : Nat → Nat} {i v j : Nat} (h : j ≠ i) : up p i v j = p j := by unfold up; rw [if_neg h]
theorem rt_lt {p : Nat → Nat} {i : Nat} (h : p i < i) : rt p i = rt p (p i) := by rw [rt, dif_pos h]
theorem rt_self {p : Nat → Nat} {i : Nat} (h : p i = i) : rt p i = i := by rw [rt, dif_neg (by omega)]
theorem rt_le {p : Nat → Nat} : ∀ i, rt p i ≤ i := by
  intro i
  induction i using Nat.strongRecOn with
  | ind i ih =>
    by_cases h : p i < i
    · rw [rt_lt h]; have := ih _ h; omega
    · rw [rt, dif_neg h]; exact Nat.le_refl _
theorem rt_root {p : Nat → Nat} (hp : Low p) : ∀ i, p (rt p i) = rt p i := by
  intro i
  induction i using Nat.strongRecOn with
  | ind i ih =>
    by_cases h : p i < i
    · rw [rt_lt h]; exact ih _ h
    · have := hp i
      rw [rt_self (by omega)]; omega
theorem rt_rt {p : Nat → Nat} (hp : Low p) (i : Nat) : rt p (rt p i) = rt p i := rt_self (rt_root hp i)
theorem rt_p {p : Nat → Nat} (hp : Low p) (i : Nat) : rt p (p i) = rt p i := by
  by_cases h : p i < i
  · rw [rt_lt h]
  · have := hp i
    rw [show p i = i by omega]
theorem half_low {p : Nat → Nat} (hp : Low p) (i : Nat) : Low (up p i (p (p i))) := by
  intro j
  by_cases e : j = i
  · subst e; rw [up_at]; exact Nat.le_trans (hp _) (hp _)
  · rw [up_ne e]; exact hp j
theorem half_rt {p : Nat → Nat} (hp : Low p) (i : Nat) : ∀ j, rt (up p i (p (p i))) j = rt p j := by
  intro j
  induction j using Nat.strongRecOn with
  | ind j ih =>
    by_cases e : j = i
    · subst e
      by_cases h : p (p j) < j
      · rw [rt_lt (by rw [up_at]; exact h), up_at, ih _ h, rt_p hp, rt_p hp]
      · have h1 := hp j
        have h2 := hp (p j)
        have h3 : p j = j := by omega
        rw [rt_self (by rw [up_at, h3, h3]), rt_self h3]
    · by_cases h : p j < j
      · rw [rt_lt (by rw [up_ne e]; exact h), up_ne e, ih _ h, rt_lt h]
      · have := hp j
        rw [rt_self (by rw [up_ne e]; omega), rt_self (by omega)]
theorem join_low {p : Nat → Nat} (hp : Low p) {a b : Nat} (h : b ≤ a) : Low (up p a b) := by
  intro j
  by_cases e : j = a
  · subst e; rw [up_at]; exact h
  · rw [up_ne e]; exact hp j
theorem join_rt {p : Nat → Nat} (hp : Low p) {a b : Nat} (ha : p a = a) (hb : p b = b) (h : b ≤ a) : ∀ j, rt (up p a b) j = if rt p j = a then b else rt p j := by
  intro j
  induction j using Nat.strongRecOn with
  | ind j ih =>
    by_cases e : j = a
    · subst e
      rw [rt_self ha, if_pos rfl]
      by_cases q : b < j
      · rw [rt_lt (by rw [up_at]; exact q), up_at, rt_self (by rw [up_ne (by omega)]; exact hb)]
      · obtain rfl : b = j := by omega
        exact rt_self (by rw [up_at])
    · by_cases q : p j < j
      · rw [rt_lt (by rw [up_ne e]; exact q), up_ne e, ih _ q, rt_p hp]
      · have := hp j
        rw [rt_self (by rw [up_ne e]; omega), rt_self (by omega), if_neg e]

/-! ## what hangs together -/
inductive Con (E : List (Nat × Nat)) (a : Nat) : Nat → Prop
  | refl : Con E a a
  | fwd {b c : Nat} : Con E a b → (b, c) ∈ E → Con E a c
  | bwd {b c : Nat} : Con E a b → (c, b) ∈ E → Con E a c
theorem Con.trans {E : List (Nat × Nat)} {a b c : Nat} (h : Con E a b) (k : Con E b c) : Con E a c := by
  induction k with
  | refl => exact h
  | fwd _ m ih => exact .fwd ih m
  | bwd _ m ih => exact .bwd ih m
theorem Con.symm {E : List (Nat × Nat)} {a b : Nat} (h : Con E a b) : Con E b a := by
  induction h with
  | refl => exact .refl
  | fwd _ m ih => exact (Con.bwd .refl m).trans ih
  | bwd _ m ih => exact (Con.fwd .refl m).trans ih
theorem Con.mono {E E' : List (Nat × Nat)} (s : ∀ x ∈ E, x ∈ E') {a b : Nat} (h : Con E a b) : Con E' a b := by
  induction h with
  | refl => exact .refl
  | fwd _ m ih => exact .fwd ih (s _ m)
  | bwd _ m ih => exact .bwd ih (s _ m)
/-- the roots tell what hangs together -/
structure Is (p : Nat → Nat) (E : List (Nat × Nat)) : Prop where
  low : Low p
  con : ∀ a b, rt p a = rt p b ↔ Con E a b
theorem is_nil : Is (fun i => i) [] where
  low := fun i => Nat.le_refl _
  con := by
    intro a b
    rw [rt_self rfl, rt_self rfl]
    constructor
    · rintro rfl; exact .refl
    · intro h
      cases h with
      | refl => rfl
      | fwd _ m => cases m
      | bwd _ m => cases m
theorem Is.congr {p q : Nat → Nat} {E : List (Nat × Nat)} (h : Is p E) (l : Low q) (e : ∀ j, rt q j = rt p j) : Is q E where
  low := l
  con := fun a b => by rw [e, e]; exact h.con a b
theorem Is.join {p : Nat → Nat} {E : List (Nat × Nat)} (h : Is p E) (i k : Nat) : Is (up p (max (rt p i) (rt p k)) (min (rt p i) (rt p k))) (E ++ [(i, k)]) := by
  obtain ⟨M, hM⟩ : ∃ M, M = max (rt p i) (rt p k) := ⟨_, rfl⟩
  obtain ⟨m, hm⟩ : ∃ m, m = min (rt p i) (rt p k) := ⟨_, rfl⟩
  have ci : rt p i = M ∨ rt p i = m := by omega
  have ck : rt p k = M ∨ rt p k = m := by omega
  have cM : M = rt p i ∨ M = rt p k := by omega
  have cm : m = rt p i ∨ m = rt p k := by omega
  have hmM : m ≤ M := by omega
  have rM : p M = M := by rcases cM with e | e <;> rw [e] <;> exact rt_root h.low _
  have rm : p m = m := by rcases cm with e | e <;> rw [e] <;> exact rt_root h.low _
  rw [← hM, ← hm]
  have J := join_rt h.low rM rm hmM
  refine ⟨join_low h.low hmM, fun a b => ?_⟩
  rw [J, J]
  have hE : ∀ a b, Con E a b → Con (E ++ [(i, k)]) a b := fun a b c => c.mono fun x hx => by simp [hx]
  have hik : Con (E ++ [(i, k)]) i k := .fwd .refl (by simp)
  have toM : ∀ a, rt p a = M → Con (E ++ [(i, k)]) a i := fun a ha => by
    rcases cM with e | e
    · exact hE _ _ ((h.con a i).1 (ha.trans e))
    · exact (hE _ _ ((h.con a k).1 (ha.trans e))).trans hik.symm
  have tom : ∀ a, rt p a = m → Con (E ++ [(i, k)]) a i := fun a ha => by
    rcases cm with e | e
    · exact hE _ _ ((h.con a i).1 (ha.trans e))
    · exact (hE _ _ ((h.con a k).1 (ha.trans e))).trans hik.symm
  constructor
  · intro e
    by_cases ha : rt p a = M
    · by_cases hb : rt p b = M
      · exact (toM a ha).trans (toM b hb).symm
      · rw [if_pos ha, if_neg hb] at e
        exact (toM a ha).trans (tom b e.symm).symm
    · by_cases hb : rt p b = M
      · rw [if_neg ha, if_pos hb] at e
        exact (tom a e).trans (toM b hb).symm
      · rw [if_neg ha, if_neg hb] at e
        exact hE _ _ ((h.con a b).1 e)
  · intro c
    have same : (if rt p i = M then m else rt p i) = (if rt p k = M then m else rt p k) := by
      have e1 : (if rt p i = M then m else rt p i) = m := by
        split
        · rfl
        · rename_i q; rcases ci with e | e
          · exact absurd e q
          · exact e
      have e2 : (if rt p k = M then m else rt p k) = m := by
        split
        · rfl
        · rename_i q; rcases ck with e | e
          · exact absurd e q
          · exact e
      rw [e1, e2]
    induction c with
    | refl => rfl
    | fwd _ mm ih =>
      rcases List.mem_append.1 mm with mm | mm
      · rw [ih, (h.con _ _).2 (.fwd .refl mm)]
      · simp at mm
        obtain ⟨rfl, rfl⟩ := mm
        rw [ih, same]
    | bwd _ mm ih =>
      rcases List.mem_append.1 mm with mm | mm
      · rw [ih, (h.con _ _).2 (.bwd .refl mm)]
      · simp at mm
        obtain ⟨rfl, rfl⟩ := mm
        rw [ih, same]

/-! ## rounds of least labels -/
def low (f : Nat → Nat) (x : Nat × Nat) : Nat → Nat := up (up f x.1 (min (f x.1) (f x.2))) x.2 (min (f x.1) (f x.2))
def lround (E : List (Nat × Nat)) (f : Nat → Nat) : Nat → Nat := E.foldl low f
def lrounds (E : List (Nat × Nat)) : Nat → Nat → Nat
  | 0 => fun y => y
  | r + 1 => lround E (lrounds E r)
theorem low_le (f : Nat → Nat) (x : Nat × Nat) (y : Nat) : low f x y ≤ f y := by
  unfold low
  by_cases e : y = x.2
  · subst e; rw [up_at]; omega
  · rw [up_ne e]
    by_cases e : y = x.1
    · subst e; rw [up_at]; omega
    · rw [up_ne e]; exact Nat.le_refl _
theorem low_fst (f : Nat → Nat) (x : Nat × Nat) : low f x x.1 ≤ f x.2 := by
  unfold low
  by_cases e : x.1 = x.2
  · rw [e, up_at]; omega
  · rw [up_ne e, up_at]; omega
theorem low_snd (f : Nat → Nat) (x : Nat × Nat) : low f x x.2 ≤ f x.1 := by
  unfold low
  rw [up_at]; omega
theorem lround_le (E : List (Nat × Nat)) : ∀ (f : Nat → Nat) y, lround E f y ≤ f y := by
  induction E with
  | nil => intro f y; exact Nat.le_refl _
  | cons x E ih => intro f y; exact Nat.le_trans (ih _ y) (low_le f x y)
theorem lround_hit (E : List (Nat × Nat)) : ∀ (f : Nat → Nat), ∀ x ∈ E, lround E f x.1 ≤ f x.2 ∧ lround E f x.2 ≤ f x.1 := by
  induction E with
  | nil => intro f x hx; cases hx
  | cons y E ih =>
    intro f x hx
    rcases List.mem_cons.1 hx with rfl | hx
    · exact ⟨Nat.le_trans (lround_le E _ _) (low_fst f x), Nat.le_trans (lround_le E _ _) (low_snd f x)⟩
    · obtain ⟨h1, h2⟩ := ih (low f y) x hx
      exact ⟨Nat.le_trans h1 (low_le f y _), Nat.le_trans h2 (low_le f y _)⟩
theorem low_con {E : List (Nat × Nat)} {f : Nat → Nat} (h : ∀ y, Con E y (f y)) {x : Nat × Nat} (hx : x ∈ E) : ∀ y, Con E y (low f x y) := by
  have h12 : Con E x.1 x.2 := .fwd .refl hx
  have hmin : ∀ z, Con E z x.1 → Con E z (min (f x.1) (f x.2)) := fun z hz => by
    rcases Nat.le_total (f x.1) (f x.2) with q | q
    · rw [Nat.min_eq_left q]; exact hz.trans (h _)
    · rw [Nat.min_eq_right q]; exact (hz.trans h12).trans (h _)
  intro y
  unfold low
  by_cases e : y = x.2
  · subst e; rw [up_at]; exact hmin _ h12.symm
  · rw [up_ne e]
    by_cases e : y = x.1
    · subst e; rw [up_at]; exact hmin _ .refl
    · rw [up_ne e]; exact h y
theorem lround_con {E : List (Nat × Nat)} : ∀ (E' : List (Nat × Nat)), (∀ x ∈ E', x ∈ E) → ∀ f : Nat → Nat, (∀ y, Con E y (f y)) → ∀ y, Con E y (lround E' f y) := by
  intro E'
  induction E' with
  | nil => intro _ f h; exact h
  | cons x E' ih =>
    intro hs f h
    exact ih (fun y hy => hs y (by simp [hy])) _ (low_con h (hs x (by simp)))
theorem lrounds_con (E : List (Nat × Nat)) : ∀ r y, Con E y (lrounds E r y)
  | 0 => fun y => .refl
  | r + 1 => lround_con E (fun _ h => h) _ (lrounds_con E r)
theorem lrounds_le (E : List (Nat × Nat)) : ∀ r y, lrounds E r y ≤ y
  | 0 => fun y => Nat.le_refl _
  | r + 1 => fun y => Nat.le_trans (lround_le E _ y) (lrounds_le E r y)
/-- edges either way -/
def sym (E : List (Nat × Nat)) : List (Eg Nat) := E.flatMap fun x => [⟨0, x.1, x.2⟩, ⟨0, x.2, x.1⟩]
theorem mem_sym {E : List (Nat × Nat)} {y : Eg Nat} : y ∈ sym E ↔ ∃ x ∈ E, y = ⟨0, x.1, x.2⟩ ∨ y = ⟨0, x.2, x.1⟩ := by
  unfold sym
  simp [List.mem_flatMap]
theorem con_walk {E : List (Nat × Nat)} {a b : Nat} (h : Con E a b) : ∃ d, Walk (sym E) a b d := by
  induction h with
  | refl => exact ⟨0, .nil⟩
  | fwd _ m ih =>
    obtain ⟨d, w⟩ := ih
    exact ⟨d + 1, .snoc (x := ⟨0, _, _⟩) w (mem_sym.2 ⟨_, m, .inl rfl⟩) rfl⟩
  | bwd _ m ih =>
    obtain ⟨d, w⟩ := ih
    exact ⟨d + 1, .snoc (x := ⟨0, _, _⟩) w (mem_sym.2 ⟨_, m, .inr rfl⟩) rfl⟩
theorem lrounds_walk {E : List (Nat × Nat)} {a b d : Nat} (w : Walk (sym E) a b d) : ∀ r, d ≤ r → lrounds E r b ≤ a := by
  induction w with
  | nil => intro r _; exact lrounds_le E r a
  | snoc w hx he ih =>
    intro r hr
    obtain ⟨r, rfl⟩ : ∃ r', r = r' + 1 := ⟨r - 1, by omega⟩
    have h1 := ih r (by omega)
    obtain ⟨y, hy, e⟩ := mem_sym.1 hx
    have h2 := lround_hit E (lrounds E r) y hy
    rcases e with rfl | rfl
    · subst he
      exact Nat.le_trans h2.2 h1
    · subst he
      exact Nat.le_trans h2.1 h1
/-- both tell the same -/
theorem lrounds_rt {p : Nat → Nat} {E : List (Nat × Nat)} (I : Is p E) {n : Nat} (hE : ∀ x ∈ E, x.1 < n ∧ x.2 < n) {v : Nat} (hv : v < n) : lrounds E n v = rt p v := by
  have h0 : rt p v ≤ v := rt_le v
  have h1 : Con E (rt p v) v := (I.con _ _).1 (rt_rt I.low v)
  have hin : Within (sym E) (List.range n) := fun x hx => by
    obtain ⟨y, hy, e⟩ := mem_sym.1 hx
    have := hE y hy
    rcases e with rfl | rfl <;> simp <;> omega
  have hs : rt p v ∈ List.range n := by simp; omega
  obtain ⟨T, hT, h2, h3⟩ := steps_end hin hs
  have A := all_of h2 h3
  obtain ⟨d, w⟩ := con_walk h1
  obtain ⟨b, hb, h4, -⟩ := A.least w
  have hl : (steps (sym E) (rt p v) T).length ≤ n := by have := steps_len hin hs T; simpa using this
  have w2 := A.walk b hb
  rw [h4] at w2
  have h5 := lrounds_walk w2 n (by have := A.far_le b hb; omega)
  have h6 : rt p v = rt p (lrounds E n v) := (I.con _ _).2 (lrounds_con E n v)
  have h7 : rt p (lrounds E n v) ≤ lrounds E n v := rt_le _
  omega

/-! ## the rows of the parts -/
variable {α : Type}
/-- the parts of the first i places, each with its root -/
def grp (f : Nat → α) (r : Nat → Nat) : Nat → List (Nat × List α)
  | 0 => []
  | i + 1 => let l := if r i = i then grp f r i ++ [(i, [])] else grp f r i
    l.map fun x => if x.1 = r i then (x.1, x.2 ++ [f i]) else x
def row (f : Nat → α) (r : Nat → Nat) (c i : Nat) : List α := ((List.range i).filter (fun k => r k = c)).map f
theorem row_succ (f : Nat → α) (r : Nat → Nat) (c i : Nat) : row f r c (i + 1) = if r i = c then row f r c i ++ [f i] else row f r c i := by
  unfold row
  rw [List.range_succ, List.filter_append, List.map_append]
  split
  · rename_i h; simp [h]
  · rename_i h; simp [h]
theorem grp_is (f : Nat → α) (r : Nat → Nat) (hr : ∀ i, r i ≤ i) (hrr : ∀ i, r (r i) = r i) : ∀ i, grp f r i = ((List.range i).filter (fun k => r k = k)).map fun c => (c, row f r c i)
  | 0 => rfl
  | i + 1 => by
    have key : (if r i = i then grp f r i ++ [(i, [])] else grp f r i) = ((List.range (i + 1)).filter (fun k => r k = k)).map fun c => (c, row f r c i) := by
      rw [grp_is f r hr hrr i, List.range_succ, List.filter_append, List.map_append]
      split
      · rename_i h
        have : row f r i i = [] := by
          unfold row
          rw [List.map_eq_nil_iff, List.filter_eq_nil_iff]
          intro k hk
          have h1 := hr k
          simp at hk ⊢
          omega
        simp [h, this]
      · rename_i h; simp [h]
    show List.map _ (if r i = i then grp f r i ++ [(i, [])] else grp f r i) = _
    rw [key, List.map_map]
    refine List.map_congr_left fun c _ => ?_
    show (if c = r i then (c, row f r c i ++ [f i]) else (c, row f r c i)) = _
    rw [row_succ]
    by_cases e : r i = c
    · rw [if_pos e.symm, if_pos e]
    · rw [if_neg (fun q => e q.symm), if_neg e]

/-- the parts, and that of place i -/
def lst (f : Nat → α) (r : Nat → Nat) (i : Nat) : List (Nat × List α) := if r i = i then grp f r i ++ [(i, [])] else grp f r i
theorem lst_is (f : Nat → α) (r : Nat → Nat) (hr : ∀ i, r i ≤ i) (hrr : ∀ i, r (r i) = r i) (i : Nat) : lst f r i = ((List.range (i + 1)).filter (fun k => r k = k)).map fun c => (c, row f r c i) := by
  unfold lst
  rw [grp_is f r hr hrr i, List.range_succ, List.filter_append, List.map_append]
  split
  · rename_i h
    have : row f r i i = [] := by
      unfold row
      rw [List.map_eq_nil_iff, List.filter_eq_nil_iff]
      intro k hk
      have h1 := hr k
      simp at hk ⊢
      omega
    simp [h, this]
  · rename_i h; simp [h]
theorem lst_at (f : Nat → α) (r : Nat → Nat) (hr : ∀ i, r i ≤ i) (hrr : ∀ i, r (r i) = r i) (i : Nat) : ∃ j, ∃ h : j < (lst f r i).length, (lst f r i)[j].1 = r i ∧ ∀ k (hk : k < (lst f r i).length), (lst f r i)[k].1 = r i → k = j := by
  have hm : r i ∈ (List.range (i + 1)).filter (fun k => r k = k) := by
    rw [List.mem_filter]
    have := hr i
    exact ⟨by simp; omega, by simpa using hrr i⟩
  have hnd : ((List.range (i + 1)).filter (fun k => r k = k)).Nodup := List.nodup_range.filter _
  have e := lst_is f r hr hrr i
  obtain ⟨j, hj, ej⟩ := List.getElem_of_mem hm
  have hl : (lst f r i).length = ((List.range (i + 1)).filter (fun k => r k = k)).length := by rw [e, List.length_map]
  have hk (k : Nat) (hk : k < (lst f r i).length) : (lst f r i)[k].1 = ((List.range (i + 1)).filter (fun k => r k = k))[k]'(by omega) := by
    simp [e]
  refine ⟨j, by omega, by rw [hk]; exact ej, fun k hkl h => ?_⟩
  rw [hk k hkl, ← ej] at h
  rcases Nat.lt_trichotomy k j with q | q | q
  · exact absurd h (List.pairwise_iff_getElem.1 hnd k j _ _ q)
  · exact q
  · exact absurd h.symm (List.pairwise_iff_getElem.1 hnd j k _ _ q)
/-- one row of the parts is longer -/
def ext (l : List (Nat × List α)) (j : Nat) (x : α) : List (Nat × List α) := l.modify j fun y => (y.1, y.2 ++ [x])
theorem grp_ext (f : Nat → α) (r : Nat → Nat) (i j : Nat) (hj : j < (lst f r i).length) (h : (lst f r i)[j].1 = r i) (u : ∀ k (hk : k < (lst f r i).length), (lst f r i)[k].1 = r i → k = j) : grp f r (i + 1) = ext (lst f r i) j (f i) := by
  show (lst f r i).map (fun x => if x.1 = r i then (x.1, x.2 ++ [f i]) else x) = List.modify _ _ _
  refine List.ext_getElem (by simp) fun k h1 h2 => ?_
  have hk : k < (lst f r i).length := by simpa using h1
  rw [List.getElem_map, List.getElem_modify]
  by_cases e : (lst f r i)[k].1 = r i
  · rw [if_pos e, if_pos (u k hk e).symm]
  · have : j ≠ k := fun q => by subst q; exact e h
    rw [if_neg e, if_neg this]
theorem grp_len (f : Nat → α) (r : Nat → Nat) (hr : ∀ i, r i ≤ i) (hrr : ∀ i, r (r i) = r i) (i : Nat) : (grp f r i).length ≤ i := by
  rw [grp_is f r hr hrr i, List.length_map]
  have := List.length_filter_le (fun k => decide (r k = k)) (List.range i)
  simpa using this
end Go.Proofs.Ytpaegpbabfohcaa.PartsPure
