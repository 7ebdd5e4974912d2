/-
  Ways through a graph: the plain law. Breadth first, rounds of relaxation, ways back.
-/
namespace Go.Proofs.Ytpaegpbabfohcaa.PathPure
set_option linter.unusedSectionVars false
set_option linter.unusedSimpArgs false
set_option linter.unusedVariables false

structure Hp (α : Type) where
  id : α
  edge : α
  far : Nat
structure Eg (α : Type) where
  id : α
  fr : α
  tt : α

variable {α : Type} [DecidableEq α] [Inhabited α]

def hop (L : List (Hp α)) (i : Nat) : Hp α := L.getD i ⟨default, default, 0⟩
def arr (L : List (Hp α)) (h : Hp α) : List (Hp α) := if h.id ∈ L.map (·.id) then L else L ++ [h]
def one (h : Hp α) (L : List (Hp α)) (x : Eg α) : List (Hp α) := if x.fr = h.id then arr L ⟨x.tt, x.id, h.far + 1⟩ else L
def onE (h : Hp α) (E : List (Eg α)) (L : List (Hp α)) : List (Hp α) := E.foldl (one h) L
def steps (E : List (Eg α)) (s : α) : Nat → List (Hp α)
  | 0 => [⟨s, default, 0⟩]
  | i + 1 => onE (hop (steps E s i) i) E (steps E s i)

theorem hop_pre {L t : List (Hp α)} {i : Nat} (h : i < L.length) : hop (L ++ t) i = hop L i := by
  unfold hop
  rw [List.getD_eq_getElem?_getD, List.getD_eq_getElem?_getD, List.getElem?_append_left h]
theorem hop_mem {L : List (Hp α)} {i : Nat} (h : i < L.length) : hop L i ∈ L := by
  unfold hop
  rw [List.getD_eq_getElem?_getD, List.getElem?_eq_getElem h]
  exact List.getElem_mem h
theorem hop_end {L : List (Hp α)} {h : Hp α} : hop (L ++ [h]) L.length = h := by
  unfold hop
  rw [List.getD_eq_getElem?_getD, List.getElem?_append_right (Nat.le_refl _)]
  simp
theorem mem_hop {L : List (Hp α)} {h : Hp α} (m : h ∈ L) : ∃ i, i < L.length ∧ hop L i = h := by
  obtain ⟨i, hi, e⟩ := List.getElem_of_mem m
  refine ⟨i, hi, ?_⟩
  unfold hop
  rw [List.getD_eq_getElem?_getD, List.getElem?_eq_getElem hi]
  exact e
/-- what stands in the row was there, or came along an edge of the hop -/
theorem one_pre (h : Hp α) (L : List (Hp α)) (x : Eg α) : ∃ t, one h L x = L ++ t ∧ ∀ y ∈ t, x.fr = h.id ∧ y = ⟨x.tt, x.id, h.far + 1⟩ := by
  unfold one
  split
  · rename_i e
    unfold arr
    split
    · exact ⟨[], by simp, by simp⟩
    · exact ⟨_, rfl, fun y hy => ⟨e, by simpa using hy⟩⟩
  · exact ⟨[], by simp, by simp⟩
theorem onE_pre (h : Hp α) (E : List (Eg α)) : ∀ L : List (Hp α), ∃ t, onE h E L = L ++ t ∧ ∀ y ∈ t, ∃ x ∈ E, x.fr = h.id ∧ y = ⟨x.tt, x.id, h.far + 1⟩ := by
  induction E with
  | nil => intro L; exact ⟨[], by simp [onE], by simp⟩
  | cons x E ih =>
    intro L
    obtain ⟨t, e, ht⟩ := one_pre h L x
    obtain ⟨t2, e2, ht2⟩ := ih (one h L x)
    refine ⟨t ++ t2, ?_, ?_⟩
    · show onE h E (one h L x) = _
      rw [e2, e]; simp
    · intro y hy
      rcases List.mem_append.1 hy with hy | hy
      · exact ⟨x, by simp, ht y hy⟩
      · obtain ⟨z, hz, q⟩ := ht2 y hy
        exact ⟨z, by simp [hz], q⟩
theorem one_nodup (h : Hp α) (L : List (Hp α)) (x : Eg α) (n : (L.map (·.id)).Nodup) : ((one h L x).map (·.id)).Nodup := by
  unfold one
  split
  · unfold arr
    split
    · exact n
    · rename_i q
      rw [List.map_append, List.nodup_append]
      refine ⟨n, by simp, ?_⟩
      intro a ha b hb
      simp at hb
      subst hb
      intro e
      subst e
      exact q ha
  · exact n
theorem onE_nodup (h : Hp α) (E : List (Eg α)) : ∀ L : List (Hp α), (L.map (·.id)).Nodup → ((onE h E L).map (·.id)).Nodup := by
  induction E with
  | nil => intro L n; exact n
  | cons x E ih => intro L n; exact ih _ (one_nodup h L x n)
theorem one_has (h : Hp α) (L : List (Hp α)) (x : Eg α) (e : x.fr = h.id) : x.tt ∈ (one h L x).map (·.id) := by
  unfold one
  rw [if_pos e]
  unfold arr
  split
  · assumption
  · simp
theorem onE_has (h : Hp α) (E : List (Eg α)) : ∀ L : List (Hp α), ∀ x ∈ E, x.fr = h.id → x.tt ∈ (onE h E L).map (·.id) := by
  induction E with
  | nil => intro L x hx; cases hx
  | cons y E ih =>
    intro L x hx e
    rcases List.mem_cons.1 hx with rfl | hx
    · have h1 := one_has h L x e
      obtain ⟨t, et, -⟩ := onE_pre h E (one h L x)
      show x.tt ∈ (onE h E (one h L x)).map (·.id)
      rw [et, List.map_append]
      exact List.mem_append.2 (.inl h1)
    · exact ih _ x hx e

/-- a way of so many edges -/
inductive Walk (E : List (Eg α)) (s : α) : α → Nat → Prop
  | nil : Walk E s s 0
  | snoc {u : α} {d : Nat} {x : Eg α} : Walk E s u d → x ∈ E → x.fr = u → Walk E s x.tt (d + 1)

/-- where i nodes were gone on from -/
structure Inv (E : List (Eg α)) (s : α) (i : Nat) (L : List (Hp α)) : Prop where
  nodup : (L.map (·.id)).Nodup
  ne : 0 < L.length
  zero : hop L 0 = ⟨s, default, 0⟩
  mono : ∀ a b, a ≤ b → b < L.length → (hop L a).far ≤ (hop L b).far
  near : ∀ a, a < L.length → i < L.length → (hop L a).far ≤ (hop L i).far + 1
  par : ∀ a, 0 < a → a < L.length → ∃ j, j < a ∧ j < i ∧ ∃ x ∈ E, x.fr = (hop L j).id ∧ hop L a = ⟨x.tt, x.id, (hop L j).far + 1⟩
  shut : ∀ j, j < i → j < L.length → ∀ x ∈ E, x.fr = (hop L j).id → ∃ b, b < L.length ∧ (hop L b).id = x.tt ∧ (hop L b).far ≤ (hop L j).far + 1

theorem inv0 (E : List (Eg α)) (s : α) : Inv E s 0 (steps E s 0) where
  nodup := by simp [steps]
  ne := by simp [steps]
  zero := rfl
  mono := by
    intro a b hab hb
    simp [steps] at hb
    subst hb
    obtain rfl : a = 0 := by omega
    exact Nat.le_refl _
  near := by
    intro a ha _
    simp [steps] at ha
    subst ha
    omega
  par := by
    intro a h0 ha
    simp [steps] at ha
    omega
  shut := by intro j hj; omega

theorem inv_step {E : List (Eg α)} {s : α} {i : Nat} {L : List (Hp α)} (I : Inv E s i L) (hi : i < L.length) : Inv E s (i + 1) (onE (hop L i) E L) := by
  obtain ⟨t, et, ht⟩ := onE_pre (hop L i) E L
  have hnd := onE_nodup (hop L i) E L I.nodup
  have hhas := onE_has (hop L i) E L
  rw [et] at hnd hhas ⊢
  generalize hH : hop L i = H at *
  have old : ∀ a, a < L.length → hop (L ++ t) a = hop L a := fun a ha => hop_pre ha
  have new : ∀ a, a < (L ++ t).length → L.length ≤ a → ∃ x ∈ E, x.fr = H.id ∧ hop (L ++ t) a = ⟨x.tt, x.id, H.far + 1⟩ := fun a ha hl => by
    refine ht _ ?_
    unfold hop
    rw [List.getD_eq_getElem?_getD, List.getElem?_append_right hl, List.getElem?_eq_getElem (by simp at ha; omega)]
    exact List.getElem_mem _
  have top : ∀ a, a < (L ++ t).length → (hop (L ++ t) a).far ≤ H.far + 1 := fun a ha => by
    rcases Nat.lt_or_ge a L.length with q | q
    · rw [old a q]
      have := I.near a q hi
      rw [hH] at this
      exact this
    · obtain ⟨x, -, -, e⟩ := new a ha q
      rw [e]
      exact Nat.le_refl _
  exact {
    nodup := hnd
    ne := by have := I.ne; simp; omega
    zero := by rw [old 0 I.ne]; exact I.zero
    mono := by
      intro a b hab hb
      rcases Nat.lt_or_ge b L.length with q | q
      · rw [old a (by omega), old b q]
        exact I.mono a b hab q
      · obtain ⟨x, -, -, e⟩ := new b hb q
        rw [e]
        exact top a (by omega)
    near := by
      intro a ha hi1
      refine Nat.le_trans (top a ha) ?_
      have : H.far ≤ (hop (L ++ t) (i + 1)).far := by
        rcases Nat.lt_or_ge (i + 1) L.length with q | q
        · rw [old _ q, ← hH]
          exact I.mono i (i + 1) (by omega) q
        · obtain ⟨x, -, -, e⟩ := new _ hi1 q
          rw [e]
          show H.far ≤ H.far + 1
          omega
      omega
    par := by
      intro a h0 ha
      rcases Nat.lt_or_ge a L.length with q | q
      · obtain ⟨j, hj, hji, x, hx, h1, h2⟩ := I.par a h0 q
        refine ⟨j, hj, by omega, x, hx, ?_⟩
        rw [old j (by omega), old a q]
        exact ⟨h1, h2⟩
      · obtain ⟨x, hx, h1, h2⟩ := new a ha q
        refine ⟨i, by omega, by omega, x, hx, ?_⟩
        rw [old i hi, hH]
        exact ⟨h1, h2⟩
    shut := by
      intro j hj hjl x hx he
      by_cases q : j = i
      · subst q
        rw [old j hi, hH] at he ⊢
        have hm := hhas x hx he
        obtain ⟨h, hh, eh⟩ := List.mem_map.1 hm
        obtain ⟨b, hb, eb⟩ := mem_hop hh
        refine ⟨b, hb, by rw [eb]; exact eh, top b hb⟩
      · have hji : j < i := by omega
        rw [old j (by omega)] at he ⊢
        obtain ⟨b, hb, h1, h2⟩ := I.shut j hji (by omega) x hx he
        exact ⟨b, by simp; omega, by rw [old b hb]; exact h1, by rw [old b hb]; exact h2⟩ }

theorem inv_steps (E : List (Eg α)) (s : α) : ∀ i, (∀ j, j < i → j < (steps E s j).length) → Inv E s i (steps E s i)
  | 0, _ => inv0 E s
  | i + 1, h => inv_step (inv_steps E s i fun j hj => h j (by omega)) (h i (by omega))

theorem Inv.far_le {E : List (Eg α)} {s : α} {i : Nat} {L : List (Hp α)} (I : Inv E s i L) : ∀ a, a < L.length → (hop L a).far ≤ a := by
  intro a
  induction a using Nat.strongRecOn with
  | ind a ih =>
    intro ha
    rcases Nat.eq_zero_or_pos a with rfl | h0
    · rw [I.zero]; exact Nat.le_refl _
    · obtain ⟨j, hj, -, x, -, -, e⟩ := I.par a h0 ha
      rw [e]
      have := ih j hj (by omega)
      show _ + 1 ≤ a
      omega
/-- all that is reached -/
structure All (E : List (Eg α)) (s : α) (L : List (Hp α)) : Prop where
  nodup : (L.map (·.id)).Nodup
  zero : hop L 0 = ⟨s, default, 0⟩
  ne : 0 < L.length
  par : ∀ a, 0 < a → a < L.length → ∃ j, j < a ∧ ∃ x ∈ E, x.fr = (hop L j).id ∧ hop L a = ⟨x.tt, x.id, (hop L j).far + 1⟩
  shut : ∀ j, j < L.length → ∀ x ∈ E, x.fr = (hop L j).id → ∃ b, b < L.length ∧ (hop L b).id = x.tt ∧ (hop L b).far ≤ (hop L j).far + 1
theorem Inv.all {E : List (Eg α)} {s : α} {i : Nat} {L : List (Hp α)} (I : Inv E s i L) (h : L.length ≤ i) : All E s L where
  nodup := I.nodup
  zero := I.zero
  ne := I.ne
  par := fun a h0 ha => by
    obtain ⟨j, hj, -, x, hx, q⟩ := I.par a h0 ha
    exact ⟨j, hj, x, hx, q⟩
  shut := fun j hj => I.shut j (by omega) hj
theorem All.far_le {E : List (Eg α)} {s : α} {L : List (Hp α)} (I : All E s L) : ∀ a, a < L.length → (hop L a).far ≤ a := by
  intro a
  induction a using Nat.strongRecOn with
  | ind a ih =>
    intro ha
    rcases Nat.eq_zero_or_pos a with rfl | h0
    · rw [I.zero]; exact Nat.le_refl _
    · obtain ⟨j, hj, x, -, -, e⟩ := I.par a h0 ha
      rw [e]
      have := ih j hj (by omega)
      show _ + 1 ≤ a
      omega
theorem All.walk {E : List (Eg α)} {s : α} {L : List (Hp α)} (I : All E s L) : ∀ a, a < L.length → Walk E s (hop L a).id (hop L a).far := by
  intro a
  induction a using Nat.strongRecOn with
  | ind a ih =>
    intro ha
    rcases Nat.eq_zero_or_pos a with rfl | h0
    · rw [I.zero]; exact .nil
    · obtain ⟨j, hj, x, hx, h1, e⟩ := I.par a h0 ha
      rw [e]
      exact .snoc (ih j hj (by omega)) hx h1
theorem All.least {E : List (Eg α)} {s : α} {L : List (Hp α)} (I : All E s L) {v : α} {d : Nat} (w : Walk E s v d) : ∃ b, b < L.length ∧ (hop L b).id = v ∧ (hop L b).far ≤ d := by
  induction w with
  | nil => exact ⟨0, I.ne, by rw [I.zero], by rw [I.zero]; exact Nat.le_refl _⟩
  | snoc w hx he ih =>
    obtain ⟨b, hb, h1, h2⟩ := ih
    obtain ⟨c, hc, h3, h4⟩ := I.shut b hb _ hx (by rw [h1]; exact he)
    exact ⟨c, hc, h3, by omega⟩
theorem All.inj {E : List (Eg α)} {s : α} {L : List (Hp α)} (I : All E s L) {a b : Nat} (ha : a < L.length) (hb : b < L.length) (e : (hop L a).id = (hop L b).id) : a = b := by
  have h := I.nodup
  have ga : (L.map (·.id))[a]'(by simpa using ha) = (hop L a).id := by
    simp [hop, List.getD_eq_getElem?_getD, List.getElem?_eq_getElem ha]
  have gb : (L.map (·.id))[b]'(by simpa using hb) = (hop L b).id := by
    simp [hop, List.getD_eq_getElem?_getD, List.getElem?_eq_getElem hb]
  rcases Nat.lt_trichotomy a b with q | q | q
  · exact absurd (ga.trans (e.trans gb.symm)) (List.pairwise_iff_getElem.1 h a b _ _ q)
  · exact q
  · exact absurd (gb.trans (e.symm.trans ga.symm)) (List.pairwise_iff_getElem.1 h b a _ _ q)
/-- ids within a row -/
def Within (E : List (Eg α)) (U : List α) : Prop := ∀ x ∈ E, x.fr ∈ U ∧ x.tt ∈ U
theorem steps_in {E : List (Eg α)} {s : α} {U : List α} (h : Within E U) (hs : s ∈ U) : ∀ i, ∀ y ∈ steps E s i, y.id ∈ U
  | 0 => by intro y hy; simp [steps] at hy; subst hy; exact hs
  | i + 1 => by
    intro y hy
    obtain ⟨t, et, ht⟩ := onE_pre (hop (steps E s i) i) E (steps E s i)
    rw [show steps E s (i + 1) = _ from et] at hy
    rcases List.mem_append.1 hy with hy | hy
    · exact steps_in h hs i y hy
    · obtain ⟨x, hx, -, rfl⟩ := ht y hy
      exact (h x hx).2
theorem onE_len {E : List (Eg α)} {U : List α} (h : Within E U) {H : Hp α} {L : List (Hp α)} (n : (L.map (·.id)).Nodup) (hL : ∀ y ∈ L, y.id ∈ U) : (onE H E L).length ≤ U.length := by
  obtain ⟨t, et, ht⟩ := onE_pre H E L
  have := (onE_nodup H E L n).length_le_of_subset (l₂ := U) (fun y hy => by
    obtain ⟨z, hz, rfl⟩ := List.mem_map.1 hy
    rw [et] at hz
    rcases List.mem_append.1 hz with hz | hz
    · exact hL z hz
    · obtain ⟨x, hx, -, rfl⟩ := ht z hz
      exact (h x hx).2)
  simpa using this
theorem steps_nodup (E : List (Eg α)) (s : α) : ∀ i, ((steps E s i).map (·.id)).Nodup
  | 0 => by simp [steps]
  | i + 1 => onE_nodup _ _ _ (steps_nodup E s i)
theorem steps_len {E : List (Eg α)} {s : α} {U : List α} (h : Within E U) (hs : s ∈ U) (i : Nat) : (steps E s i).length ≤ U.length := by
  have := (steps_nodup E s i).length_le_of_subset (l₂ := U) (fun y hy => by
    obtain ⟨z, hz, rfl⟩ := List.mem_map.1 hy
    exact steps_in h hs i z hz)
  simpa using this
theorem steps_grow (E : List (Eg α)) (s : α) (i : Nat) : ∃ t, steps E s (i + 1) = steps E s i ++ t := by
  obtain ⟨t, et, -⟩ := onE_pre (hop (steps E s i) i) E (steps E s i)
  exact ⟨t, et⟩
/-- the rounds end -/
theorem steps_end {E : List (Eg α)} {s : α} {U : List α} (h : Within E U) (hs : s ∈ U) : ∃ T, T ≤ U.length ∧ (∀ j, j < T → j < (steps E s j).length) ∧ (steps E s T).length ≤ T := by
  have key : ∀ k, (∀ j, j < k → j < (steps E s j).length) ∨ ∃ T, T < k ∧ (∀ j, j < T → j < (steps E s j).length) ∧ (steps E s T).length ≤ T := by
    intro k
    induction k with
    | zero => left; intro j hj; omega
    | succ k ih =>
      rcases ih with ih | ⟨T, h1, h2⟩
      · rcases Nat.lt_or_ge k (steps E s k).length with q | q
        · left
          intro j hj
          rcases Nat.lt_or_ge j k with p | p
          · exact ih j p
          · rw [show j = k by omega]; exact q
        · exact .inr ⟨k, by omega, ih, q⟩
      · exact .inr ⟨T, by omega, h2⟩
  rcases key (U.length + 1) with q | ⟨T, h1, h2⟩
  · have := q U.length (by omega)
    have := steps_len h hs U.length
    omega
  · exact ⟨T, by omega, h2⟩
theorem steps_one {E : List (Eg α)} {s : α} {T T' : Nat} (h1 : ∀ j, j < T → j < (steps E s j).length) (h2 : (steps E s T).length ≤ T) (h1' : ∀ j, j < T' → j < (steps E s j).length) (h2' : (steps E s T').length ≤ T') : T = T' := by
  rcases Nat.lt_trichotomy T T' with q | q | q
  · have := h1' T q; omega
  · exact q
  · have := h1 T' q; omega
theorem all_of {E : List (Eg α)} {s : α} {T : Nat} (h1 : ∀ j, j < T → j < (steps E s j).length) (h2 : (steps E s T).length ≤ T) : All E s (steps E s T) := (inv_steps E s T h1).all h2

/-! ## rounds of relaxation -/
def relax (f : α → Option Nat) (x : Eg α) : α → Option Nat :=
  match f x.fr with
  | none => f
  | some d => match f x.tt with
    | none => fun y => if y = x.tt then some (d + 1) else f y
    | some e => if d + 1 < e then fun y => if y = x.tt then some (d + 1) else f y else f
def round (E : List (Eg α)) (f : α → Option Nat) : α → Option Nat := E.foldl relax f
def rounds (E : List (Eg α)) (s : α) : Nat → α → Option Nat
  | 0 => fun y => if y = s then some 0 else none
  | r + 1 => round E (rounds E s r)
/-- no worse -/
def le (f g : α → Option Nat) : Prop := ∀ v e, f v = some e → ∃ d, g v = some d ∧ d ≤ e
theorem le_refl (f : α → Option Nat) : le f f := fun v e h => ⟨e, h, Nat.le_refl _⟩
theorem le_trans {f g k : α → Option Nat} (h : le f g) (h' : le g k) : le f k := fun v e q => by
  obtain ⟨d, h1, h2⟩ := h v e q
  obtain ⟨c, h3, h4⟩ := h' v d h1
  exact ⟨c, h3, by omega⟩
theorem relax_cases (f : α → Option Nat) (x : Eg α) : relax f x = f ∨ ∃ d, f x.fr = some d ∧ (f x.tt = none ∨ ∃ e, f x.tt = some e ∧ d + 1 < e) ∧ relax f x = fun y => if y = x.tt then some (d + 1) else f y := by
  cases h : f x.fr with
  | none => left; simp [relax, h]
  | some d =>
    cases h' : f x.tt with
    | none => right; exact ⟨d, rfl, .inl rfl, by simp [relax, h, h']⟩
    | some e =>
      by_cases q : d + 1 < e
      · right; exact ⟨d, rfl, .inr ⟨e, rfl, q⟩, by simp [relax, h, h', q]⟩
      · left; simp [relax, h, h', q]
theorem relax_le (f : α → Option Nat) (x : Eg α) : le f (relax f x) := by
  intro v e h
  rcases relax_cases f x with q | ⟨d, h1, h2, q⟩
  · rw [q]; exact ⟨e, h, Nat.le_refl _⟩
  · rw [q]
    by_cases hv : v = x.tt
    · subst hv
      rcases h2 with h2 | ⟨c, h2, h3⟩
      · rw [h2] at h; cases h
      · rw [h2] at h; cases h
        exact ⟨d + 1, by simp, by omega⟩
    · exact ⟨e, by simp [hv, h], Nat.le_refl _⟩
theorem relax_hit (f : α → Option Nat) (x : Eg α) {d : Nat} (h : f x.fr = some d) : ∃ c, relax f x x.tt = some c ∧ c ≤ d + 1 := by
  unfold relax
  rw [h]
  cases hc : f x.tt with
  | none => exact ⟨d + 1, by simp, Nat.le_refl _⟩
  | some c =>
    by_cases q : d + 1 < c
    · exact ⟨d + 1, by simp [q], Nat.le_refl _⟩
    · exact ⟨c, by simp [q, hc], by omega⟩
theorem round_le (E : List (Eg α)) : ∀ f : α → Option Nat, le f (round E f) := by
  induction E with
  | nil => intro f; exact le_refl f
  | cons x E ih => intro f; exact le_trans (relax_le f x) (ih _)
theorem round_hit (E : List (Eg α)) : ∀ (f : α → Option Nat), ∀ x ∈ E, ∀ d, f x.fr = some d → ∃ c, round E f x.tt = some c ∧ c ≤ d + 1 := by
  induction E with
  | nil => intro f x hx; cases hx
  | cons y E ih =>
    intro f x hx d h
    rcases List.mem_cons.1 hx with rfl | hx
    · obtain ⟨c, h1, h2⟩ := relax_hit f x h
      obtain ⟨e, h3, h4⟩ := round_le E _ _ _ h1
      exact ⟨e, h3, by omega⟩
    · obtain ⟨e, h1, h2⟩ := relax_le f y _ _ h
      obtain ⟨c, h3, h4⟩ := ih _ x hx e h1
      exact ⟨c, h3, by omega⟩
theorem relax_sound {E : List (Eg α)} {s : α} {f : α → Option Nat} (h : ∀ v d, f v = some d → Walk E s v d) {x : Eg α} (hx : x ∈ E) : ∀ v d, relax f x v = some d → Walk E s v d := by
  intro v e
  rcases relax_cases f x with q | ⟨d, h1, h2, q⟩
  · rw [q]; exact h v e
  · rw [q]
    by_cases hv : v = x.tt
    · subst hv
      simp
      rintro rfl
      exact .snoc (h _ _ h1) hx rfl
    · simp [hv]; exact h v e
theorem round_sound {E : List (Eg α)} {s : α} : ∀ (E' : List (Eg α)), (∀ x ∈ E', x ∈ E) → ∀ f : α → Option Nat, (∀ v d, f v = some d → Walk E s v d) → ∀ v d, round E' f v = some d → Walk E s v d := by
  intro E'
  induction E' with
  | nil => intro _ f h; exact h
  | cons x E' ih =>
    intro hs f h
    exact ih (fun y hy => hs y (by simp [hy])) _ (relax_sound h (hs x (by simp)))
theorem rounds_sound (E : List (Eg α)) (s : α) : ∀ r v d, rounds E s r v = some d → Walk E s v d
  | 0 => by
    intro v d
    simp only [rounds]
    split
    · rename_i e; subst e; intro q; cases q; exact .nil
    · intro q; cases q
  | r + 1 => round_sound E (fun _ h => h) _ (rounds_sound E s r)
theorem rounds_le (E : List (Eg α)) (s : α) (r : Nat) : le (rounds E s r) (rounds E s (r + 1)) := round_le E _
theorem rounds_hit {E : List (Eg α)} {s v : α} {d : Nat} (w : Walk E s v d) : ∀ r, d ≤ r → ∃ c, rounds E s r v = some c ∧ c ≤ d := by
  induction w with
  | nil =>
    intro r _
    induction r with
    | zero => exact ⟨0, by simp [rounds], Nat.le_refl _⟩
    | succ r ih =>
      obtain ⟨c, h1, h2⟩ := ih (Nat.zero_le _)
      obtain ⟨e, h3, h4⟩ := rounds_le E s r _ _ h1
      exact ⟨e, h3, by omega⟩
  | snoc w hx he ih =>
    intro r hr
    obtain ⟨r, rfl⟩ : ∃ r', r = r' + 1 := ⟨r - 1, by omega⟩
    obtain ⟨c, h1, h2⟩ := ih r (by omega)
    obtain ⟨e, h3, h4⟩ := round_hit E (rounds E s r) _ hx c (by rw [he]; exact h1)
    exact ⟨e, h3, by omega⟩
/-- the rounds tell what going on from node to node tells -/
theorem rounds_all {E : List (Eg α)} {s : α} {L : List (Hp α)} (I : All E s L) {n : Nat} (hn : L.length ≤ n) (a : Nat) (ha : a < L.length) : rounds E s n (hop L a).id = some (hop L a).far := by
  obtain ⟨c, h1, h2⟩ := rounds_hit (I.walk a ha) n (by have := I.far_le a ha; omega)
  obtain ⟨b, hb, h3, h4⟩ := I.least (rounds_sound E s n _ _ h1)
  obtain rfl := I.inj hb ha h3
  rw [h1]
  congr 1
  omega
theorem rounds_none {E : List (Eg α)} {s v : α} {L : List (Hp α)} (I : All E s L) {n : Nat} (h : v ∉ L.map (·.id)) : rounds E s n v = none := by
  cases q : rounds E s n v with
  | none => rfl
  | some d =>
    obtain ⟨b, hb, h3, -⟩ := I.least (rounds_sound E s n _ _ q)
    exact absurd (List.mem_map.2 ⟨_, hop_mem hb, h3⟩) h
/-- ways -/
theorem rounds_iff {E : List (Eg α)} {s v : α} {L : List (Hp α)} (I : All E s L) {n : Nat} (hn : L.length ≤ n) : (∃ d, rounds E s n v = some d) ↔ ∃ d, Walk E s v d := by
  constructor
  · rintro ⟨d, h⟩
    exact ⟨d, rounds_sound E s n v d h⟩
  · rintro ⟨d, w⟩
    obtain ⟨b, hb, rfl, -⟩ := I.least w
    exact ⟨_, rounds_all I hn b hb⟩

/-! ## ways back -/
/-- the edge with an id -/
def eg (E : List (Eg α)) (i : Nat) : Eg α := E.getD i ⟨default, default, default⟩
theorem eg_mem {E : List (Eg α)} {i : Nat} (h : i < E.length) : eg E i ∈ E := by
  unfold eg
  rw [List.getD_eq_getElem?_getD, List.getElem?_eq_getElem h]
  exact List.getElem_mem h
theorem mem_eg {E : List (Eg α)} {x : Eg α} (m : x ∈ E) : ∃ i, i < E.length ∧ eg E i = x := by
  obtain ⟨i, hi, e⟩ := List.getElem_of_mem m
  refine ⟨i, hi, ?_⟩
  unfold eg
  rw [List.getD_eq_getElem?_getD, List.getElem?_eq_getElem hi]
  exact e
/-- each edge has an id of its own -/
def Own (E : List (Eg α)) : Prop := ∀ i k, i < E.length → k < E.length → (eg E i).id = (eg E k).id → i = k
/-- the edges of a way to the hop at a place, in so many steps back -/
inductive Trail (E : List (Eg α)) (L : List (Hp α)) : Nat → List α → Prop
  | nil {a : Nat} : a < L.length → (hop L a).far = 0 → Trail E L a []
  | snoc {a b k : Nat} {t : List α} : a < L.length → b < L.length → k < E.length → (eg E k).id = (hop L a).edge → (eg E k).fr = (hop L b).id → (eg E k).tt = (hop L a).id → (hop L a).far = (hop L b).far + 1 → Trail E L b t → Trail E L a (t ++ [(hop L a).edge])
theorem All.back {E : List (Eg α)} {s : α} {L : List (Hp α)} (I : All E s L) {a : Nat} (h0 : 0 < (hop L a).far) (ha : a < L.length) : ∃ b k, b < L.length ∧ k < E.length ∧ (eg E k).id = (hop L a).edge ∧ (eg E k).fr = (hop L b).id ∧ (eg E k).tt = (hop L a).id ∧ (hop L a).far = (hop L b).far + 1 := by
  rcases Nat.eq_zero_or_pos a with rfl | hp
  · rw [I.zero] at h0; exact absurd h0 (Nat.lt_irrefl _)
  · obtain ⟨j, hj, x, hx, h1, h2⟩ := I.par a hp ha
    obtain ⟨k, hk, e⟩ := mem_eg hx
    exact ⟨j, k, by omega, hk, by rw [e, h2], by rw [e, h1], by rw [e, h2], by rw [h2]⟩
theorem All.trail {E : List (Eg α)} {s : α} {L : List (Hp α)} (I : All E s L) : ∀ d a, a < L.length → (hop L a).far = d → ∃ t, Trail E L a t ∧ t.length = d
  | 0, a, ha, h => ⟨[], .nil ha h, rfl⟩
  | d + 1, a, ha, h => by
    obtain ⟨b, k, hb, hk, h1, h2, h3, h4⟩ := I.back (by omega) ha
    obtain ⟨t, ht, hl⟩ := I.trail d b hb (by omega)
    exact ⟨_, .snoc ha hb hk h1 h2 h3 h4 ht, by simp [hl]⟩
theorem Trail.len {E : List (Eg α)} {L : List (Hp α)} {a : Nat} {t : List α} (h : Trail E L a t) : t.length = (hop L a).far := by
  induction h with
  | nil _ h => rw [h]; rfl
  | snoc _ _ _ _ _ _ h4 _ ih => rw [List.length_append, ih, h4]; rfl
theorem Trail.one {E : List (Eg α)} {s : α} {L : List (Hp α)} (I : All E s L) (O : Own E) {a : Nat} {t : List α} (h : Trail E L a t) : ∀ {t' : List α}, Trail E L a t' → t = t' := by
  induction h with
  | nil _ h =>
    intro t' h'
    cases h' with
    | nil _ _ => rfl
    | snoc _ _ _ _ _ _ h4 _ => omega
  | @snoc a b k t ha hb hk h1 h2 h3 h4 ht ih =>
    intro t' h'
    cases h' with
    | nil _ h => omega
    | @snoc _ b' k' t' _ hb' hk' h1' h2' h3' h4' ht' =>
      have e1 : k = k' := O k k' hk hk' (h1.trans h1'.symm)
      subst e1
      have e2 : b = b' := I.inj hb hb' (h2.symm.trans h2')
      subst e2
      rw [ih ht']
/-- going along edges by their ids from a node: where one stands behind them -/
inductive Goes (E : List (Eg α)) : α → List α → α → Prop
  | nil {u : α} : Goes E u [] u
  | cons {k : Nat} {t : List α} {v : α} : k < E.length → Goes E (eg E k).tt t v → Goes E (eg E k).fr ((eg E k).id :: t) v
theorem Goes.snoc {E : List (Eg α)} {u v : α} {t : List α} (h : Goes E u t v) : ∀ {k : Nat}, k < E.length → (eg E k).fr = v → Goes E u (t ++ [(eg E k).id]) (eg E k).tt := by
  induction h with
  | nil =>
    intro k hk e
    subst e
    exact .cons hk .nil
  | cons hk _ ih =>
    intro k' hk' e
    exact .cons hk (ih hk' e)
theorem Trail.goes {E : List (Eg α)} {s : α} {L : List (Hp α)} (I : All E s L) {a : Nat} {t : List α} (h : Trail E L a t) : Goes E s t (hop L a).id := by
  induction h with
  | @nil a ha h =>
    have : a = 0 := by
      rcases Nat.eq_zero_or_pos a with q | q
      · exact q
      · obtain ⟨j, _, x, _, _, e⟩ := I.par a q ha
        rw [e] at h
        exact absurd h (by simp)
    subst this
    rw [I.zero]
    exact .nil
  | snoc _ _ hk h1 h2 h3 _ _ ih =>
    rw [← h1, ← h3]
    exact ih.snoc hk h2
end Go.Proofs.Ytpaegpbabfohcaa.PathPure
