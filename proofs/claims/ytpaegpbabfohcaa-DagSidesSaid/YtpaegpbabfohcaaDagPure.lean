/-
  Dag: the plain law. Knots fall by their numbers; a walk marks what each one comes of.
-/
set_option linter.unusedSimpArgs false
set_option linter.unusedVariables false
namespace Go.Proofs.Ytpaegpbabfohcaa.DagPure

structure K where
  n : Int
  ps : List Int
deriving Inhabited

/-- the reference's Of: knots from the last one on -/
def ofGo : List K → List Int → Int → Bool
  | [], _, _ => false
  | k :: t, u, x => if k.n ∈ u then (if k.n = x then true else ofGo t (u ++ k.ps) x) else ofGo t u x
/-- what has come ahead by one that both reach -/
def stGo : List K → List Int → List Int → List Int → Int → Bool
  | [], _, _, _, _ => false
  | k :: t, u, v, w, x => if k.n = x then decide (k.n ∈ w) else
      stGo t (if k.n ∈ u then u ++ k.ps else u) (if k.n ∈ v then v ++ k.ps else v) (if k.n ∈ w ∨ (k.n ∈ u ∧ k.n ∈ v) then w ++ k.ps else w) x

structure M where
  L : Bool
  R : Bool
  S : Bool
deriving DecidableEq
def M.z (m : M) : Bool := !m.L && !m.R && !m.S
def M.both (m : M) : Bool := m.L && m.R
def M.on (m : M) : M := ⟨m.L, m.R, m.S || m.both⟩
def M.or (m o : M) : M := ⟨m.L || o.L, m.R || o.R, m.S || o.S⟩
def marks (f : Int → M) (ps : List Int) (o : M) : Int → M := fun y => if y ∈ ps then (f y).or o else f y

/-- the program's walk: knots from the last one on -/
def run : List K → (Int → M) → List (Int × M)
  | [], _ => []
  | k :: t, f => if (f k.n).z then run t f else (k.n, f k.n) :: run t (marks f k.ps (f k.n).on)

/-- the knots' numbers fall -/
def Falls : List K → Prop
  | [] => True
  | k :: t => (∀ y ∈ t, y.n < k.n) ∧ Falls t

theorem ofGo_not {t : List K} : ∀ {u : List Int} {x : Int}, (∀ y ∈ t, y.n ≠ x) → ofGo t u x = false := by
  induction t with
  | nil => intros; rfl
  | cons k t ih =>
    intro u x h
    have h1 := h k (by simp)
    have h2 : ∀ y ∈ t, y.n ≠ x := fun y hy => h y (by simp [hy])
    unfold ofGo
    rw [if_neg h1, ih h2, ih h2]
    simp
theorem ofGo_in {k : K} {t : List K} {u : List Int} {x : Int} (h : k.n ∈ u) (hx : k.n ≠ x) : ofGo (k :: t) u x = ofGo t (u ++ k.ps) x := by
  rw [ofGo, if_pos h, if_neg hx]
theorem ofGo_out {k : K} {t : List K} {u : List Int} {x : Int} (h : k.n ∉ u) : ofGo (k :: t) u x = ofGo t u x := by
  rw [ofGo, if_neg h]
theorem ofGo_self {k : K} {t : List K} {u : List Int} (h : k.n ∈ u) : ofGo (k :: t) u k.n = true := by
  rw [ofGo, if_pos h, if_pos rfl]
theorem ofGo_next {k : K} {t : List K} {u : List Int} {x : Int} (hx : k.n ≠ x) : ofGo (k :: t) u x = ofGo t (if k.n ∈ u then u ++ k.ps else u) x := by
  split
  · rename_i h; exact ofGo_in h hx
  · rename_i h; exact ofGo_out h

/-- from several: from one of them -/
theorem ofGo_any {t : List K} : ∀ {u : List Int} {x : Int}, ofGo t u x = true ↔ ∃ p ∈ u, ofGo t [p] x = true := by
  induction t with
  | nil => intro u x; simp [ofGo]
  | cons k t ih =>
    intro u x
    by_cases hx : k.n = x
    · subst hx
      by_cases hk : k.n ∈ u
      · rw [ofGo_self hk]
        exact ⟨fun _ => ⟨k.n, hk, ofGo_self (by simp)⟩, fun _ => rfl⟩
      · rw [ofGo_out hk, ih]
        constructor
        · rintro ⟨p, hp, h⟩
          exact ⟨p, hp, by rw [ofGo_out (by simp; rintro rfl; exact hk hp)]; exact h⟩
        · rintro ⟨p, hp, h⟩
          rw [ofGo_out (by simp; rintro rfl; exact hk hp)] at h
          exact ⟨p, hp, h⟩
    · have one : ∀ p, ofGo (k :: t) [p] x = true ↔ (ofGo t [p] x = true ∨ (p = k.n ∧ ∃ q ∈ k.ps, ofGo t [q] x = true)) := fun p => by
        by_cases hp : p = k.n
        · subst hp
          rw [ofGo_in (by simp) hx, ih]
          simp
        · rw [ofGo_out (by simp; exact fun q => hp q.symm)]
          simp [hp]
      by_cases hk : k.n ∈ u
      · rw [ofGo_in hk hx, ih]
        constructor
        · rintro ⟨p, hp, h⟩
          rcases List.mem_append.1 hp with hp | hp
          · exact ⟨p, hp, (one p).2 (.inl h)⟩
          · exact ⟨k.n, hk, (one k.n).2 (.inr ⟨rfl, p, hp, h⟩)⟩
        · rintro ⟨p, hp, h⟩
          rcases (one p).1 h with h | ⟨rfl, q, hq, h⟩
          · exact ⟨p, List.mem_append.2 (.inl hp), h⟩
          · exact ⟨q, List.mem_append.2 (.inr hq), h⟩
      · rw [ofGo_out hk, ih]
        constructor
        · rintro ⟨p, hp, h⟩
          exact ⟨p, hp, (one p).2 (.inl h)⟩
        · rintro ⟨p, hp, h⟩
          rcases (one p).1 h with h | ⟨rfl, q, hq, h⟩
          · exact ⟨p, hp, h⟩
          · exact absurd hp hk
theorem ofGo_append {t : List K} {u v : List Int} {x : Int} : ofGo t (u ++ v) x = true ↔ ofGo t u x = true ∨ ofGo t v x = true := by
  rw [ofGo_any, ofGo_any (u := u), ofGo_any (u := v)]
  constructor
  · rintro ⟨p, hp, h⟩
    rcases List.mem_append.1 hp with hp | hp
    · exact .inl ⟨p, hp, h⟩
    · exact .inr ⟨p, hp, h⟩
  · rintro (⟨p, hp, h⟩ | ⟨p, hp, h⟩)
    · exact ⟨p, List.mem_append.2 (.inl hp), h⟩
    · exact ⟨p, List.mem_append.2 (.inr hp), h⟩

theorem stGo_iff {t : List K} : ∀ {u v w : List Int} {x : Int}, Falls t → (∃ y ∈ t, y.n = x) →
    (stGo t u v w x = true ↔ ofGo t w x = true ∨ ∃ m ∈ t, (ofGo t u m.n = true ∧ ofGo t v m.n = true) ∧ m.n ≠ x ∧ ofGo t [m.n] x = true) := by
  induction t with
  | nil => rintro u v w x - ⟨y, hy, -⟩; cases hy
  | cons k t ih =>
    rintro u v w x ⟨hlt, hF⟩ ⟨y, hy, rfl⟩
    by_cases hx : k.n = y.n
    · rw [stGo, if_pos hx, ← hx]
      have hs : ∀ u, ofGo t u k.n = false := fun u => ofGo_not fun z hz => by have := hlt z hz; omega
      constructor
      · intro h
        exact .inl (ofGo_self (by simpa using h))
      · rintro (h | ⟨m, hm, -, hne, h⟩)
        · by_cases hw : k.n ∈ w
          · simpa using hw
          · rw [ofGo_out hw, hs] at h; cases h
        · rw [ofGo_out (by simp; exact fun q => hne q.symm), hs] at h; cases h
    · have hyt : y ∈ t := by
        rcases List.mem_cons.1 hy with rfl | h
        · exact absurd rfl hx
        · exact h
      rw [stGo, if_neg hx, ih hF ⟨y, hyt, rfl⟩]
      have tm : ∀ m ∈ t, k.n ≠ m.n := fun m hm => by have := hlt m hm; omega
      have hk1 : ofGo t [k.n] y.n = false := by
        cases h : ofGo t [k.n] y.n with
        | false => rfl
        | true =>
          have : ∀ (t : List K) (u : List Int) (z : Int), (∀ m ∈ t, m.n ∉ u) → ofGo t u z = false := by
            intro t; induction t with
            | nil => intros; rfl
            | cons a t ih =>
              intro u z h
              rw [ofGo_out (h a (by simp))]; exact ih u z fun m hm => h m (by simp [hm])
          rw [this t [k.n] y.n (fun m hm => by simp; exact fun q => tm m hm q.symm)] at h
          cases h
      have onek : ofGo (k :: t) [k.n] y.n = ofGo t k.ps y.n := by
        rw [ofGo_in (by simp) hx]
        rw [Bool.eq_iff_iff, ofGo_append, hk1]; simp
      rw [ofGo_next (u := w) hx]
      constructor
      · rintro (h | ⟨m, hm, ⟨h1, h2⟩, hne, h3⟩)
        · split at h
          · rename_i hc
            by_cases hw : k.n ∈ w
            · rw [if_pos hw]; exact .inl h
            · rcases hc with hc | ⟨hu, hv⟩
              · exact absurd hc hw
              · rw [if_neg hw]
                rcases ofGo_append.1 h with h | h
                · exact .inl h
                · exact .inr ⟨k, by simp, ⟨ofGo_self hu, ofGo_self hv⟩, hx, by rw [onek]; exact h⟩
          · rename_i hc
            rw [if_neg fun q => hc (.inl q)]; exact .inl h
        · refine .inr ⟨m, by simp [hm], ⟨by rw [ofGo_next (tm m hm)]; exact h1, by rw [ofGo_next (tm m hm)]; exact h2⟩, hne, ?_⟩
          rw [ofGo_out (by simp; exact tm m hm)]; exact h3
      · rintro (h | ⟨m, hm, ⟨h1, h2⟩, hne, h3⟩)
        · left
          split
          · split at h
            · exact h
            · exact ofGo_append.2 (.inl h)
          · rename_i hc
            rw [if_neg fun q => hc (.inl q)] at h; exact h
        · rcases List.mem_cons.1 hm with rfl | hm
          · rw [onek] at h3
            have out : ∀ u, ofGo (m :: t) u m.n = true → m.n ∈ u := fun u hu => by
              by_cases q : m.n ∈ u
              · exact q
              · rw [ofGo_out q, ofGo_not fun z hz => by have := hlt z hz; omega] at hu; cases hu
            left
            rw [if_pos (.inr ⟨out _ h1, out _ h2⟩)]
            exact ofGo_append.2 (.inr h3)
          · right
            rw [ofGo_next (tm m hm)] at h1 h2
            rw [ofGo_out (by simp; exact tm m hm)] at h3
            exact ⟨m, hm, ⟨h1, h2⟩, hne, h3⟩

theorem or_S {a b : Bool} : (a || b) = true ↔ a = true ∨ b = true := by simp

/-- what the walk tells, by what the reference knows -/
theorem run_is {P : M → Bool} (hP : P ⟨false, false, false⟩ = false) :
    ∀ {t : List K} {f : Int → M} {u v w : List Int}, Falls t → (∀ y ∈ t, ((f y.n).L = true ↔ y.n ∈ u) ∧ ((f y.n).R = true ↔ y.n ∈ v) ∧ ((f y.n).S = true ↔ y.n ∈ w)) →
      ((run t f).filter (fun q => P q.2)).map (·.1) = (t.filter (fun k => P ⟨ofGo t u k.n, ofGo t v k.n, stGo t u v w k.n⟩)).map (·.n) := by
  intro t
  induction t with
  | nil => intros; rfl
  | cons k t ih =>
    intro f u v w hF hu
    obtain ⟨hlt, hT⟩ := hF
    obtain ⟨kL, kR, kS⟩ := hu k (by simp)
    have hne : ∀ y ∈ t, k.n ≠ y.n := fun y hy => by have := hlt y hy; omega
    have hself : ∀ u, ofGo t u k.n = false := fun u => ofGo_not fun y hy => by have := hlt y hy; omega
    have self : ∀ u, ofGo (k :: t) u k.n = decide (k.n ∈ u) := fun u => by
      by_cases q : k.n ∈ u
      · rw [ofGo_self q]; simp [q]
      · rw [ofGo_out q, hself]; simp [q]
    have e0 : (⟨ofGo (k :: t) u k.n, ofGo (k :: t) v k.n, stGo (k :: t) u v w k.n⟩ : M) = f k.n := by
      rw [self, self, stGo, if_pos rfl]
      cases hf : f k.n with
      | mk a b c =>
        rw [hf] at kL kR kS
        congr 1
        · rw [Bool.eq_iff_iff, decide_eq_true_iff]; exact kL.symm
        · rw [Bool.eq_iff_iff, decide_eq_true_iff]; exact kR.symm
        · rw [Bool.eq_iff_iff, decide_eq_true_iff]; exact kS.symm
    have et : ∀ y ∈ t, (⟨ofGo (k :: t) u y.n, ofGo (k :: t) v y.n, stGo (k :: t) u v w y.n⟩ : M) = ⟨ofGo t (if k.n ∈ u then u ++ k.ps else u) y.n, ofGo t (if k.n ∈ v then v ++ k.ps else v) y.n, stGo t (if k.n ∈ u then u ++ k.ps else u) (if k.n ∈ v then v ++ k.ps else v) (if k.n ∈ w ∨ (k.n ∈ u ∧ k.n ∈ v) then w ++ k.ps else w) y.n⟩ := fun y hy => by
      rw [ofGo_next (hne y hy), ofGo_next (hne y hy), stGo, if_neg (hne y hy)]
    rw [List.filter_cons, e0]
    have rest : (t.filter (fun k' => P ⟨ofGo (k :: t) u k'.n, ofGo (k :: t) v k'.n, stGo (k :: t) u v w k'.n⟩)) = (t.filter (fun k' => P ⟨ofGo t (if k.n ∈ u then u ++ k.ps else u) k'.n, ofGo t (if k.n ∈ v then v ++ k.ps else v) k'.n, stGo t (if k.n ∈ u then u ++ k.ps else u) (if k.n ∈ v then v ++ k.ps else v) (if k.n ∈ w ∨ (k.n ∈ u ∧ k.n ∈ v) then w ++ k.ps else w) k'.n⟩)) :=
      List.filter_congr fun y hy => by rw [et y hy]
    rw [rest]
    simp only [run]
    by_cases hz : (f k.n).z = true
    · rw [if_pos hz]
      have hfz : f k.n = ⟨false, false, false⟩ := by
        cases hf : f k.n with
        | mk a b c => rw [hf] at hz; revert hz; cases a <;> cases b <;> cases c <;> simp [M.z]
      rw [hfz, hP]
      simp only [Bool.false_eq_true, if_false]
      have nu : k.n ∉ u := fun q => by have := kL.2 q; rw [hfz] at this; cases this
      have nv : k.n ∉ v := fun q => by have := kR.2 q; rw [hfz] at this; cases this
      have nw : k.n ∉ w := fun q => by have := kS.2 q; rw [hfz] at this; cases this
      rw [if_neg nu, if_neg nv, if_neg (by rintro (q | ⟨q, -⟩); exact nw q; exact nu q)]
      exact ih hT fun y hy => hu y (by simp [hy])
    · rw [if_neg hz, List.filter_cons]
      have go : (((run t (marks f k.ps (f k.n).on)).filter (fun q => P q.2)).map (·.1)) = _ := ih (u := if k.n ∈ u then u ++ k.ps else u) (v := if k.n ∈ v then v ++ k.ps else v) (w := if k.n ∈ w ∨ (k.n ∈ u ∧ k.n ∈ v) then w ++ k.ps else w) hT (fun y hy => by
        obtain ⟨yL, yR, yS⟩ := hu y (by simp [hy])
        unfold marks
        by_cases hp : y.n ∈ k.ps
        · rw [if_pos hp]
          refine ⟨?_, ?_, ?_⟩
          · show ((f y.n).L || (f k.n).L) = true ↔ _
            rw [or_S, yL, kL]; split <;> simp_all
          · show ((f y.n).R || (f k.n).R) = true ↔ _
            rw [or_S, yR, kR]; split <;> simp_all
          · show ((f y.n).S || ((f k.n).S || ((f k.n).L && (f k.n).R))) = true ↔ _
            rw [or_S, or_S, Bool.and_eq_true, yS, kS, kL, kR]; split <;> simp_all
        · rw [if_neg hp]
          refine ⟨?_, ?_, ?_⟩
          · rw [yL]; split <;> simp_all
          · rw [yR]; split <;> simp_all
          · rw [yS]; split <;> simp_all)
      split
      · rw [List.map_cons, List.map_cons, go]
      · exact go

/-- what the reference tells; `t` are the knots from the last one on -/
def back (t : List K) (n : Int) : List Int := (t.filter (fun k => ofGo t [n] k.n)).map (·.n)
def common (t : List K) (a b : Int) : List Int := (t.filter (fun k => ofGo t [a] k.n && ofGo t [b] k.n)).map (·.n)
def isBest (t : List K) (a b c : Int) : Bool := (common t a b).all (fun n => n == c || !ofGo t [n] c)
def best (t : List K) (a b : Int) : List Int := (common t a b).reverse.filter (isBest t a b)

def z0 : Int → M := fun _ => ⟨false, false, false⟩
def one (n : Int) : Int → M := fun x => if x = n then ⟨true, false, false⟩ else ⟨false, false, false⟩
def two (a b : Int) : Int → M := fun x => ⟨decide (x = a), decide (x = b), false⟩

theorem ofGo_nil {t : List K} {x : Int} : ofGo t [] x = false := by
  cases h : ofGo t [] x with
  | false => rfl
  | true => obtain ⟨p, hp, -⟩ := ofGo_any.1 h; cases hp
theorem run_back {t : List K} {n : Int} (hF : Falls t) : (run t (one n)).map (·.1) = back t n := by
  have h := run_is (P := fun m => m.L || m.R || m.S) rfl (t := t) (f := one n) (u := [n]) (v := []) (w := []) hF (fun y _ => by
    unfold one; by_cases q : y.n = n <;> simp [q])
  have all : ∀ {t : List K} {f : Int → M}, (run t f).filter (fun q => q.2.L || q.2.R || q.2.S) = run t f := by
    intro t
    induction t with
    | nil => intros; rfl
    | cons k t ih =>
      intro f
      simp only [run]
      split
      · exact ih
      · rename_i hz
        rw [List.filter_cons, if_pos, ih]
        revert hz
        cases f k.n with
        | mk a b c => cases a <;> cases b <;> cases c <;> simp [M.z]
  rw [all] at h
  rw [h]
  unfold back
  congr 1
  refine List.filter_congr fun k hk => ?_
  show (ofGo t [n] k.n || ofGo t [] k.n || stGo t [n] [] [] k.n) = _
  have hs : stGo t [n] [] [] k.n = false := by
    cases h : stGo t [n] [] [] k.n with
    | false => rfl
    | true =>
      rcases (stGo_iff hF ⟨k, hk, rfl⟩).1 h with h | ⟨m, _, ⟨_, h⟩, _⟩
      · rw [ofGo_nil] at h; cases h
      · rw [ofGo_nil] at h; cases h
  rw [hs, ofGo_nil]; simp
theorem two_in {a b : Int} {t : List K} : ∀ y ∈ t, ((two a b y.n).L = true ↔ y.n ∈ [a]) ∧ ((two a b y.n).R = true ↔ y.n ∈ [b]) ∧ ((two a b y.n).S = true ↔ y.n ∈ ([] : List Int)) := fun y _ => by
  simp [two]
theorem run_common {t : List K} {a b : Int} (hF : Falls t) : ((run t (two a b)).filter (fun q => q.2.L && q.2.R)).map (·.1) = common t a b := by
  rw [run_is (P := fun m => m.L && m.R) rfl hF two_in]; rfl
theorem run_best {t : List K} {a b : Int} (hF : Falls t) : (((run t (two a b)).filter (fun q => q.2.L && q.2.R && !q.2.S)).map (·.1)).reverse = best t a b := by
  rw [run_is (P := fun m => m.L && m.R && !m.S) rfl hF two_in]
  unfold best
  rw [List.filter_reverse]
  congr 1
  unfold common
  rw [List.filter_map, List.filter_filter]
  congr 1
  refine List.filter_congr fun k hk => ?_
  show (ofGo t [a] k.n && ofGo t [b] k.n && !stGo t [a] [b] [] k.n) = (isBest t a b k.n && (ofGo t [a] k.n && ofGo t [b] k.n))
  have hs : isBest t a b k.n = !stGo t [a] [b] [] k.n := by
    rw [Bool.eq_iff_iff, Bool.not_eq_true', ← Bool.not_eq_true, stGo_iff hF ⟨k, hk, rfl⟩]
    unfold isBest common
    rw [List.all_eq_true]
    constructor
    · rintro h (h1 | ⟨m, hm, ⟨h1, h2⟩, hne, h3⟩)
      · rw [ofGo_nil] at h1; cases h1
      · have := h m.n (List.mem_map.2 ⟨m, List.mem_filter.2 ⟨hm, by simp [h1, h2]⟩, rfl⟩)
        rw [h3] at this
        simp at this
        exact hne this
    · intro h n hn
      obtain ⟨m, hm, rfl⟩ := List.mem_map.1 hn
      obtain ⟨hm, h12⟩ := List.mem_filter.1 hm
      simp at h12
      by_cases q : m.n = k.n
      · simp [q]
      · have : ofGo t [m.n] k.n = false := by
          cases h3 : ofGo t [m.n] k.n with
          | false => rfl
          | true => exact absurd (.inr ⟨m, hm, h12, q, h3⟩) h
        simp [this]
  rw [hs, Bool.and_comm]

theorem common_comm (t : List K) (a b : Int) : common t a b = common t b a := by
  unfold common
  congr 1
  exact List.filter_congr fun k _ => Bool.and_comm _ _
theorem best_comm (t : List K) (a b : Int) : best t a b = best t b a := by
  have h : isBest t a b = isBest t b a := by funext c; unfold isBest; rw [common_comm]
  unfold best; rw [h, common_comm]
/-- what one comes of is no greater -/
theorem ofGo_le {t : List K} : ∀ {u : List Int} {x : Int}, (∀ k ∈ t, ∀ p ∈ k.ps, p < k.n) → ofGo t u x = true → ∃ p ∈ u, x ≤ p := by
  induction t with
  | nil => intro u x _ h; cases h
  | cons k t ih =>
    intro u x hp h
    have hp' : ∀ k ∈ t, ∀ p ∈ k.ps, p < k.n := fun y hy => hp y (by simp [hy])
    by_cases hk : k.n ∈ u
    · by_cases hx : k.n = x
      · exact ⟨k.n, hk, by omega⟩
      · rw [ofGo_in hk hx] at h
        obtain ⟨p, hpu, hle⟩ := ih hp' h
        rcases List.mem_append.1 hpu with q | q
        · exact ⟨p, q, hle⟩
        · have := hp k (by simp) p q
          exact ⟨k.n, hk, by omega⟩
    · rw [ofGo_out hk] at h
      exact ih hp' h
theorem ofGo_mem {t : List K} {u : List Int} {x : Int} (h : ofGo t u x = true) : ∃ y ∈ t, y.n = x := by
  by_cases q : ∃ y ∈ t, y.n = x
  · exact q
  · rw [ofGo_not (fun y hy e => q ⟨y, hy, e⟩)] at h; cases h
theorem falls_nodup {t : List K} (h : Falls t) : (t.map (·.n)).Pairwise (fun a b => b < a) := by
  induction t with
  | nil => exact .nil
  | cons k t ih =>
    rw [List.map_cons, List.pairwise_cons]
    exact ⟨fun a ha => by obtain ⟨y, hy, rfl⟩ := List.mem_map.1 ha; exact h.1 y hy, ih h.2⟩
theorem only_one {l : List Int} {b : Int} (h : ∀ x ∈ l, x = b) (hb : b ∈ l) (hn : l.Pairwise (· ≠ ·)) : l = [b] := by
  match l with
  | [] => cases hb
  | [x] => rw [h x (by simp)]
  | x :: y :: r =>
    have h1 := h x (by simp)
    have h2 := h y (by simp)
    have := (List.pairwise_cons.1 hn).1 y (by simp)
    omega
theorem best_one {t : List K} {a b : Int} (hF : Falls t) (hp : ∀ k ∈ t, ∀ p ∈ k.ps, p < k.n) (h : ofGo t [a] b = true) : best t a b = [b] := by
  obtain ⟨k, hk, rfl⟩ := ofGo_mem h
  have self : ∀ {t : List K}, Falls t → ∀ k ∈ t, ofGo t [k.n] k.n = true := by
    intro t
    induction t with
    | nil => intro _ k hk; cases hk
    | cons z t ih =>
      intro hF k hk
      rcases List.mem_cons.1 hk with rfl | hk
      · exact ofGo_self (by simp)
      · have := hF.1 k hk
        rw [ofGo_out (by simp; omega)]
        exact ih hF.2 k hk
  have hc : k.n ∈ common t a k.n := List.mem_map.2 ⟨k, List.mem_filter.2 ⟨hk, by simp [h, self hF k hk]⟩, rfl⟩
  refine only_one (fun x hx => ?_) ?_ ?_
  · obtain ⟨hx1, hx2⟩ := List.mem_filter.1 hx
    have hx1 := List.mem_reverse.1 hx1
    obtain ⟨m, hm, rfl⟩ := List.mem_map.1 hx1
    have hm2 := (List.mem_filter.1 hm).2
    simp at hm2
    have := List.all_eq_true.1 hx2 k.n hc
    rw [hm2.2] at this
    simp at this
    exact this.symm
  · refine List.mem_filter.2 ⟨List.mem_reverse.2 hc, List.all_eq_true.2 fun n hn => ?_⟩
    obtain ⟨m, hm, rfl⟩ := List.mem_map.1 hn
    have hm2 := (List.mem_filter.1 hm).2
    simp at hm2
    by_cases q : m.n = k.n
    · simp [q]
    · have : ofGo t [m.n] k.n = false := by
        cases h3 : ofGo t [m.n] k.n with
        | false => rfl
        | true =>
          obtain ⟨p, hp1, hp2⟩ := ofGo_le hp h3
          obtain ⟨p', hp3, hp4⟩ := ofGo_le hp hm2.2
          simp at hp1 hp3
          omega
      simp [this]
  · unfold best common
    refine List.Pairwise.filter _ (List.pairwise_reverse.2 ?_)
    refine (List.Pairwise.sublist ?_ (falls_nodup hF)).imp (fun {a b} h => by omega)
    exact List.Sublist.map _ List.filter_sublist

/-! ## the queue -/
/-- the numbers that were marked and have not come -/
def pend (t : List K) (f : Int → M) : List Int := (t.filter (fun k => !(f k.n).z)).map (·.n)
theorem pend_nil {t : List K} {f : Int → M} (h : pend t f = []) : run t f = [] := by
  induction t with
  | nil => rfl
  | cons k t ih =>
    unfold pend at h
    rw [List.filter_cons] at h
    split at h
    · cases h
    · rename_i hz
      have hz : (f k.n).z = true := by simpa using hz
      rw [run, if_pos hz]
      exact ih h
theorem falls_tail {t1 t2 : List K} (h : Falls (t1 ++ t2)) : Falls t2 := by
  induction t1 with
  | nil => exact h
  | cons k t ih => exact ih h.2
theorem falls_ahead {t1 t2 : List K} (h : Falls (t1 ++ t2)) : ∀ a ∈ t1, ∀ b ∈ t2, b.n < a.n := by
  induction t1 with
  | nil => intro a ha; cases ha
  | cons k t ih =>
    intro a ha b hb
    rcases List.mem_cons.1 ha with rfl | ha
    · exact h.1 b (List.mem_append.2 (.inr hb))
    · exact ih h.2 a ha b hb
/-- the greatest of them is the next one of the walk -/
theorem pend_first {t : List K} {f : Int → M} (h : pend t f ≠ []) : ∃ t1 k t2, t = t1 ++ k :: t2 ∧ pend t f = k.n :: pend t2 f ∧ run t f = (k.n, f k.n) :: run t2 (marks f k.ps (f k.n).on) ∧ (f k.n).z = false := by
  induction t with
  | nil => exact absurd rfl h
  | cons k t ih =>
    by_cases hz : (f k.n).z = true
    · have e : pend (k :: t) f = pend t f := by
        unfold pend; rw [List.filter_cons, if_neg (by simp [hz])]
      rw [e] at h
      obtain ⟨t1, k', t2, rfl, hp, hr, hz'⟩ := ih h
      exact ⟨k :: t1, k', t2, rfl, by rw [e]; exact hp, by rw [run, if_pos hz]; exact hr, hz'⟩
    · have hz' : (f k.n).z = false := by simpa using hz
      refine ⟨[], k, t, rfl, ?_, ?_, hz'⟩
      · unfold pend; rw [List.filter_cons, if_pos (by simp [hz'])]; rfl
      · rw [run, if_neg hz]
theorem pend_pop {t : List K} {f : Int → M} {q q' : List Int} {x : Int} (hF : Falls t) (hq : q.Perm (pend t f)) (hx : (x :: q').Perm q) (hm : ∀ y ∈ q, y ≤ x) :
    ∃ t1 k t2, t = t1 ++ k :: t2 ∧ k.n = x ∧ q'.Perm (pend t2 f) ∧ run t f = (x, f x) :: run t2 (marks f k.ps (f x).on) ∧ (f x).z = false := by
  have hp := hx.trans hq
  have hne : pend t f ≠ [] := fun e => by rw [e] at hp; exact absurd hp.length_eq (by simp)
  obtain ⟨t1, k, t2, rfl, h1, h2, h3⟩ := pend_first hne
  have hF2 := falls_tail hF
  have hk : k.n ≤ x := hm _ (hq.symm.subset (by rw [h1]; simp))
  have hx2 : x ∈ pend (t1 ++ k :: t2) f := hp.subset (by simp)
  rw [h1] at hx2
  have e : k.n = x := by
    rcases List.mem_cons.1 hx2 with h | h
    · exact h.symm
    · unfold pend at h
      obtain ⟨y, hy, rfl⟩ := List.mem_map.1 h
      have := hF2.1 y (List.mem_filter.1 hy).1
      omega
  subst e
  rw [h1] at hp
  exact ⟨t1, k, t2, rfl, rfl, hp.cons_inv, h2, h3⟩
/-- one mark -/
def mark1 (f : Int → M) (p : Int) (o : M) : Int → M := fun y => if y = p then (f y).or o else f y
theorem or_or (a o : M) : (a.or o).or o = a.or o := by
  cases a with | mk a b c => cases o with | mk d e g => simp [M.or, Bool.or_assoc]
theorem marks_nil (f : Int → M) (o : M) : marks f [] o = f := by funext y; simp [marks]
theorem marks_snoc (f : Int → M) (ps : List Int) (p : Int) (o : M) : mark1 (marks f ps o) p o = marks f (ps ++ [p]) o := by
  funext y
  unfold mark1 marks
  by_cases a : y ∈ ps
  · rw [if_pos a, if_pos (List.mem_append.2 (.inl a)), or_or]; simp
  · rw [if_neg a]
    by_cases b : y = p
    · rw [if_pos b, if_pos (by simp [b])]
    · rw [if_neg b, if_neg (by simp [a, b])]
theorem or_z {a o : M} (ho : o.z = false) : (a.or o).z = false := by
  cases a with | mk a b c => cases o with | mk d e g => revert ho; cases a <;> cases b <;> cases c <;> cases d <;> cases e <;> cases g <;> simp [M.or, M.z]
theorem on_z {a : M} (h : a.z = false) : a.on.z = false := by
  cases a with | mk a b c => revert h; cases a <;> cases b <;> cases c <;> simp [M.on, M.z, M.both]
/-- one that was marked before -/
theorem pend_again {t : List K} {f : Int → M} {p : Int} {o : M} (h : (f p).z = false) (ho : o.z = false) : pend t (mark1 f p o) = pend t f := by
  unfold pend
  congr 1
  refine List.filter_congr fun k _ => ?_
  unfold mark1
  by_cases e : k.n = p
  · rw [if_pos e, or_z ho, e, h]
  · rw [if_neg e]
/-- one that was not -/
theorem pend_new {t : List K} {f : Int → M} {p : Int} {o : M} (hF : Falls t) (hp : ∃ y ∈ t, y.n = p) (h : (f p).z = true) (ho : o.z = false) : (p :: pend t f).Perm (pend t (mark1 f p o)) := by
  induction t with
  | nil => obtain ⟨y, hy, -⟩ := hp; cases hy
  | cons k t ih =>
    by_cases e : k.n = p
    · subst e
      have hr : pend t (mark1 f k.n o) = pend t f := by
        unfold pend
        congr 1
        refine List.filter_congr fun y hy => ?_
        have := hF.1 y hy
        unfold mark1
        rw [if_neg (by omega)]
      have h1 : pend (k :: t) f = pend t f := by unfold pend; rw [List.filter_cons, if_neg (by simp [h])]
      have h2 : pend (k :: t) (mark1 f k.n o) = k.n :: pend t (mark1 f k.n o) := by
        have : (mark1 f k.n o k.n).z = false := by unfold mark1; rw [if_pos rfl]; exact or_z ho
        unfold pend; rw [List.filter_cons, if_pos (by simp [this])]; rfl
      rw [h1, h2, hr]
    · have hp' : ∃ y ∈ t, y.n = p := by
        obtain ⟨y, hy, rfl⟩ := hp
        rcases List.mem_cons.1 hy with rfl | hy
        · exact absurd rfl e
        · exact ⟨y, hy, rfl⟩
      have ih := ih hF.2 hp'
      have hk : mark1 f p o k.n = f k.n := by unfold mark1; rw [if_neg e]
      by_cases hz : (f k.n).z = true
      · have h1 : pend (k :: t) f = pend t f := by unfold pend; rw [List.filter_cons, if_neg (by simp [hz])]
        have h2 : pend (k :: t) (mark1 f p o) = pend t (mark1 f p o) := by unfold pend; rw [List.filter_cons, if_neg (by rw [hk]; simp [hz])]
        rw [h1, h2]; exact ih
      · have hz' : (f k.n).z = false := by simpa using hz
        have h1 : pend (k :: t) f = k.n :: pend t f := by unfold pend; rw [List.filter_cons, if_pos (by simp [hz'])]; rfl
        have h2 : pend (k :: t) (mark1 f p o) = k.n :: pend t (mark1 f p o) := by unfold pend; rw [List.filter_cons, if_pos (by rw [hk]; simp [hz'])]; rfl
        rw [h1, h2]
        exact (List.Perm.swap _ _ _).trans (ih.cons _)
/-- marks as numbers -/
def M.code (m : M) : Int := (if m.L then 1 else 0) + (if m.R then 2 else 0) + (if m.S then 4 else 0)
theorem code_z (m : M) : (m.code = 0) ↔ m.z = true := by
  cases m with | mk a b c => cases a <;> cases b <;> cases c <;> simp [M.code, M.z]
end Go.Proofs.Ytpaegpbabfohcaa.DagPure
