/-
  What entry.Take gives, and the walk of entry.Is.
-/
import Derived.Test.YtfbakelpplpomaaGreatDoorWalkEntryTake
namespace Go.Proofs.YtfbakelpplpomaaGreatDoor.WalkSeat
open Go.RowKit Go.Proofs.YtfbakelpplpomaaGreatDoor.WalkVar Go.Proofs.YtfbakelpplpomaaGreatDoor.WalkScan Go.Proofs.YtfbakelpplpomaaGreatDoor.WalkCrc
open Pl.Seat (numV numR txtV txtR numP txtP Head isH putH openS isName nameByte isHash Rec isR putR)
set_option linter.unusedVariables false
set_option linter.unusedSimpArgs false
set_option maxRecDepth 100000

/-- what Take gives -/
def takeRV (l : List UInt8) : Rec := (Pl.Seat.takeR tailU l).getD Pl.Seat.Rec.zero
def takeRB (l : List UInt8) : Bool := (Pl.Seat.takeR tailU l).isSome
/-- a record as a value -/
def recV (x : Rec) : Value := .agg #[.int .i64 (x).epoch, .int .i64 (x).seq, .int .i64 (x).kind, .string (bs (x).name), .string (bs (x).old), .string (bs (x).new), .int .i64 (x).tail, .int .i64 (x).num]
theorem recV_zero : recV Pl.Seat.Rec.zero = .agg #[.int .i64 0, .int .i64 0, .int .i64 0, .string ⟨#[]⟩, .string ⟨#[]⟩, .string ⟨#[]⟩, .int .i64 0, .int .i64 0] := rfl
theorem txtV_le (m : Nat) (st : Option (List UInt8)) (hm : m < 18446744073709551616) : (txtV m st).length ≤ m := by
  cases h : txtR m st with
  | some r => exact (Pl.Seat.txtR_some hm h).2
  | none =>
    unfold txtR at h
    unfold txtV
    cases hb : st.bind (txtP m) with
    | none => simp
    | some p => rw [hb] at h; simp at h
theorem entryTake_any (s : ByteArray) (w : World) (ht : Tab w) (hs : s.size ≤ 1048576) :
    Calls Tryz.prog 60 #[.string s] w fun e w' => e = .returned (.tuple #[recV (takeRV s.data.toList), .int .i64 (err (takeRB s.data.toList) 3)]) ∧ Below w.heap.size w w' := by
  unfold takeRV takeRB Pl.Seat.takeR Pl.Seat.textOf
  cases hb : Pl.Seat.bare s.data.toList with
  | none => exact entryTake_none s w hs hb
  | some t =>
    have htl := bare_short hb
    simp only [Option.bind_some]
    cases ho : openS tailU t with
    | none => exact entryTake_shut s t w ht hs hb ho (by omega)
    | some x =>
      have hxl := openS_short ho
      simp only
      by_cases hp : x.head? = some 82
      · obtain ⟨p, hP⟩ : ∃ p, Pl.Seat.r8 4294967295 4096 2 12 32 32 524288 4294967296 (some (x.drop 1)) = p := ⟨_, rfl⟩
        obtain ⟨X, st⟩ := p
        have hR : ∀ r, isR X = r → Calls Tryz.prog 60 #[.string s] w fun e w' => e = .returned (if st = some [] ∧ r = true then .tuple #[recV X, .int .i64 0] else .tuple #[recV Pl.Seat.Rec.zero, .int .i64 3]) ∧ Below w.heap.size w w' := by
          unfold Pl.Seat.r8 at hP
          simp only [Prod.mk.injEq] at hP
          obtain ⟨rfl, rfl⟩ := hP
          intro r hr
          exact entryTake_read s t x w ht hs hb ho (by omega) (by omega) hp _ _ _ _ _ _ _ _ _ _ _ _ _ _ _ _ _ rfl rfl rfl rfl rfl rfl rfl rfl rfl rfl rfl rfl rfl rfl rfl rfl rfl r hr (Nat.le_trans (txtV_le _ _ (by omega)) (by omega)) (Nat.le_trans (txtV_le _ _ (by omega)) (by omega)) (Nat.le_trans (txtV_le _ _ (by omega)) (by omega))
        have := hR _ rfl
        rw [hP]
        by_cases hc : st = some [] ∧ isR X = true
        · rw [if_pos hc] at this
          rw [if_pos ⟨hp, hc⟩]
          exact this
        · rw [if_neg hc] at this
          rw [if_neg (fun h => hc h.2)]
          exact this
      · rw [if_neg (fun h => hp h.1)]
        exact entryTake_other s t x w ht hs hb ho (by omega) (by omega) hp
theorem takeRV_is (l : List UInt8) : (takeRB l = true ∧ isR (takeRV l) = true ∧ putRV (takeRV l) = l) ∨ (takeRB l = false ∧ takeRV l = Pl.Seat.Rec.zero) := by
  unfold takeRV takeRB
  cases h : Pl.Seat.takeR tailU l with
  | none => exact .inr ⟨rfl, rfl⟩
  | some x =>
    obtain ⟨g1, g2⟩ := (Pl.Seat.takeR_iff tailU tailU_len _ _).1 h
    exact .inl ⟨rfl, g1, by unfold putRV; simp only [Option.getD_some]; rw [if_pos g1]; exact g2⟩
theorem takeR_at (s : ByteArray) (X : Rec) (B : Bool) (n : Int) (w : World) (ht : Tab w) (hs : s.size ≤ 1048576) (hX : takeRV s.data.toList = X) (hB : takeRB s.data.toList = B) (hn : (err B 3 : Int) = n) :
    Calls Tryz.prog 60 #[.string s] w fun e w' => e = .returned (.tuple #[.agg #[.int .i64 (X).epoch, .int .i64 (X).seq, .int .i64 (X).kind, .string (bs (X).name), .string (bs (X).old), .string (bs (X).new), .int .i64 (X).tail, .int .i64 (X).num], .int .i64 n]) ∧ Below w.heap.size w w' := hX ▸ hn ▸ hB ▸ entryTake_any s w ht hs
/-- what Is gives -/
def isRB (l : List UInt8) (ep sq : Int) : Bool := takeRB l && decide ((takeRV l).epoch = ep) && decide ((takeRV l).seq = sq)
def isRV (l : List UInt8) (ep sq : Int) : Rec := if isRB l ep sq then takeRV l else Pl.Seat.Rec.zero

set_option maxHeartbeats 3200000 in
theorem entryIs_parts (s : ByteArray) (ep sq : Int) (w : World) (ht : Tab w) (hs : s.size ≤ 1048576) (B : Bool) (e q k : Int) (N O M : ByteArray) (t u : Int)
    (HT : ∀ w, Tab w → Calls Tryz.prog 60 #[.string s] w fun z w' => z = .returned (.tuple #[.agg #[.int .i64 e, .int .i64 q, .int .i64 k, .string N, .string O, .string M, .int .i64 t, .int .i64 u], .int .i64 (err B 3)]) ∧ Below w.heap.size w w') :
    Calls Tryz.prog 34 #[.string s, .int .i64 ep, .int .i64 sq] w fun z w' => z = .returned (if B = true ∧ e = ep ∧ q = sq then .tuple #[.agg #[.int .i64 e, .int .i64 q, .int .i64 k, .string N, .string O, .string M, .int .i64 t, .int .i64 u], .bool true] else .tuple #[.agg #[.int .i64 0, .int .i64 0, .int .i64 0, .string ⟨#[]⟩, .string ⟨#[]⟩, .string ⟨#[]⟩, .int .i64 0, .int .i64 0], .bool false]) ∧ Below w.heap.size w w' := by
  have HT2 := Lib.hid HT
  clear HT
  obtain ⟨RES, hres⟩ : ∃ v, (if B = true ∧ e = ep ∧ q = sq then (Value.tuple #[.agg #[.int .i64 e, .int .i64 q, .int .i64 k, .string N, .string O, .string M, .int .i64 t, .int .i64 u], .bool true]) else .tuple #[.agg #[.int .i64 0, .int .i64 0, .int .i64 0, .string ⟨#[]⟩, .string ⟨#[]⟩, .string ⟨#[]⟩, .int .i64 0, .int .i64 0], .bool false]) = v := ⟨_, rfl⟩
  rw [hres]
  have HRES := Lib.hid hres
  clear hres
  go_enter Tryz.func34, Tryz.ntmps34
  go_wp2_with fail
  have q0 := (Below.refl w.heap.size w).alloc (Nat.le_refl _) (.cells #[.int .i64 0, .int .i64 0, .int .i64 0, .string ⟨#[]⟩, .string ⟨#[]⟩, .string ⟨#[]⟩, .int .i64 0, .int .i64 0] 24)
  refine (HT2.out _ (ht.after q0)).mono ?_
  rintro z w1 ⟨rfl, hB1⟩
  have q1 := q0.then' hB1 (by simp)
  have C1 := (Cell8.new w (.int .i64 0) (.int .i64 0) (.int .i64 0) (.string ⟨#[]⟩) (.string ⟨#[]⟩) (.string ⟨#[]⟩) (.int .i64 0) (.int .i64 0) 24).after hB1
  have q2 := q1.alloc q1.size (.cells #[.int .i64 e, .int .i64 q, .int .i64 k, .string N, .string O, .string M, .int .i64 t, .int .i64 u] 24)
  have C2 := C1.alloc (.cells #[.int .i64 e, .int .i64 q, .int .i64 k, .string N, .string O, .string M, .int .i64 t, .int .i64 u] 24)
  have D2 := RecAt.new w1 e q k N O M t u 24
  have hne : w.heap.size ≠ w1.heap.size := Nat.ne_of_lt C1.lt
  have hne2 : w1.heap.size ≠ w.heap.size := Ne.symm hne
  clear q0 q1 hB1 C1
  cases B
  · simp only [err, Bool.false_eq_true, if_false]
    go_upto_region 2 with fail
    generalize w1.heap.size = p at D2 hne hne2 ⊢
    generalize w1.alloc (.cells #[.int .i64 e, .int .i64 q, .int .i64 k, .string N, .string O, .string M, .int .i64 t, .int .i64 u] 24) = w2 at D2 C2 q2 ⊢
    obtain ⟨d0, d1, d2, d3, d4, d5, d6, d7, d8⟩ := id D2
    obtain ⟨k0, k1, k2, k3, k4, k5, k6, k7, x0, x1, x2, x3, x4, x5, x6, x7, y0, y1, y2, y3, y4, y5, y6, y7⟩ := C2.stored
    have y8 := C2.2
    go_wp2_with fail
    refine bodyPost_ret (by simp [results, Tryz.results34, k0, k1, k2, k3, k4, k5, k6, k7, go_sem]; try rfl) rfl ?_
    exact ⟨by rw [← HRES.out, if_neg (by simp)], below_eight q2 (Nat.le_refl _) _ _ _ _ _ _ _ _⟩
  · simp only [err, if_true]
    go_upto_region 2 with fail
    generalize w1.heap.size = p at D2 hne hne2 ⊢
    generalize w1.alloc (.cells #[.int .i64 e, .int .i64 q, .int .i64 k, .string N, .string O, .string M, .int .i64 t, .int .i64 u] 24) = w2 at D2 C2 q2 ⊢
    obtain ⟨d0, d1, d2, d3, d4, d5, d6, d7, d8⟩ := id D2
    obtain ⟨k0, k1, k2, k3, k4, k5, k6, k7, x0, x1, x2, x3, x4, x5, x6, x7, y0, y1, y2, y3, y4, y5, y6, y7⟩ := C2.stored
    have y8 := C2.2
    by_cases h1 : e = ep
    · by_cases h2 : q = sq
      · have e1 : (e != ep) = false := by simp [h1]
        have e2 : (q != sq) = false := by simp [h2]
        have e3 : (e == ep) = true := by simp [h1]
        have e4 : (q == sq) = true := by simp [h2]
        have HC := Lib.hid (And.intro h1 h2)
        clear h1 h2
        go_wp2_with fail
        refine bodyPost_ret (by simp [results, Tryz.results34, k0, k1, k2, k3, k4, k5, k6, k7, go_sem]; try rfl) rfl ?_
        exact ⟨by rw [← HRES.out, if_pos (by simpa using HC.out)], below_eight q2 (Nat.le_refl _) _ _ _ _ _ _ _ _⟩
      · have e1 : (e != ep) = false := by simp [h1]
        have e2 : (q != sq) = true := by simp [h2]
        have e3 : (e == ep) = true := by simp [h1]
        have e4 : (q == sq) = false := by simp [h2]
        have HC := Lib.hid h2
        clear h1 h2
        go_wp2_with fail
        refine bodyPost_ret (by simp [results, Tryz.results34, k0, k1, k2, k3, k4, k5, k6, k7, go_sem]; try rfl) rfl ?_
        exact ⟨by rw [← HRES.out, if_neg (fun h => HC.out h.2.2)], below_eight q2 (Nat.le_refl _) _ _ _ _ _ _ _ _⟩
    · have e1 : (e != ep) = true := by simp [h1]
      have e3 : (e == ep) = false := by simp [h1]
      have HC := Lib.hid h1
      clear h1
      go_wp2_with fail
      refine bodyPost_ret (by simp [results, Tryz.results34, k0, k1, k2, k3, k4, k5, k6, k7, go_sem]; try rfl) rfl ?_
      exact ⟨by rw [← HRES.out, if_neg (fun h => HC.out h.2.1)], below_eight q2 (Nat.le_refl _) _ _ _ _ _ _ _ _⟩
theorem entryIs_at (s : ByteArray) (ep sq : Int) (X : Rec) (b : Bool) (w : World) (ht : Tab w) (hs : s.size ≤ 1048576) (hX : isRV s.data.toList ep sq = X) (hb : isRB s.data.toList ep sq = b) :
    Calls Tryz.prog 34 #[.string s, .int .i64 ep, .int .i64 sq] w fun z w' => z = .returned (.tuple #[.agg #[.int .i64 (X).epoch, .int .i64 (X).seq, .int .i64 (X).kind, .string (bs (X).name), .string (bs (X).old), .string (bs (X).new), .int .i64 (X).tail, .int .i64 (X).num], .bool b]) ∧ Below w.heap.size w w' := by
  have := entryIs_parts s ep sq w ht hs (takeRB s.data.toList) (takeRV s.data.toList).epoch (takeRV s.data.toList).seq (takeRV s.data.toList).kind (bs (takeRV s.data.toList).name) (bs (takeRV s.data.toList).old) (bs (takeRV s.data.toList).new) (takeRV s.data.toList).tail (takeRV s.data.toList).num (fun w ht => entryTake_any s w ht hs)
  subst hX hb
  unfold isRV
  by_cases hc : takeRB s.data.toList = true ∧ (takeRV s.data.toList).epoch = ep ∧ (takeRV s.data.toList).seq = sq
  · rw [if_pos hc] at this
    have hb : isRB s.data.toList ep sq = true := by unfold isRB; simp [hc.1, hc.2.1, hc.2.2]
    rw [hb, if_pos rfl]
    exact this
  · rw [if_neg hc] at this
    have hb : isRB s.data.toList ep sq = false := by
      unfold isRB
      rw [Bool.eq_false_iff]
      intro h
      simp only [Bool.and_eq_true, decide_eq_true_eq] at h
      exact hc ⟨h.1.1, h.1.2, h.2⟩
    rw [hb, if_neg (by simp)]
    exact this
end Go.Proofs.YtfbakelpplpomaaGreatDoor.WalkSeat
