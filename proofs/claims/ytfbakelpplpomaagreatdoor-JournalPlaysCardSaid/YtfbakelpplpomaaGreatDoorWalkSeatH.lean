/-
  The walks of the document's Bare, Take of the seat.
-/
import Derived.Test.YtfbakelpplpomaaGreatDoorWalkSeatF
import Derived.Test.YtfbakelpplpomaaGreatDoorWalkSeatE
namespace Go.Proofs.YtfbakelpplpomaaGreatDoor.WalkSeat
open Go.RowKit Go.Proofs.YtfbakelpplpomaaGreatDoor.WalkVar Go.Proofs.YtfbakelpplpomaaGreatDoor.WalkScan Go.Proofs.YtfbakelpplpomaaGreatDoor.WalkCrc
open Pl.Seat (numV numR txtV txtR numP txtP Head isH putH openS)
set_option linter.unusedVariables false
set_option linter.unusedSimpArgs false
set_option maxRecDepth 100000

theorem all_zero_drop (l : List UInt8) (a : Nat) : (l.drop a).all (· == 0) = true ↔ ∀ j, a ≤ j → j < l.length → l.getD j 0 = 0 := by
  rw [List.all_eq_true]
  constructor
  · intro h j h1 h2
    have hm : l[j] ∈ l.drop a := by
      rw [List.mem_drop_iff_getElem]
      exact ⟨j - a, by omega, by congr 1; omega⟩
    have := h _ hm
    simp only [List.getD_eq_getElem?_getD, List.getElem?_eq_getElem h2, Option.getD_some]
    simpa using this
  · intro h x hx
    rw [List.mem_drop_iff_getElem] at hx
    obtain ⟨i, hi, rfl⟩ := hx
    have := h (a + i) (by omega) (by omega)
    simp only [List.getD_eq_getElem?_getD] at this
    rw [List.getElem?_eq_getElem (by omega)] at this
    simpa using this
set_option maxHeartbeats 3200000 in
theorem refBare_any (s : ByteArray) (w : World) (hs : s.size ≤ 1048576) :
    Calls Tryz.prog 103 #[.string s] w fun e w' => e = .returned (.tuple #[.string (bs (bareV s.data.toList)), .bool (bareB s.data.toList)]) ∧ Below w.heap.size w w' := by
  have hbo := bare_of s.data.toList
  have hsl : s.data.toList.length = s.size := by simp
  rw [hsl] at hbo
  have HSL := Lib.hid hsl
  have hgd : ∀ k (h : k < s.size), (s.data.toList.getD k 0) = s[k] := fun k h => by
    rw [List.getD_eq_getElem?_getD, List.getElem?_eq_getElem (by rw [HSL.out]; exact h)]; rfl
  have HGD := Lib.hid hgd
  unfold bareV bareB
  obtain ⟨R, hR⟩ : ∃ R, Pl.Seat.bare s.data.toList = R := ⟨_, rfl⟩
  rw [hR] at hbo ⊢
  clear hR hsl hgd
  have HT := Lib.hid (fun w => refText_any s (.agg #[.string s, .int .i64 0, .int .i64 0]) (some s.data.toList) 128 w ⟨0, 0, rfl, hs, by omega, by omega, by simp⟩ (by omega))
  obtain ⟨t, ht⟩ : ∃ t, txtV 128 (some s.data.toList) = t := ⟨_, rfl⟩
  obtain ⟨st, hst⟩ : ∃ st, txtR 128 (some s.data.toList) = st := ⟨_, rfl⟩
  rw [ht, hst] at HT
  rw [hst, ht] at hbo
  clear ht hst
  cases st with
  | none =>
    simp only at hbo
    subst hbo
    go_enter Tryz.func103, Tryz.ntmps103
    go_wp2_with fail
    refine (HT.out _).mono ?_
    rintro e w1 ⟨v', rfl, ⟨a1, e1, rfl, _, ha1, he1, hst1⟩, hB1⟩
    have hne : ((e1 : Int) == 0) = false := by
      by_cases h : e1 = 0
      · rw [if_pos h] at hst1; simp at hst1
      · simp; omega
    have hne2 : ((e1 : Int) != 0) = true := by simpa using hne
    clear hst1
    go_wp2_with fail
    go_ret2
    exact ⟨rfl, hB1.alloc hB1.size _⟩
  | some q =>
    simp only at hbo
    have HBO := Lib.hid hbo
    clear hbo
    by_cases h1 : s.size = 128
    · have h1i : ((s.size : Int) == 128) = true := by simp; omega
      go_enter Tryz.func103, Tryz.ntmps103
      go_wp2_with fail
      refine (HT.out _).mono ?_
      rintro e w1 ⟨v', rfl, ⟨a1, e1, rfl, _, ha1, he1, hst1⟩, hB1⟩
      have hne : e1 = 0 := by
        by_cases h : e1 = 0
        · exact h
        · rw [if_neg h] at hst1; simp at hst1
      subst hne
      have hq : q = s.data.toList.drop a1 := by simpa using hst1
      have HQ := Lib.hid hq
      have hB2 := hB1.alloc hB1.size (.cells #[.string s, .int .i64 a1, .int .i64 0] 149)
      clear hst1 hq HT
      go_wp2_with fail
      generalize w1.alloc (.cells #[.string s, .int .i64 a1, .int .i64 0] 149) = w2 at hB2 ⊢
      go_loop [6] (fun i => ∃ k : Nat, a1 ≤ k ∧ k ≤ 128 ∧ i = .int .i64 k ∧ Hid (∀ j, a1 ≤ j → j < k → s.data.toList.getD j 0 = 0)) (fun i => 128 - (intOf i).toNat)
      case atStart => exact ⟨a1, by omega, by omega, rfl, by intro j h1 h2; omega⟩
      case round =>
        obtain ⟨k, hak, hk, rfl, HZ⟩ := hrel
        by_cases hlt : k < 128
        · have hks : k < s.size := by omega
          have hki : (k : Int) < (s.size : Int) := by omega
          obtain ⟨C, hC⟩ : ∃ C, s[k].toNat = C := ⟨_, rfl⟩
          by_cases hc0 : C = 0
          · subst hc0
            have hZ2 : Hid (∀ j, a1 ≤ j → j < k + 1 → s.data.toList.getD j 0 = 0) := fun j g1 g2 => by
              rcases Nat.lt_or_ge j k with h | h
              · exact HZ.out j g1 h
              · rw [show j = k by omega, HGD.out k hks]
                exact UInt8.toNat_inj.1 (by rw [hC]; rfl)
            go_wp2
            go_round
            case rel => exact ⟨k + 1, by omega, by omega, by go_num, hZ2⟩
            case measure => simp [intOf]; omega
          · have hcf : ((C : Int) == 0) = false := by simp; omega
            have hcf2 : ((C : Int) != 0) = true := by simpa using hcf
            have hRn : R = none := by
              rw [HBO.out, if_neg]
              rintro ⟨_, h2⟩
              rw [HQ.out] at h2
              have := (all_zero_drop _ _).1 h2 k hak (by rw [HSL.out]; exact hks)
              rw [HGD.out k hks] at this
              rw [this] at hC
              exact hc0 hC.symm
            subst hRn
            clear HBO
            go_wp2
            go_ret2
            exact ⟨rfl, hB2⟩
        · have hke : k = 128 := by omega
          subst hke
          have hRs : R = some t := by
            rw [HBO.out, if_pos]
            refine ⟨h1, ?_⟩
            rw [HQ.out]
            exact (all_zero_drop _ _).2 fun j g1 g2 => HZ.out j g1 (by rw [HSL.out] at g2; omega)
          subst hRs
          clear HBO
          go_wp2
          go_ret2
          exact ⟨rfl, hB2⟩
    · have h1i : ((s.size : Int) == 128) = false := by simp; omega
      have hRn : R = none := by rw [HBO.out, if_neg (fun h => h1 h.1)]
      subst hRn
      clear HBO
      go_enter Tryz.func103, Tryz.ntmps103
      go_wp2_with fail
      refine (HT.out _).mono ?_
      rintro e w1 ⟨v', rfl, ⟨a1, e1, rfl, _, ha1, he1, hst1⟩, hB1⟩
      have hne : e1 = 0 := by
        by_cases h : e1 = 0
        · exact h
        · rw [if_neg h] at hst1; simp at hst1
      subst hne
      clear hst1
      go_wp2_with fail
      go_ret2
      exact ⟨rfl, hB1.alloc hB1.size _⟩

/-- a block that has the document's scan -/
structure Sc3 (b : Nat) (s : ByteArray) (a e : Nat) (w : World) : Prop where
  c0 : w.cell? ⟨b, 0, none⟩ = some (.string s)
  c1 : w.cell? ⟨b, 1, none⟩ = some (.int .i64 a)
  c2 : w.cell? ⟨b, 2, none⟩ = some (.int .i64 e)
  fz : ∀ o, w.frozen? ⟨b, o, none⟩ = false
theorem Sc3.lt {b : Nat} {s : ByteArray} {a e : Nat} {w : World} (h : Sc3 b s a e w) : b < w.heap.size := World.block_lt_of_cell? w _ h.c0
theorem Sc3.kept {b : Nat} {s : ByteArray} {a e : Nat} {w w' : World} (h : Sc3 b s a e w) (hb : w'.heap[b]? = w.heap[b]?) : Sc3 b s a e w' := by
  have hc : ∀ o, w'.cell? ⟨b, o, none⟩ = w.cell? ⟨b, o, none⟩ := fun o => World.cell?_of_block (w := w) hb
  have hf : ∀ o, w'.frozen? ⟨b, o, none⟩ = w.frozen? ⟨b, o, none⟩ := fun o => World.frozen?_of_block (w := w) hb
  exact ⟨by rw [hc]; exact h.c0, by rw [hc]; exact h.c1, by rw [hc]; exact h.c2, fun o => by rw [hf]; exact h.fz o⟩
theorem Sc3.after {b : Nat} {s : ByteArray} {a e : Nat} {w w' : World} (h : Sc3 b s a e w) (hB : Below w.heap.size w w') : Sc3 b s a e w' := h.kept (hB.block b h.lt)
theorem Sc3.new (w : World) (s : ByteArray) (a e : Nat) (T : TypeId) : Sc3 w.heap.size s a e (w.alloc (.cells #[.string s, .int .i64 a, .int .i64 e] T)) := ⟨by go_simp, by go_simp, by go_simp, fun o => by go_simp⟩
/-- three stores into a block -/
def put3 (w : World) (b : Nat) (x0 x1 x2 : Value) : World := ((w.setCell ⟨b, 0, none⟩ x0).setCell ⟨b, 1, none⟩ x1).setCell ⟨b, 2, none⟩ x2
theorem put3_sc {b : Nat} {s : ByteArray} {a e : Nat} {w : World} (h : Sc3 b s a e w) (s' : ByteArray) (a' e' : Nat) : Sc3 b s' a' e' (put3 w b (.string s') (.int .i64 a') (.int .i64 e')) := by
  unfold put3
  obtain ⟨k0, k1, k2⟩ := stored3 (three h.c0 h.c1 h.c2)
  refine ⟨?_, ?_, k2 _ _ _, fun o => by rw [World.frozen?_setCell, World.frozen?_setCell, World.frozen?_setCell]; exact h.fz o⟩
  · rw [World.cell?_setCell_other _ _ _ _ (by simp), World.cell?_setCell_other _ _ _ _ (by simp)]; exact k0 _
  · rw [World.cell?_setCell_other _ _ _ _ (by simp)]; exact k1 _ _
theorem put3_block {b c : Nat} (w : World) (hne : c ≠ b) (x0 x1 x2 : Value) : (put3 w b x0 x1 x2).heap[c]? = w.heap[c]? := by
  unfold put3
  rw [Below.heap_setCell _ _ _ _ hne, Below.heap_setCell _ _ _ _ hne, Below.heap_setCell _ _ _ _ hne]
theorem below_three {w W : World} {B b : Nat} (h : Below B w W) (hb : B ≤ b) (v x y : Value) : Below B w (put3 W b v x y) :=
  ((h.setCell (p := ⟨b, 0, none⟩) hb v).setCell (p := ⟨b, 1, none⟩) hb x).setCell (p := ⟨b, 2, none⟩) hb y
theorem put3_size (W : World) (b : Nat) (v x y : Value) : (put3 W b v x y).heap.size = W.heap.size := by simp [put3, World.setCell]

theorem refBare_at (s : ByteArray) (o : Option (List UInt8)) (w : World) (hs : s.size ≤ 1048576) (ho : Pl.Seat.bare s.data.toList = o) :
    Calls Tryz.prog 103 #[.string s] w fun e w' => e = .returned (.tuple #[.string (bs (o.getD [])), .bool o.isSome]) ∧ Below w.heap.size w w' := by
  have := refBare_any s w hs
  unfold bareV bareB at this
  rwa [ho] at this
end Go.Proofs.YtfbakelpplpomaaGreatDoor.WalkSeat
/-
  The walks of the document's Next and of the laws' awake.
-/
namespace Go.Proofs.YtfbakelpplpomaaGreatDoor.WalkSeat
open Go.RowKit Go.Proofs.YtfbakelpplpomaaGreatDoor.WalkVar Go.Proofs.YtfbakelpplpomaaGreatDoor.WalkScan Go.Proofs.YtfbakelpplpomaaGreatDoor.WalkCrc
open Pl.Seat (numV numR txtV txtR numP txtP Head isH putH openS)
set_option linter.unusedVariables false
set_option linter.unusedSimpArgs false
set_option maxRecDepth 100000

/-- a head's sector has that head -/
theorem takeV_put (h : Head) (hh : isH h = true) : takeV (putH tailU h) = h ∧ takeB (putH tailU h) = true := by
  have := (Pl.Seat.takeH_iff tailU tailU_len (putH tailU h) h).2 ⟨hh, rfl⟩
  unfold takeV takeB
  rw [this]
  exact ⟨rfl, rfl⟩
theorem takeB_zeros : takeB (zeros 128) = false := by
  unfold takeB
  cases h : Pl.Seat.takeH tailU (zeros 128) with
  | none => rfl
  | some x =>
    obtain ⟨h1, h2⟩ := (Pl.Seat.takeH_iff tailU tailU_len _ _).1 h
    exfalso
    have h3 : (putH tailU x).head? = some 0 := by rw [h2]; rfl
    have hl := Pl.Seat.textH_len x
    have hu := tailU_len (Pl.Seat.textH x)
    have h4 : (putH tailU x).head? = (Pl.Seat.put (Pl.Seat.textH x ++ tailU (Pl.Seat.textH x)).length).head? := by
      show (Pl.Seat.full (Pl.Seat.putT _)).head? = _
      unfold Pl.Seat.full Pl.Seat.putT
      rw [List.append_assoc, List.head?_append]
      have := Pl.Seat.put_pos (Pl.Seat.textH x ++ tailU (Pl.Seat.textH x)).length
      cases hq : Pl.Seat.put (Pl.Seat.textH x ++ tailU (Pl.Seat.textH x)).length with
      | nil => rw [hq] at this; simp at this
      | cons c l => rfl
    have h5 : 0 < (Pl.Seat.textH x ++ tailU (Pl.Seat.textH x)).length := by simp; omega
    have h6 : (Pl.Seat.textH x ++ tailU (Pl.Seat.textH x)).length < 128 := by simp; omega
    generalize (Pl.Seat.textH x ++ tailU (Pl.Seat.textH x)).length = m at h4 h5 h6
    unfold Pl.Seat.put Pl.Seat.putF at h4
    rw [if_pos h6, h3] at h4
    simp only [List.head?_cons, Option.some.injEq] at h4
    have := congrArg UInt8.toNat h4
    simp at this
    omega
end Go.Proofs.YtfbakelpplpomaaGreatDoor.WalkSeat
