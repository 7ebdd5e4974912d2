/-
  The walk of may.
-/
import Derived.Test.YtfbakelpplpomaaGreatDoorWalkDiskG
namespace Go.Proofs.YtfbakelpplpomaaGreatDoor.Disk
open Go.RowKit Go.Proofs.YtfbakelpplpomaaGreatDoor.DiskRows
set_option linter.unusedVariables false
set_option linter.unusedSimpArgs false
set_option maxRecDepth 100000

/-- may an image be? -/
def mayP (l : List ByteArray) (C : List (Int × ByteArray)) : Prop :=
  16 ≤ l.length ∧ l.length ≤ 4096 ∧ C.length ≤ 4096 ∧ (∀ s ∈ l, s.size = 128) ∧ ∀ x ∈ C, 0 ≤ x.1 ∧ x.1 < (l.length : Int) ∧ x.2.size = 128
instance (l : List ByteArray) (C : List (Int × ByteArray)) : Decidable (mayP l C) := by unfold mayP; infer_instance
theorem sector_any (s : ByteArray) (w : World) (r : Bool) (hr : r = decide ((s.size : Int) = 128)) :
    Calls Tryz.prog 83 #[.string s] w fun x w' => x = .returned (.bool r) ∧ w = w' := by
  subst hr
  by_cases h : (s.size : Int) = 128
  · go_enter Tryz.func83, Tryz.ntmps83
    go_wp2
    go_ret
    exact ⟨by rw [decide_eq_true h]; simp [h], rfl⟩
  · go_enter Tryz.func83, Tryz.ntmps83
    go_wp2
    go_ret
    exact ⟨by rw [decide_eq_false h]; simp [h], rfl⟩
set_option maxHeartbeats 3200000 in
theorem may_any (A A' : Option Addr) (c c' : Nat) (l : List ByteArray) (C : List (Int × ByteArray)) (w : World) (h : Txs w A l) (h' : Wrs w A' C) (hn : l.length ≤ 100000) (hn' : C.length ≤ 100000) :
    Calls Tryz.prog 56 #[.agg #[.slice A l.length c, .slice A' C.length c']] w fun x w' => x = .returned (.bool (decide (mayP l C))) ∧ Below w.heap.size w w' := by
  have ka := Joins.below_alloc1 w (.cells #[.slice A l.length c, .slice A' C.length c'] 51)
  have HT := Lib.hid (h.later ka)
  have HW := Lib.hid (h'.later ka)
  have HK := Lib.hid ka
  have hni : (l.length : Int) ≤ 100000 := by omega
  have hni' : (C.length : Int) ≤ 100000 := by omega
  clear h h' ka
  by_cases g1 : (l.length : Int) < 16
  · have e : decide (mayP l C) = false := decide_eq_false (fun k => by have := k.1; omega)
    rw [e]
    go_enter Tryz.func56, Tryz.ntmps56
    go_wp2
    go_ret
    exact ⟨rfl, HK.out⟩
  · by_cases g2 : (4096 : Int) < l.length
    · have e : decide (mayP l C) = false := decide_eq_false (fun k => by have := k.2.1; omega)
      rw [e]
      go_enter Tryz.func56, Tryz.ntmps56
      go_wp2
      go_ret
      exact ⟨rfl, HK.out⟩
    · by_cases g3 : (4096 : Int) < C.length
      · have e : decide (mayP l C) = false := decide_eq_false (fun k => by have := k.2.2.1; omega)
        rw [e]
        go_enter Tryz.func56, Tryz.ntmps56
        go_wp2
        go_ret
        exact ⟨rfl, HK.out⟩
      · go_enter Tryz.func56, Tryz.ntmps56
        go_upto_region 6 with fail
        have hgw : (⟨w.heap.size, 0, none⟩ : Addr).block < (w.alloc (.cells #[.slice A l.length c, .slice A' C.length c'] 51)).heap.size := by simp
        have a1 : (w.alloc (.cells #[.slice A l.length c, .slice A' C.length c'] 51)).cell? ⟨w.heap.size, 1, none⟩ = some (.slice A' C.length c') := (cell_of_row _ _ 1 _ _ _ (heap_alloc_last _ _)).trans rfl
        have HA := Lib.hid (And.intro a1 hgw)
        clear a1 hgw
        generalize w.alloc _ = w0 at *
        go_loopw [27] (fun i wr => ∃ k : Nat, k ≤ l.length ∧ i = .int .i64 k ∧ wr = w0 ∧ ∀ j, j < k → (l.getD j ByteArray.empty).size = 128) (fun i _ => l.length - (intOf i).toNat)
        case atStart => exact ⟨0, by omega, rfl, rfl, fun j h => by omega⟩
        case round =>
          obtain ⟨k, hk, rfl, hwr, hall⟩ := hrel
          subst hwr
          by_cases hlt : k < l.length
          · obtain ⟨g, off, rfl, hg, hc⟩ : ∃ g off, A = some ⟨g, off, none⟩ ∧ g < wr.heap.size ∧ ∀ i, i < l.length → wr.cell? ⟨g, off + i, none⟩ = some (.string (l.getD i ByteArray.empty)) := by
              rcases HT.out with h0 | h0
              · rw [h0] at hlt; simp at hlt
              · exact h0
            have q1 := hc k hlt
            obtain ⟨s, hs⟩ : ∃ s, l.getD k ByteArray.empty = s := ⟨_, rfl⟩
            rw [hs] at q1
            have hmem : s ∈ l := by rw [← hs, List.getD_eq_getElem?_getD, List.getElem?_eq_getElem hlt]; exact List.getElem_mem hlt
            have HALL := Lib.hid hall
            clear hc hall
            by_cases h128 : (s.size : Int) = 128
            · have hsec := sector_any s wr true (by rw [decide_eq_true h128])
              have HS := Lib.hid hsec
              have HN := Lib.hid (show s.size = 128 by omega)
              clear hsec h128
              go_wp2_with (go_at_call 83; go_must (refine HS.out.mono ?_; rintro e w1 ⟨rfl, rfl⟩))
              go_round
              case rel => exact ⟨k + 1, by omega, by go_num, by trivial, fun j hj => by
                rcases Nat.lt_succ_iff_lt_or_eq.1 hj with h | rfl
                · exact HALL.out j h
                · rw [hs]; exact HN.out⟩
              case measure => simp [intOf]; omega
            · have hsec := sector_any s wr false (by rw [decide_eq_false h128])
              have HS := Lib.hid hsec
              have e : decide (mayP l C) = false := decide_eq_false (fun k => h128 (by have := k.2.2.2.1 s hmem; omega))
              have E := Lib.hid e
              clear hsec h128 e
              go_wp2_with (go_at_call 83; go_must (refine HS.out.mono ?_; rintro e w1 ⟨rfl, rfl⟩))
              go_ret
              exact ⟨by rw [E.out]; first | done | rfl, HK.out⟩
          · have hkl : k = l.length := by omega
            subst hkl
            have HALL := Lib.hid (show ∀ s ∈ l, s.size = 128 from fun s hs => by
              obtain ⟨j, hj, rfl⟩ := List.getElem_of_mem hs
              have := hall j hj
              rwa [List.getD_eq_getElem?_getD, List.getElem?_eq_getElem hj] at this)
            have a1 := HA.out.1
            have HW2 := HW.out
            have hlt0 := HA.out.2
            clear hall hk hlt
            go_upto_region 12 with fail
            generalize wr = w0 at *
            go_loopw [39] (fun i wr => ∃ k : Nat, k ≤ C.length ∧ i = .int .i64 k ∧ Below w0.heap.size w0 wr ∧ ∀ j, j < k → 0 ≤ (C.getD j (0, ByteArray.empty)).1 ∧ (C.getD j (0, ByteArray.empty)).1 < (l.length : Int) ∧ (C.getD j (0, ByteArray.empty)).2.size = 128) (fun i _ => C.length - (intOf i).toNat)
            case atStart => exact ⟨0, by omega, rfl, Below.refl _ _, fun j h => by omega⟩
            case round =>
              obtain ⟨k, hk, rfl, bk, hall⟩ := hrel
              by_cases hlt : k < C.length
              · obtain ⟨g, off, rfl, hg, hc⟩ : ∃ g off, A' = some ⟨g, off, none⟩ ∧ g < w0.heap.size ∧ ∀ k, k < C.length → w0.cell? ⟨g, off + k * 2, none⟩ = some (.int .i64 (C.getD k (0, ByteArray.empty)).1) ∧ w0.cell? ⟨g, off + k * 2 + 1, none⟩ = some (.string (C.getD k (0, ByteArray.empty)).2) := by
                  rcases HW2 with h0 | h0
                  · rw [h0] at hlt; simp at hlt
                  · exact h0
                obtain ⟨q1, q2⟩ := hc k hlt
                have q3 := (bk.cell (p := ⟨g, off + k * 2, none⟩) hg).trans q1
                have q4 := (bk.cell (p := ⟨g, off + k * 2 + 1, none⟩) hg).trans q2
                obtain ⟨x, hx⟩ : ∃ x, C.getD k (0, ByteArray.empty) = x := ⟨_, rfl⟩
                rw [hx] at q3 q4
                have hmem : x ∈ C := by rw [← hx, List.getD_eq_getElem?_getD, List.getElem?_eq_getElem hlt]; exact List.getElem_mem hlt
                have hgood : (0 ≤ x.1 ∧ x.1 < (l.length : Int) ∧ x.2.size = 128) → ∀ j, j < k + 1 → 0 ≤ (C.getD j (0, ByteArray.empty)).1 ∧ (C.getD j (0, ByteArray.empty)).1 < (l.length : Int) ∧ (C.getD j (0, ByteArray.empty)).2.size = 128 := fun h j hj => by
                  rcases Nat.lt_succ_iff_lt_or_eq.1 hj with h' | rfl
                  · exact hall j h'
                  · rw [hx]; exact h
                have hbad : ¬ (0 ≤ x.1 ∧ x.1 < (l.length : Int) ∧ x.2.size = 128) → decide (mayP l C) = false := fun h => decide_eq_false (fun k => h (k.2.2.2.2 x hmem))
                obtain ⟨i, s⟩ := x
                dsimp only at q3 q4 hgood hbad
                have kx : Below w0.heap.size w0 (wr.alloc (.cells #[.int .i64 i, .string s] 89)) := bk.trans ((Joins.below_alloc1 wr _).mono bk.size)
                have HG := Lib.hid hgood
                have a5 : (wr.alloc (.cells #[.int .i64 i, .string s] 89)).cell? ⟨wr.heap.size, 0, none⟩ = some (.int .i64 i) := (cell_of_row _ _ 0 _ _ _ (heap_alloc_last _ _)).trans rfl
                have a6 : (wr.alloc (.cells #[.int .i64 i, .string s] 89)).cell? ⟨wr.heap.size, 1, none⟩ = some (.string s) := (cell_of_row _ _ 1 _ _ _ (heap_alloc_last _ _)).trans rfl
                have HX := Lib.hid kx
                have HC2 := Lib.hid hc
                clear hc hall hgood q1 q2 hx hmem kx
                by_cases i0 : i < 0
                · have e := hbad (by omega)
                  have E := Lib.hid e
                  clear hbad e
                  go_wp2_with fail
                  go_ret
                  exact ⟨by rw [E.out]; first | done | rfl, HK.out.trans (HX.out.mono HK.out.size)⟩
                · by_cases i1 : (l.length : Int) ≤ i
                  · have e := hbad (by omega)
                    have E := Lib.hid e
                    clear hbad e
                    go_wp2_with fail
                    go_ret
                    exact ⟨by rw [E.out]; first | done | rfl, HK.out.trans (HX.out.mono HK.out.size)⟩
                  · by_cases h128 : (s.size : Int) = 128
                    · have hg2 := HG.out (by omega)
                      have HG2 := Lib.hid hg2
                      clear hbad hg2
                      go_wp2_with (go_at_call 83; go_must (refine (sector_any s _ true (decide_eq_true h128).symm).mono ?_; rintro e w1 ⟨rfl, rfl⟩))
                      go_round
                      case rel => exact ⟨k + 1, by omega, by go_num, HX.out, HG2.out⟩
                      case measure => simp [intOf]; omega
                    · have e := hbad (by omega)
                      have E := Lib.hid e
                      clear hbad e
                      go_wp2_with (go_at_call 83; go_must (refine (sector_any s _ false (decide_eq_false h128).symm).mono ?_; rintro e w1 ⟨rfl, rfl⟩))
                      go_ret
                      exact ⟨by rw [E.out]; first | done | rfl, HK.out.trans (HX.out.mono HK.out.size)⟩
              · have hkl : k = C.length := by omega
                subst hkl
                have e : decide (mayP l C) = true := decide_eq_true ⟨by omega, by omega, by omega, HALL.out, fun x hx => by
                  obtain ⟨j, hj, rfl⟩ := List.getElem_of_mem hx
                  have := hall j hj
                  rwa [List.getD_eq_getElem?_getD, List.getElem?_eq_getElem hj] at this⟩
                have E := Lib.hid e
                clear hall e
                go_wp2
                go_ret
                exact ⟨by rw [E.out]; first | done | rfl, HK.out.trans (bk.mono HK.out.size)⟩
end Go.Proofs.YtfbakelpplpomaaGreatDoor.Disk
/-
  The walk of Load.
-/
namespace Go.Proofs.YtfbakelpplpomaaGreatDoor.Disk
open Go.RowKit Go.Proofs.YtfbakelpplpomaaGreatDoor.DiskRows
set_option linter.unusedVariables false
set_option linter.unusedSimpArgs false
set_option maxRecDepth 100000

/-- writes, their places as plain numbers -/
def nats (C : List (Int × ByteArray)) : List (Nat × ByteArray) := C.map fun x => (x.1.toNat, x.2)
theorem nats_length (C : List (Int × ByteArray)) : (nats C).length = C.length := by simp [nats]
theorem ints_nats (C : List (Int × ByteArray)) (h : ∀ x ∈ C, 0 ≤ x.1) : ints (nats C) = C := by
  induction C with
  | nil => rfl
  | cons x C ih =>
    have := ih (fun y hy => h y (by simp [hy]))
    unfold ints nats at this ⊢
    simp only [List.map_cons, this]
    have hx := h x (by simp)
    rw [show ((x.1.toNat : Int), x.2) = x by ext <;> simp [Int.toNat_of_nonneg hx]]
/-- slices.Clone of texts, wherever they lie -/
theorem cloneT_any (A : Option Addr) (n c : Nat) (l : List ByteArray) (w : World) (h : Txs w A l) (hn : n = l.length) (h0 : 0 < n) (hb : n ≤ 1000000) :
    Calls Tryz.prog 47 #[.slice A n c] w fun e w' => (∃ g' cap', e = .returned (.slice (some ⟨g', 0, none⟩) n cap') ∧ RowS w' g' cap' l ∧ w.heap.size ≤ g') ∧ Below w.heap.size w w' := by
  obtain ⟨i0, hi, hz0, hz1, hz2⟩ := info_parts info_str
  have heq := eqlS
  subst hn
  obtain ⟨g, off, rfl, hlt, hcell⟩ : ∃ g off, A = some ⟨g, off, none⟩ ∧ g < w.heap.size ∧ ∀ i, i < l.length → w.cell? ⟨g, off + i, none⟩ = some (.string (l.getD i ByteArray.empty)) := by
    rcases h with h | h
    · rw [h] at h0; simp at h0
    · exact h
  have HC := Lib.hid hcell
  clear h hcell
  go_enter Tryz.func47, Tryz.ntmps47
  go_wp2_with (at_builtin; go_must (refine wpList_append_own _ rfl _ _ 25 rfl w.heap.size 9 i0 (.string ByteArray.empty) 1 16 Tryz.underlying25 hi hz0 hz1 hz2 rfl (by decide) (.slice (some ⟨w.heap.size, 0, none⟩) 0 0) 0 [] rfl (own_emptyS w) ⟨g, off, none⟩ l.length c (sv l) rfl (by rw [sv_length, Nat.mul_one]) (fun j u hj => by
    rw [Addr.add_lit]
    have hjl : j < l.length := by rw [← sv_length l]; exact (List.getElem?_eq_some_iff.1 hj).1
    rw [(Joins.below_alloc1 w _).cell (p := ⟨g, off + j, none⟩) hlt, HC.out j hjl, ← sv_get l j hjl, hj]) (sv_one l) (by unfold maxLen; omega) (by omega) (by simp) ?_); intro v1 w1 o1 g1 _)
  rw [Nat.zero_add, List.nil_append] at o1
  obtain ⟨g', cap', rfl⟩ := Joins.ownsRow_form o1 h0
  obtain ⟨r1, hb1, -⟩ := RowS.of_own o1
  go_ret
  exact ⟨⟨g', cap', rfl, r1, hb1⟩, (Joins.below_alloc1 w _).trans ((Below.refl w.heap.size _).grown g1 (by simp) (fun k hk => by simp [Value.ownBlock] at hk; omega))⟩
theorem cloneT_nil (c : Nat) (w : World) :
    Calls Tryz.prog 47 #[.slice none 0 c] w fun e w' => e = .returned (.slice none 0 0) ∧ w = w' := by
  have heq := eqlS
  go_enter Tryz.func47, Tryz.ntmps47
  go_wp2
  go_ret
  exact ⟨rfl, rfl⟩
theorem own_base {w : World} {base base0 e size n : Nat} {v : Value} {xs : List Value} (h : w.ownsRow base e size v n xs) (hb : base0 ≤ base) : w.ownsRow base0 e size v n xs := by
  refine ⟨h.1, ?_⟩
  rcases h.2 with h | ⟨g, cap, cur, rfl, hg0, hg, hn, hm, hs, ht⟩
  · exact .inl h
  · exact .inr ⟨g, cap, cur, rfl, Nat.le_trans hb hg0, hg, hn, hm, hs, ht⟩
/-- an image that may not be -/
theorem load_bad (A A' : Option Addr) (c c' : Nat) (l : List ByteArray) (C : List (Int × ByteArray)) (w : World) (h : Txs w A l) (h' : Wrs w A' C) (hn : l.length ≤ 100000) (hn' : C.length ≤ 100000) (hm : ¬ mayP l C) :
    Calls Tryz.prog 26 #[.agg #[.slice A l.length c, .slice A' C.length c']] w fun x w' => x = .returned (.tuple #[.pointer none, .int .i64 2]) ∧ Below w.heap.size w w' := by
  have ka := Joins.below_alloc1 w (.cells #[.slice A l.length c, .slice A' C.length c'] 51)
  have hmay := may_any A A' c c' l C _ (h.later ka) (h'.later ka) hn hn'
  rw [decide_eq_false hm] at hmay
  have HM := Lib.hid hmay
  clear h h' hmay hm
  go_enter Tryz.func26, Tryz.ntmps26
  go_wp2_with fail
  refine HM.out.mono ?_
  rintro x w1 ⟨rfl, b1⟩
  go_wp2
  go_ret2
  exact ⟨rfl, ka.trans (b1.mono ka.size)⟩
set_option maxHeartbeats 3200000 in
/-- an image that may be -/
theorem load_ok (A A' : Option Addr) (c c' : Nat) (l : List ByteArray) (C : List (Int × ByteArray)) (w : World) (h : Txs w A l) (h' : Wrs w A' C) (hn : l.length ≤ 100000) (hn' : C.length ≤ 100000) (hm : mayP l C) :
    Calls Tryz.prog 26 #[.agg #[.slice A l.length c, .slice A' C.length c']] w fun x w' => (∃ b, x = .returned (.tuple #[.pointer (some ⟨b, 0, none⟩), .int .i64 0]) ∧ DiskAt (lo w.heap.size) b ⟨l, shows l (nats C), nats C, 0, false, 0⟩ w') ∧ Below w.heap.size w w' := by
  have ka := Joins.below_alloc1 w (.cells #[.slice A l.length c, .slice A' C.length c'] 51)
  have hmay := may_any A A' c c' l C _ (h.later ka) (h'.later ka) hn hn'
  rw [decide_eq_true hm] at hmay
  have HM := Lib.hid hmay
  have H := Lib.hid (And.intro h h')
  have hl0 : 0 < l.length := by have := hm.1; omega
  have t1 : (w.alloc (.cells #[.slice A l.length c, .slice A' C.length c'] 51)).cell? ⟨w.heap.size, 0, none⟩ = some (.slice A l.length c) := (cell_of_row _ _ 0 _ _ _ (heap_alloc_last _ _)).trans rfl
  have t2 : (w.alloc (.cells #[.slice A l.length c, .slice A' C.length c'] 51)).cell? ⟨w.heap.size, 1, none⟩ = some (.slice A' C.length c') := (cell_of_row _ _ 1 _ _ _ (heap_alloc_last _ _)).trans rfl
  have ks : w.heap.size < (w.alloc (.cells #[.slice A l.length c, .slice A' C.length c'] 51)).heap.size := by simp
  have T := Lib.hid (And.intro t1 (And.intro t2 (And.intro ks ka)))
  clear h h' hmay t1 t2 ks ka
  go_enter Tryz.func26, Tryz.ntmps26
  go_wp2_with fail
  refine HM.out.mono ?_
  rintro x w1 ⟨rfl, b1⟩
  have T1 := (b1.cell (p := ⟨w.heap.size, 0, none⟩) T.out.2.2.1).trans T.out.1
  have T2 := (b1.cell (p := ⟨w.heap.size, 1, none⟩) T.out.2.2.1).trans T.out.2.1
  have hs1 : w.heap.size < w1.heap.size := Nat.lt_of_lt_of_le T.out.2.2.1 b1.size
  have B1 := Lib.hid (T.out.2.2.2.trans (b1.mono T.out.2.2.2.size))
  clear HM b1
  go_upto_region 3 with fail
  have hS := cloneT_any A l.length c l w1.drew (H.out.1.later B1.out.drew) rfl hl0 (by omega)
  have hW : ∀ W, Below w.heap.size w W → Calls Tryz.prog 48 #[.slice A' C.length c'] W fun e w' => (∃ A2 c2, e = .returned (.slice A2 C.length c2) ∧ w'.ownsRow W.heap.size 89 2 (.slice A2 C.length c2) C.length (wvI C)) ∧ Below W.heap.size W w' := fun W k => cloneW_any A' C.length c' C W (H.out.2.later k) rfl (by omega)
  have HS := Lib.hid hS
  have HWW := Lib.hid hW
  have HB := Lib.hid B1.out.drew
  have t5 : w1.drew.cell? ⟨w.heap.size, 1, none⟩ = some (.slice A' C.length c') := T2
  have T5 := Lib.hid (And.intro t5 (show w.heap.size < w1.drew.heap.size from hs1))
  clear hS hW t5
  go_region_with (first
    | (go_at_call 47; go_must (refine HS.out.mono ?_; rintro e w2 ⟨⟨g2, k2, rfl, r2, hg2⟩, b2⟩; have f1 := (b2.cell (p := ⟨w.heap.size, 1, none⟩) T5.out.2).trans T5.out.1))
    | (go_at_call 48; go_must (refine (HWW.out _ (HB.out.trans (b2.mono HB.out.size))).mono ?_; rintro e w3 ⟨⟨A3, k3, rfl, o3⟩, b3⟩)))
  all_goals
    have hb2 := b2.size
    have hb3 := b3.size
    have hs2 : w.heap.size < w1.drew.heap.size := hs1
    have k4 := Joins.below_alloc1 w3 (.cells #[.slice (some ⟨g2, 0, none⟩) l.length k2, .slice A3 C.length k3, .slice none 0 0, .int .i64 0, .bool false, .int .i64 0] 84)
    have kW := (HB.out.trans (b2.mono HB.out.size)).trans (b3.mono (by omega))
    have hin : ints (nats C) = C := ints_nats C (fun x hx => (hm.2.2.2.2 x hx).1)
    have hpre : DPre (lo w.heap.size) w3.heap.size g2 k2 (.slice A3 C.length k3) (.slice none 0 0) ⟨l, l, nats C, 0, false, 0⟩ (w3.alloc (.cells #[.slice (some ⟨g2, 0, none⟩) l.length k2, .slice A3 C.length k3, .slice none 0 0, .int .i64 0, .bool false, .int .i64 0] 84)) :=
      { heap := heap_alloc_last _ _
        rowS := (r2.below b3 r2.lt).alloc _
        rowC := by
          have := own_base (own_below o3 k4 (fun g hg => (o3.lt g hg).2)) (Nat.zero_le _ : 0 ≤ w2.heap.size)
          rw [← hin, wv_ints, ints_length] at this
          simpa [nats_length] using this
        sep := ⟨lo_nf (by omega), lo_nf (by omega), by have := (r2.below b3 r2.lt).lt; omega⟩
        sepC := fun k hk => ⟨by have := (o3.lt k hk).2; omega, by have := (o3.lt k hk).1; have := r2.lt; omega⟩
        nfC := fun k hk => lo_nf (by have := (o3.lt k hk).1; omega)
        pos := hm.1
        most := hm.2.1
        few := by show (nats C).length ≤ 100000; rw [nats_length]; exact hn'
        ats := fun x hx => by
          simp only [nats, List.mem_map] at hx
          obtain ⟨y, hy, rfl⟩ := hx
          obtain ⟨y0, y1, -⟩ := hm.2.2.2.2 y hy
          show y.1.toNat < l.length
          omega
        low := ⟨by simp, by simp⟩ }
    have HP := Lib.hid (And.intro hpre (kW.alloc (by omega) (.cells #[.slice (some ⟨g2, 0, none⟩) l.length k2, .slice A3 C.length k3, .slice none 0 0, .int .i64 0, .bool false, .int .i64 0] 84)))
    have hsz0 : w.heap.size ≤ (w3.alloc (.cells #[.slice (some ⟨g2, 0, none⟩) l.length k2, .slice A3 C.length k3, .slice none 0 0, .int .i64 0, .bool false, .int .i64 0] 84)).heap.size := by simp; omega
    have hsz := (lo_top w.heap.size).trans hsz0
    clear hpre k4 kW HWW HS T5 T1 T2 f1
    go_wp2_with fail
    refine (show_any (lo w.heap.size) w3.heap.size g2 k2 _ _ _ _ HP.out.1 hsz).mono ?_
    rintro x w5 ⟨rfl, ⟨g', c5, h5⟩, b5⟩
    go_wp2
    go_ret2
    exact ⟨⟨w3.heap.size, rfl, ⟨g2, k2, g', c5, _, h5⟩⟩, HP.out.2.trans (b5.below hsz0)⟩
end Go.Proofs.YtfbakelpplpomaaGreatDoor.Disk
