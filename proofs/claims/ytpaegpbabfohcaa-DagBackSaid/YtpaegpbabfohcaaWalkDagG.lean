/-
  dag: pair, Common.
-/
import Derived.Test.YtpaegpbabfohcaaWalkDagF
import Derived.Deep.LoopGhost
namespace Go.Proofs.Ytpaegpbabfohcaa.WalkDag
open Go.RowKit Go.Proofs.Ytpaegpbabfohcaa.HeapPure Go.Proofs.Ytpaegpbabfohcaa.HeapA Go.Proofs.Ytpaegpbabfohcaa.MapAt Go.Proofs.Ytpaegpbabfohcaa.DagPure Go.Proofs.Ytpaegpbabfohcaa.WalkInts
set_option linter.unusedVariables false
set_option linter.unusedSimpArgs false
set_option maxRecDepth 100000

/-- the variable in block p has what was told -/
structure TAt (H p : Nat) (v : Value) (o : List Int) (w : World) : Prop where
  cell : w.cell? ⟨p, 0, none⟩ = some v
  fz : w.frozen? ⟨p, 0, none⟩ = false
  own : Own w H v o
  lt : p < H
theorem TAt.len {H p : Nat} {v : Value} {o : List Int} {w : World} (h : TAt H p v o w) : lenOf v = o.length := own_vlen h.own
/-- that variable, and its row, were written -/
structure Tk (p : Nat) (v v' : Value) (w w' : World) : Prop where
  os : w'.os = w.os
  tape : w'.tape = w.tape
  output : w'.output = w.output
  size : w.heap.size ≤ w'.heap.size
  block : ∀ k, k < w.heap.size → k ≠ p → v.ownBlock ≠ some k → w'.heap[k]? = w.heap[k]?
  own : v'.ownBlock = v.ownBlock ∨ ∀ g, v'.ownBlock = some g → w.heap.size ≤ g
theorem Tk.refl (p : Nat) (v : Value) (w : World) : Tk p v v w w := ⟨rfl, rfl, rfl, Nat.le_refl _, fun _ _ _ _ => rfl, .inl rfl⟩
theorem WAt.take {H p b bk bm : Nat} {kf : Int → Option Value} {f : Int → M} {q : List Int} {w w' : World} {v v' : Value} (h : WAt (Fv H v) b bk bm kf f q w) (k : Tk p v v' w w') (hp : p < H) (hl : ∀ g, v'.ownBlock = some g → g < w'.heap.size) (hH : H ≤ w.heap.size) : WAt (Fv H v') b bk bm kf f q w' := by
  refine h.other k.size (fun j hj hn => k.block j hj (fun e => hn (.inl (by omega))) (fun e => hn (.inr e))) (fun j hj hG => ?_) (fun j hj => ?_)
  · rcases hG with q | q
    · exact .inl q
    · rcases k.own with e | e
      · exact .inr (e ▸ q)
      · have := e j q; omega
  · have := k.size
    rcases hj with q | q
    · omega
    · exact hl j q
theorem TAt.kp {H p : Nat} {v : Value} {o : List Int} {w w' : World} (h : TAt H p v o w) (k : Kp (Fv H v) w w') (hp : p < w.heap.size) : TAt H p v o w' := by
  have bb := k.block p hp (.inl h.lt)
  exact ⟨(World.cell?_of_block (a := ⟨p, 0, none⟩) bb).trans h.cell, (World.frozen?_of_block (a := ⟨p, 0, none⟩) bb).trans h.fz, own_kp h.own k (fun g e => .inr e), h.lt⟩
theorem TAt.below {H p B : Nat} {v : Value} {o : List Int} {w w' : World} (h : TAt H p v o w) (k : Below B w w') (hp : p < B) (hv : ∀ g, v.ownBlock = some g → g < B) : TAt H p v o w' := by
  have bb := k.block p hp
  exact ⟨(World.cell?_of_block (a := ⟨p, 0, none⟩) bb).trans h.cell, (World.frozen?_of_block (a := ⟨p, 0, none⟩) bb).trans h.fz, own_kp (F := fun k => k < B) h.own ⟨k.os, k.tape, k.output, k.size, fun j _ hj => k.block j hj⟩ hv, h.lt⟩
theorem Tk.below {H p : Nat} {v v' : Value} {o : List Int} {w0 w w' : World} (k : Tk p v v' w w') (h : Below p w0 w) (ht : TAt H p v o w) (hp : p ≤ w.heap.size) : Below p w0 w' :=
  h.trans ⟨k.os, k.tape, k.output, k.size, fun j hj => k.block j (by omega) (by omega) (fun e => by have := (ht.own.lt j e).1; have := ht.lt; omega)⟩
theorem two_mark (a b : Int) : mark1 (one a) b ⟨false, true, false⟩ = two a b := by
  funext y
  unfold mark1 one two
  by_cases e2 : y = a <;> by_cases e : y = b <;> simp_all [M.or]
theorem code3 (m : M) : (m.code == 3) = (m.L && m.R && !m.S) := by
  cases m with | mk a b c => cases a <;> cases b <;> cases c <;> decide
def PC (m : M) : Bool := m.L && m.R
def PB (m : M) : Bool := m.L && m.R && !m.S
def told (P : M → Bool) (r : List (Int × M)) : List Int := (r.filter (fun q => P q.2)).map (·.1)
theorem told_cons (P : M → Bool) (x : Int) (m : M) (r : List (Int × M)) : told P ((x, m) :: r) = (if P m then [x] else []) ++ told P r := by
  unfold told
  rw [List.filter_cons]
  cases P m <;> simp
theorem ite_app (c : Bool) (o : List Int) (x : Int) : (if c then o ++ [x] else o) = o ++ (if c then [x] else []) := by cases c <;> simp

set_option maxHeartbeats 1600000 in
theorem take_C (H p : Nat) (v : Value) (o : List Int) (x : Int) (m : M) (c : Int) (w : World) (h : TAt H p v o w) (hH : H ≤ w.heap.size) (ho : o.length ≤ 1000) (hc : c = m.code) :
    Calls Try.prog 46 #[.int .i64 x, .int .i64 c, .pointer (some ⟨p, 0, none⟩)] w fun e w' => e = .returned (.tuple #[]) ∧ ∃ v', TAt H p v' (if PC m then o ++ [x] else o) w' ∧ Tk p v v' w w' := by
  obtain ⟨hcell, hfz, hown, hlt⟩ := h
  have hsep : ∀ g, v.ownBlock = some g → g ≠ p := fun g e => by have := (hown.lt g e).1; omega
  have HS := Lib.hid hsep
  have htest : (bits .and .i64 c 3 == 3) = PC m := by rw [hc]; rw [and_code]; rfl
  obtain ⟨r, hr⟩ : ∃ r, r = PC m := ⟨_, rfl⟩
  rw [← hr]
  rw [← hr] at htest
  clear hr hc hsep
  cases r with
  | false =>
    obtain ⟨a3, ha3⟩ : ∃ a3, bits .and .i64 c 3 = a3 := ⟨_, rfl⟩
    rw [ha3] at htest
    go_enter Try.func46, Try.ntmps46
    go_wp2_with fail
    go_end0
    exact ⟨rfl, v, ⟨hcell, hfz, hown, hlt⟩, Tk.refl _ _ _⟩
  | true =>
    obtain ⟨a3, ha3⟩ : ∃ a3, bits .and .i64 c 3 = a3 := ⟨_, rfl⟩
    rw [ha3] at htest
    have QW : ∀ (v' : Value) (w1 : World), (w.alloc (.cells #[.int .i64 x] 3)).grownBy w1 v.ownBlock → (v'.ownBlock = v.ownBlock ∨ v'.ownBlock = some (w.alloc (.cells #[.int .i64 x] 3)).heap.size) → Own w1 H v' (o ++ [x]) → w1.cell? ⟨p, 0, none⟩ = some v ∧ w1.frozen? ⟨p, 0, none⟩ = false ∧ Tk p v v' w (w1.setCell ⟨p, 0, none⟩ v') := fun v' w1 hg hv hown' => by
      have blk : ∀ k, k < w.heap.size → v.ownBlock ≠ some k → w1.heap[k]? = w.heap[k]? := fun k hk hn => grown_block hg k hk (fun j hj e => hn (by rw [hj, e]))
      have bp := blk p (by omega) (fun e => HS.out p e rfl)
      refine ⟨(World.cell?_of_block (a := ⟨p, 0, none⟩) bp).trans hcell, (World.frozen?_of_block (a := ⟨p, 0, none⟩) bp).trans hfz, ⟨hg.os, hg.tape, hg.output, by have := hg.size; simp [World.setCell] at this ⊢; omega, fun k hk hkp hkv => ?_, ?_⟩⟩
      · rw [Below.heap_setCell _ _ _ _ hkp]; exact blk k hk hkv
      · rcases hv with e | e
        · exact .inl e
        · exact .inr fun g hg' => by rw [e] at hg'; simp at hg'; omega
    have HQ := Lib.hid QW
    clear QW
    go_enter Try.func46, Try.ntmps46
    go_wp2_with (at_builtin; go_must (refine wpList_append_q 25 Try.underlying25 rfl _ _ rfl H v o x rfl (hown.alloc _) w.heap.size 1 rfl ((cell_of_row _ _ 0 _ _ _ (heap_new _ _)).trans rfl) (by omega) (by simp; omega) ?_); intro v2 w5 own5 hgrow hor; obtain ⟨A5, n5, c5, rfl⟩ := own_shapeQ own5; have hq := HQ.out _ w5 hgrow hor own5; have q1 := hq.1; have q2 := hq.2.1; have Q3 := Lib.hid hq.2.2; clear hq hgrow hor)
    go_end0
    exact ⟨rfl, _, ⟨World.cell?_setCell_same w5 _ _ q1, by rw [World.frozen?_setCell]; exact q2, own_other own5 _ _ (fun k e => by have := (own5.lt k e).1; show k ≠ p; omega), hlt⟩, Q3.out⟩

set_option maxHeartbeats 1600000 in
theorem take_B (H p : Nat) (v : Value) (o : List Int) (x : Int) (m : M) (c : Int) (w : World) (h : TAt H p v o w) (hH : H ≤ w.heap.size) (ho : o.length ≤ 1000) (hc : c = m.code) :
    Calls Try.prog 47 #[.int .i64 x, .int .i64 c, .pointer (some ⟨p, 0, none⟩)] w fun e w' => e = .returned (.tuple #[]) ∧ ∃ v', TAt H p v' (if PB m then o ++ [x] else o) w' ∧ Tk p v v' w w' := by
  obtain ⟨hcell, hfz, hown, hlt⟩ := h
  have hsep : ∀ g, v.ownBlock = some g → g ≠ p := fun g e => by have := (hown.lt g e).1; omega
  have HS := Lib.hid hsep
  have htest : (c == 3) = PB m := by rw [hc]; rw [code3]; rfl
  obtain ⟨r, hr⟩ : ∃ r, r = PB m := ⟨_, rfl⟩
  rw [← hr]
  rw [← hr] at htest
  clear hr hc hsep
  cases r with
  | false =>
    go_enter Try.func47, Try.ntmps47
    go_wp2_with fail
    go_end0
    exact ⟨rfl, v, ⟨hcell, hfz, hown, hlt⟩, Tk.refl _ _ _⟩
  | true =>
    have QW : ∀ (v' : Value) (w1 : World), (w.alloc (.cells #[.int .i64 x] 3)).grownBy w1 v.ownBlock → (v'.ownBlock = v.ownBlock ∨ v'.ownBlock = some (w.alloc (.cells #[.int .i64 x] 3)).heap.size) → Own w1 H v' (o ++ [x]) → w1.cell? ⟨p, 0, none⟩ = some v ∧ w1.frozen? ⟨p, 0, none⟩ = false ∧ Tk p v v' w (w1.setCell ⟨p, 0, none⟩ v') := fun v' w1 hg hv hown' => by
      have blk : ∀ k, k < w.heap.size → v.ownBlock ≠ some k → w1.heap[k]? = w.heap[k]? := fun k hk hn => grown_block hg k hk (fun j hj e => hn (by rw [hj, e]))
      have bp := blk p (by omega) (fun e => HS.out p e rfl)
      refine ⟨(World.cell?_of_block (a := ⟨p, 0, none⟩) bp).trans hcell, (World.frozen?_of_block (a := ⟨p, 0, none⟩) bp).trans hfz, ⟨hg.os, hg.tape, hg.output, by have := hg.size; simp [World.setCell] at this ⊢; omega, fun k hk hkp hkv => ?_, ?_⟩⟩
      · rw [Below.heap_setCell _ _ _ _ hkp]; exact blk k hk hkv
      · rcases hv with e | e
        · exact .inl e
        · exact .inr fun g hg' => by rw [e] at hg'; simp at hg'; omega
    have HQ := Lib.hid QW
    clear QW
    go_enter Try.func47, Try.ntmps47
    go_wp2_with (at_builtin; go_must (refine wpList_append_q 25 Try.underlying25 rfl _ _ rfl H v o x rfl (hown.alloc _) w.heap.size 1 rfl ((cell_of_row _ _ 0 _ _ _ (heap_new _ _)).trans rfl) (by omega) (by simp; omega) ?_); intro v2 w5 own5 hgrow hor; obtain ⟨A5, n5, c5, rfl⟩ := own_shapeQ own5; have hq := HQ.out _ w5 hgrow hor own5; have q1 := hq.1; have q2 := hq.2.1; have Q3 := Lib.hid hq.2.2; clear hq hgrow hor)
    go_end0
    exact ⟨rfl, _, ⟨World.cell?_setCell_same w5 _ _ q1, by rw [World.frozen?_setCell]; exact q2, own_other own5 _ _ (fun k e => by have := (own5.lt k e).1; show k ≠ p; omega), hlt⟩, Q3.out⟩

set_option maxHeartbeats 3200000 in
theorem pair_C (A : Option Addr) (c : Nat) (l : List Kn) (a b : Int) (p : Nat) (w : World) (h : Knots p w A l) (hl : l.length ≤ 100) (ht : TAt w.heap.size p (.slice none 0 0) [] w) :
    Calls Try.prog 45 #[.slice A l.length c, .int .i64 a, .int .i64 b, .func (.func 46) #[] #[.pointer (some ⟨p, 0, none⟩)]] w fun e w' => (∃ r v o, e = .returned (.int .i64 r) ∧ Why l [a, b] r ∧ TAt w.heap.size p v o w' ∧ (r ≠ 0 → v = .slice none 0 0 ∧ o = []) ∧ (r = 0 → Falls (rev l) ∧ Ok l ∧ o = told PC (run (rev l) (two a b)))) ∧ Below p w w' := by
  have HK := Lib.hid h
  have HTA := Lib.hid ht
  have hplt := ht.lt
  clear h ht
  go_enter Try.func45, Try.ntmps45
  go_wp2_with fail
  refine (ready_any A c l [a, b] w.heap.size 2 (w.alloc (.cells #[.int .i64 a, .int .i64 b] 3)) (((HK.out.mono (Nat.le_of_lt hplt)).below (Joins.below_alloc1 w _)).mono (by simp)) hl (by simp) (by simp) (fun i hi => ?_)).mono ?_
  · have : i = 0 ∨ i = 1 := by simp at hi; omega
    rcases this with rfl | rfl
    · exact (cell_of_row _ _ 0 _ _ _ (heap_new w _)).trans rfl
    · exact (cell_of_row _ _ 1 _ _ _ (heap_new w _)).trans rfl
  rintro e w1 ⟨⟨r, rfl, hr⟩, hB1⟩
  have hB : Below w.heap.size w w1 := (Joins.below_alloc1 w _).trans (hB1.mono (by simp))
  have HR := Lib.hid hr
  have ht1 := HTA.out.below hB hplt (fun g e => by cases e)
  have HT1 := Lib.hid ht1
  clear hr hB1 ht1
  by_cases hr0 : r = 0
  · subst hr0
    have hok : Ok l ∧ Has l a ∧ Has l b := by
      rcases HR.out with ⟨_, h⟩ | ⟨_, _, h⟩ | ⟨h1, h2, _⟩
      · cases h
      · cases h
      · exact ⟨h1, h2 a (by simp), h2 b (by simp)⟩
    have hKp := HK.out.below (hB.mono (Nat.le_of_lt hplt))
    have hK1 := hKp.mono (Nat.le_trans (Nat.le_of_lt hplt) hB.size)
    obtain ⟨H, hH⟩ : ∃ H, H = w1.heap.size := ⟨_, rfl⟩
    have HH := Lib.hid hH
    have hwH : w.heap.size ≤ H := by rw [hH]; exact hB.size
    clear hH
    go_wp2_with fail
    refine (begin_any A c l w1 hK1 hl hok.1).mono ?_
    rintro e w2 ⟨⟨kf, rfl, hkf, hw⟩, hB2⟩
    rw [← HH.out] at hw hB2
    have hst := st_begin hKp hok.1 hl hkf
    rw [← HH.out]
    have hw := hw
    rw [← fv_nil H] at hw
    go_wp2_with fail
    refine (mark_any _ (H + 2) H (H + 1) kf z0 [] a ⟨true, false, false⟩ w2 hw (by simp) 1 rfl).mono ?_
    rintro e w3 ⟨rfl, ⟨q3, hw3, hq3⟩, hkp3⟩
    have hst3 : St p w1 kf (rev l) (one a) q3 := by
      rw [← one_mark]
      exact hst.step rfl (has_rev hok.2.1) hq3
    rw [one_mark] at hw3
    have HST3 := Lib.hid hst3
    have q3l := hst3.len
    clear hst3 hw hq3
    go_wp2_with fail
    refine (mark_any _ (H + 2) H (H + 1) kf (one a) q3 b ⟨false, true, false⟩ w3 hw3 (by omega) 2 rfl).mono ?_
    rintro e w4 ⟨rfl, ⟨q4, hw4, hq4⟩, hkp4⟩
    have hst4 : St p w1 kf (rev l) (two a b) q4 := by
      rw [← two_mark]
      exact HST3.out.step rfl (has_rev hok.2.2) hq4
    rw [two_mark] at hw4
    have hs1 : H ≤ w2.heap.size := by have := hB2.size; rw [← HH.out] at this; exact this
    have hkp : Below H w1 w4 := (hB2.trans (hkp3.below (B := H) (fun k hk => .inl hk) hs1)).trans (hkp4.below (B := H) (fun k hk => .inl hk) (Nat.le_trans hs1 hkp3.size))
    have HKP := Lib.hid hkp
    have ht4 : TAt H p (.slice none 0 0) [] w4 := by
      have := HT1.out.below hkp (by omega) (fun g e => by cases e)
      exact ⟨this.cell, this.fz, Own.nil _ _, by omega⟩
    have HF : Hid (∀ (t : List K) (f : Int → M) (o : List Int), o ++ told PC (run t f) = told PC (run (rev l) (two a b)) → run t f = [] → o = told PC (run (rev l) (two a b))) := fun t f o e1 e2 => by
      rw [e2] at e1
      simpa [told] using e1
    have HB := Lib.hid hB
    have HFALL := Lib.hid hst.falls
    have hpw : Hid (Below p w w1) := hB.mono (by omega)
    clear hst hkp3 hkp4 hkp hB2 hB hkf hK1 hKp hw3 hq4 HST3 HT1 HTA hs1
    obtain ⟨T, hT⟩ : ∃ T, T = told PC (run (rev l) (two a b)) := ⟨_, rfl⟩
    rw [← hT] at HF
    have HT := Lib.hid hT
    clear hT
    have hl2 : Hid ((rev l).length ≤ 100) := by unfold Hid rev; simp; exact hl
    go_wp2_with fail
    go_loopg [27] (run (rev l) (two a b)).length (fun gk s27 wr => ∃ (t : List K) (f : Int → M) (q : List Int) (v : Value) (o : List Int), (run t f).length = gk ∧ TAt H p v o wr ∧ WAt (Fv H v) (H + 2) H (H + 1) kf f q wr ∧ St p w1 kf t f q ∧ o ++ told PC (run t f) = T ∧ o.length ≤ T.length ∧ Below p w1 wr ∧ H ≤ wr.heap.size)
    case atStart => exact ⟨rev l, two a b, q4, _, [], rfl, ht4, hw4, hst4, by rw [HT.out]; rfl, by simp, HKP.out.mono (by omega), by have := HKP.out.size; rw [← HH.out] at this; exact this⟩
    case round =>
      clear ht4 hw4 hst4
      obtain ⟨t, f, q, v, o, hgk, hta, hw, hst, hrun, hoT, hBr, hHr⟩ := hrel
      have HGK := Lib.hid hgk
      have HRUN := Lib.hid hrun
      clear hrun hgk
      obtain ⟨A', c', hq⟩ := QAt.header hw.qa
      obtain ⟨m, hm⟩ : ∃ m, m = q.length := ⟨_, rfl⟩
      rw [← hm] at hq
      have HM := Lib.hid hm
      have hml : m ≤ 1000 := by rw [hm]; exact hst.len
      clear hm
      go_wp2_with fail
      refine (len_any _ _ _ _).mono ?_
      rintro e w' ⟨rfl, rfl⟩
      clear hq
      have hTl : Hid (T.length ≤ 100) := by
        have h1 := congrArg List.length HT.out
        have h2 := run_len (rev l) (two a b)
        have h3 : (told PC (run (rev l) (two a b))).length ≤ (run (rev l) (two a b)).length := by unfold told; rw [List.length_map]; exact List.length_filter_le _ _
        have h4 := hl2.out
        show T.length ≤ 100
        omega
      by_cases hm0 : m = 0
      · have he := hst.empty (by rw [← HM.out]; exact hm0)
        have HE := Lib.hid he
        have d0 : decide (0 < m) = false := by simp; omega
        clear he hm0
        go_wp2_with fail
        go_ret
        exact ⟨⟨0, v, o, rfl, HR.out, ⟨hta.cell, hta.fz, hta.own.mono hwH, hplt⟩, fun e => absurd rfl e, fun _ => ⟨HFALL.out, hok.1, by rw [← HT.out]; exact HF.out t f o HRUN.out HE.out⟩⟩, hpw.out.trans hBr⟩
      · have d0 : decide (0 < m) = true := by simp; omega
        have m0 : 0 < m := by omega
        clear hm0
        have hpr : p < wr.heap.size := by omega
        go_wp2_with fail
        refine (pop_any (Fv H v) p (H + 2) H (H + 1) kf t f q w1 wr hw hst (by rw [← HM.out]; exact m0) hBr (fun k hk => .inl (by omega)) (by omega)).mono ?_
        rintro e w4 ⟨⟨k, t2, q2, rfl, hrun2, hw4, hst4⟩, hkp4⟩
        have hta4 := hta.kp hkp4 hpr
        have hB4 : Below p w1 w4 := hBr.trans (hkp4.below (fun k hk => .inl (by omega)) (by omega))
        have hH4 : H ≤ w4.heap.size := Nat.le_trans hHr hkp4.size
        have ho100 : o.length ≤ 1000 := by have := hTl.out; omega
        have HR2 : Hid (∀ x m, x = k.n → m = f k.n → (o ++ (if PC m then [x] else [])) ++ told PC (run t2 (marks f k.ps (f k.n).on)) = T) := fun x m hx hm => by
          have h1 := HRUN.out
          rw [hrun2, told_cons] at h1
          rw [hx, hm, ← h1]; simp
        have HG2 : Hid ((run t2 (marks f k.ps (f k.n).on)).length < gk) := by
          have := HGK.out
          rw [hrun2] at this
          show _ < _
          simp at this
          omega
        obtain ⟨f2, hf2⟩ : ∃ f2, f2 = marks f k.ps (f k.n).on := ⟨_, rfl⟩
        rw [← hf2] at hw4 hst4 HR2 HG2
        obtain ⟨m2, hm2⟩ : ∃ m2, m2 = f k.n := ⟨_, rfl⟩
        rw [← hm2]
        obtain ⟨y, hy⟩ : ∃ y, y = m2.code := ⟨_, rfl⟩
        obtain ⟨x, hx⟩ : ∃ x, x = k.n := ⟨_, rfl⟩
        rw [← hy, ← hx]
        have HX := Lib.hid hx
        have HM2 := Lib.hid hm2
        have HY := Lib.hid hy
        clear hx hf2 hy hm2 hrun2 hst hw hBr hkp4 hta
        go_wp2_with fail
        refine (take_C H p v o x m2 y w4 hta4 hH4 ho100 HY.out).mono ?_
        rintro e w5 ⟨rfl, v2, ht5, hk5⟩
        have hw5 := hw4.take hk5 (by omega) (fun g e => (ht5.own.lt g e).2) hH4
        have hB5 := hk5.below hB4 hta4 (by omega)
        have hH5 := Nat.le_trans hH4 hk5.size
        rw [ite_app] at ht5
        have HT5 := Lib.hid ht5
        have HW5 := Lib.hid hw5
        have HB5 := Lib.hid hB5
        have hR := HR2.out x m2 HX.out HM2.out
        have HR3 := Lib.hid hR
        clear hta4 hk5 hB4 hw4 ht5 hw5 hB5 hR
        go_wp2_with fail
        go_roundg (run t2 f2).length
        case measure => exact HG2.out
        case rel => exact ⟨t2, f2, q2, v2, _, rfl, HT5.out, HW5.out, hst4, HR3.out, by have := congrArg List.length HR3.out; rw [List.length_append] at this; omega, HB5.out, hH5⟩
  · clear hl
    have hre : (r == 0) = false := by simpa using hr0
    go_wp2_with fail
    go_ret
    exact ⟨⟨r, _, [], rfl, HR.out, ⟨HT1.out.cell, HT1.out.fz, Own.nil _ _, hplt⟩, fun _ => ⟨rfl, rfl⟩, fun e => absurd e hr0⟩, hB.mono (by omega)⟩

set_option maxHeartbeats 3200000 in
theorem pair_B (A : Option Addr) (c : Nat) (l : List Kn) (a b : Int) (p : Nat) (w : World) (h : Knots p w A l) (hl : l.length ≤ 100) (ht : TAt w.heap.size p (.slice none 0 0) [] w) :
    Calls Try.prog 45 #[.slice A l.length c, .int .i64 a, .int .i64 b, .func (.func 47) #[] #[.pointer (some ⟨p, 0, none⟩)]] w fun e w' => (∃ r v o, e = .returned (.int .i64 r) ∧ Why l [a, b] r ∧ TAt w.heap.size p v o w' ∧ (r ≠ 0 → v = .slice none 0 0 ∧ o = []) ∧ (r = 0 → Falls (rev l) ∧ Ok l ∧ o = told PB (run (rev l) (two a b)))) ∧ Below p w w' := by
  have HK := Lib.hid h
  have HTA := Lib.hid ht
  have hplt := ht.lt
  clear h ht
  go_enter Try.func45, Try.ntmps45
  go_wp2_with fail
  refine (ready_any A c l [a, b] w.heap.size 2 (w.alloc (.cells #[.int .i64 a, .int .i64 b] 3)) (((HK.out.mono (Nat.le_of_lt hplt)).below (Joins.below_alloc1 w _)).mono (by simp)) hl (by simp) (by simp) (fun i hi => ?_)).mono ?_
  · have : i = 0 ∨ i = 1 := by simp at hi; omega
    rcases this with rfl | rfl
    · exact (cell_of_row _ _ 0 _ _ _ (heap_new w _)).trans rfl
    · exact (cell_of_row _ _ 1 _ _ _ (heap_new w _)).trans rfl
  rintro e w1 ⟨⟨r, rfl, hr⟩, hB1⟩
  have hB : Below w.heap.size w w1 := (Joins.below_alloc1 w _).trans (hB1.mono (by simp))
  have HR := Lib.hid hr
  have ht1 := HTA.out.below hB hplt (fun g e => by cases e)
  have HT1 := Lib.hid ht1
  clear hr hB1 ht1
  by_cases hr0 : r = 0
  · subst hr0
    have hok : Ok l ∧ Has l a ∧ Has l b := by
      rcases HR.out with ⟨_, h⟩ | ⟨_, _, h⟩ | ⟨h1, h2, _⟩
      · cases h
      · cases h
      · exact ⟨h1, h2 a (by simp), h2 b (by simp)⟩
    have hKp := HK.out.below (hB.mono (Nat.le_of_lt hplt))
    have hK1 := hKp.mono (Nat.le_trans (Nat.le_of_lt hplt) hB.size)
    obtain ⟨H, hH⟩ : ∃ H, H = w1.heap.size := ⟨_, rfl⟩
    have HH := Lib.hid hH
    have hwH : w.heap.size ≤ H := by rw [hH]; exact hB.size
    clear hH
    go_wp2_with fail
    refine (begin_any A c l w1 hK1 hl hok.1).mono ?_
    rintro e w2 ⟨⟨kf, rfl, hkf, hw⟩, hB2⟩
    rw [← HH.out] at hw hB2
    have hst := st_begin hKp hok.1 hl hkf
    rw [← HH.out]
    have hw := hw
    rw [← fv_nil H] at hw
    go_wp2_with fail
    refine (mark_any _ (H + 2) H (H + 1) kf z0 [] a ⟨true, false, false⟩ w2 hw (by simp) 1 rfl).mono ?_
    rintro e w3 ⟨rfl, ⟨q3, hw3, hq3⟩, hkp3⟩
    have hst3 : St p w1 kf (rev l) (one a) q3 := by
      rw [← one_mark]
      exact hst.step rfl (has_rev hok.2.1) hq3
    rw [one_mark] at hw3
    have HST3 := Lib.hid hst3
    have q3l := hst3.len
    clear hst3 hw hq3
    go_wp2_with fail
    refine (mark_any _ (H + 2) H (H + 1) kf (one a) q3 b ⟨false, true, false⟩ w3 hw3 (by omega) 2 rfl).mono ?_
    rintro e w4 ⟨rfl, ⟨q4, hw4, hq4⟩, hkp4⟩
    have hst4 : St p w1 kf (rev l) (two a b) q4 := by
      rw [← two_mark]
      exact HST3.out.step rfl (has_rev hok.2.2) hq4
    rw [two_mark] at hw4
    have hs1 : H ≤ w2.heap.size := by have := hB2.size; rw [← HH.out] at this; exact this
    have hkp : Below H w1 w4 := (hB2.trans (hkp3.below (B := H) (fun k hk => .inl hk) hs1)).trans (hkp4.below (B := H) (fun k hk => .inl hk) (Nat.le_trans hs1 hkp3.size))
    have HKP := Lib.hid hkp
    have ht4 : TAt H p (.slice none 0 0) [] w4 := by
      have := HT1.out.below hkp (by omega) (fun g e => by cases e)
      exact ⟨this.cell, this.fz, Own.nil _ _, by omega⟩
    have HF : Hid (∀ (t : List K) (f : Int → M) (o : List Int), o ++ told PB (run t f) = told PB (run (rev l) (two a b)) → run t f = [] → o = told PB (run (rev l) (two a b))) := fun t f o e1 e2 => by
      rw [e2] at e1
      simpa [told] using e1
    have HB := Lib.hid hB
    have HFALL := Lib.hid hst.falls
    have hpw : Hid (Below p w w1) := hB.mono (by omega)
    clear hst hkp3 hkp4 hkp hB2 hB hkf hK1 hKp hw3 hq4 HST3 HT1 HTA hs1
    obtain ⟨T, hT⟩ : ∃ T, T = told PB (run (rev l) (two a b)) := ⟨_, rfl⟩
    rw [← hT] at HF
    have HT := Lib.hid hT
    clear hT
    have hl2 : Hid ((rev l).length ≤ 100) := by unfold Hid rev; simp; exact hl
    go_wp2_with fail
    go_loopg [27] (run (rev l) (two a b)).length (fun gk s27 wr => ∃ (t : List K) (f : Int → M) (q : List Int) (v : Value) (o : List Int), (run t f).length = gk ∧ TAt H p v o wr ∧ WAt (Fv H v) (H + 2) H (H + 1) kf f q wr ∧ St p w1 kf t f q ∧ o ++ told PB (run t f) = T ∧ o.length ≤ T.length ∧ Below p w1 wr ∧ H ≤ wr.heap.size)
    case atStart => exact ⟨rev l, two a b, q4, _, [], rfl, ht4, hw4, hst4, by rw [HT.out]; rfl, by simp, HKP.out.mono (by omega), by have := HKP.out.size; rw [← HH.out] at this; exact this⟩
    case round =>
      clear ht4 hw4 hst4
      obtain ⟨t, f, q, v, o, hgk, hta, hw, hst, hrun, hoT, hBr, hHr⟩ := hrel
      have HGK := Lib.hid hgk
      have HRUN := Lib.hid hrun
      clear hrun hgk
      obtain ⟨A', c', hq⟩ := QAt.header hw.qa
      obtain ⟨m, hm⟩ : ∃ m, m = q.length := ⟨_, rfl⟩
      rw [← hm] at hq
      have HM := Lib.hid hm
      have hml : m ≤ 1000 := by rw [hm]; exact hst.len
      clear hm
      go_wp2_with fail
      refine (len_any _ _ _ _).mono ?_
      rintro e w' ⟨rfl, rfl⟩
      clear hq
      have hTl : Hid (T.length ≤ 100) := by
        have h1 := congrArg List.length HT.out
        have h2 := run_len (rev l) (two a b)
        have h3 : (told PB (run (rev l) (two a b))).length ≤ (run (rev l) (two a b)).length := by unfold told; rw [List.length_map]; exact List.length_filter_le _ _
        have h4 := hl2.out
        show T.length ≤ 100
        omega
      by_cases hm0 : m = 0
      · have he := hst.empty (by rw [← HM.out]; exact hm0)
        have HE := Lib.hid he
        have d0 : decide (0 < m) = false := by simp; omega
        clear he hm0
        go_wp2_with fail
        go_ret
        exact ⟨⟨0, v, o, rfl, HR.out, ⟨hta.cell, hta.fz, hta.own.mono hwH, hplt⟩, fun e => absurd rfl e, fun _ => ⟨HFALL.out, hok.1, by rw [← HT.out]; exact HF.out t f o HRUN.out HE.out⟩⟩, hpw.out.trans hBr⟩
      · have d0 : decide (0 < m) = true := by simp; omega
        have m0 : 0 < m := by omega
        clear hm0
        have hpr : p < wr.heap.size := by omega
        go_wp2_with fail
        refine (pop_any (Fv H v) p (H + 2) H (H + 1) kf t f q w1 wr hw hst (by rw [← HM.out]; exact m0) hBr (fun k hk => .inl (by omega)) (by omega)).mono ?_
        rintro e w4 ⟨⟨k, t2, q2, rfl, hrun2, hw4, hst4⟩, hkp4⟩
        have hta4 := hta.kp hkp4 hpr
        have hB4 : Below p w1 w4 := hBr.trans (hkp4.below (fun k hk => .inl (by omega)) (by omega))
        have hH4 : H ≤ w4.heap.size := Nat.le_trans hHr hkp4.size
        have ho100 : o.length ≤ 1000 := by have := hTl.out; omega
        have HR2 : Hid (∀ x m, x = k.n → m = f k.n → (o ++ (if PB m then [x] else [])) ++ told PB (run t2 (marks f k.ps (f k.n).on)) = T) := fun x m hx hm => by
          have h1 := HRUN.out
          rw [hrun2, told_cons] at h1
          rw [hx, hm, ← h1]; simp
        have HG2 : Hid ((run t2 (marks f k.ps (f k.n).on)).length < gk) := by
          have := HGK.out
          rw [hrun2] at this
          show _ < _
          simp at this
          omega
        obtain ⟨f2, hf2⟩ : ∃ f2, f2 = marks f k.ps (f k.n).on := ⟨_, rfl⟩
        rw [← hf2] at hw4 hst4 HR2 HG2
        obtain ⟨m2, hm2⟩ : ∃ m2, m2 = f k.n := ⟨_, rfl⟩
        rw [← hm2]
        obtain ⟨y, hy⟩ : ∃ y, y = m2.code := ⟨_, rfl⟩
        obtain ⟨x, hx⟩ : ∃ x, x = k.n := ⟨_, rfl⟩
        rw [← hy, ← hx]
        have HX := Lib.hid hx
        have HM2 := Lib.hid hm2
        have HY := Lib.hid hy
        clear hx hf2 hy hm2 hrun2 hst hw hBr hkp4 hta
        go_wp2_with fail
        refine (take_B H p v o x m2 y w4 hta4 hH4 ho100 HY.out).mono ?_
        rintro e w5 ⟨rfl, v2, ht5, hk5⟩
        have hw5 := hw4.take hk5 (by omega) (fun g e => (ht5.own.lt g e).2) hH4
        have hB5 := hk5.below hB4 hta4 (by omega)
        have hH5 := Nat.le_trans hH4 hk5.size
        rw [ite_app] at ht5
        have HT5 := Lib.hid ht5
        have HW5 := Lib.hid hw5
        have HB5 := Lib.hid hB5
        have hR := HR2.out x m2 HX.out HM2.out
        have HR3 := Lib.hid hR
        clear hta4 hk5 hB4 hw4 ht5 hw5 hB5 hR
        go_wp2_with fail
        go_roundg (run t2 f2).length
        case measure => exact HG2.out
        case rel => exact ⟨t2, f2, q2, v2, _, rfl, HT5.out, HW5.out, hst4, HR3.out, by have := congrArg List.length HR3.out; rw [List.length_append] at this; omega, HB5.out, hH5⟩
  · clear hl
    have hre : (r == 0) = false := by simpa using hr0
    go_wp2_with fail
    go_ret
    exact ⟨⟨r, _, [], rfl, HR.out, ⟨HT1.out.cell, HT1.out.fz, Own.nil _ _, hplt⟩, fun _ => ⟨rfl, rfl⟩, fun e => absurd e hr0⟩, hB.mono (by omega)⟩
end Go.Proofs.Ytpaegpbabfohcaa.WalkDag
