/-
  dag: Back.
-/
import Derived.Test.YtpaegpbabfohcaaWalkDagE
namespace Go.Proofs.Ytpaegpbabfohcaa.WalkDag
open Go.RowKit Go.Proofs.Ytpaegpbabfohcaa.HeapPure Go.Proofs.Ytpaegpbabfohcaa.HeapA Go.Proofs.Ytpaegpbabfohcaa.MapAt Go.Proofs.Ytpaegpbabfohcaa.DagPure Go.Proofs.Ytpaegpbabfohcaa.WalkInts
set_option linter.unusedVariables false
set_option linter.unusedSimpArgs false
set_option maxRecDepth 100000

theorem own_len {w : World} {base e n : Nat} {A : Option Addr} {m c : Nat} {xs : List Value} (h : w.ownsRow base e 1 (.slice A m c) n xs) : m = n := by
  rcases h.2 with ⟨h1, rfl⟩ | ⟨g, cap, cur, e1, _⟩
  · injection h1 with _ h2 _
  · injection e1 with _ h2 _
theorem QAt.header {F : Nat → Prop} {b : Nat} {q : List Int} {w : World} (h : QAt F b q w) : ∃ A c, w.cell? ⟨b, 2, none⟩ = some (.slice A q.length c) := by
  obtain ⟨V, hV, hown, -⟩ := h.val
  obtain ⟨A, m, c, rfl⟩ := own_shapeQ hown
  obtain rfl := own_len hown
  exact ⟨A, c, hV⟩
theorem own_kp {F : Nat → Prop} {w w' : World} {base e size n : Nat} {v : Value} {xs : List Value} (h : w.ownsRow base e size v n xs) (k : Kp F w w') (hF : ∀ g, v.ownBlock = some g → F g) : w'.ownsRow base e size v n xs := by
  refine ⟨h.1, ?_⟩
  rcases h.2 with h | ⟨g, cap, cur, rfl, hb, hg, hn, hm, hs, ht⟩
  · exact .inl h
  · exact .inr ⟨g, cap, cur, rfl, hb, by rw [k.block g (Array.getElem?_eq_some_iff.1 hg).1 (hF g rfl)]; exact hg, hn, hm, hs, ht⟩
/-- what is below H, and the row that v has -/
def Fv (H : Nat) (v : Value) : Nat → Prop := fun k => k < H ∨ v.ownBlock = some k
theorem fv_nil (H : Nat) : Fv H (.slice none 0 0) = fun k => k < H := by
  funext k; unfold Fv; simp [Value.ownBlock]
/-- the row of what was told has grown -/
theorem WAt.told {H b bk bm : Nat} {kf : Int → Option Value} {f : Int → M} {q : List Int} {w w' : World} {v v' : Value} {o : Obj} (h : WAt (Fv H v) b bk bm kf f q w) (hg : (w.alloc o).grownBy w' v.ownBlock) (hv : v'.ownBlock = v.ownBlock ∨ v'.ownBlock = some (w.alloc o).heap.size) (hl : ∀ g, v'.ownBlock = some g → g < w'.heap.size) (hH : H ≤ w.heap.size) : WAt (Fv H v') b bk bm kf f q w' := by
  have hs : w.heap.size ≤ w'.heap.size := Nat.le_trans (by simp) hg.size
  refine h.other hs (fun k hk hn => grown_block hg k hk (fun j hj e => hn (.inr (by rw [hj, e])))) (fun k hk hG => ?_) (fun k hk => ?_)
  · rcases hG with q | q
    · exact .inl q
    · rcases hv with e | e
      · exact .inr (e ▸ q)
      · rw [e] at q; simp at q; omega
  · rcases hk with q | q
    · omega
    · exact hl k q
theorem St.empty {B0 : Nat} {w0 : World} {kf : Int → Option Value} {t : List K} {f : Int → M} {q : List Int} (h : St B0 w0 kf t f q) (hq : q.length = 0) : run t f = [] := by
  have := h.pend.length_eq
  exact pend_nil (List.eq_nil_of_length_eq_zero (by omega))
theorem one_mark (n : Int) : mark1 z0 n ⟨true, false, false⟩ = one n := by
  funext y
  unfold mark1 z0 one
  by_cases e : y = n <;> simp [e, M.or]
theorem z0_pend (t : List K) : pend t z0 = [] := by
  unfold pend z0
  simp [M.z]
theorem st_begin {B0 : Nat} {w : World} {A : Option Addr} {l : List Kn} {kf : Int → Option Value} (h : Knots B0 w A l) (hok : Ok l) (hl : l.length ≤ 100) (hk : Has2 l l.length kf) : St B0 w kf (rev l) z0 [] := by
  refine ⟨(ok_falls hok).1, (ok_falls hok).2, by rw [z0_pend], fun k hk' => ?_, by unfold rev; simp; omega⟩
  obtain ⟨y, hy, rfl⟩ := mem_rev.1 hk'
  obtain ⟨i, hi, rfl⟩ := mem_kn hy
  rcases h with rfl | ⟨g, off, rfl, hg, hc⟩
  · simp at hi
  · obtain ⟨h1, h2, h3, h4⟩ := hc i hi
    exact ⟨by have := (hok i hi).2.2.1; omega, _, _, hk i hi, h3, h4⟩
def lenOf : Value → Nat
  | .slice _ n _ => n
  | _ => 0
theorem own_vlen {w : World} {H : Nat} {v : Value} {o : List Int} (h : w.ownsRow H 3 1 v o.length (iv o)) : lenOf v = o.length := by
  obtain ⟨A, m, c, rfl⟩ := own_shapeQ h
  exact own_len h
theorem run_len (t : List K) : ∀ f : Int → M, (run t f).length ≤ t.length := by
  induction t with
  | nil => intro f; simp [run]
  | cons k t ih =>
    intro f
    rw [run]
    split
    · have := ih f; simp; omega
    · have := ih (marks f k.ps (f k.n).on); simp; omega
theorem has_rev {l : List Kn} {n : Int} (h : Has l n) : ∃ y ∈ rev l, y.n = n := by
  obtain ⟨i, hi, rfl⟩ := h
  exact ⟨_, mem_rev.2 ⟨_, kn_mem hi, rfl⟩, rfl⟩

set_option maxHeartbeats 3200000 in
theorem back_any (A : Option Addr) (c : Nat) (l : List Kn) (n : Int) (w : World) (h : Knots w.heap.size w A l) (hl : l.length ≤ 100) :
    Calls Try.prog 19 #[.slice A l.length c, .int .i64 n] w fun e w' => (∃ r v o, e = .returned (.tuple #[v, .int .i64 r]) ∧ Why l [n] r ∧ Own w' w.heap.size v o ∧ (r ≠ 0 → v = .slice none 0 0 ∧ o = []) ∧ (r = 0 → o = back (rev l) n)) ∧ Below w.heap.size w w' := by
  have HK := Lib.hid h
  clear h
  go_enter Try.func19, Try.ntmps19
  go_wp2_with fail
  refine (ready_any A c l [n] w.heap.size 1 (w.alloc (.cells #[.int .i64 n] 3)) ((HK.out.below (Joins.below_alloc1 w _)).mono (by simp)) hl (by simp) (by simp) (fun i hi => ?_)).mono ?_
  · have : i = 0 := by simp at hi; omega
    subst this
    exact (cell_of_row _ _ 0 _ _ _ (heap_new w _)).trans rfl
  rintro e w1 ⟨⟨r, rfl, hr⟩, hB1⟩
  have hB : Below w.heap.size w w1 := (Joins.below_alloc1 w _).trans (hB1.mono (by simp))
  have HR := Lib.hid hr
  clear hr hB1
  by_cases hr0 : r = 0
  · subst hr0
    have hok : Ok l ∧ Has l n := by
      rcases HR.out with ⟨_, h⟩ | ⟨_, _, h⟩ | ⟨h1, h2, _⟩
      · cases h
      · cases h
      · exact ⟨h1, h2 n (by simp)⟩
    have hK1 := (HK.out.below hB).mono hB.size
    obtain ⟨H, hH⟩ : ∃ H, H = w1.heap.size := ⟨_, rfl⟩
    have HH := Lib.hid hH
    have hwH : w.heap.size ≤ H := by rw [hH]; exact hB.size
    clear hH
    go_wp2_with fail
    refine (begin_any A c l w1 hK1 hl hok.1).mono ?_
    rintro e w2 ⟨⟨kf, rfl, hkf, hw⟩, hB2⟩
    rw [← HH.out] at hw hB2
    have hst := st_begin hK1 hok.1 hl hkf
    rw [← HH.out] at hst
    rw [← HH.out]
    have hw := hw
    rw [← fv_nil H] at hw
    go_wp2_with fail
    refine (mark_any _ (H + 2) H (H + 1) kf z0 [] n ⟨true, false, false⟩ w2 hw (by simp) 1 rfl).mono ?_
    rintro e w3 ⟨rfl, ⟨q3, hw3, hq3⟩, hkp3⟩
    have hst3 : St H w1 kf (rev l) (one n) q3 := by
      rw [← one_mark]
      refine hst.step rfl (has_rev hok.2) hq3
    rw [one_mark] at hw3
    have hkp : Below H w1 w3 := hB2.trans (hkp3.below (B := H) (fun k hk => .inl hk) (by have := hB2.size; rw [← HH.out] at this; exact this))
    have HKP := Lib.hid hkp
    have HF : Hid (∀ (t : List K) (f : Int → M) (o : List Int), o ++ (run t f).map (·.1) = (run (rev l) (one n)).map (·.1) → run t f = [] → o = back (rev l) n) := fun t f o e1 e2 => by
      rw [e2] at e1
      simp at e1
      rw [e1, run_back hst.falls]
    have HB := Lib.hid hB
    have HRL : Hid (H ≤ w3.heap.size) := by rw [HH.out]; exact hkp.size
    clear hst hw hkp3 hkp hB2 hq3 hB hkf hK1
    obtain ⟨T, hT⟩ : ∃ T, T = (run (rev l) (one n)).map (·.1) := ⟨_, rfl⟩
    rw [← hT] at HF
    have HT := Lib.hid hT
    clear hT hw
    have hwsz : Hid (Below w.heap.size w w1) := HB
    go_wp2_with fail
    go_loopw [8] (fun v wr => ∃ (t : List K) (f : Int → M) (q o : List Int), WAt (Fv H v) (H + 2) H (H + 1) kf f q wr ∧ St H w1 kf t f q ∧ Own wr H v o ∧ o ++ (run t f).map (·.1) = T ∧ Below H w1 wr) (fun v _ => T.length - lenOf v)
    case atStart => exact ⟨rev l, one n, q3, [], hw3, hst3, Own.nil _ _, by rw [HT.out]; rfl, HKP.out⟩
    case round =>
      clear hw3 hst3
      obtain ⟨t, f, q, o, hw, hst, hown, hrun, hBr⟩ := hrel
      have HRUN := Lib.hid hrun
      clear hrun
      obtain ⟨A', c', hq⟩ := QAt.header hw.qa
      obtain ⟨m, hm⟩ : ∃ m, m = q.length := ⟨_, rfl⟩
      rw [← hm] at hq
      have HM := Lib.hid hm
      have hml : m ≤ 1000 := by rw [hm]; exact hst.len
      have hHr : H ≤ wr.heap.size := by have := hBr.size; rw [← HH.out] at this; exact this
      clear hm
      go_wp2_with fail
      refine (len_any _ _ _ _).mono ?_
      rintro e w' ⟨rfl, rfl⟩
      clear hq
      by_cases hm0 : m = 0
      · have he := hst.empty (by rw [← HM.out]; exact hm0)
        have HE := Lib.hid he
        have d0 : decide (0 < m) = false := by simp; omega
        clear he hm0
        go_wp2_with fail
        go_ret2
        exact ⟨⟨0, _, o, rfl, HR.out, hown.mono hwH, fun e => absurd rfl e, fun _ => HF.out t f o HRUN.out HE.out⟩, hwsz.out.trans (hBr.mono hwH)⟩
      · have d0 : decide (0 < m) = true := by simp; omega
        have m0 : 0 < m := by omega
        clear hm0
        go_wp2_with fail
        refine (pop_any (Fv H _) H (H + 2) H (H + 1) kf t f q w1 wr hw hst (by rw [← HM.out]; exact m0) hBr (fun k hk => .inl hk) hHr).mono ?_
        rintro e w4 ⟨⟨k, t2, q2, rfl, hrun2, hw4, hst4⟩, hkp4⟩
        have hown4 := own_kp hown hkp4 (fun g e => .inr e)
        have hB4 : Below H w1 w4 := hBr.trans (hkp4.below (fun k hk => .inl hk) hHr)
        have hH4 : H ≤ w4.heap.size := by have := hB4.size; rw [← HH.out] at this; exact this
        have hol : o.length ≤ 1000 ∧ o.length < T.length := by
          have h1 := HRUN.out
          have h2 := hst.few
          have h3 := run_len t f
          rw [hrun2] at h1 h3
          have h4 := congrArg List.length h1
          simp at h4 h3
          have h5 := congrArg List.length HT.out
          have h6 := run_len (rev l) (one n)
          rw [List.length_map] at h5
          have h7 : (rev l).length = l.length := by unfold rev; simp
          omega
        obtain ⟨hol, holT⟩ := hol
        have HR2 : Hid (∀ x, x = k.n → (o ++ [x]) ++ (run t2 (marks f k.ps (f k.n).on)).map (·.1) = T) := fun x hx => by
          have h1 := HRUN.out
          rw [hrun2] at h1
          rw [hx, ← h1]; simp
        obtain ⟨x, hx⟩ : ∃ x, x = k.n := ⟨_, rfl⟩
        have HX := Lib.hid hx
        obtain ⟨f2, hf2⟩ : ∃ f2, f2 = marks f k.ps (f k.n).on := ⟨_, rfl⟩
        rw [← hf2] at hw4 hst4 HR2
        obtain ⟨y, hy⟩ : ∃ y, y = (f k.n).code := ⟨_, rfl⟩
        rw [← hy, ← hx]
        have hvl := own_vlen hown
        have HV := Lib.hid hvl
        clear hx hf2 hy hrun2 hst hw hBr hown hkp4 hvl
        go_wp2_with (at_builtin; go_must (refine wpList_append_q 25 Try.underlying25 rfl _ _ rfl H _ o x rfl (hown4.alloc _) w4.heap.size 1 rfl ((cell_of_row _ _ 0 _ _ _ (heap_new _ _)).trans rfl) (by omega) (by simp; omega) ?_); intro v2 w5 own5 hgrow hor; have hw5 := hw4.told hgrow hor (fun g e => (own5.lt g e).2) hH4; have hB5 := (hB4.trans ((Joins.below_alloc1 w4 _).mono hH4)).grown hgrow (by simp; omega) (fun k hk => (hown4.lt k hk).1); clear hgrow hor hown4 hB4)
        go_roundw
        case rel => exact ⟨t2, f2, q2, o ++ [x], hw5, hst4, own5, HR2.out x HX.out, hB5⟩
        case measure =>
          have := own_vlen own5
          have := HV.out
          simp at *
          omega
  · clear hl
    have hre : (r == 0) = false := by simpa using hr0
    go_wp2_with fail
    go_ret2
    exact ⟨⟨r, _, [], rfl, HR.out, Own.nil _ _, fun _ => ⟨rfl, rfl⟩, fun e => absurd e hr0⟩, hB⟩
end Go.Proofs.Ytpaegpbabfohcaa.WalkDag
