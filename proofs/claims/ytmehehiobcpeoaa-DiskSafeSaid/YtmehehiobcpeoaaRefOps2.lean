/-
  The walks of pleachref07: Write, Over.
-/
import Derived.Test.YtmehehiobcpeoaaRefOps
import Derived.Deep.RegionWith
namespace Go.Proofs.Ytmehehiobcpeoaa.Disk
open Go.RowKit Go.Proofs.Ytmehehiobcpeoaa.DiskRows
set_option linter.unusedVariables false
set_option linter.unusedSimpArgs false
set_option maxRecDepth 100000

theorem Bx.keep {w W W' : World} {b0 b1 b2 b3 b4 : Value} (h : Bx w b0 b1 b2 b3 b4 W) (k : ∀ j, j < w.heap.size + 2 → W'.heap[j]? = W.heap[j]?) (b : Below w.heap.size W W') : Bx w b0 b1 b2 b3 b4 W' :=
  ⟨by rw [k _ (by omega)]; exact h.box, by rw [k _ (by omega)]; exact h.res, h.bel.trans b⟩
theorem ints_snoc (C : List (Nat × ByteArray)) (i : Nat) (s : ByteArray) : ints (C ++ [(i, s)]) = ints C ++ [((i : Int), s)] := by simp [ints]
theorem wvI_snoc (C : List (Int × ByteArray)) (i : Int) (s : ByteArray) : wvI (C ++ [(i, s)]) = wvI C ++ [.int .i64 i, .string s] := by simp [wvI]
/-- one write more, onto a copied row -/
theorem run_appW1 (w : World) (ty : TypeId) (b : Nat) (A : Option Addr) (c : Nat) (C : List (Int × ByteArray)) (hO : OwnW b w A c C) (g k : Nat) (i : Int) (s : ByteArray)
    (hc0 : w.cell? ⟨g, 0, none⟩ = some (.int .i64 i)) (hc1 : w.cell? ⟨g, 1, none⟩ = some (.string s)) (hb : C.length ≤ 1000000) (hbase : b ≤ w.heap.size) :
    ∃ A' c' w', (Builtin.append_ #[30, 30] ty #[.slice A C.length c, .slice (some ⟨g, 0, none⟩) 1 k]).run Try.prog w = .ok (.slice A' (C.length + 1) c') w' ∧ OwnW b w' A' c' (C ++ [(i, s)]) ∧
      (∀ j, j < w.heap.size → (∀ g', A = some ⟨g', 0, none⟩ → C.length ≠ 0 → j ≠ g') → w'.heap[j]? = w.heap[j]?) ∧ Below b w w' := by
  obtain ⟨i0, hi, hz0, hz1, hz2⟩ := info_parts info_w
  have hnews : ∀ j u, ([.int .i64 i, .string s] : List Value)[j]? = some u → w.cell? ⟨g, 0 + j, none⟩ = some u := fun j u hj => by
    have hj2 := (List.getElem?_eq_some_iff.1 hj).1
    have : j = 0 ∨ j = 1 := by simp at hj2; omega
    rcases this with rfl | rfl
    · simp at hj; subst hj; exact hc0
    · simp at hj; subst hj; exact hc1
  have hone : ∀ u ∈ ([.int .i64 i, .string s] : List Value), u.oneCell' = true := by intro u hu; simp at hu; rcases hu with rfl | rfl <;> rfl
  rcases hO with ⟨rfl, rfl⟩ | ⟨gA, rfl, hg, hr⟩
  · obtain ⟨cap, w', hr, hB, hsz, hle, hm, hh⟩ := run_grow w Try.underlying30 hi hz0 ty A g 0 1 k [.int .i64 i, .string s] (by omega) (by omega) (by rw [hz2]; decide) (by rw [hz1]; rfl) hnews hone
    refine ⟨_, cap, w', hr, .inr ⟨w.heap.size, rfl, ⟨hbase, by simp⟩, by simp [wvI], .inr ⟨w.heap.size, cap, _, rfl, hbase, hh, by simpa using hle, hm, ?_, ?_⟩⟩, fun j hj _ => hB.block j hj, hB.mono hbase⟩
    · simp [Value.cells, Builtin.zeroCells]
      omega
    · simp [wvI]
  · obtain ⟨v', w', hr', h2, h3, _, h5⟩ := run_append_own_at (P := Try.prog) w b 30 ty 65 i0 (.agg #[.int .i64 0, .string ByteArray.empty]) 2 24 Try.underlying30 hi hz0 hz1 hz2 rfl (by decide) (.slice (some ⟨gA, 0, none⟩) C.length c) C.length (wvI C) hr
      ⟨g, 0, none⟩ 1 k [.int .i64 i, .string s] rfl (fun j u hj => by rw [Addr.add_lit]; exact hnews j u hj) hone (by unfold maxLen; omega) (by omega) hbase
    rw [← wvI_snoc] at h2
    obtain ⟨gB, cB, rfl⟩ := Joins.ownsRow_form h2 (by omega)
    refine ⟨_, cB, w', hr', .inr ⟨gB, rfl, ⟨(h2.lt gB rfl).1, by simp⟩, by simpa using h2⟩, fun j hj hne => ?_, (Below.refl b w).grown h3 hbase (fun j hj => by simp [Value.ownBlock] at hj; omega)⟩
    exact h3.block j hj (fun e => by
      simp [Value.ownBlock] at e
      subst e
      exact hne j rfl (by omega) rfl)
section
variable {ops : Array Oper} {rest : List Oper} {o : Oper} {a : Act} {w : World} {Q : Exit → Act → World → Prop}
theorem wpList_appW1 (hgd : o.guard = none) (sl x : Operand) (ho : o.op = .call { callee := .builtin .append, args := #[sl, x], argTypes := #[30, 30] })
    (b : Nat) (A : Option Addr) (c : Nat) (C : List (Int × ByteArray)) (g k : Nat) (i : Int) (s : ByteArray) (hs : a.eval sl = .slice A C.length c) (hx : a.eval x = .slice (some ⟨g, 0, none⟩) 1 k) (hO : OwnW b w A c C)
    (hc0 : w.cell? ⟨g, 0, none⟩ = some (.int .i64 i)) (hc1 : w.cell? ⟨g, 1, none⟩ = some (.string s)) (hb : C.length ≤ 1000000) (hbase : b ≤ w.heap.size)
    (h : ∀ A' c' w', OwnW b w' A' c' (C ++ [(i, s)]) ∧ (∀ j, j < w.heap.size → (∀ g', A = some ⟨g', 0, none⟩ → C.length ≠ 0 → j ≠ g') → w'.heap[j]? = w.heap[j]?) ∧ Below b w w' → wpList Try.prog ops Q rest (a.put o.dst (.slice A' (C.length + 1) c')) w') : wpList Try.prog ops Q (o :: rest) a w := by
  refine wpList_plain hgd fun K hK => ?_
  obtain ⟨A', c', w', hr, h2⟩ := run_appW1 w o.type b A c C hO g k i s hc0 hc1 hb hbase
  unfold Oper.wp execOp
  simp only [ho, resolve, invoke, builtin, Sem.run_bind, Sem.run_pure, Result.andThen_ok, List.map_toArray, List.map_cons, List.map_nil, hs, hx, hr]
  exact hK _ _ (h A' c' w' h2)
end
set_option maxHeartbeats 6400000 in
theorem refWrite_any (A A' : Option Addr) (c c' : Nat) (d : Dk) (i : Int) (s : ByteArray) (w : World) (hA : RAt w A A' d) (hk : d.Ok) (ho : d.ops < 1000000000000) (hsz : (s.size : Int) ≤ 9223372036854775807) :
    Calls Try.prog 33 #[.agg (rc (.slice A d.S.length c) (.slice A' d.C.length c') d).toArray, .int .i64 i, .string s] w fun x w' =>
      (∃ A1 c1 A2 c2, x = .returned (.tuple #[.agg (rc (.slice A1 (d.write i s).1.S.length c1) (.slice A2 (d.write i s).1.C.length c2) (d.write i s).1).toArray, .int .i64 (d.write i s).2]) ∧ RNew w w' A A' A1 A2 d (d.write i s).1) ∧ Below w.heap.size w w' := by
  have hB := Bx.start w (.slice A d.S.length c) (.slice A' d.C.length c') (.int .i64 (d.armed : Nat)) (.bool d.down) (.int .i64 (d.ops : Nat))
  have HA := Lib.hid hA
  have HB := Lib.hid hB
  have HSt := Lib.hid (fun W => refStep_any A A' d.S.length c d.C.length c' d W (by have := hk.low.1; omega) (by omega))
  have HK := Lib.hid hk
  clear hA hk ho
  cases hd : d.down
  · by_cases hi : d.has i
    · have HI := Lib.hid (fun W => in_hid A c (.slice A' d.C.length c') d i true (decide_eq_true hi) W)
      by_cases hs : s.size = 128
      · have hsi : (s.size : Int) = 128 := by omega
        obtain ⟨eS, eH, eC⟩ := step_same d
        obtain ⟨dd, hdd⟩ : ∃ dd, d.step.1 = dd := ⟨_, rfl⟩
        rw [hdd] at HSt eS eH eC
        have hCp := fun W (k : Below w.heap.size w W) => copy_any A A' c c' d.S (ints d.C) W (HA.out.1.later k) (HA.out.2.later k) (by have := HK.out.most; omega) (by rw [ints_length]; have := HK.out.few; omega)
        rw [ints_length] at hCp
        have HCp := Lib.hid hCp
        clear hCp
        cases h2 : d.step.2
        · have er : d.write i s = ({ dd with C := d.C ++ [(i.toNat, s)], H := d.H.set i.toNat s }, 0) := by simp [Dk.write, hd, hi, hs, h2, hdd]
          rw [er]
          rw [h2] at HSt
          have HX := Lib.hid (show ints (d.C ++ [(i.toNat, s)]) = ints d.C ++ [(i, s)] by rw [ints_snoc, Int.toNat_of_nonneg hi.1])
          have HES := Lib.hid (And.intro eS (And.intro eC (And.intro HK.out.pos HK.out.few)))
          have hlen : (d.C ++ [(i.toNat, s)]).length = d.C.length + 1 := by simp
          dsimp only
          rw [hlen, eS]
          obtain ⟨wl, hwl⟩ : ∃ wl, ints d.C = wl := ⟨_, rfl⟩
          have HWL := Lib.hid (show wl.length = d.C.length by rw [← hwl, ints_length])
          rw [hwl] at HCp HX
          clear er eS eH eC hdd h2 hi hs hlen hwl HK
          obtain ⟨S, Hs, C, a, dn, o⟩ := d
          obtain ⟨S', Hs', C', a', dn', o'⟩ := dd
          dsimp only [rc] at *
          subst hd
          go_enter Try.func33, Try.ntmps33
          go_upto_region 1 with fail
          obtain ⟨x0, x1, x2, x3, x4, z0, z1, z2, z3, z4, f, f'⟩ := hB.cells
          have f0 := f 0
          have f1 := f 1
          have f2 := f 2
          have f3 := f 3
          have f4 := f 4
          have g0 := f' 0
          have g1 := f' 1
          have g2 := f' 2
          have g3 := f' 3
          have g4 := f' 4
          clear f f'
          clear hB
          generalize World.alloc (World.alloc w _) _ = W at *
          go_wp2_with fail
          refine (HI.out _).mono ?_
          rintro x w3 ⟨rfl, b3⟩
          have HB3 := Lib.hid (HB.out.later b3)
          clear x0 x1 x2 x3 x4 z0 z1 z2 z3 z4 f0 f1 f2 f3 f4 g0 g1 g2 g3 g4
          obtain ⟨x0, x1, x2, x3, x4, z0, z1, z2, z3, z4, f, f'⟩ := HB3.out.cells
          have f0 := f 0
          have f1 := f 1
          have f2 := f 2
          have f3 := f 3
          have f4 := f 4
          have g0 := f' 0
          have g1 := f' 1
          have g2 := f' 2
          have g3 := f' 3
          have g4 := f' 4
          clear f f'
          go_wp2_with fail
          refine (HSt.out _).mono ?_
          rintro x w4 ⟨rfl, b4⟩
          have HB4 := Lib.hid (HB3.out.later b4)
          clear x0 x1 x2 x3 x4 z0 z1 z2 z3 z4 f0 f1 f2 f3 f4 g0 g1 g2 g3 g4
          obtain ⟨x0, x1, x2, x3, x4, z0, z1, z2, z3, z4, f, f'⟩ := HB4.out.cells
          have f0 := f 0
          have f1 := f 1
          have f2 := f 2
          have f3 := f 3
          have f4 := f 4
          have g0 := f' 0
          have g1 := f' 1
          have g2 := f' 2
          have g3 := f' 3
          have g4 := f' 4
          clear f f'
          go_upto_region 10 with fail
          have h5 := ((((HB4.out.put0 (.slice A S.length c)).put1 (.slice A' C.length c')).put2 (.int .i64 (a' : Nat))).put3 (.bool dn')).put4 (.int .i64 (o' : Nat))
          clear x0 x1 x2 x3 x4 z0 z1 z2 z3 z4 f0 f1 f2 f3 f4 g0 g1 g2 g3 g4
          generalize World.setCell _ _ _ = w5 at *
          obtain ⟨x0, x1, x2, x3, x4, z0, z1, z2, z3, z4, f, f'⟩ := h5.cells
          have f0 := f 0
          have f1 := f 1
          have f2 := f 2
          have f3 := f 3
          have f4 := f 4
          have g0 := f' 0
          have g1 := f' 1
          have g2 := f' 2
          have g3 := f' 3
          have g4 := f' 4
          clear f f'
          have HB5 := Lib.hid h5
          clear h5
          go_wp2_with fail
          refine (HCp.out _ HB5.out.bel).mono ?_
          rintro x w6 ⟨⟨A1, c1, A2, c2, rfl, hO1, hO2, hsep⟩, b6⟩
          have HB6 := Lib.hid (HB5.out.later b6)
          have hlt5 := HB5.out.lt
          clear x0 x1 x2 x3 x4 z0 z1 z2 z3 z4 f0 f1 f2 f3 f4 g0 g1 g2 g3 g4
          obtain ⟨x0, x1, x2, x3, x4, z0, z1, z2, z3, z4, f, f'⟩ := HB6.out.cells
          have f0 := f 0
          have f1 := f 1
          have f2 := f 2
          have f3 := f 3
          have f4 := f 4
          have g0 := f' 0
          have g1 := f' 1
          have g2 := f' 2
          have g3 := f' 3
          have g4 := f' 4
          clear f f'
          go_upto_region 11 with fail
          have h7 := (HB6.out.put0 (.slice A1 S.length c1)).put1 (.slice A2 C.length c2)
          have hT7 : OwnT (w.heap.size + 2) ((w6.setCell ⟨w.heap.size, 0, none⟩ (.slice A1 S.length c1)).setCell ⟨w.heap.size, 1, none⟩ (.slice A2 C.length c2)) A1 c1 S := (((hO1.keep (Below.refl _ _) hlt5).store (by simp) _).store (by simp) _)
          have hW7 : OwnW (w.heap.size + 2) ((w6.setCell ⟨w.heap.size, 0, none⟩ (.slice A1 S.length c1)).setCell ⟨w.heap.size, 1, none⟩ (.slice A2 C.length c2)) A2 c2 wl := (((hO2.keep (Below.refl _ _) hlt5).store (by simp) _).store (by simp) _)
          clear x0 x1 x2 x3 x4 z0 z1 z2 z3 z4 f0 f1 f2 f3 f4 g0 g1 g2 g3 g4
          clear hO1 hO2 b6 hlt5
          generalize World.setCell (World.setCell _ _ _) _ _ = w7 at *
          obtain ⟨x0, x1, x2, x3, x4, z0, z1, z2, z3, z4, f, f'⟩ := h7.cells
          have f0 := f 0
          have f1 := f 1
          have f2 := f 2
          have f3 := f 3
          have f4 := f 4
          have g0 := f' 0
          have g1 := f' 1
          have g2 := f' 2
          have g3 := f' 3
          have g4 := f' 4
          clear f f'
          have hlt7 := h7.lt
          have HB7 := Lib.hid h7
          have HT7 := Lib.hid hT7
          have HW7 := Lib.hid (hW7.keep ((Below.refl _ w7).alloc (Nat.le_refl _) (.cells #[.int .i64 i, .string s] 65)) (Nat.le_refl _))
          have HSEP := Lib.hid hsep
          clear h7 hT7 hW7 hsep
          go_upto_region 12 with (at_builtin; go_must (refine wpList_appW1 rfl _ _ rfl (w.heap.size + 2) A2 c2 wl w7.heap.size 1 i s (by rw [HWL.out]; rfl) rfl HW7.out ((cell_of_row _ _ 0 _ _ _ (heap_alloc_last _ _)).trans rfl) ((cell_of_row _ _ 1 _ _ _ (heap_alloc_last _ _)).trans rfl) (by have := HES.out.2.2.2; rw [HWL.out]; omega) (by simp; omega) ?_; rintro A3 c3 w8 ⟨hO8, hk8, b8⟩; rw [HWL.out]; have HB8 := Lib.hid (Bx.keep (HB7.out.later ((Below.refl _ w7).alloc (Nat.le_refl _) (.cells #[.int .i64 i, .string s] 65))) (fun j hj => hk8 j (by simp; omega) (fun g' e hne => by rcases HW7.out with h0 | ⟨q, e', hq, -⟩; (exact absurd (by rw [h0.1]; rfl) hne); (rw [e] at e'; simp at e'; omega))) (b8.mono (by omega))); have HT8 := Lib.hid (show OwnT (w.heap.size + 2) w8 A1 c1 S from by rcases HT7.out with h0 | ⟨q, rfl, hq, hr⟩; (exact .inl h0); (exact .inr ⟨q, rfl, hq, hr.keep ((hk8 q (by simp; have := hr.lt; omega) (fun g' e hne => HSEP.out q g' rfl e (by have := HES.out.2.2.1; omega) (by rw [← HWL.out]; exact hne))).trans (Below.heap_alloc _ _ _ hr.lt))⟩)); clear x0 x1 x2 x3 x4 z0 z1 z2 z3 z4 f0 f1 f2 f3 f4 g0 g1 g2 g3 g4; obtain ⟨x0, x1, x2, x3, x4, z0, z1, z2, z3, z4, f, f'⟩ := HB8.out.cells; have f1 := f 1; have f0 := f 0; have f2 := f 2; have f3 := f 3; have f4 := f 4; have g0 := f' 0; have g1 := f' 1; have g2 := f' 2; have g3 := f' 3; have g4 := f' 4; clear f f'))
          have h9 := HB8.out.put1 (.slice A3 (C.length + 1) c3)
          have hT9 := HT8.out.store (p := ⟨w.heap.size, 1, none⟩) (by simp) (.slice A3 (C.length + 1) c3)
          have hW9 := hO8.store (p := ⟨w.heap.size, 1, none⟩) (by simp) (.slice A3 (C.length + 1) c3)
          clear x0 x1 x2 x3 x4 z0 z1 z2 z3 z4 f0 f1 f2 f3 f4 g0 g1 g2 g3 g4
          clear hO8 hk8 b8
          generalize World.setCell _ _ _ = w9 at *
          obtain ⟨x0, x1, x2, x3, x4, z0, z1, z2, z3, z4, f, f'⟩ := h9.cells
          have f0 := f 0
          have f1 := f 1
          have f2 := f 2
          have f3 := f 3
          have f4 := f 4
          have g0 := f' 0
          have g1 := f' 1
          have g2 := f' 2
          have g3 := f' 3
          have g4 := f' 4
          clear f f'
          have HB9 := Lib.hid (And.intro h9 (And.intro hT9 hW9))
          clear h9 hT9 hW9
          go_wp2
          obtain ⟨⟨e0, e1, e2, e3, e4⟩, eb, eT, eW⟩ := (HB9.out.1).fin (.slice A1 S.length c1) (.slice A3 (C.length + 1) c3) (.int .i64 (a' : Nat)) (.bool dn') (.int .i64 (o' : Nat))
          refine bodyPost_ret (by simp [results, Try.results33, go_sem, e0, e1, e2, e3, e4]; try rfl) rfl ?_
          exact ⟨⟨A1, c1, A3, c3, rfl, ⟨⟨(eT _ _ _ HB9.out.2.1).txs, by rw [HX.out]; exact (eW _ _ _ HB9.out.2.2).wrs⟩, HB9.out.2.1.fresh, HB9.out.2.2.fresh (by simp [HWL.out])⟩⟩, eb⟩

        · have er : d.write i s = (dd, 7) := by simp [Dk.write, hd, hi, hs, h2, hdd]
          rw [er]
          rw [h2] at HSt
          have HES := Lib.hid (And.intro eS eC)
          dsimp only
          rw [eS, eC]
          clear er eS eH eC hdd h2 hi hs HCp HK
          obtain ⟨S, Hs, C, a, dn, o⟩ := d
          obtain ⟨S', Hs', C', a', dn', o'⟩ := dd
          dsimp only [rc] at *
          subst hd
          go_enter Try.func33, Try.ntmps33
          go_upto_region 1 with fail
          obtain ⟨x0, x1, x2, x3, x4, z0, z1, z2, z3, z4, f, f'⟩ := hB.cells
          have f0 := f 0
          have f1 := f 1
          have f2 := f 2
          have f3 := f 3
          have f4 := f 4
          have g0 := f' 0
          have g1 := f' 1
          have g2 := f' 2
          have g3 := f' 3
          have g4 := f' 4
          clear f f'
          clear hB
          generalize World.alloc (World.alloc w _) _ = W at *
          go_wp2_with fail
          refine (HI.out _).mono ?_
          rintro x w3 ⟨rfl, b3⟩
          have HB3 := Lib.hid (HB.out.later b3)
          clear x0 x1 x2 x3 x4 z0 z1 z2 z3 z4 f0 f1 f2 f3 f4 g0 g1 g2 g3 g4
          obtain ⟨x0, x1, x2, x3, x4, z0, z1, z2, z3, z4, f, f'⟩ := HB3.out.cells
          have f0 := f 0
          have f1 := f 1
          have f2 := f 2
          have f3 := f 3
          have f4 := f 4
          have g0 := f' 0
          have g1 := f' 1
          have g2 := f' 2
          have g3 := f' 3
          have g4 := f' 4
          clear f f'
          go_wp2_with fail
          refine (HSt.out _).mono ?_
          rintro x w4 ⟨rfl, b4⟩
          have HB4 := Lib.hid (HB3.out.later b4)
          clear x0 x1 x2 x3 x4 z0 z1 z2 z3 z4 f0 f1 f2 f3 f4 g0 g1 g2 g3 g4
          obtain ⟨x0, x1, x2, x3, x4, z0, z1, z2, z3, z4, f, f'⟩ := HB4.out.cells
          have f0 := f 0
          have f1 := f 1
          have f2 := f 2
          have f3 := f 3
          have f4 := f 4
          have g0 := f' 0
          have g1 := f' 1
          have g2 := f' 2
          have g3 := f' 3
          have g4 := f' 4
          clear f f'
          go_upto_region 9 with fail
          have h5 := ((((HB4.out.put0 (.slice A S.length c)).put1 (.slice A' C.length c')).put2 (.int .i64 (a' : Nat))).put3 (.bool dn')).put4 (.int .i64 (o' : Nat))
          clear x0 x1 x2 x3 x4 z0 z1 z2 z3 z4 f0 f1 f2 f3 f4 g0 g1 g2 g3 g4
          generalize World.setCell _ _ _ = w5 at *
          obtain ⟨x0, x1, x2, x3, x4, z0, z1, z2, z3, z4, f, f'⟩ := h5.cells
          have f0 := f 0
          have f1 := f 1
          have f2 := f 2
          have f3 := f 3
          have f4 := f 4
          have g0 := f' 0
          have g1 := f' 1
          have g2 := f' 2
          have g3 := f' 3
          have g4 := f' 4
          clear f f'
          have HB5 := Lib.hid h5
          clear h5
          go_wp2
          obtain ⟨⟨e0, e1, e2, e3, e4⟩, eb, eT, eW⟩ := (HB5.out).fin (.slice A S.length c) (.slice A' C.length c') (.int .i64 (a' : Nat)) (.bool dn') (.int .i64 (o' : Nat))
          refine bodyPost_ret (by simp [results, Try.results33, go_sem, e0, e1, e2, e3, e4]; try rfl) rfl ?_
          exact ⟨⟨A, c, A', c', rfl, ⟨⟨by rw [HES.out.1]; exact HA.out.1.later eb, by rw [HES.out.2]; exact HA.out.2.later eb⟩, .inr (.inl ⟨rfl, by rw [HES.out.1]⟩), .inr (.inl ⟨rfl, by rw [HES.out.2]⟩)⟩⟩, eb⟩

      · have hsi : ¬ (s.size : Int) = 128 := by omega
        have er : d.write i s = (d, 2) := by simp [Dk.write, hd, hi, hs]
        clear hs hi HSt HK
        rw [er]
        clear er
        obtain ⟨S, Hs, C, a, dn, o⟩ := d
        dsimp only [rc] at *
        subst hd
        go_enter Try.func33, Try.ntmps33
        go_upto_region 1 with fail
        obtain ⟨x0, x1, x2, x3, x4, z0, z1, z2, z3, z4, f, f'⟩ := hB.cells
        have f0 := f 0
        have f1 := f 1
        have f2 := f 2
        have f3 := f 3
        have f4 := f 4
        have g0 := f' 0
        have g1 := f' 1
        have g2 := f' 2
        have g3 := f' 3
        have g4 := f' 4
        clear f f'
        clear hB
        generalize World.alloc (World.alloc w _) _ = W at *
        go_wp2_with fail
        refine (HI.out _).mono ?_
        rintro x w3 ⟨rfl, b3⟩
        have HB3 := Lib.hid (HB.out.later b3)
        clear x0 x1 x2 x3 x4 z0 z1 z2 z3 z4 f0 f1 f2 f3 f4 g0 g1 g2 g3 g4
        obtain ⟨x0, x1, x2, x3, x4, z0, z1, z2, z3, z4, f, f'⟩ := HB3.out.cells
        have f0 := f 0
        have f1 := f 1
        have f2 := f 2
        have f3 := f 3
        have f4 := f 4
        have g0 := f' 0
        have g1 := f' 1
        have g2 := f' 2
        have g3 := f' 3
        have g4 := f' 4
        clear f f'
        go_wp2
        obtain ⟨⟨e0, e1, e2, e3, e4⟩, eb, eT, eW⟩ := (HB3.out).fin (.slice A S.length c) (.slice A' C.length c') (.int .i64 (a : Nat)) (.bool false) (.int .i64 (o : Nat))
        refine bodyPost_ret (by simp [results, Try.results33, go_sem, e0, e1, e2, e3, e4]; try rfl) rfl ?_
        exact ⟨⟨A, c, A', c', rfl, ⟨HA.out.later eb, .inr (.inl ⟨rfl, rfl⟩), .inr (.inl ⟨rfl, rfl⟩)⟩⟩, eb⟩

    · have HI := Lib.hid (fun W => in_hid A c (.slice A' d.C.length c') d i false (decide_eq_false hi) W)
      have er : d.write i s = (d, 8) := by simp [Dk.write, hd, hi]
      clear hi HSt HK
      rw [er]
      clear er
      obtain ⟨S, Hs, C, a, dn, o⟩ := d
      dsimp only [rc] at *
      subst hd
      go_enter Try.func33, Try.ntmps33
      go_upto_region 1 with fail
      obtain ⟨x0, x1, x2, x3, x4, z0, z1, z2, z3, z4, f, f'⟩ := hB.cells
      have f0 := f 0
      have f1 := f 1
      have f2 := f 2
      have f3 := f 3
      have f4 := f 4
      have g0 := f' 0
      have g1 := f' 1
      have g2 := f' 2
      have g3 := f' 3
      have g4 := f' 4
      clear f f'
      clear hB
      generalize World.alloc (World.alloc w _) _ = W at *
      go_wp2_with fail
      refine (HI.out _).mono ?_
      rintro x w3 ⟨rfl, b3⟩
      have HB3 := Lib.hid (HB.out.later b3)
      clear x0 x1 x2 x3 x4 z0 z1 z2 z3 z4 f0 f1 f2 f3 f4 g0 g1 g2 g3 g4
      obtain ⟨x0, x1, x2, x3, x4, z0, z1, z2, z3, z4, f, f'⟩ := HB3.out.cells
      have f0 := f 0
      have f1 := f 1
      have f2 := f 2
      have f3 := f 3
      have f4 := f 4
      have g0 := f' 0
      have g1 := f' 1
      have g2 := f' 2
      have g3 := f' 3
      have g4 := f' 4
      clear f f'
      go_wp2
      obtain ⟨⟨e0, e1, e2, e3, e4⟩, eb, eT, eW⟩ := (HB3.out).fin (.slice A S.length c) (.slice A' C.length c') (.int .i64 (a : Nat)) (.bool false) (.int .i64 (o : Nat))
      refine bodyPost_ret (by simp [results, Try.results33, go_sem, e0, e1, e2, e3, e4]; try rfl) rfl ?_
      exact ⟨⟨A, c, A', c', rfl, ⟨HA.out.later eb, .inr (.inl ⟨rfl, rfl⟩), .inr (.inl ⟨rfl, rfl⟩)⟩⟩, eb⟩

  · have er : d.write i s = (d, 7) := by simp [Dk.write, hd]
    clear HSt HK
    rw [er]
    clear er
    obtain ⟨S, Hs, C, a, dn, o⟩ := d
    dsimp only [rc] at *
    subst hd
    go_enter Try.func33, Try.ntmps33
    go_upto_region 1 with fail
    obtain ⟨x0, x1, x2, x3, x4, z0, z1, z2, z3, z4, f, f'⟩ := hB.cells
    have f0 := f 0
    have f1 := f 1
    have f2 := f 2
    have f3 := f 3
    have f4 := f 4
    have g0 := f' 0
    have g1 := f' 1
    have g2 := f' 2
    have g3 := f' 3
    have g4 := f' 4
    clear f f'
    clear hB
    generalize World.alloc (World.alloc w _) _ = W at *
    go_wp2
    obtain ⟨⟨e0, e1, e2, e3, e4⟩, eb, eT, eW⟩ := (HB.out).fin (.slice A S.length c) (.slice A' C.length c') (.int .i64 (a : Nat)) (.bool true) (.int .i64 (o : Nat))
    refine bodyPost_ret (by simp [results, Try.results33, go_sem, e0, e1, e2, e3, e4]; try rfl) rfl ?_
    exact ⟨⟨A, c, A', c', rfl, ⟨HA.out.later eb, .inr (.inl ⟨rfl, rfl⟩), .inr (.inl ⟨rfl, rfl⟩)⟩⟩, eb⟩

end Go.Proofs.Ytmehehiobcpeoaa.Disk
