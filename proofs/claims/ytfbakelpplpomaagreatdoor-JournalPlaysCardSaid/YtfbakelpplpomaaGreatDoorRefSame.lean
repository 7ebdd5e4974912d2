/-
  The walks of pleachref07: Read, Arm.
-/
import Derived.Test.YtfbakelpplpomaaGreatDoorRefBx
import Derived.Deep.RegionWith
namespace Go.Proofs.YtfbakelpplpomaaGreatDoor.Disk
open Go.RowKit Go.Proofs.YtfbakelpplpomaaGreatDoor.DiskRows
set_option linter.unusedVariables false
set_option linter.unusedSimpArgs false
set_option maxRecDepth 100000

theorem in_hid (A : Option Addr) (c : Nat) (vC : Value) (d : Dk) (i : Int) (r : Bool) (hr : decide (d.has i) = r) (w : World) :
    Calls Tryz.prog 81 #[.agg (rc (.slice A d.S.length c) vC d).toArray, .int .i64 i] w fun x w' => x = .returned (.bool r) ∧ Below w.heap.size w w' := by
  subst hr
  exact in_any A c vC d i w
set_option maxHeartbeats 3200000 in
theorem refRead_any (A A' : Option Addr) (c c' : Nat) (d : Dk) (i : Int) (w : World) (hA : RAt w A A' d) (hk : d.Ok) (hH : d.H = shows d.S d.C) (ho : d.ops < 1000000000000) :
    Calls Tryz.prog 73 #[.agg (rc (.slice A d.S.length c) (.slice A' d.C.length c') d).toArray, .int .i64 i] w fun x w' =>
      x = .returned (.tuple #[.agg (rc (.slice A d.S.length c) (.slice A' d.C.length c') (d.read i).1).toArray, .string (d.read i).2.1, .int .i64 (d.read i).2.2]) ∧ Below w.heap.size w w' := by
  have hB := Bx.start w (.slice A d.S.length c) (.slice A' d.C.length c') (.int .i64 (d.armed : Nat)) (.bool d.down) (.int .i64 (d.ops : Nat))
  have HS := Lib.hid (fun W (k : Below w.heap.size w W) (hi : i.toNat < d.S.length) (s : ByteArray) (hs : (shows d.S d.C).getD i.toNat ByteArray.empty = s) => shows_one A A' c c' d.S d.C i.toNat W (hA.1.later k) (hA.2.later k) hi hk.most hk.few s hs)
  have hob : (d.ops : Int) < 1000000000000 := by omega
  have HB := Lib.hid hB
  clear hk hA ho
  cases hd : d.down
  · by_cases hi : d.has i
    · have er : d.read i = ({ d with ops := d.ops + 1 }, d.H.getD i.toNat ByteArray.empty, 0) := by simp [Dk.read, hd, hi]
      have HI := Lib.hid (fun W => in_hid A c (.slice A' d.C.length c') d i true (decide_eq_true hi) W)
      rw [er, hH]
      obtain ⟨s, hs⟩ : ∃ s, (shows d.S d.C).getD i.toNat ByteArray.empty = s := ⟨_, rfl⟩
      have hin : (i.toNat : Int) = i := Int.toNat_of_nonneg hi.1
      have HSO := Lib.hid (fun W (k : Below w.heap.size w W) => HS.out W k (by have := hi.2; omega) s hs)
      rw [hin] at HSO
      dsimp only
      rw [hs]
      clear HS hs hin er hi hH
      obtain ⟨S, Hs, C, a, dn, o⟩ := d
      dsimp only [rc] at *
      subst hd
      have hw : IntKind.i64.wrap ((o : Int) + 1) = (o : Int) + 1 := by rw [IntKind.wrap_i64]; omega
      go_enter Tryz.func73, Tryz.ntmps73
      go_upto_region 1 with fail
      obtain ⟨x0, x1, x2, x3, x4, z0, z1, z2, z3, z4, f, f'⟩ := hB.cells
      have f0 := f 0
      have f1 := f 1
      have f2 := f 2
      have f3 := f 3
      have f4 := f 4
      have g0 := f' 0
      have g1 := f' 1
      have g2 := f' 2
      have g3 := f' 3
      have g4 := f' 4
      clear f f'
      clear hB
      generalize World.alloc (World.alloc w _) _ = W at *
      go_wp2_with fail
      refine (HI.out _).mono ?_
      rintro x w3 ⟨rfl, b3⟩
      have HB3 := Lib.hid (HB.out.later b3)
      clear x0 x1 x2 x3 x4 z0 z1 z2 z3 z4 f0 f1 f2 f3 f4 g0 g1 g2 g3 g4
      obtain ⟨x0, x1, x2, x3, x4, z0, z1, z2, z3, z4, f, f'⟩ := HB3.out.cells
      have f0 := f 0
      have f1 := f 1
      have f2 := f 2
      have f3 := f 3
      have f4 := f 4
      have g0 := f' 0
      have g1 := f' 1
      have g2 := f' 2
      have g3 := f' 3
      have g4 := f' 4
      clear f f'
      go_upto_region 6 with fail
      have h5 := HB3.out.put4 (.int .i64 ((o : Int) + 1))
      clear x0 x1 x2 x3 x4 z0 z1 z2 z3 z4 f0 f1 f2 f3 f4 g0 g1 g2 g3 g4
      obtain ⟨x0, x1, x2, x3, x4, z0, z1, z2, z3, z4, f, f'⟩ := h5.cells
      have f0 := f 0
      have f1 := f 1
      have f2 := f 2
      have f3 := f 3
      have f4 := f 4
      have g0 := f' 0
      have g1 := f' 1
      have g2 := f' 2
      have g3 := f' 3
      have g4 := f' 4
      clear f f'
      have HB5 := Lib.hid h5
      clear h5
      generalize World.setCell _ _ _ = w5 at *
      go_region_with (first | (go_at_call 102; go_must (refine (HSO.out _ HB5.out.drew.bel).mono ?_; rintro x w6 ⟨rfl, b6⟩; have HB6 := Lib.hid (HB5.out.drew.later b6); clear x0 x1 x2 x3 x4 z0 z1 z2 z3 z4 f0 f1 f2 f3 f4 g0 g1 g2 g3 g4; obtain ⟨x0, x1, x2, x3, x4, z0, z1, z2, z3, z4, f, f'⟩ := HB6.out.cells; have g0 := f' 0; have g1 := f' 1; have g2 := f' 2; have g3 := f' 3; have g4 := f' 4; clear f f')))
      all_goals
        go_wp2
        obtain ⟨⟨e0, e1, e2, e3, e4⟩, eb, eT, eW⟩ := HB6.out.fin (.slice A S.length c) (.slice A' C.length c') (.int .i64 (a : Nat)) (.bool false) (.int .i64 ((o : Int) + 1))
        refine bodyPost_ret (by simp [results, Tryz.results73, go_sem, e0, e1, e2, e3, e4]; try rfl) rfl ?_
        exact ⟨by simp, eb⟩
    · have er : d.read i = (d, ByteArray.empty, 8) := by simp [Dk.read, hd, hi]
      have HI := Lib.hid (fun W => in_hid A c (.slice A' d.C.length c') d i false (decide_eq_false hi) W)
      rw [er]
      clear HS er hi hH
      obtain ⟨S, Hs, C, a, dn, o⟩ := d
      dsimp only [rc] at *
      subst hd
      go_enter Tryz.func73, Tryz.ntmps73
      go_upto_region 1 with fail
      obtain ⟨x0, x1, x2, x3, x4, z0, z1, z2, z3, z4, f, f'⟩ := hB.cells
      have f0 := f 0
      have f1 := f 1
      have f2 := f 2
      have f3 := f 3
      have f4 := f 4
      have g0 := f' 0
      have g1 := f' 1
      have g2 := f' 2
      have g3 := f' 3
      have g4 := f' 4
      clear f f'
      clear hB
      generalize World.alloc (World.alloc w _) _ = W at *
      go_wp2_with fail
      refine (HI.out _).mono ?_
      rintro x w3 ⟨rfl, b3⟩
      have HB3 := Lib.hid (HB.out.later b3)
      clear x0 x1 x2 x3 x4 z0 z1 z2 z3 z4 f0 f1 f2 f3 f4 g0 g1 g2 g3 g4
      obtain ⟨x0, x1, x2, x3, x4, z0, z1, z2, z3, z4, f, f'⟩ := HB3.out.cells
      have f0 := f 0
      have f1 := f 1
      have f2 := f 2
      have f3 := f 3
      have f4 := f 4
      have g0 := f' 0
      have g1 := f' 1
      have g2 := f' 2
      have g3 := f' 3
      have g4 := f' 4
      clear f f'
      go_wp2
      obtain ⟨⟨e0, e1, e2, e3, e4⟩, eb, eT, eW⟩ := (HB3.out).fin (.slice A S.length c) (.slice A' C.length c') (.int .i64 (a : Nat)) (.bool false) (.int .i64 (o : Nat))
      refine bodyPost_ret (by simp [results, Tryz.results73, go_sem, e0, e1, e2, e3, e4]; try rfl) rfl ?_
      exact ⟨rfl, eb⟩

  · have er : d.read i = (d, ByteArray.empty, 7) := by simp [Dk.read, hd]
    rw [er]
    clear HS er hH
    obtain ⟨S, Hs, C, a, dn, o⟩ := d
    dsimp only [rc] at *
    subst hd
    go_enter Tryz.func73, Tryz.ntmps73
    go_upto_region 1 with fail
    obtain ⟨x0, x1, x2, x3, x4, z0, z1, z2, z3, z4, f, f'⟩ := hB.cells
    have f0 := f 0
    have f1 := f 1
    have f2 := f 2
    have f3 := f 3
    have f4 := f 4
    have g0 := f' 0
    have g1 := f' 1
    have g2 := f' 2
    have g3 := f' 3
    have g4 := f' 4
    clear f f'
    clear hB
    generalize World.alloc (World.alloc w _) _ = W at *
    go_wp2
    obtain ⟨⟨e0, e1, e2, e3, e4⟩, eb, eT, eW⟩ := (HB.out).fin (.slice A S.length c) (.slice A' C.length c') (.int .i64 (a : Nat)) (.bool true) (.int .i64 (o : Nat))
    refine bodyPost_ret (by simp [results, Tryz.results73, go_sem, e0, e1, e2, e3, e4]; try rfl) rfl ?_
    exact ⟨rfl, eb⟩

theorem refArm_any (A A' : Option Addr) (c c' : Nat) (d : Dk) (n : Int) (w : World) (hn : n ≤ 9223372036854775807) :
    Calls Tryz.prog 51 #[.agg (rc (.slice A d.S.length c) (.slice A' d.C.length c') d).toArray, .int .i64 n] w fun x w' =>
      x = .returned (.tuple #[.agg (rc (.slice A d.S.length c) (.slice A' d.C.length c') (d.arm n).1).toArray, .int .i64 (d.arm n).2]) ∧ Below w.heap.size w w' := by
  have hB := Bx.start w (.slice A d.S.length c) (.slice A' d.C.length c') (.int .i64 (d.armed : Nat)) (.bool d.down) (.int .i64 (d.ops : Nat))
  have HB := Lib.hid hB
  cases hd : d.down
  · by_cases hi : n < 0
    · have er : d.arm n = (d, 2) := by simp [Dk.arm, hd, hi]
      rw [er]
      clear er
      obtain ⟨S, Hs, C, a, dn, o⟩ := d
      dsimp only [rc] at *
      subst hd
      go_enter Tryz.func51, Tryz.ntmps51
      go_upto_region 1 with fail
      obtain ⟨x0, x1, x2, x3, x4, z0, z1, z2, z3, z4, f, f'⟩ := hB.cells
      have f0 := f 0
      have f1 := f 1
      have f2 := f 2
      have f3 := f 3
      have f4 := f 4
      have g0 := f' 0
      have g1 := f' 1
      have g2 := f' 2
      have g3 := f' 3
      have g4 := f' 4
      clear f f'
      clear hB
      generalize World.alloc (World.alloc w _) _ = W at *
      go_wp2
      obtain ⟨⟨e0, e1, e2, e3, e4⟩, eb, eT, eW⟩ := (HB.out).fin (.slice A S.length c) (.slice A' C.length c') (.int .i64 (a : Nat)) (.bool false) (.int .i64 (o : Nat))
      refine bodyPost_ret (by simp [results, Tryz.results51, go_sem, e0, e1, e2, e3, e4]; try rfl) rfl ?_
      exact ⟨rfl, eb⟩

    · have er : d.arm n = ({ d with armed := n.toNat }, 0) := by simp [Dk.arm, hd, hi]
      rw [er]
      have hin : (n.toNat : Int) = n := Int.toNat_of_nonneg (by omega)
      dsimp only
      rw [show rc (.slice A d.S.length c) (.slice A' d.C.length c') { d with armed := n.toNat } = [.slice A d.S.length c, .slice A' d.C.length c', .int .i64 n, .bool d.down, .int .i64 (d.ops : Nat)] by simp [rc, hin]]
      clear er hin
      obtain ⟨S, Hs, C, a, dn, o⟩ := d
      dsimp only [rc] at *
      subst hd
      go_enter Tryz.func51, Tryz.ntmps51
      go_upto_region 1 with fail
      obtain ⟨x0, x1, x2, x3, x4, z0, z1, z2, z3, z4, f, f'⟩ := hB.cells
      have f0 := f 0
      have f1 := f 1
      have f2 := f 2
      have f3 := f 3
      have f4 := f 4
      have g0 := f' 0
      have g1 := f' 1
      have g2 := f' 2
      have g3 := f' 3
      have g4 := f' 4
      clear f f'
      clear hB
      generalize World.alloc (World.alloc w _) _ = W at *
      go_wp2
      obtain ⟨⟨e0, e1, e2, e3, e4⟩, eb, eT, eW⟩ := ((HB.out.put2 (.int .i64 n))).fin (.slice A S.length c) (.slice A' C.length c') (.int .i64 n) (.bool false) (.int .i64 (o : Nat))
      refine bodyPost_ret (by simp [results, Tryz.results51, go_sem, e0, e1, e2, e3, e4]; try rfl) rfl ?_
      exact ⟨rfl, eb⟩

  · have er : d.arm n = (d, 7) := by simp [Dk.arm, hd]
    rw [er]
    clear er
    obtain ⟨S, Hs, C, a, dn, o⟩ := d
    dsimp only [rc] at *
    subst hd
    go_enter Tryz.func51, Tryz.ntmps51
    go_upto_region 1 with fail
    obtain ⟨x0, x1, x2, x3, x4, z0, z1, z2, z3, z4, f, f'⟩ := hB.cells
    have f0 := f 0
    have f1 := f 1
    have f2 := f 2
    have f3 := f 3
    have f4 := f 4
    have g0 := f' 0
    have g1 := f' 1
    have g2 := f' 2
    have g3 := f' 3
    have g4 := f' 4
    clear f f'
    clear hB
    generalize World.alloc (World.alloc w _) _ = W at *
    go_wp2
    obtain ⟨⟨e0, e1, e2, e3, e4⟩, eb, eT, eW⟩ := (HB.out).fin (.slice A S.length c) (.slice A' C.length c') (.int .i64 (a : Nat)) (.bool true) (.int .i64 (o : Nat))
    refine bodyPost_ret (by simp [results, Tryz.results51, go_sem, e0, e1, e2, e3, e4]; try rfl) rfl ?_
    exact ⟨rfl, eb⟩

end Go.Proofs.YtfbakelpplpomaaGreatDoor.Disk
/-
  The walks of pleachref07: Write, Over.
-/
namespace Go.Proofs.YtfbakelpplpomaaGreatDoor.Disk
open Go.RowKit Go.Proofs.YtfbakelpplpomaaGreatDoor.DiskRows
set_option linter.unusedVariables false
set_option linter.unusedSimpArgs false
set_option maxRecDepth 100000

theorem Bx.keep {w W W' : World} {b0 b1 b2 b3 b4 : Value} (h : Bx w b0 b1 b2 b3 b4 W) (k : ∀ j, j < w.heap.size + 2 → W'.heap[j]? = W.heap[j]?) (b : Below w.heap.size W W') : Bx w b0 b1 b2 b3 b4 W' :=
  ⟨by rw [k _ (by omega)]; exact h.box, by rw [k _ (by omega)]; exact h.res, h.bel.trans b⟩
theorem ints_snoc (C : List (Nat × ByteArray)) (i : Nat) (s : ByteArray) : ints (C ++ [(i, s)]) = ints C ++ [((i : Int), s)] := by simp [ints]
theorem wvI_snoc (C : List (Int × ByteArray)) (i : Int) (s : ByteArray) : wvI (C ++ [(i, s)]) = wvI C ++ [.int .i64 i, .string s] := by simp [wvI]
/-- one write more, onto a copied row -/
theorem run_appW1 (w : World) (ty : TypeId) (b : Nat) (A : Option Addr) (c : Nat) (C : List (Int × ByteArray)) (hO : OwnW b w A c C) (g k : Nat) (i : Int) (s : ByteArray)
    (hc0 : w.cell? ⟨g, 0, none⟩ = some (.int .i64 i)) (hc1 : w.cell? ⟨g, 1, none⟩ = some (.string s)) (hb : C.length ≤ 1000000) (hbase : b ≤ w.heap.size) :
    ∃ A' c' w', (Builtin.append_ #[49, 49] ty #[.slice A C.length c, .slice (some ⟨g, 0, none⟩) 1 k]).run Tryz.prog w = .ok (.slice A' (C.length + 1) c') w' ∧ OwnW b w' A' c' (C ++ [(i, s)]) ∧
      (∀ j, j < w.heap.size → (∀ g', A = some ⟨g', 0, none⟩ → C.length ≠ 0 → j ≠ g') → w'.heap[j]? = w.heap[j]?) ∧ Below b w w' := by
  obtain ⟨i0, hi, hz0, hz1, hz2⟩ := info_parts info_w
  have hnews : ∀ j u, ([.int .i64 i, .string s] : List Value)[j]? = some u → w.cell? ⟨g, 0 + j, none⟩ = some u := fun j u hj => by
    have hj2 := (List.getElem?_eq_some_iff.1 hj).1
    have : j = 0 ∨ j = 1 := by simp at hj2; omega
    rcases this with rfl | rfl
    · simp at hj; subst hj; exact hc0
    · simp at hj; subst hj; exact hc1
  have hone : ∀ u ∈ ([.int .i64 i, .string s] : List Value), u.oneCell' = true := by intro u hu; simp at hu; rcases hu with rfl | rfl <;> rfl
  rcases hO with ⟨rfl, rfl⟩ | ⟨gA, rfl, hg, hr⟩
  · obtain ⟨cap, w', hr, hB, hsz, hle, hm, hh⟩ := run_grow w Tryz.underlying49 hi hz0 ty A g 0 1 k [.int .i64 i, .string s] (by omega) (by omega) (by rw [hz2]; decide) (by rw [hz1]; rfl) hnews hone
    refine ⟨_, cap, w', hr, .inr ⟨w.heap.size, rfl, ⟨hbase, by simp⟩, by simp [wvI], .inr ⟨w.heap.size, cap, _, rfl, hbase, hh, by simpa using hle, hm, ?_, ?_⟩⟩, fun j hj _ => hB.block j hj, hB.mono hbase⟩
    · simp [Value.cells, Builtin.zeroCells]
      omega
    · simp [wvI]
  · obtain ⟨v', w', hr', h2, h3, _, h5⟩ := run_append_own_at (P := Tryz.prog) w b 49 ty 89 i0 (.agg #[.int .i64 0, .string ByteArray.empty]) 2 24 Tryz.underlying49 hi hz0 hz1 hz2 rfl (by decide) (.slice (some ⟨gA, 0, none⟩) C.length c) C.length (wvI C) hr
      ⟨g, 0, none⟩ 1 k [.int .i64 i, .string s] rfl (fun j u hj => by rw [Addr.add_lit]; exact hnews j u hj) hone (by unfold maxLen; omega) (by omega) hbase
    rw [← wvI_snoc] at h2
    obtain ⟨gB, cB, rfl⟩ := Joins.ownsRow_form h2 (by omega)
    refine ⟨_, cB, w', hr', .inr ⟨gB, rfl, ⟨(h2.lt gB rfl).1, by simp⟩, by simpa using h2⟩, fun j hj hne => ?_, (Below.refl b w).grown h3 hbase (fun j hj => by simp [Value.ownBlock] at hj; omega)⟩
    exact h3.block j hj (fun e => by
      simp [Value.ownBlock] at e
      subst e
      exact hne j rfl (by omega) rfl)
section
variable {ops : Array Oper} {rest : List Oper} {o : Oper} {a : Act} {w : World} {Q : Exit → Act → World → Prop}
theorem wpList_appW1 (hgd : o.guard = none) (sl x : Operand) (ho : o.op = .call { callee := .builtin .append, args := #[sl, x], argTypes := #[49, 49] })
    (b : Nat) (A : Option Addr) (c : Nat) (C : List (Int × ByteArray)) (g k : Nat) (i : Int) (s : ByteArray) (hs : a.eval sl = .slice A C.length c) (hx : a.eval x = .slice (some ⟨g, 0, none⟩) 1 k) (hO : OwnW b w A c C)
    (hc0 : w.cell? ⟨g, 0, none⟩ = some (.int .i64 i)) (hc1 : w.cell? ⟨g, 1, none⟩ = some (.string s)) (hb : C.length ≤ 1000000) (hbase : b ≤ w.heap.size)
    (h : ∀ A' c' w', OwnW b w' A' c' (C ++ [(i, s)]) ∧ (∀ j, j < w.heap.size → (∀ g', A = some ⟨g', 0, none⟩ → C.length ≠ 0 → j ≠ g') → w'.heap[j]? = w.heap[j]?) ∧ Below b w w' → wpList Tryz.prog ops Q rest (a.put o.dst (.slice A' (C.length + 1) c')) w') : wpList Tryz.prog ops Q (o :: rest) a w := by
  refine wpList_plain hgd fun K hK => ?_
  obtain ⟨A', c', w', hr, h2⟩ := run_appW1 w o.type b A c C hO g k i s hc0 hc1 hb hbase
  unfold Oper.wp execOp
  simp only [ho, resolve, invoke, builtin, Sem.run_bind, Sem.run_pure, Result.andThen_ok, List.map_toArray, List.map_cons, List.map_nil, hs, hx, hr]
  exact hK _ _ (h A' c' w' h2)
end
set_option maxHeartbeats 6400000 in
theorem refWrite_any (A A' : Option Addr) (c c' : Nat) (d : Dk) (i : Int) (s : ByteArray) (w : World) (hA : RAt w A A' d) (hk : d.Ok) (ho : d.ops < 1000000000000) (hsz : (s.size : Int) ≤ 9223372036854775807) :
    Calls Tryz.prog 76 #[.agg (rc (.slice A d.S.length c) (.slice A' d.C.length c') d).toArray, .int .i64 i, .string s] w fun x w' =>
      (∃ A1 c1 A2 c2, x = .returned (.tuple #[.agg (rc (.slice A1 (d.write i s).1.S.length c1) (.slice A2 (d.write i s).1.C.length c2) (d.write i s).1).toArray, .int .i64 (d.write i s).2]) ∧ RNew w w' A A' A1 A2 d (d.write i s).1) ∧ Below w.heap.size w w' := by
  have hB := Bx.start w (.slice A d.S.length c) (.slice A' d.C.length c') (.int .i64 (d.armed : Nat)) (.bool d.down) (.int .i64 (d.ops : Nat))
  have HA := Lib.hid hA
  have HB := Lib.hid hB
  have HSt := Lib.hid (fun W => refStep_any A A' d.S.length c d.C.length c' d W (by have := hk.low.1; omega) (by omega))
  have HK := Lib.hid hk
  clear hA hk ho
  cases hd : d.down
  · by_cases hi : d.has i
    · have HI := Lib.hid (fun W => in_hid A c (.slice A' d.C.length c') d i true (decide_eq_true hi) W)
      by_cases hs : s.size = 128
      · have hsi : (s.size : Int) = 128 := by omega
        obtain ⟨eS, eH, eC⟩ := step_same d
        obtain ⟨dd, hdd⟩ : ∃ dd, d.step.1 = dd := ⟨_, rfl⟩
        rw [hdd] at HSt eS eH eC
        have hCp := fun W (k : Below w.heap.size w W) => copy_any A A' c c' d.S (ints d.C) W (HA.out.1.later k) (HA.out.2.later k) (by have := HK.out.most; omega) (by rw [ints_length]; have := HK.out.few; omega)
        rw [ints_length] at hCp
        have HCp := Lib.hid hCp
        clear hCp
        cases h2 : d.step.2
        · have er : d.write i s = ({ dd with C := d.C ++ [(i.toNat, s)], H := d.H.set i.toNat s }, 0) := by simp [Dk.write, hd, hi, hs, h2, hdd]
          rw [er]
          rw [h2] at HSt
          have HX := Lib.hid (show ints (d.C ++ [(i.toNat, s)]) = ints d.C ++ [(i, s)] by rw [ints_snoc, Int.toNat_of_nonneg hi.1])
          have HES := Lib.hid (And.intro eS (And.intro eC (And.intro HK.out.pos HK.out.few)))
          have hlen : (d.C ++ [(i.toNat, s)]).length = d.C.length + 1 := by simp
          dsimp only
          rw [hlen, eS]
          obtain ⟨wl, hwl⟩ : ∃ wl, ints d.C = wl := ⟨_, rfl⟩
          have HWL := Lib.hid (show wl.length = d.C.length by rw [← hwl, ints_length])
          rw [hwl] at HCp HX
          clear er eS eH eC hdd h2 hi hs hlen hwl HK
          obtain ⟨S, Hs, C, a, dn, o⟩ := d
          obtain ⟨S', Hs', C', a', dn', o'⟩ := dd
          dsimp only [rc] at *
          subst hd
          go_enter Tryz.func76, Tryz.ntmps76
          go_upto_region 1 with fail
          obtain ⟨x0, x1, x2, x3, x4, z0, z1, z2, z3, z4, f, f'⟩ := hB.cells
          have f0 := f 0
          have f1 := f 1
          have f2 := f 2
          have f3 := f 3
          have f4 := f 4
          have g0 := f' 0
          have g1 := f' 1
          have g2 := f' 2
          have g3 := f' 3
          have g4 := f' 4
          clear f f'
          clear hB
          generalize World.alloc (World.alloc w _) _ = W at *
          go_wp2_with fail
          refine (HI.out _).mono ?_
          rintro x w3 ⟨rfl, b3⟩
          have HB3 := Lib.hid (HB.out.later b3)
          clear x0 x1 x2 x3 x4 z0 z1 z2 z3 z4 f0 f1 f2 f3 f4 g0 g1 g2 g3 g4
          obtain ⟨x0, x1, x2, x3, x4, z0, z1, z2, z3, z4, f, f'⟩ := HB3.out.cells
          have f0 := f 0
          have f1 := f 1
          have f2 := f 2
          have f3 := f 3
          have f4 := f 4
          have g0 := f' 0
          have g1 := f' 1
          have g2 := f' 2
          have g3 := f' 3
          have g4 := f' 4
          clear f f'
          go_wp2_with fail
          refine (HSt.out _).mono ?_
          rintro x w4 ⟨rfl, b4⟩
          have HB4 := Lib.hid (HB3.out.later b4)
          clear x0 x1 x2 x3 x4 z0 z1 z2 z3 z4 f0 f1 f2 f3 f4 g0 g1 g2 g3 g4
          obtain ⟨x0, x1, x2, x3, x4, z0, z1, z2, z3, z4, f, f'⟩ := HB4.out.cells
          have f0 := f 0
          have f1 := f 1
          have f2 := f 2
          have f3 := f 3
          have f4 := f 4
          have g0 := f' 0
          have g1 := f' 1
          have g2 := f' 2
          have g3 := f' 3
          have g4 := f' 4
          clear f f'
          go_upto_region 10 with fail
          have h5 := ((((HB4.out.put0 (.slice A S.length c)).put1 (.slice A' C.length c')).put2 (.int .i64 (a' : Nat))).put3 (.bool dn')).put4 (.int .i64 (o' : Nat))
          clear x0 x1 x2 x3 x4 z0 z1 z2 z3 z4 f0 f1 f2 f3 f4 g0 g1 g2 g3 g4
          generalize World.setCell _ _ _ = w5 at *
          obtain ⟨x0, x1, x2, x3, x4, z0, z1, z2, z3, z4, f, f'⟩ := h5.cells
          have f0 := f 0
          have f1 := f 1
          have f2 := f 2
          have f3 := f 3
          have f4 := f 4
          have g0 := f' 0
          have g1 := f' 1
          have g2 := f' 2
          have g3 := f' 3
          have g4 := f' 4
          clear f f'
          have HB5 := Lib.hid h5
          clear h5
          go_wp2_with fail
          refine (HCp.out _ HB5.out.bel).mono ?_
          rintro x w6 ⟨⟨A1, c1, A2, c2, rfl, hO1, hO2, hsep⟩, b6⟩
          have HB6 := Lib.hid (HB5.out.later b6)
          have hlt5 := HB5.out.lt
          clear x0 x1 x2 x3 x4 z0 z1 z2 z3 z4 f0 f1 f2 f3 f4 g0 g1 g2 g3 g4
          obtain ⟨x0, x1, x2, x3, x4, z0, z1, z2, z3, z4, f, f'⟩ := HB6.out.cells
          have f0 := f 0
          have f1 := f 1
          have f2 := f 2
          have f3 := f 3
          have f4 := f 4
          have g0 := f' 0
          have g1 := f' 1
          have g2 := f' 2
          have g3 := f' 3
          have g4 := f' 4
          clear f f'
          go_upto_region 11 with fail
          have h7 := (HB6.out.put0 (.slice A1 S.length c1)).put1 (.slice A2 C.length c2)
          have hT7 : OwnT (w.heap.size + 2) ((w6.setCell ⟨w.heap.size, 0, none⟩ (.slice A1 S.length c1)).setCell ⟨w.heap.size, 1, none⟩ (.slice A2 C.length c2)) A1 c1 S := (((hO1.keep (Below.refl _ _) hlt5).store (by simp) _).store (by simp) _)
          have hW7 : OwnW (w.heap.size + 2) ((w6.setCell ⟨w.heap.size, 0, none⟩ (.slice A1 S.length c1)).setCell ⟨w.heap.size, 1, none⟩ (.slice A2 C.length c2)) A2 c2 wl := (((hO2.keep (Below.refl _ _) hlt5).store (by simp) _).store (by simp) _)
          clear x0 x1 x2 x3 x4 z0 z1 z2 z3 z4 f0 f1 f2 f3 f4 g0 g1 g2 g3 g4
          clear hO1 hO2 b6 hlt5
          generalize World.setCell (World.setCell _ _ _) _ _ = w7 at *
          obtain ⟨x0, x1, x2, x3, x4, z0, z1, z2, z3, z4, f, f'⟩ := h7.cells
          have f0 := f 0
          have f1 := f 1
          have f2 := f 2
          have f3 := f 3
          have f4 := f 4
          have g0 := f' 0
          have g1 := f' 1
          have g2 := f' 2
          have g3 := f' 3
          have g4 := f' 4
          clear f f'
          have hlt7 := h7.lt
          have HB7 := Lib.hid h7
          have HT7 := Lib.hid hT7
          have HW7 := Lib.hid (hW7.keep ((Below.refl _ w7).alloc (Nat.le_refl _) (.cells #[.int .i64 i, .string s] 89)) (Nat.le_refl _))
          have HSEP := Lib.hid hsep
          clear h7 hT7 hW7 hsep
          go_upto_region 12 with (at_builtin; go_must (refine wpList_appW1 rfl _ _ rfl (w.heap.size + 2) A2 c2 wl w7.heap.size 1 i s (by rw [HWL.out]; rfl) rfl HW7.out ((cell_of_row _ _ 0 _ _ _ (heap_alloc_last _ _)).trans rfl) ((cell_of_row _ _ 1 _ _ _ (heap_alloc_last _ _)).trans rfl) (by have := HES.out.2.2.2; rw [HWL.out]; omega) (by simp; omega) ?_; rintro A3 c3 w8 ⟨hO8, hk8, b8⟩; rw [HWL.out]; have HB8 := Lib.hid (Bx.keep (HB7.out.later ((Below.refl _ w7).alloc (Nat.le_refl _) (.cells #[.int .i64 i, .string s] 89))) (fun j hj => hk8 j (by simp; omega) (fun g' e hne => by rcases HW7.out with h0 | ⟨q, e', hq, -⟩; (exact absurd (by rw [h0.1]; rfl) hne); (rw [e] at e'; simp at e'; omega))) (b8.mono (by omega))); have HT8 := Lib.hid (show OwnT (w.heap.size + 2) w8 A1 c1 S from by rcases HT7.out with h0 | ⟨q, rfl, hq, hr⟩; (exact .inl h0); (exact .inr ⟨q, rfl, hq, hr.keep ((hk8 q (by simp; have := hr.lt; omega) (fun g' e hne => HSEP.out q g' rfl e (by have := HES.out.2.2.1; omega) (by rw [← HWL.out]; exact hne))).trans (Below.heap_alloc _ _ _ hr.lt))⟩)); clear x0 x1 x2 x3 x4 z0 z1 z2 z3 z4 f0 f1 f2 f3 f4 g0 g1 g2 g3 g4; obtain ⟨x0, x1, x2, x3, x4, z0, z1, z2, z3, z4, f, f'⟩ := HB8.out.cells; have f1 := f 1; have f0 := f 0; have f2 := f 2; have f3 := f 3; have f4 := f 4; have g0 := f' 0; have g1 := f' 1; have g2 := f' 2; have g3 := f' 3; have g4 := f' 4; clear f f'))
          have h9 := HB8.out.put1 (.slice A3 (C.length + 1) c3)
          have hT9 := HT8.out.store (p := ⟨w.heap.size, 1, none⟩) (by simp) (.slice A3 (C.length + 1) c3)
          have hW9 := hO8.store (p := ⟨w.heap.size, 1, none⟩) (by simp) (.slice A3 (C.length + 1) c3)
          clear x0 x1 x2 x3 x4 z0 z1 z2 z3 z4 f0 f1 f2 f3 f4 g0 g1 g2 g3 g4
          clear hO8 hk8 b8
          generalize World.setCell _ _ _ = w9 at *
          obtain ⟨x0, x1, x2, x3, x4, z0, z1, z2, z3, z4, f, f'⟩ := h9.cells
          have f0 := f 0
          have f1 := f 1
          have f2 := f 2
          have f3 := f 3
          have f4 := f 4
          have g0 := f' 0
          have g1 := f' 1
          have g2 := f' 2
          have g3 := f' 3
          have g4 := f' 4
          clear f f'
          have HB9 := Lib.hid (And.intro h9 (And.intro hT9 hW9))
          clear h9 hT9 hW9
          go_wp2
          obtain ⟨⟨e0, e1, e2, e3, e4⟩, eb, eT, eW⟩ := (HB9.out.1).fin (.slice A1 S.length c1) (.slice A3 (C.length + 1) c3) (.int .i64 (a' : Nat)) (.bool dn') (.int .i64 (o' : Nat))
          refine bodyPost_ret (by simp [results, Tryz.results76, go_sem, e0, e1, e2, e3, e4]; try rfl) rfl ?_
          exact ⟨⟨A1, c1, A3, c3, rfl, ⟨⟨(eT _ _ _ HB9.out.2.1).txs, by rw [HX.out]; exact (eW _ _ _ HB9.out.2.2).wrs⟩, HB9.out.2.1.fresh, HB9.out.2.2.fresh (by simp [HWL.out])⟩⟩, eb⟩

        · have er : d.write i s = (dd, 7) := by simp [Dk.write, hd, hi, hs, h2, hdd]
          rw [er]
          rw [h2] at HSt
          have HES := Lib.hid (And.intro eS eC)
          dsimp only
          rw [eS, eC]
          clear er eS eH eC hdd h2 hi hs HCp HK
          obtain ⟨S, Hs, C, a, dn, o⟩ := d
          obtain ⟨S', Hs', C', a', dn', o'⟩ := dd
          dsimp only [rc] at *
          subst hd
          go_enter Tryz.func76, Tryz.ntmps76
          go_upto_region 1 with fail
          obtain ⟨x0, x1, x2, x3, x4, z0, z1, z2, z3, z4, f, f'⟩ := hB.cells
          have f0 := f 0
          have f1 := f 1
          have f2 := f 2
          have f3 := f 3
          have f4 := f 4
          have g0 := f' 0
          have g1 := f' 1
          have g2 := f' 2
          have g3 := f' 3
          have g4 := f' 4
          clear f f'
          clear hB
          generalize World.alloc (World.alloc w _) _ = W at *
          go_wp2_with fail
          refine (HI.out _).mono ?_
          rintro x w3 ⟨rfl, b3⟩
          have HB3 := Lib.hid (HB.out.later b3)
          clear x0 x1 x2 x3 x4 z0 z1 z2 z3 z4 f0 f1 f2 f3 f4 g0 g1 g2 g3 g4
          obtain ⟨x0, x1, x2, x3, x4, z0, z1, z2, z3, z4, f, f'⟩ := HB3.out.cells
          have f0 := f 0
          have f1 := f 1
          have f2 := f 2
          have f3 := f 3
          have f4 := f 4
          have g0 := f' 0
          have g1 := f' 1
          have g2 := f' 2
          have g3 := f' 3
          have g4 := f' 4
          clear f f'
          go_wp2_with fail
          refine (HSt.out _).mono ?_
          rintro x w4 ⟨rfl, b4⟩
          have HB4 := Lib.hid (HB3.out.later b4)
          clear x0 x1 x2 x3 x4 z0 z1 z2 z3 z4 f0 f1 f2 f3 f4 g0 g1 g2 g3 g4
          obtain ⟨x0, x1, x2, x3, x4, z0, z1, z2, z3, z4, f, f'⟩ := HB4.out.cells
          have f0 := f 0
          have f1 := f 1
          have f2 := f 2
          have f3 := f 3
          have f4 := f 4
          have g0 := f' 0
          have g1 := f' 1
          have g2 := f' 2
          have g3 := f' 3
          have g4 := f' 4
          clear f f'
          go_upto_region 9 with fail
          have h5 := ((((HB4.out.put0 (.slice A S.length c)).put1 (.slice A' C.length c')).put2 (.int .i64 (a' : Nat))).put3 (.bool dn')).put4 (.int .i64 (o' : Nat))
          clear x0 x1 x2 x3 x4 z0 z1 z2 z3 z4 f0 f1 f2 f3 f4 g0 g1 g2 g3 g4
          generalize World.setCell _ _ _ = w5 at *
          obtain ⟨x0, x1, x2, x3, x4, z0, z1, z2, z3, z4, f, f'⟩ := h5.cells
          have f0 := f 0
          have f1 := f 1
          have f2 := f 2
          have f3 := f 3
          have f4 := f 4
          have g0 := f' 0
          have g1 := f' 1
          have g2 := f' 2
          have g3 := f' 3
          have g4 := f' 4
          clear f f'
          have HB5 := Lib.hid h5
          clear h5
          go_wp2
          obtain ⟨⟨e0, e1, e2, e3, e4⟩, eb, eT, eW⟩ := (HB5.out).fin (.slice A S.length c) (.slice A' C.length c') (.int .i64 (a' : Nat)) (.bool dn') (.int .i64 (o' : Nat))
          refine bodyPost_ret (by simp [results, Tryz.results76, go_sem, e0, e1, e2, e3, e4]; try rfl) rfl ?_
          exact ⟨⟨A, c, A', c', rfl, ⟨⟨by rw [HES.out.1]; exact HA.out.1.later eb, by rw [HES.out.2]; exact HA.out.2.later eb⟩, .inr (.inl ⟨rfl, by rw [HES.out.1]⟩), .inr (.inl ⟨rfl, by rw [HES.out.2]⟩)⟩⟩, eb⟩

      · have hsi : ¬ (s.size : Int) = 128 := by omega
        have er : d.write i s = (d, 2) := by simp [Dk.write, hd, hi, hs]
        clear hs hi HSt HK
        rw [er]
        clear er
        obtain ⟨S, Hs, C, a, dn, o⟩ := d
        dsimp only [rc] at *
        subst hd
        go_enter Tryz.func76, Tryz.ntmps76
        go_upto_region 1 with fail
        obtain ⟨x0, x1, x2, x3, x4, z0, z1, z2, z3, z4, f, f'⟩ := hB.cells
        have f0 := f 0
        have f1 := f 1
        have f2 := f 2
        have f3 := f 3
        have f4 := f 4
        have g0 := f' 0
        have g1 := f' 1
        have g2 := f' 2
        have g3 := f' 3
        have g4 := f' 4
        clear f f'
        clear hB
        generalize World.alloc (World.alloc w _) _ = W at *
        go_wp2_with fail
        refine (HI.out _).mono ?_
        rintro x w3 ⟨rfl, b3⟩
        have HB3 := Lib.hid (HB.out.later b3)
        clear x0 x1 x2 x3 x4 z0 z1 z2 z3 z4 f0 f1 f2 f3 f4 g0 g1 g2 g3 g4
        obtain ⟨x0, x1, x2, x3, x4, z0, z1, z2, z3, z4, f, f'⟩ := HB3.out.cells
        have f0 := f 0
        have f1 := f 1
        have f2 := f 2
        have f3 := f 3
        have f4 := f 4
        have g0 := f' 0
        have g1 := f' 1
        have g2 := f' 2
        have g3 := f' 3
        have g4 := f' 4
        clear f f'
        go_wp2
        obtain ⟨⟨e0, e1, e2, e3, e4⟩, eb, eT, eW⟩ := (HB3.out).fin (.slice A S.length c) (.slice A' C.length c') (.int .i64 (a : Nat)) (.bool false) (.int .i64 (o : Nat))
        refine bodyPost_ret (by simp [results, Tryz.results76, go_sem, e0, e1, e2, e3, e4]; try rfl) rfl ?_
        exact ⟨⟨A, c, A', c', rfl, ⟨HA.out.later eb, .inr (.inl ⟨rfl, rfl⟩), .inr (.inl ⟨rfl, rfl⟩)⟩⟩, eb⟩

    · have HI := Lib.hid (fun W => in_hid A c (.slice A' d.C.length c') d i false (decide_eq_false hi) W)
      have er : d.write i s = (d, 8) := by simp [Dk.write, hd, hi]
      clear hi HSt HK
      rw [er]
      clear er
      obtain ⟨S, Hs, C, a, dn, o⟩ := d
      dsimp only [rc] at *
      subst hd
      go_enter Tryz.func76, Tryz.ntmps76
      go_upto_region 1 with fail
      obtain ⟨x0, x1, x2, x3, x4, z0, z1, z2, z3, z4, f, f'⟩ := hB.cells
      have f0 := f 0
      have f1 := f 1
      have f2 := f 2
      have f3 := f 3
      have f4 := f 4
      have g0 := f' 0
      have g1 := f' 1
      have g2 := f' 2
      have g3 := f' 3
      have g4 := f' 4
      clear f f'
      clear hB
      generalize World.alloc (World.alloc w _) _ = W at *
      go_wp2_with fail
      refine (HI.out _).mono ?_
      rintro x w3 ⟨rfl, b3⟩
      have HB3 := Lib.hid (HB.out.later b3)
      clear x0 x1 x2 x3 x4 z0 z1 z2 z3 z4 f0 f1 f2 f3 f4 g0 g1 g2 g3 g4
      obtain ⟨x0, x1, x2, x3, x4, z0, z1, z2, z3, z4, f, f'⟩ := HB3.out.cells
      have f0 := f 0
      have f1 := f 1
      have f2 := f 2
      have f3 := f 3
      have f4 := f 4
      have g0 := f' 0
      have g1 := f' 1
      have g2 := f' 2
      have g3 := f' 3
      have g4 := f' 4
      clear f f'
      go_wp2
      obtain ⟨⟨e0, e1, e2, e3, e4⟩, eb, eT, eW⟩ := (HB3.out).fin (.slice A S.length c) (.slice A' C.length c') (.int .i64 (a : Nat)) (.bool false) (.int .i64 (o : Nat))
      refine bodyPost_ret (by simp [results, Tryz.results76, go_sem, e0, e1, e2, e3, e4]; try rfl) rfl ?_
      exact ⟨⟨A, c, A', c', rfl, ⟨HA.out.later eb, .inr (.inl ⟨rfl, rfl⟩), .inr (.inl ⟨rfl, rfl⟩)⟩⟩, eb⟩

  · have er : d.write i s = (d, 7) := by simp [Dk.write, hd]
    clear HSt HK
    rw [er]
    clear er
    obtain ⟨S, Hs, C, a, dn, o⟩ := d
    dsimp only [rc] at *
    subst hd
    go_enter Tryz.func76, Tryz.ntmps76
    go_upto_region 1 with fail
    obtain ⟨x0, x1, x2, x3, x4, z0, z1, z2, z3, z4, f, f'⟩ := hB.cells
    have f0 := f 0
    have f1 := f 1
    have f2 := f 2
    have f3 := f 3
    have f4 := f 4
    have g0 := f' 0
    have g1 := f' 1
    have g2 := f' 2
    have g3 := f' 3
    have g4 := f' 4
    clear f f'
    clear hB
    generalize World.alloc (World.alloc w _) _ = W at *
    go_wp2
    obtain ⟨⟨e0, e1, e2, e3, e4⟩, eb, eT, eW⟩ := (HB.out).fin (.slice A S.length c) (.slice A' C.length c') (.int .i64 (a : Nat)) (.bool true) (.int .i64 (o : Nat))
    refine bodyPost_ret (by simp [results, Tryz.results76, go_sem, e0, e1, e2, e3, e4]; try rfl) rfl ?_
    exact ⟨⟨A, c, A', c', rfl, ⟨HA.out.later eb, .inr (.inl ⟨rfl, rfl⟩), .inr (.inl ⟨rfl, rfl⟩)⟩⟩, eb⟩

end Go.Proofs.YtfbakelpplpomaaGreatDoor.Disk
/-
  The walks of pleachref07: Over, Flush, Crash, Boot.
-/
namespace Go.Proofs.YtfbakelpplpomaaGreatDoor.Disk
open Go.RowKit Go.Proofs.YtfbakelpplpomaaGreatDoor.DiskRows
set_option linter.unusedVariables false
set_option linter.unusedSimpArgs false
set_option maxRecDepth 100000

set_option maxHeartbeats 6400000 in
theorem refOver_any (A A' : Option Addr) (c c' : Nat) (d : Dk) (i : Int) (s : ByteArray) (w : World) (hA : RAt w A A' d) (hk : d.Ok) (hsz : (s.size : Int) ≤ 9223372036854775807) :
    Calls Tryz.prog 54 #[.agg (rc (.slice A d.S.length c) (.slice A' d.C.length c') d).toArray, .int .i64 i, .string s] w fun x w' =>
      (∃ A1 c1 A2 c2, x = .returned (.tuple #[.agg (rc (.slice A1 (d.over i s).1.S.length c1) (.slice A2 (d.over i s).1.C.length c2) (d.over i s).1).toArray, .int .i64 (d.over i s).2]) ∧ RNew w w' A A' A1 A2 d (d.over i s).1) ∧ Below w.heap.size w w' := by
  have hB := Bx.start w (.slice A d.S.length c) (.slice A' d.C.length c') (.int .i64 (d.armed : Nat)) (.bool d.down) (.int .i64 (d.ops : Nat))
  have HA := Lib.hid hA
  have HB := Lib.hid hB
  have HK := Lib.hid hk
  clear hA hk
  by_cases hi : d.has i
  · have HI := Lib.hid (fun W => in_hid A c (.slice A' d.C.length c') d i true (decide_eq_true hi) W)
    by_cases hs : s.size = 128
    · have hsi : (s.size : Int) = 128 := by omega
      have hCp := fun W (k : Below w.heap.size w W) => copy_any A A' c c' d.S (ints d.C) W (HA.out.1.later k) (HA.out.2.later k) (by have := HK.out.most; omega) (by rw [ints_length]; have := HK.out.few; omega)
      rw [ints_length] at hCp
      have HCp := Lib.hid hCp
      clear hCp
      have er : d.over i s = ({ d with S := d.S.set i.toNat s, H := shows (d.S.set i.toNat s) d.C }, 0) := by simp [Dk.over, hi, hs]
      rw [er]
      have hin : (i.toNat : Int) = i := Int.toNat_of_nonneg hi.1
      have hil : i.toNat < d.S.length := by have := hi.2; omega
      have hni : (d.S.length : Int) ≤ 4096 := by have := HK.out.most; omega
      have HES := Lib.hid (And.intro hil (And.intro HK.out.pos HK.out.few))
      have hlen : (d.S.set i.toNat s).length = d.S.length := by simp
      dsimp only
      rw [hlen]
      obtain ⟨j, hj⟩ : ∃ j, i.toNat = j := ⟨_, rfl⟩
      rw [hj] at hin HES ⊢
      subst hin
      have hjn : (j : Int) < (d.S.length : Int) := hi.2
      clear er hil hlen hj hi hs
      obtain ⟨S, Hs, C, a, dn, o⟩ := d
      dsimp only [rc] at *
      go_enter Tryz.func54, Tryz.ntmps54
      go_upto_region 1 with fail
      obtain ⟨x0, x1, x2, x3, x4, z0, z1, z2, z3, z4, f, f'⟩ := hB.cells
      have f0 := f 0
      have f1 := f 1
      have f2 := f 2
      have f3 := f 3
      have f4 := f 4
      have g0 := f' 0
      have g1 := f' 1
      have g2 := f' 2
      have g3 := f' 3
      have g4 := f' 4
      clear f f'
      clear hB
      generalize World.alloc (World.alloc w _) _ = W at *
      go_wp2_with fail
      refine (HI.out _).mono ?_
      rintro x w3 ⟨rfl, b3⟩
      have HB3 := Lib.hid (HB.out.later b3)
      clear x0 x1 x2 x3 x4 z0 z1 z2 z3 z4 f0 f1 f2 f3 f4 g0 g1 g2 g3 g4
      obtain ⟨x0, x1, x2, x3, x4, z0, z1, z2, z3, z4, f, f'⟩ := HB3.out.cells
      have f0 := f 0
      have f1 := f 1
      have f2 := f 2
      have f3 := f 3
      have f4 := f 4
      have g0 := f' 0
      have g1 := f' 1
      have g2 := f' 2
      have g3 := f' 3
      have g4 := f' 4
      clear f f'
      go_wp2_with fail
      refine (HCp.out _ HB3.out.bel).mono ?_
      rintro x w6 ⟨⟨A1, c1, A2, c2, rfl, hO1, hO2, hsep⟩, b6⟩
      have HB6 := Lib.hid (HB3.out.later b6)
      have hlt5 := HB3.out.lt
      clear x0 x1 x2 x3 x4 z0 z1 z2 z3 z4 f0 f1 f2 f3 f4 g0 g1 g2 g3 g4
      obtain ⟨x0, x1, x2, x3, x4, z0, z1, z2, z3, z4, f, f'⟩ := HB6.out.cells
      have f0 := f 0
      have f1 := f 1
      have f2 := f 2
      have f3 := f 3
      have f4 := f 4
      have g0 := f' 0
      have g1 := f' 1
      have g2 := f' 2
      have g3 := f' 3
      have g4 := f' 4
      clear f f'
      go_upto_region 6 with fail
      have h7 := (HB6.out.put0 (.slice A1 S.length c1)).put1 (.slice A2 C.length c2)
      have hT7 : OwnT (w.heap.size + 2) ((w6.setCell ⟨w.heap.size, 0, none⟩ (.slice A1 S.length c1)).setCell ⟨w.heap.size, 1, none⟩ (.slice A2 C.length c2)) A1 c1 S := (((hO1.keep (Below.refl _ _) hlt5).store (by simp) _).store (by simp) _)
      have hW7 : OwnW (w.heap.size + 2) ((w6.setCell ⟨w.heap.size, 0, none⟩ (.slice A1 S.length c1)).setCell ⟨w.heap.size, 1, none⟩ (.slice A2 C.length c2)) A2 c2 (ints C) := (((hO2.keep (Below.refl _ _) hlt5).store (by simp) _).store (by simp) _)
      clear x0 x1 x2 x3 x4 z0 z1 z2 z3 z4 f0 f1 f2 f3 f4 g0 g1 g2 g3 g4
      clear hO1 hO2 b6 hlt5
      generalize World.setCell (World.setCell _ _ _) _ _ = w7 at *
      obtain ⟨x0, x1, x2, x3, x4, z0, z1, z2, z3, z4, f, f'⟩ := h7.cells
      have f0 := f 0
      have f1 := f 1
      have f2 := f 2
      have f3 := f 3
      have f4 := f 4
      have g0 := f' 0
      have g1 := f' 1
      have g2 := f' 2
      have g3 := f' 3
      have g4 := f' 4
      clear f f'
      obtain ⟨g, rfl, hg, hr⟩ : ∃ g, A1 = some ⟨g, 0, none⟩ ∧ w.heap.size + 2 ≤ g ∧ RowS w7 g c1 S := by
        rcases hT7 with h0 | h0
        · have q := HES.out.2.1; rw [h0] at q; simp at q
        · exact h0
      have r1 := hr.cell HES.out.1
      have r2 := hr.frozen j
      have h8 : Bx w (.slice (some ⟨g, 0, none⟩) S.length c1) (.slice A2 C.length c2) (.int .i64 (a : Nat)) (.bool dn) (.int .i64 (o : Nat)) (w7.setCell ⟨g, j, none⟩ (.string s)) := ⟨by rw [Below.heap_setCell _ _ _ _ (by show w.heap.size ≠ g; omega)]; exact h7.box, by rw [Below.heap_setCell _ _ _ _ (by show w.heap.size + 1 ≠ g; omega)]; exact h7.res, h7.bel.setCell (p := ⟨g, j, none⟩) (by show w.heap.size ≤ g; omega) _⟩
      have hr8 : OwnT (w.heap.size + 2) (w7.setCell ⟨g, j, none⟩ (.string s)) (some ⟨g, 0, none⟩) c1 (S.set j s) := .inr ⟨g, rfl, hg, hr.set HES.out.1 s⟩
      have hw8 := hW7.other ⟨g, j, none⟩ (.string s) (fun g' e hne => hsep g g' rfl e (by have := HES.out.2.1; omega) (by rw [ints_length] at hne; exact hne))
      have HB8 := Lib.hid (And.intro h8 (And.intro hr8 hw8))
      obtain ⟨u, hu⟩ : ∃ u, S.getD j ByteArray.empty = u := ⟨_, rfl⟩
      rw [hu] at r1
      clear h7 hr hT7 hW7 hsep h8 hr8 hw8 hg hu
      go_upto_region 7 with fail
      clear x0 x1 x2 x3 x4 z0 z1 z2 z3 z4 f0 f1 f2 f3 f4 g0 g1 g2 g3 g4
      clear r1 r2
      generalize World.setCell _ _ _ = w8 at *
      obtain ⟨x0, x1, x2, x3, x4, z0, z1, z2, z3, z4, f, f'⟩ := HB8.out.1.cells
      have f0 := f 0
      have f1 := f 1
      have f2 := f 2
      have f3 := f 3
      have f4 := f 4
      have g0 := f' 0
      have g1 := f' 1
      have g2 := f' 2
      have g3 := f' 3
      have g4 := f' 4
      clear f f'
      go_wp2
      obtain ⟨⟨e0, e1, e2, e3, e4⟩, eb, eT, eW⟩ := (HB8.out.1).fin (.slice (some ⟨g, 0, none⟩) S.length c1) (.slice A2 C.length c2) (.int .i64 (a : Nat)) (.bool dn) (.int .i64 (o : Nat))
      refine bodyPost_ret (by simp [results, Tryz.results54, go_sem, e0, e1, e2, e3, e4]; try rfl) rfl ?_
      exact ⟨⟨some ⟨g, 0, none⟩, c1, A2, c2, rfl, ⟨⟨(eT _ _ _ HB8.out.2.1).txs, (eW _ _ _ HB8.out.2.2).wrs⟩, HB8.out.2.1.fresh, HB8.out.2.2.fresh (by rw [ints_length])⟩⟩, eb⟩

    · have hsi : ¬ (s.size : Int) = 128 := by omega
      have er : d.over i s = (d, 2) := by simp [Dk.over, hi, hs]
      clear hs hi HK
      rw [er]
      clear er
      obtain ⟨S, Hs, C, a, dn, o⟩ := d
      dsimp only [rc] at *
      go_enter Tryz.func54, Tryz.ntmps54
      go_upto_region 1 with fail
      obtain ⟨x0, x1, x2, x3, x4, z0, z1, z2, z3, z4, f, f'⟩ := hB.cells
      have f0 := f 0
      have f1 := f 1
      have f2 := f 2
      have f3 := f 3
      have f4 := f 4
      have g0 := f' 0
      have g1 := f' 1
      have g2 := f' 2
      have g3 := f' 3
      have g4 := f' 4
      clear f f'
      clear hB
      generalize World.alloc (World.alloc w _) _ = W at *
      go_wp2_with fail
      refine (HI.out _).mono ?_
      rintro x w3 ⟨rfl, b3⟩
      have HB3 := Lib.hid (HB.out.later b3)
      clear x0 x1 x2 x3 x4 z0 z1 z2 z3 z4 f0 f1 f2 f3 f4 g0 g1 g2 g3 g4
      obtain ⟨x0, x1, x2, x3, x4, z0, z1, z2, z3, z4, f, f'⟩ := HB3.out.cells
      have f0 := f 0
      have f1 := f 1
      have f2 := f 2
      have f3 := f 3
      have f4 := f 4
      have g0 := f' 0
      have g1 := f' 1
      have g2 := f' 2
      have g3 := f' 3
      have g4 := f' 4
      clear f f'
      go_wp2
      obtain ⟨⟨e0, e1, e2, e3, e4⟩, eb, eT, eW⟩ := (HB3.out).fin (.slice A S.length c) (.slice A' C.length c') (.int .i64 (a : Nat)) (.bool dn) (.int .i64 (o : Nat))
      refine bodyPost_ret (by simp [results, Tryz.results54, go_sem, e0, e1, e2, e3, e4]; try rfl) rfl ?_
      exact ⟨⟨A, c, A', c', rfl, ⟨HA.out.later eb, .inr (.inl ⟨rfl, rfl⟩), .inr (.inl ⟨rfl, rfl⟩)⟩⟩, eb⟩

  · have HI := Lib.hid (fun W => in_hid A c (.slice A' d.C.length c') d i false (decide_eq_false hi) W)
    have er : d.over i s = (d, 8) := by simp [Dk.over, hi]
    clear hi HK
    rw [er]
    clear er
    obtain ⟨S, Hs, C, a, dn, o⟩ := d
    dsimp only [rc] at *
    go_enter Tryz.func54, Tryz.ntmps54
    go_upto_region 1 with fail
    obtain ⟨x0, x1, x2, x3, x4, z0, z1, z2, z3, z4, f, f'⟩ := hB.cells
    have f0 := f 0
    have f1 := f 1
    have f2 := f 2
    have f3 := f 3
    have f4 := f 4
    have g0 := f' 0
    have g1 := f' 1
    have g2 := f' 2
    have g3 := f' 3
    have g4 := f' 4
    clear f f'
    clear hB
    generalize World.alloc (World.alloc w _) _ = W at *
    go_wp2_with fail
    refine (HI.out _).mono ?_
    rintro x w3 ⟨rfl, b3⟩
    have HB3 := Lib.hid (HB.out.later b3)
    clear x0 x1 x2 x3 x4 z0 z1 z2 z3 z4 f0 f1 f2 f3 f4 g0 g1 g2 g3 g4
    obtain ⟨x0, x1, x2, x3, x4, z0, z1, z2, z3, z4, f, f'⟩ := HB3.out.cells
    have f0 := f 0
    have f1 := f 1
    have f2 := f 2
    have f3 := f 3
    have f4 := f 4
    have g0 := f' 0
    have g1 := f' 1
    have g2 := f' 2
    have g3 := f' 3
    have g4 := f' 4
    clear f f'
    go_wp2
    obtain ⟨⟨e0, e1, e2, e3, e4⟩, eb, eT, eW⟩ := (HB3.out).fin (.slice A S.length c) (.slice A' C.length c') (.int .i64 (a : Nat)) (.bool dn) (.int .i64 (o : Nat))
    refine bodyPost_ret (by simp [results, Tryz.results54, go_sem, e0, e1, e2, e3, e4]; try rfl) rfl ?_
    exact ⟨⟨A, c, A', c', rfl, ⟨HA.out.later eb, .inr (.inl ⟨rfl, rfl⟩), .inr (.inl ⟨rfl, rfl⟩)⟩⟩, eb⟩

set_option maxHeartbeats 6400000 in
theorem refFlush_any (A A' : Option Addr) (c c' : Nat) (d : Dk) (w : World) (hA : RAt w A A' d) (hk : d.Ok) (ho : d.ops < 1000000000000) :
    Calls Tryz.prog 78 #[.agg (rc (.slice A d.S.length c) (.slice A' d.C.length c') d).toArray] w fun x w' =>
      (∃ A1 c1 A2 c2, x = .returned (.tuple #[.agg (rc (.slice A1 (d.flush).1.S.length c1) (.slice A2 (d.flush).1.C.length c2) (d.flush).1).toArray, .int .i64 (d.flush).2]) ∧ RNew w w' A A' A1 A2 d (d.flush).1) ∧ Below w.heap.size w w' := by
  have hB := Bx.start w (.slice A d.S.length c) (.slice A' d.C.length c') (.int .i64 (d.armed : Nat)) (.bool d.down) (.int .i64 (d.ops : Nat))
  have HA := Lib.hid hA
  have HB := Lib.hid hB
  have HSt := Lib.hid (fun W => refStep_any A A' d.S.length c d.C.length c' d W (by have := hk.low.1; omega) (by omega))
  have HDn := Lib.hid (fun W (k : Below w.heap.size w W) => done_any A A' c c' d.S d.C true none 0 [] W (hA.1.later k) (hA.2.later k) (.inl rfl) (by simp) hk.pos hk.most hk.few hk.ats _ rfl)
  rw [keepsB_shows _ _ _ _ (Nat.le_refl _), List.take_length] at HDn
  clear hA hk ho
  cases hd : d.down
  · obtain ⟨eS, eH, eC⟩ := step_same d
    obtain ⟨dd, hdd⟩ : ∃ dd, d.step.1 = dd := ⟨_, rfl⟩
    rw [hdd] at HSt eS eH eC
    cases h2 : d.step.2
    · have er : d.flush = ({ dd with S := shows d.S d.C, C := [] }, 0) := by simp [Dk.flush, hd, h2, hdd]
      rw [er]
      rw [h2] at HSt
      have hlen := shows_length d.S d.C
      dsimp only
      rw [hlen]
      obtain ⟨R, hR⟩ : ∃ R, shows d.S d.C = R := ⟨_, rfl⟩
      rw [hR] at HDn ⊢
      clear er eS eH eC hdd h2 hlen hR
      obtain ⟨S, Hs, C, a, dn, o⟩ := d
      obtain ⟨S', Hs', C', a', dn', o'⟩ := dd
      dsimp only [rc] at *
      subst hd
      go_enter Tryz.func78, Tryz.ntmps78
      go_upto_region 1 with fail
      obtain ⟨x0, x1, x2, x3, x4, z0, z1, z2, z3, z4, f, f'⟩ := hB.cells
      have f0 := f 0
      have f1 := f 1
      have f2 := f 2
      have f3 := f 3
      have f4 := f 4
      have g0 := f' 0
      have g1 := f' 1
      have g2 := f' 2
      have g3 := f' 3
      have g4 := f' 4
      clear f f'
      clear hB
      generalize World.alloc (World.alloc w _) _ = W at *
      go_wp2_with fail
      refine (HSt.out _).mono ?_
      rintro x w4 ⟨rfl, b4⟩
      have HB4 := Lib.hid (HB.out.later b4)
      clear x0 x1 x2 x3 x4 z0 z1 z2 z3 z4 f0 f1 f2 f3 f4 g0 g1 g2 g3 g4
      obtain ⟨x0, x1, x2, x3, x4, z0, z1, z2, z3, z4, f, f'⟩ := HB4.out.cells
      have f0 := f 0
      have f1 := f 1
      have f2 := f 2
      have f3 := f 3
      have f4 := f 4
      have g0 := f' 0
      have g1 := f' 1
      have g2 := f' 2
      have g3 := f' 3
      have g4 := f' 4
      clear f f'
      go_upto_region 6 with fail
      have h5 := ((((HB4.out.put0 (.slice A S.length c)).put1 (.slice A' C.length c')).put2 (.int .i64 (a' : Nat))).put3 (.bool dn')).put4 (.int .i64 (o' : Nat))
      clear x0 x1 x2 x3 x4 z0 z1 z2 z3 z4 f0 f1 f2 f3 f4 g0 g1 g2 g3 g4
      generalize World.setCell _ _ _ = w5 at *
      obtain ⟨x0, x1, x2, x3, x4, z0, z1, z2, z3, z4, f, f'⟩ := h5.cells
      have f0 := f 0
      have f1 := f 1
      have f2 := f 2
      have f3 := f 3
      have f4 := f 4
      have g0 := f' 0
      have g1 := f' 1
      have g2 := f' 2
      have g3 := f' 3
      have g4 := f' 4
      clear f f'
      have HB5 := Lib.hid h5
      clear h5
      go_wp2_with fail
      refine (HDn.out _ HB5.out.bel).mono ?_
      rintro x w6 ⟨⟨g, c1, rfl, hg, hr⟩, b6⟩
      have HB6 := Lib.hid (HB5.out.later b6)
      have hlt5 := HB5.out.lt
      clear x0 x1 x2 x3 x4 z0 z1 z2 z3 z4 f0 f1 f2 f3 f4 g0 g1 g2 g3 g4
      obtain ⟨x0, x1, x2, x3, x4, z0, z1, z2, z3, z4, f, f'⟩ := HB6.out.cells
      have f0 := f 0
      have f1 := f 1
      have f2 := f 2
      have f3 := f 3
      have f4 := f 4
      have g0 := f' 0
      have g1 := f' 1
      have g2 := f' 2
      have g3 := f' 3
      have g4 := f' 4
      clear f f'
      go_upto_region 7 with fail
      have h7 := (HB6.out.put0 (.slice (some ⟨g, 0, none⟩) S.length c1)).put1 (.slice none 0 0)
      have hT7 : OwnT (w.heap.size + 2) ((w6.setCell ⟨w.heap.size, 0, none⟩ (.slice (some ⟨g, 0, none⟩) S.length c1)).setCell ⟨w.heap.size, 1, none⟩ (.slice none 0 0)) (some ⟨g, 0, none⟩) c1 R := ((OwnT.store (.inr ⟨g, rfl, by omega, hr⟩) (by simp) _).store (by simp) _)
      clear x0 x1 x2 x3 x4 z0 z1 z2 z3 z4 f0 f1 f2 f3 f4 g0 g1 g2 g3 g4
      clear hg hr b6 hlt5
      generalize World.setCell (World.setCell _ _ _) _ _ = w7 at *
      obtain ⟨x0, x1, x2, x3, x4, z0, z1, z2, z3, z4, f, f'⟩ := h7.cells
      have f0 := f 0
      have f1 := f 1
      have f2 := f 2
      have f3 := f 3
      have f4 := f 4
      have g0 := f' 0
      have g1 := f' 1
      have g2 := f' 2
      have g3 := f' 3
      have g4 := f' 4
      clear f f'
      have HB7 := Lib.hid (And.intro h7 hT7)
      clear h7 hT7
      go_wp2
      obtain ⟨⟨e0, e1, e2, e3, e4⟩, eb, eT, eW⟩ := (HB7.out.1).fin (.slice (some ⟨g, 0, none⟩) S.length c1) (.slice none 0 0) (.int .i64 (a' : Nat)) (.bool dn') (.int .i64 (o' : Nat))
      refine bodyPost_ret (by simp [results, Tryz.results78, go_sem, e0, e1, e2, e3, e4]; try rfl) rfl ?_
      exact ⟨⟨some ⟨g, 0, none⟩, c1, none, 0, rfl, ⟨⟨(eT _ _ _ HB7.out.2).txs, .inl rfl⟩, HB7.out.2.fresh, .inl rfl⟩⟩, eb⟩

    · have er : d.flush = (dd, 7) := by simp [Dk.flush, hd, h2, hdd]
      rw [er]
      rw [h2] at HSt
      have HES := Lib.hid (And.intro eS eC)
      dsimp only
      rw [eS, eC]
      clear er eS eH eC hdd h2 HDn
      obtain ⟨S, Hs, C, a, dn, o⟩ := d
      obtain ⟨S', Hs', C', a', dn', o'⟩ := dd
      dsimp only [rc] at *
      subst hd
      go_enter Tryz.func78, Tryz.ntmps78
      go_upto_region 1 with fail
      obtain ⟨x0, x1, x2, x3, x4, z0, z1, z2, z3, z4, f, f'⟩ := hB.cells
      have f0 := f 0
      have f1 := f 1
      have f2 := f 2
      have f3 := f 3
      have f4 := f 4
      have g0 := f' 0
      have g1 := f' 1
      have g2 := f' 2
      have g3 := f' 3
      have g4 := f' 4
      clear f f'
      clear hB
      generalize World.alloc (World.alloc w _) _ = W at *
      go_wp2_with fail
      refine (HSt.out _).mono ?_
      rintro x w4 ⟨rfl, b4⟩
      have HB4 := Lib.hid (HB.out.later b4)
      clear x0 x1 x2 x3 x4 z0 z1 z2 z3 z4 f0 f1 f2 f3 f4 g0 g1 g2 g3 g4
      obtain ⟨x0, x1, x2, x3, x4, z0, z1, z2, z3, z4, f, f'⟩ := HB4.out.cells
      have f0 := f 0
      have f1 := f 1
      have f2 := f 2
      have f3 := f 3
      have f4 := f 4
      have g0 := f' 0
      have g1 := f' 1
      have g2 := f' 2
      have g3 := f' 3
      have g4 := f' 4
      clear f f'
      go_upto_region 5 with fail
      have h5 := ((((HB4.out.put0 (.slice A S.length c)).put1 (.slice A' C.length c')).put2 (.int .i64 (a' : Nat))).put3 (.bool dn')).put4 (.int .i64 (o' : Nat))
      clear x0 x1 x2 x3 x4 z0 z1 z2 z3 z4 f0 f1 f2 f3 f4 g0 g1 g2 g3 g4
      generalize World.setCell _ _ _ = w5 at *
      obtain ⟨x0, x1, x2, x3, x4, z0, z1, z2, z3, z4, f, f'⟩ := h5.cells
      have f0 := f 0
      have f1 := f 1
      have f2 := f 2
      have f3 := f 3
      have f4 := f 4
      have g0 := f' 0
      have g1 := f' 1
      have g2 := f' 2
      have g3 := f' 3
      have g4 := f' 4
      clear f f'
      have HB5 := Lib.hid h5
      clear h5
      go_wp2
      obtain ⟨⟨e0, e1, e2, e3, e4⟩, eb, eT, eW⟩ := (HB5.out).fin (.slice A S.length c) (.slice A' C.length c') (.int .i64 (a' : Nat)) (.bool dn') (.int .i64 (o' : Nat))
      refine bodyPost_ret (by simp [results, Tryz.results78, go_sem, e0, e1, e2, e3, e4]; try rfl) rfl ?_
      exact ⟨⟨A, c, A', c', rfl, ⟨⟨by rw [HES.out.1]; exact HA.out.1.later eb, by rw [HES.out.2]; exact HA.out.2.later eb⟩, .inr (.inl ⟨rfl, by rw [HES.out.1]⟩), .inr (.inl ⟨rfl, by rw [HES.out.2]⟩)⟩⟩, eb⟩

  · have er : d.flush = (d, 7) := by simp [Dk.flush, hd]
    clear HSt HDn
    rw [er]
    clear er
    obtain ⟨S, Hs, C, a, dn, o⟩ := d
    dsimp only [rc] at *
    subst hd
    go_enter Tryz.func78, Tryz.ntmps78
    go_upto_region 1 with fail
    obtain ⟨x0, x1, x2, x3, x4, z0, z1, z2, z3, z4, f, f'⟩ := hB.cells
    have f0 := f 0
    have f1 := f 1
    have f2 := f 2
    have f3 := f 3
    have f4 := f 4
    have g0 := f' 0
    have g1 := f' 1
    have g2 := f' 2
    have g3 := f' 3
    have g4 := f' 4
    clear f f'
    clear hB
    generalize World.alloc (World.alloc w _) _ = W at *
    go_wp2
    obtain ⟨⟨e0, e1, e2, e3, e4⟩, eb, eT, eW⟩ := (HB.out).fin (.slice A S.length c) (.slice A' C.length c') (.int .i64 (a : Nat)) (.bool true) (.int .i64 (o : Nat))
    refine bodyPost_ret (by simp [results, Tryz.results78, go_sem, e0, e1, e2, e3, e4]; try rfl) rfl ?_
    exact ⟨⟨A, c, A', c', rfl, ⟨HA.out.later eb, .inr (.inl ⟨rfl, rfl⟩), .inr (.inl ⟨rfl, rfl⟩)⟩⟩, eb⟩

set_option maxHeartbeats 6400000 in
theorem refCrash_any (A A' : Option Addr) (c c' : Nat) (d : Dk) (B : Option Addr) (cb : Nat) (K : List Int) (w : World) (hA : RAt w A A' d) (hk : d.Ok) (hK : Nums w B K) (hKn : (K.length : Int) ≤ 9223372036854775807) :
    Calls Tryz.prog 53 #[.agg (rc (.slice A d.S.length c) (.slice A' d.C.length c') d).toArray, .slice B K.length cb] w fun x w' =>
      (∃ A1 c1 A2 c2, x = .returned (.agg (rc (.slice A1 (d.crash K).S.length c1) (.slice A2 (d.crash K).C.length c2) (d.crash K)).toArray) ∧ RNew w w' A A' A1 A2 d (d.crash K)) ∧ Below w.heap.size w w' := by
  have hB := Bx.start w (.slice A d.S.length c) (.slice A' d.C.length c') (.int .i64 (d.armed : Nat)) (.bool d.down) (.int .i64 (d.ops : Nat))
  have HB := Lib.hid hB
  have HDn := Lib.hid (fun W (k : Below w.heap.size w W) => done_any A A' c c' d.S d.C false B cb K W (hA.1.later k) (hA.2.later k) (hK.later k) hKn hk.pos hk.most hk.few hk.ats _ rfl)
  rw [keepsB_keeps] at HDn
  have er : d.crash K = { d with S := keeps d.S d.C K d.C.length, C := [], H := keeps d.S d.C K d.C.length, armed := 0, down := true } := rfl
  rw [er]
  have hlen := keeps_length d.S d.C K d.C.length
  dsimp only
  rw [hlen]
  obtain ⟨R, hR⟩ : ∃ R, keeps d.S d.C K d.C.length = R := ⟨_, rfl⟩
  rw [hR] at HDn ⊢
  clear hA hk hK hKn er hlen hR
  obtain ⟨S, Hs, C, a, dn, o⟩ := d
  dsimp only [rc] at *
  go_enter Tryz.func53, Tryz.ntmps53
  go_upto_region 1 with fail
  obtain ⟨x0, x1, x2, x3, x4, z0, z1, z2, z3, z4, f, f'⟩ := hB.cells
  have f0 := f 0
  have f1 := f 1
  have f2 := f 2
  have f3 := f 3
  have f4 := f 4
  have g0 := f' 0
  have g1 := f' 1
  have g2 := f' 2
  have g3 := f' 3
  have g4 := f' 4
  clear f f'
  clear hB
  generalize World.alloc (World.alloc w _) _ = W at *
  go_wp2_with fail
  refine (HDn.out _ HB.out.bel).mono ?_
  rintro x w6 ⟨⟨g, c1, rfl, hg, hr⟩, b6⟩
  have HB6 := Lib.hid (HB.out.later b6)
  have hlt5 := HB.out.lt
  clear x0 x1 x2 x3 x4 z0 z1 z2 z3 z4 f0 f1 f2 f3 f4 g0 g1 g2 g3 g4
  obtain ⟨x0, x1, x2, x3, x4, z0, z1, z2, z3, z4, f, f'⟩ := HB6.out.cells
  have f0 := f 0
  have f1 := f 1
  have f2 := f 2
  have f3 := f 3
  have f4 := f 4
  have g0 := f' 0
  have g1 := f' 1
  have g2 := f' 2
  have g3 := f' 3
  have g4 := f' 4
  clear f f'
  go_upto_region 4 with fail
  have h7 := (((HB6.out.put0 (.slice (some ⟨g, 0, none⟩) S.length c1)).put1 (.slice none 0 0)).put3 (.bool true)).put2 (.int .i64 0)
  have hT7 : OwnT (w.heap.size + 2) ((((w6.setCell ⟨w.heap.size, 0, none⟩ (.slice (some ⟨g, 0, none⟩) S.length c1)).setCell ⟨w.heap.size, 1, none⟩ (.slice none 0 0)).setCell ⟨w.heap.size, 3, none⟩ (.bool true)).setCell ⟨w.heap.size, 2, none⟩ (.int .i64 0)) (some ⟨g, 0, none⟩) c1 R := ((((OwnT.store (.inr ⟨g, rfl, by omega, hr⟩) (by simp) _).store (by simp) _).store (by simp) _).store (by simp) _)
  clear x0 x1 x2 x3 x4 z0 z1 z2 z3 z4 f0 f1 f2 f3 f4 g0 g1 g2 g3 g4
  clear hg hr b6 hlt5
  generalize World.setCell (World.setCell _ _ _) _ _ = w7 at *
  obtain ⟨x0, x1, x2, x3, x4, z0, z1, z2, z3, z4, f, f'⟩ := h7.cells
  have f0 := f 0
  have f1 := f 1
  have f2 := f 2
  have f3 := f 3
  have f4 := f 4
  have g0 := f' 0
  have g1 := f' 1
  have g2 := f' 2
  have g3 := f' 3
  have g4 := f' 4
  clear f f'
  have HB7 := Lib.hid (And.intro h7 hT7)
  clear h7 hT7
  go_wp2
  obtain ⟨⟨e0, e1, e2, e3, e4⟩, eb, eT, eW⟩ := (HB7.out.1).fin (.slice (some ⟨g, 0, none⟩) S.length c1) (.slice none 0 0) (.int .i64 0) (.bool true) (.int .i64 (o : Nat))
  refine bodyPost_ret (by simp [results, Tryz.results53, go_sem, e0, e1, e2, e3, e4]; try rfl) rfl ?_
  exact ⟨⟨some ⟨g, 0, none⟩, c1, none, 0, rfl, ⟨⟨(eT _ _ _ HB7.out.2).txs, .inl rfl⟩, HB7.out.2.fresh, .inl rfl⟩⟩, eb⟩

theorem keeps_none (S : List ByteArray) (C : List (Nat × ByteArray)) (n : Nat) : keeps S C [] n = S := by
  induction n with
  | zero => rfl
  | succ n ih => rw [keeps, ih]; simp
set_option maxHeartbeats 6400000 in
theorem refBoot_any (A A' : Option Addr) (c c' : Nat) (d : Dk) (w : World) (hA : RAt w A A' d) (hk : d.Ok) :
    Calls Tryz.prog 52 #[.agg (rc (.slice A d.S.length c) (.slice A' d.C.length c') d).toArray] w fun x w' =>
      (∃ A1 c1 A2 c2, x = .returned (.agg (rc (.slice A1 (d.boot).S.length c1) (.slice A2 (d.boot).C.length c2) (d.boot)).toArray) ∧ RNew w w' A A' A1 A2 d (d.boot)) ∧ Below w.heap.size w w' := by
  have hB := Bx.start w (.slice A d.S.length c) (.slice A' d.C.length c') (.int .i64 (d.armed : Nat)) (.bool d.down) (.int .i64 (d.ops : Nat))
  have HB := Lib.hid hB
  have HDn := Lib.hid (fun W (k : Below w.heap.size w W) => done_any A A' c c' d.S d.C false none 0 [] W (hA.1.later k) (hA.2.later k) (.inl rfl) (by simp) hk.pos hk.most hk.few hk.ats _ rfl)
  rw [keepsB_keeps, keeps_none] at HDn
  have er : d.boot = { d with C := [], H := d.S, armed := 0, down := false } := rfl
  rw [er]
  dsimp only
  clear hA hk er
  obtain ⟨S, Hs, C, a, dn, o⟩ := d
  dsimp only [rc] at *
  go_enter Tryz.func52, Tryz.ntmps52
  go_upto_region 1 with fail
  obtain ⟨x0, x1, x2, x3, x4, z0, z1, z2, z3, z4, f, f'⟩ := hB.cells
  have f0 := f 0
  have f1 := f 1
  have f2 := f 2
  have f3 := f 3
  have f4 := f 4
  have g0 := f' 0
  have g1 := f' 1
  have g2 := f' 2
  have g3 := f' 3
  have g4 := f' 4
  clear f f'
  clear hB
  generalize World.alloc (World.alloc w _) _ = W at *
  go_wp2_with fail
  refine (HDn.out _ HB.out.bel).mono ?_
  rintro x w6 ⟨⟨g, c1, rfl, hg, hr⟩, b6⟩
  have HB6 := Lib.hid (HB.out.later b6)
  have hlt5 := HB.out.lt
  clear x0 x1 x2 x3 x4 z0 z1 z2 z3 z4 f0 f1 f2 f3 f4 g0 g1 g2 g3 g4
  obtain ⟨x0, x1, x2, x3, x4, z0, z1, z2, z3, z4, f, f'⟩ := HB6.out.cells
  have f0 := f 0
  have f1 := f 1
  have f2 := f 2
  have f3 := f 3
  have f4 := f 4
  have g0 := f' 0
  have g1 := f' 1
  have g2 := f' 2
  have g3 := f' 3
  have g4 := f' 4
  clear f f'
  go_upto_region 4 with fail
  have h7 := (((HB6.out.put0 (.slice (some ⟨g, 0, none⟩) S.length c1)).put1 (.slice none 0 0)).put3 (.bool false)).put2 (.int .i64 0)
  have hT7 : OwnT (w.heap.size + 2) ((((w6.setCell ⟨w.heap.size, 0, none⟩ (.slice (some ⟨g, 0, none⟩) S.length c1)).setCell ⟨w.heap.size, 1, none⟩ (.slice none 0 0)).setCell ⟨w.heap.size, 3, none⟩ (.bool false)).setCell ⟨w.heap.size, 2, none⟩ (.int .i64 0)) (some ⟨g, 0, none⟩) c1 S := ((((OwnT.store (.inr ⟨g, rfl, by omega, hr⟩) (by simp) _).store (by simp) _).store (by simp) _).store (by simp) _)
  clear x0 x1 x2 x3 x4 z0 z1 z2 z3 z4 f0 f1 f2 f3 f4 g0 g1 g2 g3 g4
  clear hg hr b6 hlt5
  generalize World.setCell (World.setCell _ _ _) _ _ = w7 at *
  obtain ⟨x0, x1, x2, x3, x4, z0, z1, z2, z3, z4, f, f'⟩ := h7.cells
  have f0 := f 0
  have f1 := f 1
  have f2 := f 2
  have f3 := f 3
  have f4 := f 4
  have g0 := f' 0
  have g1 := f' 1
  have g2 := f' 2
  have g3 := f' 3
  have g4 := f' 4
  clear f f'
  have HB7 := Lib.hid (And.intro h7 hT7)
  clear h7 hT7
  go_wp2
  obtain ⟨⟨e0, e1, e2, e3, e4⟩, eb, eT, eW⟩ := (HB7.out.1).fin (.slice (some ⟨g, 0, none⟩) S.length c1) (.slice none 0 0) (.int .i64 0) (.bool false) (.int .i64 (o : Nat))
  refine bodyPost_ret (by simp [results, Tryz.results52, go_sem, e0, e1, e2, e3, e4]; try rfl) rfl ?_
  exact ⟨⟨some ⟨g, 0, none⟩, c1, none, 0, rfl, ⟨⟨(eT _ _ _ HB7.out.2).txs, .inl rfl⟩, HB7.out.2.fresh, .inl rfl⟩⟩, eb⟩

end Go.Proofs.YtfbakelpplpomaaGreatDoor.Disk
/-
  The walk of pleachref07's Same, where the images are the same.
-/
namespace Go.Proofs.YtfbakelpplpomaaGreatDoor.Disk
open Go.RowKit Go.Proofs.YtfbakelpplpomaaGreatDoor.DiskRows
set_option linter.unusedVariables false
set_option linter.unusedSimpArgs false
set_option maxRecDepth 100000

theorem txs_at {w : World} {A : Option Addr} {l : List ByteArray} (h : Txs w A l) {k : Nat} (hk : k < l.length) : ∃ g off, A = some ⟨g, off, none⟩ ∧ w.cell? ⟨g, off + k, none⟩ = some (.string (l.getD k ByteArray.empty)) := by
  rcases h with rfl | ⟨g, off, rfl, _, hc⟩
  · simp at hk
  · exact ⟨g, off, rfl, hc k hk⟩
theorem wrs_at {w : World} {A : Option Addr} {C : List (Int × ByteArray)} (h : Wrs w A C) {k : Nat} (hk : k < C.length) : ∃ g off, A = some ⟨g, off, none⟩ ∧ w.cell? ⟨g, off + k * 2, none⟩ = some (.int .i64 (C.getD k (0, ByteArray.empty)).1) ∧ w.cell? ⟨g, off + k * 2 + 1, none⟩ = some (.string (C.getD k (0, ByteArray.empty)).2) := by
  rcases h with rfl | ⟨g, off, rfl, _, hc⟩
  · simp at hk
  · exact ⟨g, off, rfl, hc k hk⟩
set_option maxHeartbeats 3200000 in
theorem same_any (A A' B B' : Option Addr) (c c' k k' : Nat) (l : List ByteArray) (C : List (Int × ByteArray)) (w : World) (h1 : Txs w A l) (h2 : Wrs w A' C) (h3 : Txs w B l) (h4 : Wrs w B' C) (hl : (l.length : Int) ≤ 1000000) (hC : (C.length : Int) ≤ 1000000) :
    Calls Tryz.prog 23 #[.agg #[.slice A l.length c, .slice A' C.length c'], .agg #[.slice B l.length k, .slice B' C.length k']] w fun x w' => x = .returned (.bool true) ∧ Below w.heap.size w w' := by
  have kb := Joins.below_alloc1 w (.cells #[.slice A l.length c, .slice A' C.length c'] 51)
  have kb2 := kb.trans ((Joins.below_alloc1 _ (.cells #[.slice B l.length k, .slice B' C.length k'] 51)).mono kb.size)
  have HB := Lib.hid kb2
  have HR := Lib.hid (fun W (q : Below w.heap.size w W) => And.intro (h1.later q) (And.intro (h2.later q) (And.intro (h3.later q) (h4.later q))))
  clear h1 h2 h3 h4 kb kb2
  go_enter Tryz.func23, Tryz.ntmps23
  go_upto_region 1 with fail
  have e1 : (w.alloc (.cells #[.slice A l.length c, .slice A' C.length c'] 51)).heap.size = w.heap.size + 1 := by simp
  have t0 : ((w.alloc (.cells #[.slice A l.length c, .slice A' C.length c'] 51)).alloc (.cells #[.slice B l.length k, .slice B' C.length k'] 51)).heap[w.heap.size]? = some (.cells #[.slice A l.length c, .slice A' C.length c'] 51 (0, 0)) := by
    rw [Below.heap_alloc _ _ _ (by simp)]; exact heap_alloc_last _ _
  have t1 : ((w.alloc (.cells #[.slice A l.length c, .slice A' C.length c'] 51)).alloc (.cells #[.slice B l.length k, .slice B' C.length k'] 51)).heap[w.heap.size + 1]? = some (.cells #[.slice B l.length k, .slice B' C.length k'] 51 (0, 0)) := by
    rw [← e1]; exact heap_alloc_last _ _
  have HT := Lib.hid (And.intro t0 t1)
  clear t0 t1 e1
  generalize World.alloc (World.alloc w _) _ = W at *
  have hst : ∀ wr : World, Below w.heap.size w wr ∧ wr.heap = W.heap → (wr.cell? ⟨w.heap.size, 0, none⟩ = some (.slice A l.length c) ∧ wr.cell? ⟨w.heap.size, 1, none⟩ = some (.slice A' C.length c') ∧ wr.cell? ⟨w.heap.size + 1, 0, none⟩ = some (.slice B l.length k) ∧ wr.cell? ⟨w.heap.size + 1, 1, none⟩ = some (.slice B' C.length k')) := fun wr hw => by
    obtain ⟨a0, a1⟩ := HT.out
    rw [← hw.2] at a0 a1
    exact ⟨(cell_of_row wr _ 0 _ _ _ a0).trans rfl, (cell_of_row wr _ 1 _ _ _ a0).trans rfl, (cell_of_row wr _ 0 _ _ _ a1).trans rfl, (cell_of_row wr _ 1 _ _ _ a1).trans rfl⟩
  obtain ⟨x0, x1, y0, y1⟩ := hst W ⟨HB.out, rfl⟩
  have HST := Lib.hid hst
  clear hst
  go_upto_region 4 with fail
  clear x0 x1 y0 y1
  go_loopw [5] (fun i wr => ∃ k : Nat, k ≤ l.length ∧ i = .int .i64 k ∧ Below w.heap.size w wr ∧ wr.heap = W.heap) (fun i _ => l.length - (intOf i).toNat)
  case atStart => exact ⟨0, by omega, rfl, HB.out, rfl⟩
  case round =>
    obtain ⟨j, hj, rfl, hb, hh⟩ := hrel
    obtain ⟨x0, x1, y0, y1⟩ := HST.out wr ⟨hb, hh⟩
    obtain ⟨r1, r2, r3, r4⟩ := HR.out wr hb
    have HBH := Lib.hid (And.intro hb hh)
    have HRW := Lib.hid (And.intro r2 r4)
    clear hb hh r2 r4
    by_cases hlt : j < l.length
    · obtain ⟨g, off, rfl, q1⟩ := txs_at r1 hlt
      obtain ⟨g', off', rfl, q2⟩ := txs_at r3 hlt
      have hji : (j : Int) < (l.length : Int) := by omega
      obtain ⟨u, hu⟩ : ∃ u, l.getD j ByteArray.empty = u := ⟨_, rfl⟩
      rw [hu] at q1 q2
      clear hu r1 r3
      go_upto_region 6 with fail
      go_region
      go_wp2
      go_round
      case rel => exact ⟨j + 1, by omega, by go_num, HBH.out.1.drew, HBH.out.2⟩
      case measure => simp [intOf]; omega
    · obtain rfl : j = l.length := by omega
      go_upto_region 9 with fail
      clear x0 x1 y0 y1 r1 r3
      go_loopw [6] (fun i wr => ∃ k : Nat, k ≤ C.length ∧ i = .int .i64 k ∧ Below w.heap.size w wr ∧ wr.heap = W.heap) (fun i _ => C.length - (intOf i).toNat)
      case atStart => exact ⟨0, by omega, rfl, HBH.out.1, HBH.out.2⟩
      case round =>
        obtain ⟨j, hj, rfl, hb, hh⟩ := hrel
        obtain ⟨x0, x1, y0, y1⟩ := HST.out wr ⟨hb, hh⟩
        obtain ⟨r1, r2, r3, r4⟩ := HR.out wr hb
        have HBH2 := Lib.hid (And.intro hb hh)
        clear hb hh r1 r3
        by_cases hlt : j < C.length
        · obtain ⟨g, off, rfl, q1, q2⟩ := wrs_at r2 hlt
          obtain ⟨g', off', rfl, q3, q4⟩ := wrs_at r4 hlt
          have hji : (j : Int) < (C.length : Int) := by omega
          obtain ⟨u, hu⟩ : ∃ u, C.getD j (0, ByteArray.empty) = u := ⟨_, rfl⟩
          rw [hu] at q1 q2 q3 q4
          obtain ⟨p, t⟩ := u
          dsimp only at q1 q2 q3 q4
          clear hu r2 r4
          go_upto_region 11 with fail
          go_region
          go_wp2
          go_round
          case rel => exact ⟨j + 1, by omega, by go_num, HBH2.out.1.drew, HBH2.out.2⟩
          case measure => simp [intOf]; omega
        · obtain rfl : j = C.length := by omega
          go_wp2
          go_ret
          exact ⟨rfl, HBH2.out.1⟩
end Go.Proofs.YtfbakelpplpomaaGreatDoor.Disk
