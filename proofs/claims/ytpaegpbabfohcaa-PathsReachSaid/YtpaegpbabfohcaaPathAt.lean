/-
  Places: graph.node, graph.edge; the document's NodeAt, EdgeAt.
-/
import Derived.Test.YtpaegpbabfohcaaPathFind
import Derived.Deep.DeepCutAuto
import Derived.Deep.CutBlock
namespace Go.Proofs.Ytpaegpbabfohcaa.Paths
open Go.RowKit Go.Proofs.Ytpaegpbabfohcaa.WalkBytes
set_option linter.unusedVariables false
set_option linter.unusedSimpArgs false
set_option maxRecDepth 100000

/-- the first place of a text; -1: there is none -/
def AtI (f : Nat → ByteArray) (n : Nat) (s : ByteArray) (r : Int) : Prop := (r = -1 ∧ ∀ i, i < n → f i ≠ s) ∨ ∃ i : Nat, i < n ∧ r = i ∧ f i = s ∧ ∀ j, j < i → f j ≠ s

theorem node_any (g : Gr) (gn ge : Value) (hgn : gn = g.n) (hge : ge = g.e) (s : ByteArray) (w : World) (h : GrAt w.heap.size w g) (hl : g.N.length ≤ 1000) (hr : Rise (fun i => (nd g.N i).id) g.N.length) :
    Calls Try.prog 81 #[.agg #[gn, ge], .string s] w fun e w' => (∃ p b, e = .returned (.tuple #[.int .i64 (p : Nat), .bool b]) ∧ Found (fun i => (nd g.N i).id) g.N.length s p b) ∧ Below w.heap.size w w' := by
  obtain ⟨A, N, a, B, M, b⟩ := g
  subst hgn hge
  obtain ⟨n, hn⟩ : ∃ n, n = N.length := ⟨_, rfl⟩
  obtain ⟨m, hm⟩ : ∃ m, m = M.length := ⟨_, rfl⟩
  obtain ⟨W, hW⟩ : ∃ W, W = w.alloc (.cells #[.slice A n a, .slice B m b] 45) := ⟨_, rfl⟩
  have hB : Below w.heap.size w W := by rw [hW]; exact Joins.below_alloc1 w _
  have z0 : W.cell? ⟨w.heap.size, 0, none⟩ = some (.slice A n a) := by rw [hW, cell_of_row _ _ 0 _ _ _ (heap_new w _)]; rfl
  have z1 : W.cell? ⟨w.heap.size, 1, none⟩ = some (.slice B m b) := by rw [hW, cell_of_row _ _ 1 _ _ _ (heap_new w _)]; rfl
  have HG : Hid (GrAt W.heap.size W ⟨A, N, a, B, M, b⟩) := (h.below hB).mono hB.size
  have HB := Lib.hid hB
  have HL := Lib.hid hl
  have HR := Lib.hid hr
  have e1 : (⟨A, N, a, B, M, b⟩ : Gr).n = .slice A n a := by rw [hn]; rfl
  have e2 : (⟨A, N, a, B, M, b⟩ : Gr).e = .slice B m b := by rw [hm]; rfl
  rw [e1, e2]
  have HN := Lib.hid hn
  have HM := Lib.hid hm
  clear h hB hl hr e1 e2 hn hm
  go_enter Try.func81, Try.ntmps81
  go_upto_region 1 with (fail)
  rw [← hW]
  clear hW
  go_wp2_with fail
  rw [HN.out]
  refine (searchNode_any A a N s W HG.out.n HL.out HR.out).mono ?_
  rintro e w5 ⟨⟨p, b, rfl, hf⟩, hB5⟩
  have HF := Lib.hid hf
  have HB5 : Hid (Below w.heap.size w w5) := HB.out.trans (hB5.mono HB.out.size)
  clear hf hB5
  go_wp2_with fail
  go_ret2
  exact ⟨⟨p, b, rfl, HF.out⟩, HB5.out⟩

theorem edge_any (g : Gr) (gn ge : Value) (hgn : gn = g.n) (hge : ge = g.e) (s : ByteArray) (w : World) (h : GrAt w.heap.size w g) (hl : g.E.length ≤ 1000) (hr : Rise (fun i => (ed g.E i).id) g.E.length) :
    Calls Try.prog 88 #[.agg #[gn, ge], .string s] w fun e w' => (∃ p b, e = .returned (.tuple #[.int .i64 (p : Nat), .bool b]) ∧ Found (fun i => (ed g.E i).id) g.E.length s p b) ∧ Below w.heap.size w w' := by
  obtain ⟨A, N, a, B, M, b⟩ := g
  subst hgn hge
  obtain ⟨n, hn⟩ : ∃ n, n = N.length := ⟨_, rfl⟩
  obtain ⟨m, hm⟩ : ∃ m, m = M.length := ⟨_, rfl⟩
  obtain ⟨W, hW⟩ : ∃ W, W = w.alloc (.cells #[.slice A n a, .slice B m b] 45) := ⟨_, rfl⟩
  have hB : Below w.heap.size w W := by rw [hW]; exact Joins.below_alloc1 w _
  have z0 : W.cell? ⟨w.heap.size, 0, none⟩ = some (.slice A n a) := by rw [hW, cell_of_row _ _ 0 _ _ _ (heap_new w _)]; rfl
  have z1 : W.cell? ⟨w.heap.size, 1, none⟩ = some (.slice B m b) := by rw [hW, cell_of_row _ _ 1 _ _ _ (heap_new w _)]; rfl
  have HG : Hid (GrAt W.heap.size W ⟨A, N, a, B, M, b⟩) := (h.below hB).mono hB.size
  have HB := Lib.hid hB
  have HL := Lib.hid hl
  have HR := Lib.hid hr
  have e1 : (⟨A, N, a, B, M, b⟩ : Gr).n = .slice A n a := by rw [hn]; rfl
  have e2 : (⟨A, N, a, B, M, b⟩ : Gr).e = .slice B m b := by rw [hm]; rfl
  rw [e1, e2]
  have HN := Lib.hid hn
  have HM := Lib.hid hm
  clear h hB hl hr e1 e2 hn hm
  go_enter Try.func88, Try.ntmps88
  go_upto_region 1 with (fail)
  rw [← hW]
  clear hW
  go_wp2_with fail
  rw [HM.out]
  refine (searchEdge_any B b M s W HG.out.e HL.out HR.out).mono ?_
  rintro e w5 ⟨⟨p, b, rfl, hf⟩, hB5⟩
  have HF := Lib.hid hf
  have HB5 : Hid (Below w.heap.size w w5) := HB.out.trans (hB5.mono HB.out.size)
  clear hf hB5
  go_wp2_with fail
  go_ret2
  exact ⟨⟨p, b, rfl, HF.out⟩, HB5.out⟩

set_option maxHeartbeats 1600000 in
theorem nodeAt_any (g : Gr) (gn ge : Value) (hgn : gn = g.n) (hge : ge = g.e) (s : ByteArray) (w : World) (h : GrAt w.heap.size w g) (hl : g.N.length ≤ 1000) :
    Calls Try.prog 38 #[.agg #[gn, ge], .string s] w fun e w' => (∃ r, e = .returned (.int .i64 r) ∧ AtI (fun i => (nd g.N i).id) g.N.length s r) ∧ Below w.heap.size w w' := by
  obtain ⟨A, N, a, B, M, b⟩ := g
  subst hgn hge
  obtain ⟨n, hn⟩ : ∃ n, n = N.length := ⟨_, rfl⟩
  obtain ⟨m, hm⟩ : ∃ m, m = M.length := ⟨_, rfl⟩
  obtain ⟨W, hW⟩ : ∃ W, W = w.alloc (.cells #[.slice A n a, .slice B m b] 45) := ⟨_, rfl⟩
  have hB : Below w.heap.size w W := by rw [hW]; exact Joins.below_alloc1 w _
  have z0 : W.cell? ⟨w.heap.size, 0, none⟩ = some (.slice A n a) := by rw [hW, cell_of_row _ _ 0 _ _ _ (heap_new w _)]; rfl
  have z1 : W.cell? ⟨w.heap.size, 1, none⟩ = some (.slice B m b) := by rw [hW, cell_of_row _ _ 1 _ _ _ (heap_new w _)]; rfl
  have HG : Hid (GrAt W.heap.size W ⟨A, N, a, B, M, b⟩) := (h.below hB).mono hB.size
  have HB := Lib.hid hB
  have hnl : n ≤ 1000 := by rw [hn]; exact hl
  have e1 : (⟨A, N, a, B, M, b⟩ : Gr).n = .slice A n a := by rw [hn]; rfl
  have e2 : (⟨A, N, a, B, M, b⟩ : Gr).e = .slice B m b := by rw [hm]; rfl
  rw [e1, e2]
  have HN := Lib.hid hn
  have hrow := HG.out.n
  clear h hB hl e1 e2 hn hm
  go_enter Try.func38, Try.ntmps38
  go_upto_region 1 with (fail)
  rw [← hW]
  clear hW
  rcases hrow with hnil | ⟨g, off, hA, hg, hc⟩
  · have hm0 : n = 0 := by rw [HN.out]; exact (congrArg List.length hnil).trans rfl
    clear hnil
    subst hm0
    go_wp2_with fail
    go_loop [5] (fun v => v = .int .i64 0) (fun v => 0)
    case atStart => rfl
    case round =>
      subst hrel
      go_wp2_with fail
      go_ret
      exact ⟨⟨-1, rfl, .inl ⟨rfl, fun i hi => absurd hi (by show ¬ i < List.length _; rw [← HN.out]; omega)⟩⟩, HB.out⟩
  · have hA : A = some ⟨g, off, none⟩ := hA
    subst hA
    go_wp2_with fail
    go_loop [5] (fun v => ∃ i : Nat, v = .int .i64 i ∧ i ≤ n ∧ (∀ j, j < i → (nd N j).id ≠ s)) (fun v => n - (intOf v).toNat)
    case atStart => exact ⟨0, rfl, Nat.zero_le _, fun j hj => absurd hj (by omega)⟩
    case round =>
      obtain ⟨i, rfl, hi, hno⟩ := hrel
      have HNO := Lib.hid hno
      clear hno
      by_cases hin : i < n
      · have c1 : W.cell? ⟨g, off + i * 3, none⟩ = some (.string (nd N i).id) := (hc i (by rw [HN.out] at hin; exact hin)).1
        obtain ⟨d, hd⟩ : ∃ d, d = (nd N i).id := ⟨_, rfl⟩
        rw [← hd] at c1
        have HD := Lib.hid hd
        clear hd hc
        by_cases e : d = s
        · have he : (d.toList == s.toList) = true := by rw [e]; simp
          have HE := Lib.hid e
          clear e
          go_wp2_with fail
          go_ret
          exact ⟨⟨i, rfl, .inr ⟨i, by show i < List.length _; rw [← HN.out]; exact hin, rfl, by show (nd N i).id = s; rw [← HD.out]; exact HE.out, HNO.out⟩⟩, HB.out⟩
        · have he : (d.toList == s.toList) = false := beq_eq_false_iff_ne.2 (fun q => e (toList_inj q))
          have HE := Lib.hid e
          clear e
          go_wp2_with fail
          go_round
          case rel => exact ⟨i + 1, by go_num, by omega, fun j hj => by
            rcases Nat.lt_or_ge j i with q | q
            · exact HNO.out j q
            · rw [show j = i by omega, ← HD.out]; exact HE.out⟩
          case measure => simp [intOf]; omega
      · have hie : i = n := by omega
        have HIE := Lib.hid hie
        clear hie hc
        go_wp2_with fail
        go_ret
        exact ⟨⟨-1, rfl, .inl ⟨rfl, fun j hj => HNO.out j (by rw [HIE.out, HN.out]; exact hj)⟩⟩, HB.out⟩

set_option maxHeartbeats 1600000 in
theorem edgeAt_any (g : Gr) (gn ge : Value) (hgn : gn = g.n) (hge : ge = g.e) (s : ByteArray) (w : World) (h : GrAt w.heap.size w g) (hl : g.E.length ≤ 1000) :
    Calls Try.prog 44 #[.agg #[gn, ge], .string s] w fun e w' => (∃ r, e = .returned (.int .i64 r) ∧ AtI (fun i => (ed g.E i).id) g.E.length s r) ∧ Below w.heap.size w w' := by
  obtain ⟨A, N, a, B, M, b⟩ := g
  subst hgn hge
  obtain ⟨n, hn⟩ : ∃ n, n = N.length := ⟨_, rfl⟩
  obtain ⟨m, hm⟩ : ∃ m, m = M.length := ⟨_, rfl⟩
  obtain ⟨W, hW⟩ : ∃ W, W = w.alloc (.cells #[.slice A n a, .slice B m b] 45) := ⟨_, rfl⟩
  have hB : Below w.heap.size w W := by rw [hW]; exact Joins.below_alloc1 w _
  have z0 : W.cell? ⟨w.heap.size, 0, none⟩ = some (.slice A n a) := by rw [hW, cell_of_row _ _ 0 _ _ _ (heap_new w _)]; rfl
  have z1 : W.cell? ⟨w.heap.size, 1, none⟩ = some (.slice B m b) := by rw [hW, cell_of_row _ _ 1 _ _ _ (heap_new w _)]; rfl
  have HG : Hid (GrAt W.heap.size W ⟨A, N, a, B, M, b⟩) := (h.below hB).mono hB.size
  have HB := Lib.hid hB
  have hnl : m ≤ 1000 := by rw [hm]; exact hl
  have e1 : (⟨A, N, a, B, M, b⟩ : Gr).n = .slice A n a := by rw [hn]; rfl
  have e2 : (⟨A, N, a, B, M, b⟩ : Gr).e = .slice B m b := by rw [hm]; rfl
  rw [e1, e2]
  have HN := Lib.hid hm
  have hrow := HG.out.e
  clear h hB hl e1 e2 hn hm
  go_enter Try.func44, Try.ntmps44
  go_upto_region 1 with (fail)
  rw [← hW]
  clear hW
  rcases hrow with hnil | ⟨g, off, hA, hg, hc⟩
  · have hm0 : m = 0 := by rw [HN.out]; exact (congrArg List.length hnil).trans rfl
    clear hnil
    subst hm0
    go_wp2_with fail
    go_loop [5] (fun v => v = .int .i64 0) (fun v => 0)
    case atStart => rfl
    case round =>
      subst hrel
      go_wp2_with fail
      go_ret
      exact ⟨⟨-1, rfl, .inl ⟨rfl, fun i hi => absurd hi (by show ¬ i < List.length _; rw [← HN.out]; omega)⟩⟩, HB.out⟩
  · have hA : B = some ⟨g, off, none⟩ := hA
    subst hA
    go_wp2_with fail
    go_loop [5] (fun v => ∃ i : Nat, v = .int .i64 i ∧ i ≤ m ∧ (∀ j, j < i → (ed M j).id ≠ s)) (fun v => m - (intOf v).toNat)
    case atStart => exact ⟨0, rfl, Nat.zero_le _, fun j hj => absurd hj (by omega)⟩
    case round =>
      obtain ⟨i, rfl, hi, hno⟩ := hrel
      have HNO := Lib.hid hno
      clear hno
      by_cases hin : i < m
      · have c1 : W.cell? ⟨g, off + i * 5, none⟩ = some (.string (ed M i).id) := (hc i (by rw [HN.out] at hin; exact hin)).1
        obtain ⟨d, hd⟩ : ∃ d, d = (ed M i).id := ⟨_, rfl⟩
        rw [← hd] at c1
        have HD := Lib.hid hd
        clear hd hc
        by_cases e : d = s
        · have he : (d.toList == s.toList) = true := by rw [e]; simp
          have HE := Lib.hid e
          clear e
          go_wp2_with fail
          go_ret
          exact ⟨⟨i, rfl, .inr ⟨i, by show i < List.length _; rw [← HN.out]; exact hin, rfl, by show (ed M i).id = s; rw [← HD.out]; exact HE.out, HNO.out⟩⟩, HB.out⟩
        · have he : (d.toList == s.toList) = false := beq_eq_false_iff_ne.2 (fun q => e (toList_inj q))
          have HE := Lib.hid e
          clear e
          go_wp2_with fail
          go_round
          case rel => exact ⟨i + 1, by go_num, by omega, fun j hj => by
            rcases Nat.lt_or_ge j i with q | q
            · exact HNO.out j q
            · rw [show j = i by omega, ← HD.out]; exact HE.out⟩
          case measure => simp [intOf]; omega
      · have hie : i = m := by omega
        have HIE := Lib.hid hie
        clear hie hc
        go_wp2_with fail
        go_ret
        exact ⟨⟨-1, rfl, .inl ⟨rfl, fun j hj => HNO.out j (by rw [HIE.out, HN.out]; exact hj)⟩⟩, HB.out⟩
end Go.Proofs.Ytpaegpbabfohcaa.Paths
