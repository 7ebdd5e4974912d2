/-
  dag: begin.
-/
import Derived.Test.YtpaegpbabfohcaaWalkDagD
import Derived.StillTailTactics
namespace Go.Proofs.Ytpaegpbabfohcaa.WalkDag
open Go.RowKit Go.Proofs.Ytpaegpbabfohcaa.HeapPure Go.Proofs.Ytpaegpbabfohcaa.HeapA Go.Proofs.Ytpaegpbabfohcaa.MapAt Go.Proofs.Ytpaegpbabfohcaa.DagPure Go.Proofs.Ytpaegpbabfohcaa.WalkInts
set_option linter.unusedVariables false
set_option linter.unusedSimpArgs false
set_option maxRecDepth 100000

/-- knots from the last one on -/
def rev (l : List Kn) : List K := (l.map (·.k)).reverse
theorem take_kn {l : List Kn} {i : Nat} (h : i < l.length) : l.take (i + 1) = l.take i ++ [kn l i] := by
  unfold kn
  rw [List.take_succ_eq_append_getElem h, List.getD_eq_getElem?_getD, List.getElem?_eq_getElem h]; rfl
theorem rev_take {l : List Kn} {i : Nat} (h : i < l.length) : rev (l.take (i + 1)) = (kn l i).k :: rev (l.take i) := by
  unfold rev
  rw [take_kn h]; simp
theorem mem_rev {l : List Kn} {k : K} : k ∈ rev l ↔ ∃ y ∈ l, y.k = k := by
  unfold rev
  simp
theorem ok_take {l : List Kn} (h : Ok l) : ∀ i, i ≤ l.length → Falls (rev (l.take i)) ∧ Closed (rev (l.take i)) ∧ ∀ y ∈ l.take i, 0 < i → y.k.n ≤ (kn l (i - 1)).k.n := by
  intro i
  induction i with
  | zero => intro _; exact ⟨trivial, trivial, fun y hy => by simp at hy⟩
  | succ i ih =>
    intro hi
    obtain ⟨h1, h2, h3⟩ := ih (by omega)
    obtain ⟨o1, o2, o3, o4, o5⟩ := h i (by omega)
    have hl : ∀ y ∈ l.take i, y.k.n < (kn l i).k.n := fun y hy => by
      have i0 : 0 < i := by
        rcases Nat.eq_zero_or_pos i with q | q
        · subst q; simp at hy
        · exact q
      have := h3 y hy i0
      have := o2 i0
      omega
    rw [rev_take (by omega)]
    refine ⟨⟨fun y hy => ?_, h1⟩, ⟨fun p hp => ?_, h2⟩, fun y hy _ => ?_⟩
    · obtain ⟨z, hz, rfl⟩ := mem_rev.1 hy
      exact hl z hz
    · obtain ⟨z, hz, rfl⟩ := o4 p hp
      exact ⟨z.k, mem_rev.2 ⟨z, hz, rfl⟩, rfl⟩
    · rw [take_kn (by omega)] at hy
      rcases List.mem_append.1 hy with q | q
      · have := hl y q
        simp
        omega
      · simp at q; subst q; simp
theorem ok_falls {l : List Kn} (h : Ok l) : Falls (rev l) ∧ Closed (rev l) := by
  have := ok_take h l.length (Nat.le_refl _)
  rw [List.take_length] at this
  exact ⟨this.1, this.2.1⟩
theorem kn_mem {l : List Kn} {i : Nat} (h : i < l.length) : kn l i ∈ l := by
  unfold kn
  rw [List.getD_eq_getElem?_getD, List.getElem?_eq_getElem h]; exact List.getElem_mem h
theorem mem_kn {l : List Kn} {y : Kn} (h : y ∈ l) : ∃ i, i < l.length ∧ kn l i = y := by
  obtain ⟨i, hi, rfl⟩ := List.getElem_of_mem h
  exact ⟨i, hi, by unfold kn; rw [List.getD_eq_getElem?_getD, List.getElem?_eq_getElem hi]; rfl⟩
theorem ok_lt {l : List Kn} (h : Ok l) {i j : Nat} (hij : i < j) (hj : j < l.length) : (kn l i).k.n < (kn l j).k.n := by
  have h1 := (ok_take h (i + 1 + (j - i - 1)) (by omega)).2.2 (kn l i) ?_ (by omega)
  · have h2 := (h j hj).2.1 (by omega)
    have : i + 1 + (j - i - 1) - 1 = j - 1 := by omega
    rw [this] at h1
    omega
  · obtain ⟨d, hd⟩ : ∃ d, i + 1 + (j - i - 1) = i + 1 + d := ⟨_, rfl⟩
    rw [hd]
    have : l.take (i + 1) = (l.take (i + 1 + d)).take (i + 1) := by rw [List.take_take]; congr 1; omega
    have hm : kn l i ∈ l.take (i + 1) := by rw [take_kn (by omega)]; simp
    rw [this] at hm
    exact List.mem_of_mem_take hm

/-- what the map of a walk has of the first knots -/
def Has2 (l : List Kn) (i : Nat) (kf : Int → Option Value) : Prop := ∀ j, j < i → kf (kn l j).k.n = some (.slice (kn l j).A (kn l j).k.ps.length (kn l j).c)

set_option maxHeartbeats 3200000 in
theorem begin_any (A : Option Addr) (c : Nat) (l : List Kn) (w : World) (h : Knots w.heap.size w A l) (hl : l.length ≤ 100) (hok : Ok l) :
    Calls Try.prog 52 #[.slice A l.length c] w fun e w' => (∃ kf, e = .returned (.pointer (some ⟨w.heap.size + 2, 0, none⟩)) ∧ Has2 l l.length kf ∧ WAt (fun k => k < w.heap.size) (w.heap.size + 2) w.heap.size (w.heap.size + 1) kf z0 [] w') ∧ Below w.heap.size w w' := by
  obtain ⟨m, hm⟩ : ∃ m, m = l.length := ⟨_, rfl⟩
  rw [← hm]
  have hmm : m ≤ 100 := by omega
  have HM := Lib.hid hm
  clear hm hl
  obtain ⟨T, hT⟩ : ∃ T : Array Value, T = #[.map (some w.heap.size), .map (some (w.heap.size + 1)), .slice none 0 0] := ⟨_, rfl⟩
  have hmk1 : ∀ (W : World), (Instr.makeMap 86 none).run Try.prog W = .ok (.map (some W.heap.size)) (W.alloc (.map #[] 0)) := fun W => rfl
  have hmk2 : ∀ (W : World), (Instr.makeMap 87 none).run Try.prog W = .ok (.map (some W.heap.size)) (W.alloc (.map #[] 0)) := fun W => rfl
  -- the three blocks
  obtain ⟨W0, hW0⟩ : ∃ W0, W0 = ((w.alloc (.map #[] 0)).alloc (.map #[] 0)).alloc (.cells T 90) := ⟨_, rfl⟩
  have hs1 : (w.alloc (.map #[] 0)).heap.size = w.heap.size + 1 := by simp
  have hs2 : ((w.alloc (.map #[] 0)).alloc (.map #[] 0)).heap.size = w.heap.size + 2 := by simp
  have m1 := made KI w
  have m2 := made KI (w.alloc (.map #[] 0))
  rw [hs1] at m2
  have z1 : MapAt KI W0 w.heap.size (fun _ => none) := by rw [hW0]; exact (m1.below (Joins.below_alloc1 _ _) (by simp)).below (Joins.below_alloc1 _ _) (by simp; omega)
  have z2 : MapAt KI W0 (w.heap.size + 1) (fun _ => none) := by rw [hW0]; exact m2.below (Joins.below_alloc1 _ _) (by simp)
  have z3 : W0.heap[w.heap.size + 2]? = some (.cells T 90 (0, 0)) := by rw [hW0, ← hs2]; exact heap_alloc_last _ _
  have z4 : Below w.heap.size w W0 := by rw [hW0]; exact ((Joins.below_alloc1 _ _).trans ((Joins.below_alloc1 _ _).mono (by simp))).trans ((Joins.below_alloc1 _ _).mono (by simp; omega))
  have fin : ∀ (kf : Int → Option Value) (wr : World), wr.heap[w.heap.size + 2]? = some (.cells T 90 (0, 0)) → MapAt KI wr w.heap.size kf → MapAt KI wr (w.heap.size + 1) (fun _ => none) → Has2 l m kf → Below w.heap.size w wr → (∃ kf, Ending.returned (.pointer (some ⟨w.heap.size + 2, 0, none⟩)) = .returned (.pointer (some ⟨w.heap.size + 2, 0, none⟩)) ∧ Has2 l m kf ∧ WAt (fun k => k < w.heap.size) (w.heap.size + 2) w.heap.size (w.heap.size + 1) kf z0 [] wr) ∧ Below w.heap.size w wr := by
    intro kf wr e1 e2 e3 e4 e5
    refine ⟨⟨kf, rfl, e4, ⟨by rw [cell_of_row _ _ 0 _ _ _ e1, hT]; rfl, by rw [cell_of_row _ _ 1 _ _ _ e1, hT]; rfl, e2, ⟨_, e3, fun x => rfl⟩, ⟨⟨.slice none 0 0, by rw [cell_of_row _ _ 2 _ _ _ e1, hT]; rfl, World.ownsRow_nil _ _ _ _, fun g hg => by cases hg⟩, frozen_of_row _ _ 2 _ _ e1, by omega, fun k hk => ?_, (Array.getElem?_eq_some_iff.1 e1).1⟩, by omega, by omega, by omega, fun c c0 cn => by simp at cn⟩⟩, e5⟩
    have h1 := e2.lt
    have h2 := e3.lt
    omega
  have FIN := Lib.hid fin
  clear fin m1 m2
  go_enter Try.func52, Try.ntmps52
  go_wp2_with fail
  rw [← hT, ← hW0]
  have c0 : ∀ wr : World, wr.heap[w.heap.size + 2]? = some (.cells T 90 (0, 0)) → wr.cell? ⟨w.heap.size + 2, 0, none⟩ = some (.map (some w.heap.size)) := fun wr e => by rw [cell_of_row _ _ 0 _ _ _ e, hT]; rfl
  have C0 := Lib.hid c0
  clear c0 hW0 hs1 hs2 hmk1 hmk2
  have HT := Lib.hid hT
  clear hT
  rcases h with hnil | ⟨g, off, rfl, hg, hc⟩
  · have HNil := Lib.hid hnil
    have hm0 : m = 0 := by rw [HM.out, hnil]; rfl
    clear hnil
    subst hm0
    go_loopw [12] (fun v wr => v = .int .i64 0 ∧ W0 = wr) (fun v _ => 0)
    case atStart => exact ⟨rfl, rfl⟩
    case round =>
      obtain ⟨rfl, rfl⟩ := hrel
      go_wp2_with fail
      go_ret
      obtain ⟨⟨kf, -, r1, r2⟩, r3⟩ := FIN.out _ W0 z3 z1 z2 (fun j hj => absurd hj (by omega)) z4
      exact ⟨⟨kf, rfl, r1, r2⟩, r3⟩
  · go_loopw [12] (fun v wr => ∃ (i : Nat) (kf : Int → Option Value), v = .int .i64 i ∧ i ≤ m ∧ wr.heap[w.heap.size + 2]? = some (.cells T 90 (0, 0)) ∧ MapAt KI wr w.heap.size kf ∧ MapAt KI wr (w.heap.size + 1) (fun _ => none) ∧ Has2 l i kf ∧ Below w.heap.size w wr) (fun v _ => m - (intOf v).toNat)
    case atStart => exact ⟨0, _, rfl, Nat.zero_le _, z3, z1, z2, fun j hj => absurd hj (by omega), z4⟩
    case round =>
      clear z1 z2 z3 z4
      obtain ⟨i, kf, rfl, hi, hb3, hm1, hm2, hhas, hB⟩ := hrel
      have HB3 := Lib.hid hb3
      have HH := Lib.hid hhas
      clear hhas
      by_cases hil : i < m
      · obtain ⟨h1, h2, h3, h4⟩ := hc i (by rw [← HM.out]; exact hil)
        rw [← hB.cell (p := ⟨g, off + i * 2, none⟩) hg] at h1
        rw [← hB.cell (p := ⟨g, off + i * 2 + 1, none⟩) hg] at h2
        clear hc h3 h4
        have hlt3 := (Array.getElem?_eq_some_iff.1 hb3).1
        obtain ⟨x, hx⟩ : ∃ x, x = (kn l i).k.n := ⟨_, rfl⟩
        obtain ⟨A2, hA2⟩ : ∃ A2, A2 = (kn l i).A := ⟨_, rfl⟩
        obtain ⟨p2, hp2⟩ : ∃ p2, p2 = (kn l i).k.ps.length := ⟨_, rfl⟩
        obtain ⟨c2, hc2⟩ : ∃ c2, c2 = (kn l i).c := ⟨_, rfl⟩
        rw [← hx] at h1
        rw [← hA2, ← hp2, ← hc2] at h2
        have HX := Lib.hid hx
        have HV : Hid (Value.slice A2 p2 c2 = .slice (kn l i).A (kn l i).k.ps.length (kn l i).c) := by rw [hA2, hp2, hc2]; rfl
        clear hx hA2 hp2 hc2
        obtain ⟨W2, hW2⟩ : ∃ W2, W2 = wr.alloc (.cells #[.int .i64 x, .slice A2 p2 c2] 77) := ⟨_, rfl⟩
        have bk : ∀ k, k < wr.heap.size → W2.heap[k]? = wr.heap[k]? := fun k hk => by rw [hW2]; exact Below.heap_alloc wr _ k hk
        have k0 : W2.cell? ⟨wr.heap.size, 0, none⟩ = some (.int .i64 x) := by rw [hW2, cell_of_row _ _ 0 _ _ _ (heap_new wr _)]; rfl
        have k1 : W2.cell? ⟨wr.heap.size, 1, none⟩ = some (.slice A2 p2 c2) := by rw [hW2, cell_of_row _ _ 1 _ _ _ (heap_new wr _)]; rfl
        have k2 := C0.out W2 ((bk _ hlt3).trans hb3)
        have HB2 : Hid (Below w.heap.size w W2) := by rw [hW2]; exact hB.trans ((Joins.below_alloc1 wr _).mono hB.size)
        have M1 : MapAt KI W2.drew w.heap.size kf := (hm1.kept (bk _ (by omega))).drew
        have M2 : MapAt KI W2.drew (w.heap.size + 1) (fun _ => none) := (hm2.kept (bk _ (by omega))).drew
        have B3 : Hid (W2.drew.heap[w.heap.size + 2]? = some (.cells T 90 (0, 0))) := (bk _ hlt3).trans hb3
        obtain ⟨w3, s1, s2, s3, s4⟩ := M1.set Try.underlying86 x (.slice A2 p2 c2)
        have s1 : (Instr.mapUpdate 86 (.map (some w.heap.size)) (.int .i64 x) (.slice A2 p2 c2)).run Try.prog W2.drew = .ok () w3 := s1
        have S3 := Lib.hid s3
        have hsz : w.heap.size + 2 < W2.drew.heap.size := (Array.getElem?_eq_some_iff.1 B3.out).1
        have hne : ∀ k, k ≠ w.heap.size → k < W2.drew.heap.size → w3.heap[k]? = W2.drew.heap[k]? := fun k hk hl => S3.out.block k hl (by simpa using hk)
        have g1 : Hid (w3.heap[w.heap.size + 2]? = some (.cells T 90 (0, 0))) := (hne _ (by omega) hsz).trans B3.out
        have g2 : Hid (MapAt KI w3 (w.heap.size + 1) (fun _ => none)) := M2.kept (hne _ (by omega) (by omega))
        have g3 : Hid (Below w.heap.size w w3) := (below_drewN HB2.out 1).grown S3.out HB2.out.size (fun k hk => by simp at hk; omega)
        clear hB hm1 hm2 bk hb3 M1 M2 s3 hne
        go_wp2_with fail
        rw [← hW2]
        clear hW2
        go_still_tail 8, (by kernel_rfl)
        change wpList _ _ _ _ _ W2.drew
        go_wp2_with fail
        go_roundw
        case rel => exact ⟨i + 1, _, by go_num, by omega, g1.out, s2, g2.out, fun j hj => by
            show (if _ = x then _ else _) = _
            by_cases e : (kn l j).k.n = x
            · rw [if_pos e]
              have : j = i := by
                rcases Nat.lt_or_ge j i with q | q
                · have := ok_lt hok q (by rw [← HM.out]; exact hil)
                  rw [e, HX.out] at this
                  omega
                · omega
              subst this
              rw [HV.out]
            · rw [if_neg e]
              have : j ≠ i := fun q => e (by rw [q]; exact HX.out.symm)
              exact HH.out j (by omega), g3.out⟩
        case measure => simp [intOf]; omega
      · have hie : i = m := by omega
        have HIE := Lib.hid hie
        clear hie hc
        go_wp2_with fail
        go_ret
        obtain ⟨⟨kf, -, r1, r2⟩, r3⟩ := FIN.out kf wr HB3.out hm1 hm2 (by rw [← HIE.out]; exact HH.out) hB
        exact ⟨⟨kf, rfl, r1, r2⟩, r3⟩
end Go.Proofs.Ytpaegpbabfohcaa.WalkDag
