/-
  The walks of what Append is made of: the closures, steps.
-/
import Derived.Test.YtfbakelpplpomaaGreatDoorJournD
import Derived.Deep.RegionHeld3
namespace Go.Proofs.YtfbakelpplpomaaGreatDoor.Disk
open Go.RowKit Go.Proofs.YtfbakelpplpomaaGreatDoor.DiskRows Go.Proofs.YtfbakelpplpomaaGreatDoor.WalkCrc
set_option linter.unusedVariables false
set_option linter.unusedSimpArgs false
set_option maxRecDepth 100000

theorem mkFn (fn : Fn) (first cap : Array Value) (w : World) : (Instr.makeFunc fn first cap).run Tryz.prog w = .ok (.func fn first cap) w := rfl
theorem cell_kp {F : Nat → Prop} {w w' : World} (k : Kp F w w') {g i : Nat} {v : Value} (hF : F g) (h : w.cell? ⟨g, i, none⟩ = some v) : w'.cell? ⟨g, i, none⟩ = some v :=
  (World.cell?_of_block (w := w) (k.block _ (World.block_lt_of_cell? w _ h) hF)).trans h
/-- the closure that writes a sector -/
abbrev wrF (p a s : Addr) : Value := .func (.func 37) #[] #[.pointer (some p), .pointer (some a), .pointer (some s)]
theorem write1_any (n : Int) (s : ByteArray) (p : Addr) (w : World) :
    Calls Tryz.prog 36 #[.int .i64 n, .string s, .pointer (some p)] w fun x w' => x = .returned (wrF p ⟨w.heap.size, 0, none⟩ ⟨w.heap.size + 1, 0, none⟩) ∧ w' = (w.alloc (.cells #[.int .i64 n] 3)).alloc (.cells #[.string s] 9) := by
  have hmf := mkFn
  go_enter Tryz.func36, Tryz.ntmps36
  go_wp2
  go_ret
  exact ⟨rfl, rfl⟩
theorem write2_any (F : Nat → Prop) (bj b gp ga gs half epoch count : Nat) (d : Dk) (n : Nat) (s : ByteArray) (w : World) (hD : DiskAt F b d w) (hT : Top F w.heap.size) (hj : JnAt bj b half epoch count w) (hp : w.cell? ⟨gp, 0, none⟩ = some (.pointer (some ⟨bj, 0, none⟩))) (ha : w.cell? ⟨ga, 0, none⟩ = some (.int .i64 (n : Nat))) (hs : w.cell? ⟨gs, 0, none⟩ = some (.string s)) (ho : d.ops ≤ 1000000) (hC : d.C.length ≤ 50000) (hz : (s.size : Int) ≤ 140737488355328) (q : Dk × Int) (hq : d.write n s = q) (f1 : F gp) (f2 : F bj) (f3 : F ga) (f4 : F gs) :
    Calls Tryz.prog 37 #[.pointer (some ⟨gp, 0, none⟩), .pointer (some ⟨ga, 0, none⟩), .pointer (some ⟨gs, 0, none⟩)] w fun x w' => x = .returned (.int .i64 q.2) ∧ DiskAt F b q.1 w' ∧ Kp F w w' := by
  have hw := write_any F b d w.drew (hD.later (Below.refl _ w).drew) (n : Nat) s (by omega) (by omega) hT (by omega)
  rw [hq] at hw
  have HW := Lib.hid hw
  have x0 := hj.cells.1.1
  have hx : w.drew.cell? ⟨gp, 0, none⟩ = some (.pointer (some ⟨bj, 0, none⟩)) ∧ w.drew.cell? ⟨bj, 0, none⟩ = some (.pointer (some ⟨b, 0, none⟩)) ∧ w.drew.cell? ⟨ga, 0, none⟩ = some (.int .i64 (n : Nat)) ∧ w.drew.cell? ⟨gs, 0, none⟩ = some (.string s) := ⟨hp, x0, ha, hs⟩
  clear hw hD hT hj hp ha hs x0 ho hC hz hq
  go_enter Tryz.func37, Tryz.ntmps37
  go_upto_region 1 with fail
  go_region_held3 (fun W' => W'.cell? ⟨gp, 0, none⟩ = some (.pointer (some ⟨bj, 0, none⟩)) ∧ W'.cell? ⟨bj, 0, none⟩ = some (.pointer (some ⟨b, 0, none⟩)) ∧ W'.cell? ⟨ga, 0, none⟩ = some (.int .i64 (n : Nat)) ∧ W'.cell? ⟨gs, 0, none⟩ = some (.string s)) (first | with_reducible exact hx | with_reducible exact hy) (first
    | (go_at_call 38; refine HW.out.mono ?_; rintro x w2 ⟨rfl, hd2, k2⟩; have hy := And.intro (cell_kp k2 f1 hx.1) (And.intro (cell_kp k2 f2 hx.2.1) (And.intro (cell_kp k2 f3 hx.2.2.1) (cell_kp k2 f4 hx.2.2.2)))))
  go_wp2
  go_ret
  exact ⟨rfl, hd2, (Kp.refl F w).drew.trans k2⟩
/-- a step: what it leaves, or why it is refused -/
def Step (f : Nat) (args : Array Value) (A B : World → Prop) (R : Int → World → Prop) : Prop :=
  ∀ w, A w → Calls Tryz.prog f args w fun x w' => (x = .returned (.int .i64 0) ∧ B w') ∨ ∃ e, e ≠ 0 ∧ x = .returned (.int .i64 e) ∧ R e w'
/-- what comes of steps -/
def Stepped (B : World → Prop) (R : Int → World → Prop) (x : Ending) (w' : World) : Prop := (x = .returned (.int .i64 0) ∧ B w') ∨ ∃ e, e ≠ 0 ∧ x = .returned (.int .i64 e) ∧ R e w'
/-- four steps, each behind the one ahead -/
structure Four (g : Nat) (f0 : Nat) (p0 a0 s0 : Addr) (p2 a2 s2 : Addr) (b : Nat) (St : Nat → World → Prop) (R : Int → World → Prop) : Prop where
  c0 : ∀ k w, St k w → w.cell? ⟨g, 0, none⟩ = some (wrF p0 a0 s0)
  c1 : ∀ k w, St k w → w.cell? ⟨g, 1, none⟩ = some (.func (.func 41) #[.pointer (some ⟨b, 0, none⟩)] #[])
  c2 : ∀ k w, St k w → w.cell? ⟨g, 2, none⟩ = some (wrF p2 a2 s2)
  c3 : ∀ k w, St k w → w.cell? ⟨g, 3, none⟩ = some (.func (.func 41) #[.pointer (some ⟨b, 0, none⟩)] #[])
  h0 : Step 37 #[.pointer (some p0), .pointer (some a0), .pointer (some s0)] (St 0) (St 1) R
  h1 : Step 41 #[.pointer (some ⟨b, 0, none⟩)] (St 1) (St 2) R
  h2 : Step 37 #[.pointer (some p2), .pointer (some a2), .pointer (some s2)] (St 2) (St 3) R
  h3 : Step 41 #[.pointer (some ⟨b, 0, none⟩)] (St 3) (St 4) R
set_option maxHeartbeats 6400000 in
theorem steps_any (g f0 : Nat) (p0 a0 s0 p2 a2 s2 : Addr) (b : Nat) (St : Nat → World → Prop) (R : Int → World → Prop) (w : World) (H : Four g f0 p0 a0 s0 p2 a2 s2 b St R) (h : St 0 w) :
    Calls Tryz.prog 40 #[.slice (some ⟨g, 0, none⟩) 4 4] w fun x w' => Stepped (St 4) R x w' := by
  have HH := Lib.hid H
  have H0 := Lib.hid h
  clear H h
  go_enter Tryz.func40, Tryz.ntmps40
  go_upto_region 2 with fail
  go_loopw [8] (fun i wr => ∃ k : Nat, k ≤ 4 ∧ i = .int .i64 k ∧ St k wr) (fun i _ => 4 - (intOf i).toNat)
  case atStart => exact ⟨0, by omega, rfl, H0.out⟩
  case round =>
    obtain ⟨k, hk, rfl, hst⟩ := hrel
    have HS := Lib.hid hst
    clear hst
    have hk4 : k = 0 ∨ k = 1 ∨ k = 2 ∨ k = 3 ∨ k = 4 := by omega
    rcases hk4 with rfl | rfl | rfl | rfl | rfl
    · have hc := HH.out.c0 0 wr HS.out
      unfold wrF at hc
      have HS0 := Lib.hid (HH.out.h0 wr HS.out)
      go_wp2_with fail
      refine HS0.out.mono ?_
      rintro x w' (⟨rfl, hs⟩ | ⟨e, he, rfl, hr⟩)
      · have H1 := Lib.hid hs
        clear hs hc
        go_wp2
        go_round
        case rel => exact ⟨1, by omega, rfl, H1.out⟩
        case measure => simp [intOf]
      · have heb : (e == 0) = false := by simpa using he
        have H1 := Lib.hid (And.intro he hr)
        clear he hr hc
        go_wp2
        go_ret
        exact .inr ⟨e, H1.out.1, rfl, H1.out.2⟩
    · have hc := HH.out.c1 1 wr HS.out
      have HS1 := Lib.hid (HH.out.h1 wr HS.out)
      go_wp2_with fail
      refine HS1.out.mono ?_
      rintro x w' (⟨rfl, hs⟩ | ⟨e, he, rfl, hr⟩)
      · have H1 := Lib.hid hs
        clear hs hc
        go_wp2
        go_round
        case rel => exact ⟨2, by omega, rfl, H1.out⟩
        case measure => simp [intOf]
      · have heb : (e == 0) = false := by simpa using he
        have H1 := Lib.hid (And.intro he hr)
        clear he hr hc
        go_wp2
        go_ret
        exact .inr ⟨e, H1.out.1, rfl, H1.out.2⟩
    · have hc := HH.out.c2 2 wr HS.out
      unfold wrF at hc
      have HS2 := Lib.hid (HH.out.h2 wr HS.out)
      go_wp2_with fail
      refine HS2.out.mono ?_
      rintro x w' (⟨rfl, hs⟩ | ⟨e, he, rfl, hr⟩)
      · have H1 := Lib.hid hs
        clear hs hc
        go_wp2
        go_round
        case rel => exact ⟨3, by omega, rfl, H1.out⟩
        case measure => simp [intOf]
      · have heb : (e == 0) = false := by simpa using he
        have H1 := Lib.hid (And.intro he hr)
        clear he hr hc
        go_wp2
        go_ret
        exact .inr ⟨e, H1.out.1, rfl, H1.out.2⟩
    · have hc := HH.out.c3 3 wr HS.out
      have HS3 := Lib.hid (HH.out.h3 wr HS.out)
      go_wp2_with fail
      refine HS3.out.mono ?_
      rintro x w' (⟨rfl, hs⟩ | ⟨e, he, rfl, hr⟩)
      · have H1 := Lib.hid hs
        clear hs hc
        go_wp2
        go_round
        case rel => exact ⟨4, by omega, rfl, H1.out⟩
        case measure => simp [intOf]
      · have heb : (e == 0) = false := by simpa using he
        have H1 := Lib.hid (And.intro he hr)
        clear he hr hc
        go_wp2
        go_ret
        exact .inr ⟨e, H1.out.1, rfl, H1.out.2⟩
    · go_wp2
      go_ret
      exact .inl ⟨rfl, HS.out⟩
end Go.Proofs.YtfbakelpplpomaaGreatDoor.Disk
/-
  What Append does to the disk; its four steps.
-/
namespace Go.Proofs.YtfbakelpplpomaaGreatDoor.Disk
open Go.RowKit Go.Proofs.YtfbakelpplpomaaGreatDoor.DiskRows Go.Proofs.YtfbakelpplpomaaGreatDoor.WalkCrc
set_option linter.unusedVariables false
set_option linter.unusedSimpArgs false
set_option maxRecDepth 100000

/-- noughts, a flush, the record, a flush -/
def jput (d : Dk) (p0 p1 : Nat) (z s : ByteArray) : Dk × Int :=
  if (d.write p0 z).2 ≠ 0 then d.write p0 z
  else if (d.write p0 z).1.flush.2 ≠ 0 then (d.write p0 z).1.flush
  else if ((d.write p0 z).1.flush.1.write p1 s).2 ≠ 0 then (d.write p0 z).1.flush.1.write p1 s
  else ((d.write p0 z).1.flush.1.write p1 s).1.flush
theorem jwrite_grows (d : Dk) (i : Int) (s : ByteArray) : (d.write i s).1.ops ≤ d.ops + 1 ∧ (d.write i s).1.C.length ≤ d.C.length + 1 := by
  obtain ⟨eS, eH, eC⟩ := step_same d
  have eo : d.step.1.ops ≤ d.ops + 1 := by unfold Dk.step; split <;> simp
  unfold Dk.write
  split
  · simp
  · split
    · split
      · split
        · exact ⟨eo, by rw [eC]; simp⟩
        · exact ⟨eo, by simp⟩
      · simp
    · simp
theorem jflush_grows (d : Dk) : d.flush.1.ops ≤ d.ops + 1 ∧ d.flush.1.C.length ≤ d.C.length := by
  obtain ⟨eS, eH, eC⟩ := step_same d
  have eo : d.step.1.ops ≤ d.ops + 1 := by unfold Dk.step; split <;> simp
  unfold Dk.flush
  split
  · simp
  · split
    · exact ⟨eo, by rw [eC]; omega⟩
    · exact ⟨eo, by simp⟩
/-- the states ahead of each step -/
def jst (G : Nat → Prop) (b : Nat) (d : Dk) (p0 p1 : Nat) (z s : ByteArray) (wS : World) (k : Nat) (w : World) : Prop :=
  Kp G wS w ∧ match k with
  | 0 => DiskAt G b d w
  | 1 => (d.write p0 z).2 = 0 ∧ DiskAt G b (d.write p0 z).1 w
  | 2 => (d.write p0 z).2 = 0 ∧ (d.write p0 z).1.flush.2 = 0 ∧ DiskAt G b (d.write p0 z).1.flush.1 w
  | 3 => (d.write p0 z).2 = 0 ∧ (d.write p0 z).1.flush.2 = 0 ∧ ((d.write p0 z).1.flush.1.write p1 s).2 = 0 ∧ DiskAt G b ((d.write p0 z).1.flush.1.write p1 s).1 w
  | _ => (jput d p0 p1 z s).2 = 0 ∧ DiskAt G b (jput d p0 p1 z s).1 w
def jrf (G : Nat → Prop) (b : Nat) (d : Dk) (p0 p1 : Nat) (z s : ByteArray) (wS : World) (e : Int) (w : World) : Prop :=
  Kp G wS w ∧ e = (jput d p0 p1 z s).2 ∧ DiskAt G b (jput d p0 p1 z s).1 w
theorem four_mk (G : Nat → Prop) (g gp a0 s0 a2 s2 bj b half epoch count : Nat) (d : Dk) (p0 p1 : Nat) (z s : ByteArray) (wS : World) (hD : DiskAt G b d wS) (hT : Top G wS.heap.size) (hj : JnAt bj b half epoch count wS)
    (c0 : wS.cell? ⟨g, 0, none⟩ = some (wrF ⟨gp, 0, none⟩ ⟨a0, 0, none⟩ ⟨s0, 0, none⟩)) (c1 : wS.cell? ⟨g, 1, none⟩ = some (.func (.func 41) #[.pointer (some ⟨b, 0, none⟩)] #[])) (c2 : wS.cell? ⟨g, 2, none⟩ = some (wrF ⟨gp, 0, none⟩ ⟨a2, 0, none⟩ ⟨s2, 0, none⟩)) (c3 : wS.cell? ⟨g, 3, none⟩ = some (.func (.func 41) #[.pointer (some ⟨b, 0, none⟩)] #[]))
    (hp : wS.cell? ⟨gp, 0, none⟩ = some (.pointer (some ⟨bj, 0, none⟩))) (ha0 : wS.cell? ⟨a0, 0, none⟩ = some (.int .i64 (p0 : Nat))) (hs0 : wS.cell? ⟨s0, 0, none⟩ = some (.string z)) (ha2 : wS.cell? ⟨a2, 0, none⟩ = some (.int .i64 (p1 : Nat))) (hs2 : wS.cell? ⟨s2, 0, none⟩ = some (.string s))
    (fg : G g) (fp : G gp) (fj : G bj) (fa0 : G a0) (fs0 : G s0) (fa2 : G a2) (fs2 : G s2) (ho : d.ops ≤ 900000) (hC : d.C.length ≤ 40000) (hz : z.size ≤ 1000000) (hs : s.size ≤ 1000000) :
    Four g 0 ⟨gp, 0, none⟩ ⟨a0, 0, none⟩ ⟨s0, 0, none⟩ ⟨gp, 0, none⟩ ⟨a2, 0, none⟩ ⟨s2, 0, none⟩ b (jst G b d p0 p1 z s wS) (jrf G b d p0 p1 z s wS) := by
  have g1 := jwrite_grows d p0 z
  have g2 := jflush_grows (d.write p0 z).1
  have g3 := jwrite_grows (d.write p0 z).1.flush.1 p1 s
  refine ⟨fun k w h => cell_kp h.1 fg c0, fun k w h => cell_kp h.1 fg c1, fun k w h => cell_kp h.1 fg c2, fun k w h => cell_kp h.1 fg c3, ?_, ?_, ?_, ?_⟩
  · rintro w ⟨k, hd⟩
    refine (write2_any G bj b gp a0 s0 half epoch count d p0 z w hd (hT.trans k.size) (hj.kp k fj) (cell_kp k fp hp) (cell_kp k fa0 ha0) (cell_kp k fs0 hs0) (by omega) (by omega) (by omega) _ rfl fp fj fa0 fs0).mono ?_
    rintro x w' ⟨rfl, hd', k'⟩
    by_cases e : (d.write p0 z).2 = 0
    · exact .inl ⟨by rw [e], k.trans k', e, hd'⟩
    · have ej : jput d p0 p1 z s = d.write p0 z := by unfold jput; rw [if_pos e]
      exact .inr ⟨_, e, rfl, k.trans k', by rw [ej], by rw [ej]; exact hd'⟩
  · rintro w ⟨k, e0, hd⟩
    refine (flush_any G b _ w hd (by omega) (hT.trans k.size)).mono ?_
    rintro x w' ⟨rfl, hd', k'⟩
    by_cases e : (d.write p0 z).1.flush.2 = 0
    · exact .inl ⟨by rw [e], k.trans k', e0, e, hd'⟩
    · have ej : jput d p0 p1 z s = (d.write p0 z).1.flush := by unfold jput; rw [if_neg (by simpa using e0), if_pos e]
      exact .inr ⟨_, e, rfl, k.trans k', by rw [ej], by rw [ej]; exact hd'⟩
  · rintro w ⟨k, e0, e1, hd⟩
    refine (write2_any G bj b gp a2 s2 half epoch count _ p1 s w hd (hT.trans k.size) (hj.kp k fj) (cell_kp k fp hp) (cell_kp k fa2 ha2) (cell_kp k fs2 hs2) (by omega) (by omega) (by omega) _ rfl fp fj fa2 fs2).mono ?_
    rintro x w' ⟨rfl, hd', k'⟩
    by_cases e : ((d.write p0 z).1.flush.1.write p1 s).2 = 0
    · exact .inl ⟨by rw [e], k.trans k', e0, e1, e, hd'⟩
    · have ej : jput d p0 p1 z s = (d.write p0 z).1.flush.1.write p1 s := by unfold jput; rw [if_neg (by simpa using e0), if_neg (by simpa using e1), if_pos e]
      exact .inr ⟨_, e, rfl, k.trans k', by rw [ej], by rw [ej]; exact hd'⟩
  · rintro w ⟨k, e0, e1, e2, hd⟩
    refine (flush_any G b _ w hd (by omega) (hT.trans k.size)).mono ?_
    rintro x w' ⟨rfl, hd', k'⟩
    have ej : jput d p0 p1 z s = ((d.write p0 z).1.flush.1.write p1 s).1.flush := by unfold jput; rw [if_neg (by simpa using e0), if_neg (by simpa using e1), if_neg (by simpa using e2)]
    by_cases e : ((d.write p0 z).1.flush.1.write p1 s).1.flush.2 = 0
    · exact .inl ⟨by rw [e], k.trans k', by rw [ej]; exact e, by rw [ej]; exact hd'⟩
    · exact .inr ⟨_, e, rfl, k.trans k', by rw [ej], by rw [ej]; exact hd'⟩
/-- the closure that writes a sector, made -/
theorem write1_ok (n : Int) (s : ByteArray) (p : Addr) (w : World) :
    Calls Tryz.prog 36 #[.int .i64 n, .string s, .pointer (some p)] w fun x w' => ∃ a t, x = .returned (.func (.func 37) #[] #[.pointer (some p), .pointer (some ⟨a, 0, none⟩), .pointer (some ⟨t, 0, none⟩)]) ∧ (w'.cell? ⟨a, 0, none⟩ = some (.int .i64 n) ∧ w'.cell? ⟨t, 0, none⟩ = some (.string s) ∧ w.heap.size ≤ a ∧ w.heap.size ≤ t) ∧ Below w.heap.size w w' := by
  refine (write1_any n s p w).mono ?_
  rintro x w' ⟨rfl, rfl⟩
  have hz : (w.alloc (.cells #[.int .i64 n] 3)).heap.size = w.heap.size + 1 := by simp
  have e1 : ((w.alloc (.cells #[.int .i64 n] 3)).alloc (.cells #[.string s] 9)).cell? ⟨w.heap.size, 0, none⟩ = some (.int .i64 n) :=
    ((Joins.below_alloc1 (w.alloc (.cells #[.int .i64 n] 3)) _).cell (p := ⟨w.heap.size, 0, none⟩) (by rw [hz]; exact Nat.lt_succ_self _)).trans ((cell_of_row _ _ 0 _ _ _ (heap_alloc_last _ _)).trans rfl)
  have e2 : ((w.alloc (.cells #[.int .i64 n] 3)).alloc (.cells #[.string s] 9)).cell? ⟨w.heap.size + 1, 0, none⟩ = some (.string s) := by
    have := (cell_of_row _ _ 0 _ _ _ (heap_alloc_last (w.alloc (.cells #[.int .i64 n] 3)) (.cells #[.string s] 9))).trans rfl
    rw [hz] at this
    exact this
  exact ⟨_, _, rfl, ⟨e1, e2, Nat.le_refl _, Nat.le_succ _⟩, ((Below.refl _ w).alloc (Nat.le_refl _) _).alloc (by rw [hz]; omega) _⟩
theorem steps_close (F : Nat → Prop) (bj b half epoch count gp : Nat) (d : Dk) (p0 p1 : Nat) (z s : ByteArray) (Q : Dk × Int) (hQ : jput d p0 p1 z s = Q) (w7 W : World) (hD : DiskAt F b d w7) (hT : Top F w7.heap.size) (hj : JnAt bj b half epoch count w7) (hp : w7.cell? ⟨gp, 0, none⟩ = some (.pointer (some ⟨bj, 0, none⟩))) (fj : F bj) (fp : F gp)
    (hW : Below w7.heap.size w7 W) (g a0 s0 a2 s2 : Nat)
    (c0 : W.cell? ⟨g, 0, none⟩ = some (wrF ⟨gp, 0, none⟩ ⟨a0, 0, none⟩ ⟨s0, 0, none⟩)) (c1 : W.cell? ⟨g, 1, none⟩ = some (.func (.func 41) #[.pointer (some ⟨b, 0, none⟩)] #[])) (c2 : W.cell? ⟨g, 2, none⟩ = some (wrF ⟨gp, 0, none⟩ ⟨a2, 0, none⟩ ⟨s2, 0, none⟩)) (c3 : W.cell? ⟨g, 3, none⟩ = some (.func (.func 41) #[.pointer (some ⟨b, 0, none⟩)] #[]))
    (ha0 : W.cell? ⟨a0, 0, none⟩ = some (.int .i64 (p0 : Nat))) (hs0 : W.cell? ⟨s0, 0, none⟩ = some (.string z)) (ha2 : W.cell? ⟨a2, 0, none⟩ = some (.int .i64 (p1 : Nat))) (hs2 : W.cell? ⟨s2, 0, none⟩ = some (.string s))
    (lg : w7.heap.size ≤ g) (la0 : w7.heap.size ≤ a0) (ls0 : w7.heap.size ≤ s0) (la2 : w7.heap.size ≤ a2) (ls2 : w7.heap.size ≤ s2) (ho : d.ops ≤ 900000) (hC : d.C.length ≤ 40000) (hz : z.size ≤ 1000000) (hs : s.size ≤ 1000000) :
    Calls Tryz.prog 40 #[.slice (some ⟨g, 0, none⟩) 4 4] W fun x w' => x = .returned (.int .i64 Q.2) ∧ DiskAt F b Q.1 w' ∧ JnAt bj b half epoch count w' ∧ Kp F w7 w' := by
  have hlt : ∀ {i : Nat} {a : Nat} {v : Value}, W.cell? ⟨a, i, none⟩ = some v → a < W.heap.size := fun h => World.block_lt_of_cell? W _ h
  have hf := four_mk (Plus F w7.heap.size W.heap.size) g gp a0 s0 a2 s2 bj b half epoch count d p0 p1 z s W (hD.grow hW) (Plus.top hT hW.size) (hj.later hW) c0 c1 c2 c3 ((hW.cell (p := ⟨gp, 0, none⟩) (World.block_lt_of_cell? w7 _ hp)).trans hp) ha0 hs0 ha2 hs2 (.inr ⟨lg, hlt c0⟩) (.inl fp) (.inl fj) (.inr ⟨la0, hlt ha0⟩) (.inr ⟨ls0, hlt hs0⟩) (.inr ⟨la2, hlt ha2⟩) (.inr ⟨ls2, hlt hs2⟩) ho hC hz hs
  refine (steps_any g 0 _ _ _ _ _ _ b _ _ W hf ⟨Kp.refl _ _, hD.grow hW⟩).mono ?_
  have hk : ∀ {w' : World}, Kp (Plus F w7.heap.size W.heap.size) W w' → Kp F w7 w' := fun k => (hW.kp).trans (k.sub (fun j hj => .inl hj))
  rintro x w' (⟨rfl, k, e, hd⟩ | ⟨e, he, rfl, k, rfl, hd⟩)
  · rw [hQ] at e hd
    exact ⟨by rw [e], hd.sub (fun j hj => .inl hj), (hj.later hW).kp k (.inl fj), hk k⟩
  · rw [hQ] at hd ⊢
    exact ⟨rfl, hd.sub (fun j hj => .inl hj), (hj.later hW).kp k (.inl fj), hk k⟩
theorem steps_A (F : Nat → Prop) (bj b half epoch count gp : Nat) (d : Dk) (p0 p1 : Nat) (z s : ByteArray) (Q : Dk × Int) (hQ : jput d p0 p1 z s = Q) (w7 : World) (hD : DiskAt F b d w7) (hT : Top F w7.heap.size) (hj : JnAt bj b half epoch count w7) (hp : w7.cell? ⟨gp, 0, none⟩ = some (.pointer (some ⟨bj, 0, none⟩))) (fj : F bj) (fp : F gp) (ho : d.ops ≤ 900000) (hC : d.C.length ≤ 40000) (hz : z.size ≤ 1000000) (hs : s.size ≤ 1000000) (wa wb : World) (a0 s0 a2 s2 : Nat) (T : TypeId)
    (ca : wa.cell? ⟨a0, 0, none⟩ = some (.int .i64 (p0 : Nat)) ∧ wa.cell? ⟨s0, 0, none⟩ = some (.string z) ∧ w7.drew.heap.size ≤ a0 ∧ w7.drew.heap.size ≤ s0) (ka : Below w7.drew.heap.size w7.drew wa)
    (cb : wb.cell? ⟨a2, 0, none⟩ = some (.int .i64 (p1 : Nat)) ∧ wb.cell? ⟨s2, 0, none⟩ = some (.string s) ∧ wa.heap.size ≤ a2 ∧ wa.heap.size ≤ s2) (kb : Below wa.heap.size wa wb) :
    Calls Tryz.prog 40 #[.slice (some ⟨wb.heap.size, 0, none⟩) 4 4] (wb.alloc (.cells #[wrF ⟨gp, 0, none⟩ ⟨a0, 0, none⟩ ⟨s0, 0, none⟩, .func (.func 41) #[.pointer (some ⟨b, 0, none⟩)] #[], wrF ⟨gp, 0, none⟩ ⟨a2, 0, none⟩ ⟨s2, 0, none⟩, .func (.func 41) #[.pointer (some ⟨b, 0, none⟩)] #[]] T)) fun x w' => x = .returned (.int .i64 Q.2) ∧ DiskAt F b Q.1 w' ∧ JnAt bj b half epoch count w' ∧ Kp F w7 w' := by
  have k1 : Below w7.heap.size w7 wa := (Below.refl _ w7).drew.trans ka
  have k2 : Below w7.heap.size w7 wb := k1.trans (kb.mono k1.size)
  have h1 : w7.drew.heap.size = w7.heap.size := rfl
  have ka' := ka.size
  have kb' := kb.size
  have q := k1.size
  have kc := Joins.below_alloc1 wb (.cells #[wrF ⟨gp, 0, none⟩ ⟨a0, 0, none⟩ ⟨s0, 0, none⟩, .func (.func 41) #[.pointer (some ⟨b, 0, none⟩)] #[], wrF ⟨gp, 0, none⟩ ⟨a2, 0, none⟩ ⟨s2, 0, none⟩, .func (.func 41) #[.pointer (some ⟨b, 0, none⟩)] #[]] T)
  have up : ∀ {g : Nat} {v : Value}, wa.cell? ⟨g, 0, none⟩ = some v → wb.cell? ⟨g, 0, none⟩ = some v := fun h => (kb.cell (p := ⟨_, 0, none⟩) (World.block_lt_of_cell? wa _ h)).trans h
  have top : ∀ {g : Nat} {v : Value}, wb.cell? ⟨g, 0, none⟩ = some v → (wb.alloc (.cells #[wrF ⟨gp, 0, none⟩ ⟨a0, 0, none⟩ ⟨s0, 0, none⟩, .func (.func 41) #[.pointer (some ⟨b, 0, none⟩)] #[], wrF ⟨gp, 0, none⟩ ⟨a2, 0, none⟩ ⟨s2, 0, none⟩, .func (.func 41) #[.pointer (some ⟨b, 0, none⟩)] #[]] T)).cell? ⟨g, 0, none⟩ = some v := fun h => (kc.cell (p := ⟨_, 0, none⟩) (World.block_lt_of_cell? wb _ h)).trans h
  have rw := heap_alloc_last wb (.cells #[wrF ⟨gp, 0, none⟩ ⟨a0, 0, none⟩ ⟨s0, 0, none⟩, .func (.func 41) #[.pointer (some ⟨b, 0, none⟩)] #[], wrF ⟨gp, 0, none⟩ ⟨a2, 0, none⟩ ⟨s2, 0, none⟩, .func (.func 41) #[.pointer (some ⟨b, 0, none⟩)] #[]] T)
  exact steps_close F bj b half epoch count gp d p0 p1 z s Q hQ w7 _ hD hT hj hp fj fp (k2.trans (kc.mono k2.size)) wb.heap.size a0 s0 a2 s2
    ((cell_of_row _ _ 0 _ _ _ rw).trans rfl) ((cell_of_row _ _ 1 _ _ _ rw).trans rfl) ((cell_of_row _ _ 2 _ _ _ rw).trans rfl) ((cell_of_row _ _ 3 _ _ _ rw).trans rfl)
    (top (up ca.1)) (top (up ca.2.1)) (top cb.1) (top cb.2.1) k2.size (by omega) (by omega) (by omega) (by omega) ho hC hz hs
theorem steps_B (F : Nat → Prop) (bj b half epoch count gp : Nat) (d : Dk) (p0 p1 : Nat) (z s : ByteArray) (Q : Dk × Int) (hQ : jput d p0 p1 z s = Q) (w7 : World) (hD : DiskAt F b d w7) (hT : Top F w7.heap.size) (hj : JnAt bj b half epoch count w7) (hp : w7.cell? ⟨gp, 0, none⟩ = some (.pointer (some ⟨bj, 0, none⟩))) (fj : F bj) (fp : F gp) (ho : d.ops ≤ 900000) (hC : d.C.length ≤ 40000) (hz : z.size ≤ 1000000) (hs : s.size ≤ 1000000) (wa wb : World) (a0 s0 a2 s2 : Nat) (T : TypeId)
    (ca : wa.cell? ⟨a0, 0, none⟩ = some (.int .i64 (p0 : Nat)) ∧ wa.cell? ⟨s0, 0, none⟩ = some (.string z) ∧ wb.heap.size ≤ a0 ∧ wb.heap.size ≤ s0) (ka : Below wb.heap.size wb wa)
    (cb : wb.cell? ⟨a2, 0, none⟩ = some (.int .i64 (p1 : Nat)) ∧ wb.cell? ⟨s2, 0, none⟩ = some (.string s) ∧ w7.drew.heap.size ≤ a2 ∧ w7.drew.heap.size ≤ s2) (kb : Below w7.drew.heap.size w7.drew wb) :
    Calls Tryz.prog 40 #[.slice (some ⟨wa.heap.size, 0, none⟩) 4 4] (wa.alloc (.cells #[wrF ⟨gp, 0, none⟩ ⟨a0, 0, none⟩ ⟨s0, 0, none⟩, .func (.func 41) #[.pointer (some ⟨b, 0, none⟩)] #[], wrF ⟨gp, 0, none⟩ ⟨a2, 0, none⟩ ⟨s2, 0, none⟩, .func (.func 41) #[.pointer (some ⟨b, 0, none⟩)] #[]] T)) fun x w' => x = .returned (.int .i64 Q.2) ∧ DiskAt F b Q.1 w' ∧ JnAt bj b half epoch count w' ∧ Kp F w7 w' := by
  have k1 : Below w7.heap.size w7 wb := (Below.refl _ w7).drew.trans kb
  have k2 : Below w7.heap.size w7 wa := k1.trans (ka.mono k1.size)
  have h1 : w7.drew.heap.size = w7.heap.size := rfl
  have ka' := ka.size
  have kb' := kb.size
  have q := k1.size
  have kc := Joins.below_alloc1 wa (.cells #[wrF ⟨gp, 0, none⟩ ⟨a0, 0, none⟩ ⟨s0, 0, none⟩, .func (.func 41) #[.pointer (some ⟨b, 0, none⟩)] #[], wrF ⟨gp, 0, none⟩ ⟨a2, 0, none⟩ ⟨s2, 0, none⟩, .func (.func 41) #[.pointer (some ⟨b, 0, none⟩)] #[]] T)
  have up : ∀ {g : Nat} {v : Value}, wb.cell? ⟨g, 0, none⟩ = some v → wa.cell? ⟨g, 0, none⟩ = some v := fun h => (ka.cell (p := ⟨_, 0, none⟩) (World.block_lt_of_cell? wb _ h)).trans h
  have top : ∀ {g : Nat} {v : Value}, wa.cell? ⟨g, 0, none⟩ = some v → (wa.alloc (.cells #[wrF ⟨gp, 0, none⟩ ⟨a0, 0, none⟩ ⟨s0, 0, none⟩, .func (.func 41) #[.pointer (some ⟨b, 0, none⟩)] #[], wrF ⟨gp, 0, none⟩ ⟨a2, 0, none⟩ ⟨s2, 0, none⟩, .func (.func 41) #[.pointer (some ⟨b, 0, none⟩)] #[]] T)).cell? ⟨g, 0, none⟩ = some v := fun h => (kc.cell (p := ⟨_, 0, none⟩) (World.block_lt_of_cell? wa _ h)).trans h
  have rw := heap_alloc_last wa (.cells #[wrF ⟨gp, 0, none⟩ ⟨a0, 0, none⟩ ⟨s0, 0, none⟩, .func (.func 41) #[.pointer (some ⟨b, 0, none⟩)] #[], wrF ⟨gp, 0, none⟩ ⟨a2, 0, none⟩ ⟨s2, 0, none⟩, .func (.func 41) #[.pointer (some ⟨b, 0, none⟩)] #[]] T)
  exact steps_close F bj b half epoch count gp d p0 p1 z s Q hQ w7 _ hD hT hj hp fj fp (k2.trans (kc.mono k2.size)) wa.heap.size a0 s0 a2 s2
    ((cell_of_row _ _ 0 _ _ _ rw).trans rfl) ((cell_of_row _ _ 1 _ _ _ rw).trans rfl) ((cell_of_row _ _ 2 _ _ _ rw).trans rfl) ((cell_of_row _ _ 3 _ _ _ rw).trans rfl)
    (top ca.1) (top ca.2.1) (top (up cb.1)) (top (up cb.2.1)) k2.size (by omega) (by omega) (by omega) (by omega) ho hC hz hs
theorem keepS {gp bj : Nat} {u v : Value} {w w' : World} (k : Below w.heap.size w w') (h : w.cell? ⟨gp, 0, none⟩ = some u ∧ w.cell? ⟨bj, 0, none⟩ = some v) : w'.cell? ⟨gp, 0, none⟩ = some u ∧ w'.cell? ⟨bj, 0, none⟩ = some v :=
  ⟨(k.cell (p := ⟨gp, 0, none⟩) (World.block_lt_of_cell? w _ h.1)).trans h.1, (k.cell (p := ⟨bj, 0, none⟩) (World.block_lt_of_cell? w _ h.2)).trans h.2⟩
end Go.Proofs.YtfbakelpplpomaaGreatDoor.Disk
