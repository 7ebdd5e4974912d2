/-
  The walks of what Append is made of: the closures, steps.
-/
import Derived.Test.YtfbakelpplpomaaGreatDoorJournD
import Derived.Deep.RegionHeld3
namespace Go.Proofs.YtfbakelpplpomaaGreatDoor.Disk
open Go.RowKit Go.Proofs.YtfbakelpplpomaaGreatDoor.DiskRows Go.Proofs.YtfbakelpplpomaaGreatDoor.WalkCrc
set_option linter.unusedVariables false
set_option linter.unusedSimpArgs false
set_option maxRecDepth 100000

theorem mkFn (fn : Fn) (first cap : Array Value) (w : World) : (Instr.makeFunc fn first cap).run Tryz.prog w = .ok (.func fn first cap) w := rfl
theorem cell_kp {F : Nat → Prop} {w w' : World} (k : Kp F w w') {g i : Nat} {v : Value} (hF : F g) (h : w.cell? ⟨g, i, none⟩ = some v) : w'.cell? ⟨g, i, none⟩ = some v :=
  (World.cell?_of_block (w := w) (k.block _ (World.block_lt_of_cell? w _ h) hF)).trans h
/-- the closure that writes a sector -/
abbrev wrF (p a s : Addr) : Value := .func (.func 37) #[] #[.pointer (some p), .pointer (some a), .pointer (some s)]
theorem write1_any (n : Int) (s : ByteArray) (p : Addr) (w : World) :
    Calls Tryz.prog 36 #[.int .i64 n, .string s, .pointer (some p)] w fun x w' => x = .returned (wrF p ⟨w.heap.size, 0, none⟩ ⟨w.heap.size + 1, 0, none⟩) ∧ w' = (w.alloc (.cells #[.int .i64 n] 3)).alloc (.cells #[.string s] 9) := by
  have hmf := mkFn
  go_enter Tryz.func36, Tryz.ntmps36
  go_wp2
  go_ret
  exact ⟨rfl, rfl⟩
theorem write2_any (F : Nat → Prop) (bj b gp ga gs half epoch count : Nat) (d : Dk) (n : Nat) (s : ByteArray) (w : World) (hD : DiskAt F b d w) (hT : Top F w.heap.size) (hj : JnAt bj b half epoch count w) (hp : w.cell? ⟨gp, 0, none⟩ = some (.pointer (some ⟨bj, 0, none⟩))) (ha : w.cell? ⟨ga, 0, none⟩ = some (.int .i64 (n : Nat))) (hs : w.cell? ⟨gs, 0, none⟩ = some (.string s)) (ho : d.ops ≤ 1000000) (hC : d.C.length ≤ 50000) (hz : (s.size : Int) ≤ 140737488355328) (q : Dk × Int) (hq : d.write n s = q) (f1 : F gp) (f2 : F bj) (f3 : F ga) (f4 : F gs) :
    Calls Tryz.prog 37 #[.pointer (some ⟨gp, 0, none⟩), .pointer (some ⟨ga, 0, none⟩), .pointer (some ⟨gs, 0, none⟩)] w fun x w' => x = .returned (.int .i64 q.2) ∧ DiskAt F b q.1 w' ∧ Kp F w w' := by
  have hw := write_any F b d w.drew (hD.later (Below.refl _ w).drew) (n : Nat) s (by omega) (by omega) hT (by omega)
  rw [hq] at hw
  have HW := Lib.hid hw
  have x0 := hj.cells.1.1
  have hx : w.drew.cell? ⟨gp, 0, none⟩ = some (.pointer (some ⟨bj, 0, none⟩)) ∧ w.drew.cell? ⟨bj, 0, none⟩ = some (.pointer (some ⟨b, 0, none⟩)) ∧ w.drew.cell? ⟨ga, 0, none⟩ = some (.int .i64 (n : Nat)) ∧ w.drew.cell? ⟨gs, 0, none⟩ = some (.string s) := ⟨hp, x0, ha, hs⟩
  clear hw hD hT hj hp ha hs x0 ho hC hz hq
  go_enter Tryz.func37, Tryz.ntmps37
  go_upto_region 1 with fail
  go_region_held3 (fun W' => W'.cell? ⟨gp, 0, none⟩ = some (.pointer (some ⟨bj, 0, none⟩)) ∧ W'.cell? ⟨bj, 0, none⟩ = some (.pointer (some ⟨b, 0, none⟩)) ∧ W'.cell? ⟨ga, 0, none⟩ = some (.int .i64 (n : Nat)) ∧ W'.cell? ⟨gs, 0, none⟩ = some (.string s)) (first | with_reducible exact hx | with_reducible exact hy) (first
    | (go_at_call 38; refine HW.out.mono ?_; rintro x w2 ⟨rfl, hd2, k2⟩; have hy := And.intro (cell_kp k2 f1 hx.1) (And.intro (cell_kp k2 f2 hx.2.1) (And.intro (cell_kp k2 f3 hx.2.2.1) (cell_kp k2 f4 hx.2.2.2)))))
  go_wp2
  go_ret
  exact ⟨rfl, hd2, (Kp.refl F w).drew.trans k2⟩
/-- a step: what it leaves, or why it is refused -/
def Step (f : Nat) (args : Array Value) (A B : World → Prop) (R : Int → World → Prop) : Prop :=
  ∀ w, A w → Calls Tryz.prog f args w fun x w' => (x = .returned (.int .i64 0) ∧ B w') ∨ ∃ e, e ≠ 0 ∧ x = .returned (.int .i64 e) ∧ R e w'
/-- what comes of steps -/
def Stepped (B : World → Prop) (R : Int → World → Prop) (x : Ending) (w' : World) : Prop := (x = .returned (.int .i64 0) ∧ B w') ∨ ∃ e, e ≠ 0 ∧ x = .returned (.int .i64 e) ∧ R e w'
/-- four steps, each behind the one ahead -/
structure Four (g : Nat) (f0 : Nat) (p0 a0 s0 : Addr) (p2 a2 s2 : Addr) (b : Nat) (St : Nat → World → Prop) (R : Int → World → Prop) : Prop where
  c0 : ∀ k w, St k w → w.cell? ⟨g, 0, none⟩ = some (wrF p0 a0 s0)
  c1 : ∀ k w, St k w → w.cell? ⟨g, 1, none⟩ = some (.func (.func 41) #[.pointer (some ⟨b, 0, none⟩)] #[])
  c2 : ∀ k w, St k w → w.cell? ⟨g, 2, none⟩ = some (wrF p2 a2 s2)
  c3 : ∀ k w, St k w → w.cell? ⟨g, 3, none⟩ = some (.func (.func 41) #[.pointer (some ⟨b, 0, none⟩)] #[])
  h0 : Step 37 #[.pointer (some p0), .pointer (some a0), .pointer (some s0)] (St 0) (St 1) R
  h1 : Step 41 #[.pointer (some ⟨b, 0, none⟩)] (St 1) (St 2) R
  h2 : Step 37 #[.pointer (some p2), .pointer (some a2), .pointer (some s2)] (St 2) (St 3) R
  h3 : Step 41 #[.pointer (some ⟨b, 0, none⟩)] (St 3) (St 4) R
set_option maxHeartbeats 6400000 in
theorem steps_any (g f0 : Nat) (p0 a0 s0 p2 a2 s2 : Addr) (b : Nat) (St : Nat → World → Prop) (R : Int → World → Prop) (w : World) (H : Four g f0 p0 a0 s0 p2 a2 s2 b St R) (h : St 0 w) :
    Calls Tryz.prog 40 #[.slice (some ⟨g, 0, none⟩) 4 4] w fun x w' => Stepped (St 4) R x w' := by
  have HH := Lib.hid H
  have H0 := Lib.hid h
  clear H h
  go_enter Tryz.func40, Tryz.ntmps40
  go_upto_region 2 with fail
  go_loopw [8] (fun i wr => ∃ k : Nat, k ≤ 4 ∧ i = .int .i64 k ∧ St k wr) (fun i _ => 4 - (intOf i).toNat)
  case atStart => exact ⟨0, by omega, rfl, H0.out⟩
  case round =>
    obtain ⟨k, hk, rfl, hst⟩ := hrel
    have HS := Lib.hid hst
    clear hst
    have hk4 : k = 0 ∨ k = 1 ∨ k = 2 ∨ k = 3 ∨ k = 4 := by omega
    rcases hk4 with rfl | rfl | rfl | rfl | rfl
    · have hc := HH.out.c0 0 wr HS.out
      unfold wrF at hc
      have HS0 := Lib.hid (HH.out.h0 wr HS.out)
      go_wp2_with fail
      refine HS0.out.mono ?_
      rintro x w' (⟨rfl, hs⟩ | ⟨e, he, rfl, hr⟩)
      · have H1 := Lib.hid hs
        clear hs hc
        go_wp2
        go_round
        case rel => exact ⟨1, by omega, rfl, H1.out⟩
        case measure => simp [intOf]
      · have heb : (e == 0) = false := by simpa using he
        have H1 := Lib.hid (And.intro he hr)
        clear he hr hc
        go_wp2
        go_ret
        exact .inr ⟨e, H1.out.1, rfl, H1.out.2⟩
    · have hc := HH.out.c1 1 wr HS.out
      have HS1 := Lib.hid (HH.out.h1 wr HS.out)
      go_wp2_with fail
      refine HS1.out.mono ?_
      rintro x w' (⟨rfl, hs⟩ | ⟨e, he, rfl, hr⟩)
      · have H1 := Lib.hid hs
        clear hs hc
        go_wp2
        go_round
        case rel => exact ⟨2, by omega, rfl, H1.out⟩
        case measure => simp [intOf]
      · have heb : (e == 0) = false := by simpa using he
        have H1 := Lib.hid (And.intro he hr)
        clear he hr hc
        go_wp2
        go_ret
        exact .inr ⟨e, H1.out.1, rfl, H1.out.2⟩
    · have hc := HH.out.c2 2 wr HS.out
      unfold wrF at hc
      have HS2 := Lib.hid (HH.out.h2 wr HS.out)
      go_wp2_with fail
      refine HS2.out.mono ?_
      rintro x w' (⟨rfl, hs⟩ | ⟨e, he, rfl, hr⟩)
      · have H1 := Lib.hid hs
        clear hs hc
        go_wp2
        go_round
        case rel => exact ⟨3, by omega, rfl, H1.out⟩
        case measure => simp [intOf]
      · have heb : (e == 0) = false := by simpa using he
        have H1 := Lib.hid (And.intro he hr)
        clear he hr hc
        go_wp2
        go_ret
        exact .inr ⟨e, H1.out.1, rfl, H1.out.2⟩
    · have hc := HH.out.c3 3 wr HS.out
      have HS3 := Lib.hid (HH.out.h3 wr HS.out)
      go_wp2_with fail
      refine HS3.out.mono ?_
      rintro x w' (⟨rfl, hs⟩ | ⟨e, he, rfl, hr⟩)
      · have H1 := Lib.hid hs
        clear hs hc
        go_wp2
        go_round
        case rel => exact ⟨4, by omega, rfl, H1.out⟩
        case measure => simp [intOf]
      · have heb : (e == 0) = false := by simpa using he
        have H1 := Lib.hid (And.intro he hr)
        clear he hr hc
        go_wp2
        go_ret
        exact .inr ⟨e, H1.out.1, rfl, H1.out.2⟩
    · go_wp2
      go_ret
      exact .inl ⟨rfl, HS.out⟩
end Go.Proofs.YtfbakelpplpomaaGreatDoor.Disk
