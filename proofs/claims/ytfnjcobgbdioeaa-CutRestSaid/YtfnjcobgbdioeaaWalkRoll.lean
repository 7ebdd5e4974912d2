/-
  The walks of the rolling sum: what a byte counts, what the leaving byte counts, Feed, Sum, Of, Hits.
-/
import Derived.Test.YtfnjcobgbdioeaaProg
import Derived.Test.YtfnjcobgbdioeaaRollPure
import Derived.WalkKit
import Derived.KernelRfl
import Derived.Lib.Hide
import Derived.Deep.QuietTactic
import Derived.BigQuiet
import Derived.StillTailTactics
import Derived.IntWalk
import Derived.Deep.RegionWith
import Derived.Deep.DeepCutAuto
namespace Go.Proofs.Ytfnjcobgbdioeaa.WalkRoll
open Go.RowKit
set_option linter.unusedVariables false
set_option linter.unusedSimpArgs false

theorem ret_u32 {k : IntKind} {a b : Int} (h : a = b) : Ending.returned (.int k a) = .returned (.int k b) := by rw [h]

theorem worth_any (b : Int) (w : World) (h0 : 0 ≤ b) (h1 : b ≤ 255) :
    Calls Try.prog 28 #[.int .u8 b] w fun e w' => e = .returned (.int .u32 (Pl.Roll.worth b)) ∧ w = w' := by
  go_enter Try.func28, Try.ntmps28
  go_wp2
  go_ret
  exact ⟨rfl, rfl⟩

theorem out_any (b : Int) (w : World) (h0 : 0 ≤ b) (h1 : b ≤ 255) :
    Calls Try.prog 29 #[.int .u8 b] w fun e w' => e = .returned (.int .u32 (Pl.Roll.out b)) ∧ w = w' := by
  have hw0 : 0 ≤ Pl.Roll.worth b := by unfold Pl.Roll.worth; omega
  have hw1 : Pl.Roll.worth b < 4294967296 := by unfold Pl.Roll.worth; omega
  go_enter Try.func29, Try.ntmps29
  go_wp2_with (go_at_call 28; refine (worth_any _ _ h0 h1).mono ?_; rintro e w' ⟨rfl, rfl⟩)
  go_loop [3, 6] (fun n i => ∃ k : Nat, k ≤ 8 ∧ i = .int .i64 k ∧ n = .int .u32 (Pl.Roll.worth b * Pl.Roll.P k % 4294967296)) (fun _ i => (8 - intOf i).toNat)
  case atStart => exact ⟨0, by omega, rfl, by simp only [Pl.Roll.P, Int.mul_one]; congr 1; omega⟩
  case round =>
    obtain ⟨k, hk, rfl, rfl⟩ := hrel
    by_cases hlt : k < 8
    · go_wp2
      go_round
      case rel =>
        refine ⟨k + 1, by omega, by go_num, ?_⟩
        simp only [Pl.Roll.P]
        congr 1
        rw [Int.mul_emod (Pl.Roll.worth b) (Pl.Roll.P k * 16777619 % 4294967296), Int.emod_emod, ← Int.mul_emod, ← Int.mul_assoc, Int.mul_emod (Pl.Roll.worth b * Pl.Roll.P k), Int.mul_emod (Pl.Roll.worth b * Pl.Roll.P k % 4294967296)]
        simp
      case measure => simp [intOf]; omega
    · have : k = 8 := by omega
      subst this
      go_wp2
      go_ret
      exact ⟨rfl, rfl⟩

/-- from w to w' block b alone was written, in place -/
structure Up (b : Nat) (w w' : World) : Prop where
  os : w'.os = w.os
  tape : w'.tape = w.tape
  output : w'.output = w.output
  size : w'.heap.size = w.heap.size
  block : ∀ k, k ≠ b → w'.heap[k]? = w.heap[k]?
  fz : ∀ o, w'.frozen? ⟨b, o, none⟩ = w.frozen? ⟨b, o, none⟩
theorem Up.refl (b : Nat) (w : World) : Up b w w := ⟨rfl, rfl, rfl, rfl, fun _ _ => rfl, fun _ => rfl⟩
theorem Up.trans {b : Nat} {w w' w'' : World} (h : Up b w w') (k : Up b w' w'') : Up b w w'' :=
  ⟨k.os.trans h.os, k.tape.trans h.tape, k.output.trans h.output, k.size.trans h.size, fun i hi => (k.block i hi).trans (h.block i hi), fun o => (k.fz o).trans (h.fz o)⟩
theorem Up.drewN {b : Nat} {w w' : World} (h : Up b w w') (n : Nat) : Up b w (w'.drewN n) := h.trans ⟨rfl, rfl, rfl, rfl, fun _ _ => rfl, fun _ => rfl⟩
theorem Up.drew {b : Nat} {w w' : World} (h : Up b w w') : Up b w w'.drew := h.drewN 1
theorem Up.set {b : Nat} {w w' : World} (h : Up b w w') (o : Nat) (v : Value) : Up b w (w'.setCell ⟨b, o, none⟩ v) :=
  h.trans ⟨rfl, rfl, rfl, by simp [World.setCell], fun k hk => Below.heap_setCell _ _ _ _ hk, fun o' => World.frozen?_setCell _ _ _ _⟩
theorem Up.below {b : Nat} {w w' : World} (h : Up b w w') {B : Nat} (hB : B ≤ b) : Below B w w' :=
  ⟨h.os, h.tape, h.output, by rw [h.size]; exact Nat.le_refl _, fun k hk => h.block k (by omega)⟩

/-- block b's cells read as F says -/
def Row (b : Nat) (F : Nat → Option Value) (w : World) : Prop := ∀ o, w.cell? ⟨b, o, none⟩ = F o
def upd (F : Nat → Option Value) (o : Nat) (v : Value) (x : Nat) : Option Value := if x = o then some v else F x
theorem upd_some {F : Nat → Option Value} {o p : Nat} {v : Value} (h : (F o).isSome = true) : (upd F p v o).isSome = true := by unfold upd; split <;> simp [h]
theorem upd_same (F : Nat → Option Value) (o : Nat) (v : Value) : upd F o v o = some v := if_pos rfl
theorem upd_other {F : Nat → Option Value} {o x : Nat} {v : Value} (h : x ≠ o) : upd F o v x = F x := if_neg h
theorem Row.refl (b : Nat) (w : World) : Row b (fun o => w.cell? ⟨b, o, none⟩) w := fun _ => rfl
theorem Row.drewN {b : Nat} {F : Nat → Option Value} {w : World} (h : Row b F w) (n : Nat) : Row b F (w.drewN n) := h
theorem Row.drew {b : Nat} {F : Nat → Option Value} {w : World} (h : Row b F w) : Row b F w.drew := h
theorem Row.set {b : Nat} {F : Nat → Option Value} {w : World} (h : Row b F w) {o : Nat} (v : Value) (hs : (F o).isSome = true) : Row b (upd F o v) (w.setCell ⟨b, o, none⟩ v) := by
  intro x
  rw [← h o] at hs
  obtain ⟨u, hu⟩ := Option.isSome_iff_exists.1 hs
  unfold upd
  by_cases e : x = o
  · subst e; rw [if_pos rfl]; exact World.cell?_setCell_same _ _ _ hu
  · rw [if_neg e, World.cell?_setCell_other _ _ _ _ (fun x => e (by have := congrArg Addr.off x; simpa using this.symm))]
    exact h x

/-- what Feed leaves -/
def Fed (b a : Nat) (s' c z' : Int) (w w' : World) : Prop :=
  Up b w w' ∧ w'.cell? ⟨b, 0, none⟩ = some (.int .u32 s') ∧ w'.cell? ⟨b, 1 + a, none⟩ = some (.int .u8 c) ∧ w'.cell? ⟨b, 9, none⟩ = some (.int .i64 z') ∧
    ∀ o, o ≠ 0 → o ≠ 1 + a → o ≠ 9 → w'.cell? ⟨b, o, none⟩ = w.cell? ⟨b, o, none⟩

theorem fed_of {b a : Nat} {s' c z' : Int} {w w' : World} {F : Nat → Option Value} (R : Row b F w') (U : Up b w w') (h0 : F 0 = some (.int .u32 s')) (h1 : F (1 + a) = some (.int .u8 c)) (h9 : F 9 = some (.int .i64 z'))
    (ho : ∀ o, o ≠ 0 → o ≠ 1 + a → o ≠ 9 → F o = w.cell? ⟨b, o, none⟩) : Fed b a s' c z' w w' :=
  ⟨U, (R _).trans h0, (R _).trans h1, (R _).trans h9, fun o o0 o1 o2 => (R _).trans (ho o o0 o1 o2)⟩

set_option maxHeartbeats 4000000 in
theorem feed_few (b a : Nat) (s z c x : Int) (w : World)
    (hs : w.cell? ⟨b, 0, none⟩ = some (.int .u32 s)) (hz : w.cell? ⟨b, 9, none⟩ = some (.int .i64 z)) (hx : w.cell? ⟨b, 1 + a, none⟩ = some (.int .u8 x))
    (fz : ∀ o, w.frozen? ⟨b, o, none⟩ = false) (s0 : 0 ≤ s) (s1 : s < 4294967296) (z0 : 0 ≤ z) (z1 : z < 16) (c0 : 0 ≤ c) (c1 : c ≤ 255) (x0 : 0 ≤ x) (x1 : x ≤ 255) (ha8 : a < 8) (ha : z % 8 = (a : Int)) (h8 : z < 8) :
    Calls Try.prog 26 #[.pointer (some ⟨b, 0, none⟩), .int .u8 c] w fun e w' => e = .returned (.tuple #[]) ∧ Fed b a ((s * 16777619 + Pl.Roll.worth c) % 4294967296) c (z + 1) w w' := by
  have hw0 : 0 ≤ Pl.Roll.worth c := by unfold Pl.Roll.worth; omega
  have hw1 : Pl.Roll.worth c < 4294967296 := by unfold Pl.Roll.worth; omega
  have ho0 : 0 ≤ Pl.Roll.out x := by unfold Pl.Roll.out; omega
  have ho1 : Pl.Roll.out x < 4294967296 := by unfold Pl.Roll.out; omega
  have HW := Lib.hid (show IntKind.u32.wrap (IntKind.u32.wrap (s * 16777619) + Pl.Roll.worth c) = (s * 16777619 + Pl.Roll.worth c) % 4294967296 by rw [IntKind.wrap_u32', IntKind.wrap_u32']; omega)
  go_enter Try.func26, Try.ntmps26
  go_wp2_with fail
  go_region_with (go_at_call 28; refine (worth_any _ _ c0 c1).mono ?_; rintro e w' ⟨rfl, rfl⟩)
  all_goals go_wp2
  all_goals
    go_end0
    refine ⟨rfl, ?_⟩
    have n1 : ¬ (1 + a = 9) := by omega
    have n2 : ¬ (1 + a = 0) := by omega
    have n3 : ¬ (0 = 1 + a) := by omega
    have n4 : ¬ (9 = 1 + a) := by omega
    apply fed_of
    case R =>
      repeat first | (with_reducible apply Row.drew) | (with_reducible apply Row.drewN) | (with_reducible apply Row.set) | (with_reducible exact Row.refl _ _)
      all_goals simp [upd, n1, n2, n3, n4, hs, hz, hx]
    case U => repeat first | exact Up.refl _ _ | refine Up.drew ?_ | refine Up.drewN ?_ _ | refine Up.set ?_ _ _
    case h0 => simp [upd, n1, n2, n3, n4]
    case h1 => simp [upd, n1, n2, n3, n4]
    case h9 => simp [upd, n1, n2, n3, n4]
    case ho =>
      intro o o0 o1 o2
      simp [upd, o0, o1, o2]

set_option maxHeartbeats 4000000 in
theorem feed_more (b a : Nat) (s z c x : Int) (w : World)
    (hs : w.cell? ⟨b, 0, none⟩ = some (.int .u32 s)) (hz : w.cell? ⟨b, 9, none⟩ = some (.int .i64 z)) (hx : w.cell? ⟨b, 1 + a, none⟩ = some (.int .u8 x))
    (fz : ∀ o, w.frozen? ⟨b, o, none⟩ = false) (s0 : 0 ≤ s) (s1 : s < 4294967296) (z0 : 0 ≤ z) (z1 : z < 16) (c0 : 0 ≤ c) (c1 : c ≤ 255) (x0 : 0 ≤ x) (x1 : x ≤ 255) (ha8 : a < 8) (ha : z % 8 = (a : Int)) (h8 : 8 ≤ z) (h16 : z < 15) :
    Calls Try.prog 26 #[.pointer (some ⟨b, 0, none⟩), .int .u8 c] w fun e w' => e = .returned (.tuple #[]) ∧ Fed b a (((s * 16777619 + Pl.Roll.worth c) % 4294967296 - Pl.Roll.out x) % 4294967296) c (z + 1) w w' := by
  have hw0 : 0 ≤ Pl.Roll.worth c := by unfold Pl.Roll.worth; omega
  have hw1 : Pl.Roll.worth c < 4294967296 := by unfold Pl.Roll.worth; omega
  have ho0 : 0 ≤ Pl.Roll.out x := by unfold Pl.Roll.out; omega
  have ho1 : Pl.Roll.out x < 4294967296 := by unfold Pl.Roll.out; omega
  have HW := Lib.hid (show IntKind.u32.wrap (IntKind.u32.wrap (s * 16777619) + Pl.Roll.worth c) = (s * 16777619 + Pl.Roll.worth c) % 4294967296 by rw [IntKind.wrap_u32', IntKind.wrap_u32']; omega)
  go_enter Try.func26, Try.ntmps26
  go_upto_region 2 with fail
  simp only [ha]
  go_cut [20] (fun s20 wx => s20 = .int .u32 ((s * 16777619 + Pl.Roll.worth c) % 4294967296) ∧ wx = (w.setCell ⟨b, 0, none⟩ (.int .u32 ((s * 16777619 + Pl.Roll.worth c) % 4294967296))).drew)
  case first =>
    go_region_with (go_at_call 28; refine (worth_any _ _ c0 c1).mono ?_; rintro e w' ⟨rfl, rfl⟩)
    all_goals (go_wp2_with fail; go_meet; exact ⟨by rw [HW.out], by rw [HW.out]⟩)
  case rest =>
    obtain ⟨rfl, rfl⟩ := hcut
    go_wp2_with fail
    go_region_with (go_at_call 29; refine (out_any _ _ x0 x1).mono ?_; rintro e w' ⟨rfl, rfl⟩)
    all_goals go_wp2
    all_goals
      go_end0
      refine ⟨rfl, ?_⟩
      have n1 : ¬ (1 + a = 9) := by omega
      have n2 : ¬ (1 + a = 0) := by omega
      have n3 : ¬ (0 = 1 + a) := by omega
      have n4 : ¬ (9 = 1 + a) := by omega
      apply fed_of
      case R =>
        repeat first | (with_reducible apply Row.drew) | (with_reducible apply Row.drewN) | (with_reducible apply Row.set) | (with_reducible exact Row.refl _ _)
        all_goals simp [upd, n1, n2, n3, n4, hs, hz, hx]
      case U => repeat first | exact Up.refl _ _ | refine Up.drew ?_ | refine Up.drewN ?_ _ | refine Up.set ?_ _ _
      case h0 => simp [upd, n1, n2, n3, n4]
      case h1 => simp [upd, n1, n2, n3, n4]
      case h9 => simp [upd, n1, n2, n3, n4]
      case ho =>
        intro o o0 o1 o2
        simp [upd, o0, o1, o2]

set_option maxHeartbeats 4000000 in
theorem feed_turn (b a : Nat) (s z c x : Int) (w : World)
    (hs : w.cell? ⟨b, 0, none⟩ = some (.int .u32 s)) (hz : w.cell? ⟨b, 9, none⟩ = some (.int .i64 z)) (hx : w.cell? ⟨b, 1 + a, none⟩ = some (.int .u8 x))
    (fz : ∀ o, w.frozen? ⟨b, o, none⟩ = false) (s0 : 0 ≤ s) (s1 : s < 4294967296) (z0 : 0 ≤ z) (z1 : z < 16) (c0 : 0 ≤ c) (c1 : c ≤ 255) (x0 : 0 ≤ x) (x1 : x ≤ 255) (ha8 : a < 8) (ha : z % 8 = (a : Int)) (h16 : 14 < z) :
    Calls Try.prog 26 #[.pointer (some ⟨b, 0, none⟩), .int .u8 c] w fun e w' => e = .returned (.tuple #[]) ∧ Fed b a (((s * 16777619 + Pl.Roll.worth c) % 4294967296 - Pl.Roll.out x) % 4294967296) c (z + 1 - 8) w w' := by
  have hw0 : 0 ≤ Pl.Roll.worth c := by unfold Pl.Roll.worth; omega
  have hw1 : Pl.Roll.worth c < 4294967296 := by unfold Pl.Roll.worth; omega
  have ho0 : 0 ≤ Pl.Roll.out x := by unfold Pl.Roll.out; omega
  have ho1 : Pl.Roll.out x < 4294967296 := by unfold Pl.Roll.out; omega
  have HW := Lib.hid (show IntKind.u32.wrap (IntKind.u32.wrap (s * 16777619) + Pl.Roll.worth c) = (s * 16777619 + Pl.Roll.worth c) % 4294967296 by rw [IntKind.wrap_u32', IntKind.wrap_u32']; omega)
  have h8 : 8 ≤ z := by omega
  have h15 : 16 ≤ z + 1 := by omega
  go_enter Try.func26, Try.ntmps26
  go_upto_region 2 with fail
  simp only [ha]
  go_cut [20] (fun s20 wx => s20 = .int .u32 ((s * 16777619 + Pl.Roll.worth c) % 4294967296) ∧ wx = (w.setCell ⟨b, 0, none⟩ (.int .u32 ((s * 16777619 + Pl.Roll.worth c) % 4294967296))).drew)
  case first =>
    go_region_with (go_at_call 28; refine (worth_any _ _ c0 c1).mono ?_; rintro e w' ⟨rfl, rfl⟩)
    all_goals (go_wp2_with fail; go_meet; exact ⟨by rw [HW.out], by rw [HW.out]⟩)
  case rest =>
    obtain ⟨rfl, rfl⟩ := hcut
    go_wp2_with fail
    go_region_with (go_at_call 29; refine (out_any _ _ x0 x1).mono ?_; rintro e w' ⟨rfl, rfl⟩)
    all_goals go_wp2
    all_goals
      go_end0
      refine ⟨rfl, ?_⟩
      have n1 : ¬ (1 + a = 9) := by omega
      have n2 : ¬ (1 + a = 0) := by omega
      have n3 : ¬ (0 = 1 + a) := by omega
      have n4 : ¬ (9 = 1 + a) := by omega
      apply fed_of
      case R =>
        repeat first | (with_reducible apply Row.drew) | (with_reducible apply Row.drewN) | (with_reducible apply Row.set) | (with_reducible exact Row.refl _ _)
        all_goals simp [upd, n1, n2, n3, n4, hs, hz, hx]
      case U => repeat first | exact Up.refl _ _ | refine Up.drew ?_ | refine Up.drewN ?_ _ | refine Up.set ?_ _ _
      case h0 => simp [upd, n1, n2, n3, n4]
      case h1 => simp [upd, n1, n2, n3, n4]
      case h9 => simp [upd, n1, n2, n3, n4]
      case ho =>
        intro o o0 o1 o2
        simp [upd, o0, o1, o2]

def sz (n : Nat) : Int := if n < 16 then n else 8 + (n % 8 : Nat)
/-- block b is a Roll to which the row l was fed -/
structure RollIs (b : Nat) (l : List Int) (w : World) : Prop where
  sum : w.cell? ⟨b, 0, none⟩ = some (.int .u32 (Pl.Roll.sum 0 (Pl.Roll.last8 l)))
  size : w.cell? ⟨b, 9, none⟩ = some (.int .i64 (sz l.length))
  last : ∀ i, i < 8 → ∃ x, 0 ≤ x ∧ x ≤ 255 ∧ w.cell? ⟨b, 1 + i, none⟩ = some (.int .u8 x) ∧ ∀ j, j < l.length → l.length ≤ j + 8 → j % 8 = i → l.getD j 0 = x
  fz : ∀ o, w.frozen? ⟨b, o, none⟩ = false
theorem sum_bd (l : List Int) : 0 ≤ Pl.Roll.sum 0 l ∧ Pl.Roll.sum 0 l < 4294967296 := by
  have := Pl.Roll.sum_mod l 0 (by omega)
  omega
theorem feed_any (b : Nat) (l : List Int) (c : Int) (w : World) (h : RollIs b l w) (c0 : 0 ≤ c) (c1 : c ≤ 255) :
    Calls Try.prog 26 #[.pointer (some ⟨b, 0, none⟩), .int .u8 c] w fun e w' => e = .returned (.tuple #[]) ∧ RollIs b (l ++ [c]) w' ∧ Up b w w' := by
  obtain ⟨h1, h2, h3, h4⟩ := h
  obtain ⟨x, x0, x1, hx, hj⟩ := h3 (l.length % 8) (by omega)
  have hb := sum_bd (Pl.Roll.last8 l)
  have hz0 : 0 ≤ sz l.length := by unfold sz; split <;> omega
  have hz1 : sz l.length < 16 := by unfold sz; split <;> omega
  have hz8 : sz l.length % 8 = ((l.length % 8 : Nat) : Int) := by unfold sz; split <;> omega
  have key : ∀ (s' z' : Int) (w' : World), Fed b (l.length % 8) s' c z' w w' → s' = Pl.Roll.sum 0 (Pl.Roll.last8 (l ++ [c])) → z' = sz (l.length + 1) → RollIs b (l ++ [c]) w' ∧ Up b w w' := by
    intro s' z' w' ⟨hu, f0, fa, f9, fo⟩ hs hz
    refine ⟨⟨by rw [f0, hs], by rw [f9, hz, List.length_append]; rfl, ?_, fun o => by rw [hu.fz]; exact h4 o⟩, hu⟩
    intro i hi
    by_cases e : i = l.length % 8
    · subst e
      refine ⟨c, c0, c1, fa, ?_⟩
      intro j j0 j1 j2
      have : j = l.length := by simp at j0 j1; omega
      subst this
      simp [List.getD_eq_getElem?_getD]
    · obtain ⟨y, y0, y1, hy, hyj⟩ := h3 i hi
      refine ⟨y, y0, y1, by rw [fo _ (by omega) (by omega) (by omega)]; exact hy, ?_⟩
      intro j j0 j1 j2
      have j3 : j < l.length := by
        simp at j0
        rcases Nat.lt_or_ge j l.length with hlt | hge
        · exact hlt
        · exfalso; apply e; rw [← j2]; congr 1; omega
      have := hyj j j3 (by simp at j1; omega) j2
      rw [← this]
      rw [List.getD_eq_getElem?_getD, List.getD_eq_getElem?_getD, List.getElem?_append_left j3]
  have hl8 := Pl.Roll.sum_last8 l c
  by_cases g8 : l.length < 8
  · have z8 : sz l.length < 8 := by unfold sz; rw [if_pos (by omega)]; omega
    refine (feed_few b (l.length % 8) _ _ c x w h1 h2 hx h4 hb.1 hb.2 hz0 hz1 c0 c1 x0 x1 (by omega) hz8 z8).mono ?_
    rintro e w' ⟨rfl, hf⟩
    refine ⟨rfl, key _ _ w' hf (by rw [hl8, if_pos g8]) ?_⟩
    unfold sz; rw [if_pos (by omega), if_pos (by omega)]; omega
  · have z8 : 8 ≤ sz l.length := by unfold sz; split <;> omega
    have hx2 : l.getD (l.length - 8) 0 = x := hj (l.length - 8) (by omega) (by omega) (by omega)
    rw [if_neg g8, hx2] at hl8
    by_cases g15 : sz l.length < 15
    · refine (feed_more b (l.length % 8) _ _ c x w h1 h2 hx h4 hb.1 hb.2 hz0 hz1 c0 c1 x0 x1 (by omega) hz8 z8 g15).mono ?_
      rintro e w' ⟨rfl, hf⟩
      refine ⟨rfl, key _ _ w' hf (by rw [hl8]) ?_⟩
      unfold sz at g15 ⊢; (repeat' split) <;> (repeat' split at g15) <;> omega
    · refine (feed_turn b (l.length % 8) _ _ c x w h1 h2 hx h4 hb.1 hb.2 hz0 hz1 c0 c1 x0 x1 (by omega) hz8 (by omega)).mono ?_
      rintro e w' ⟨rfl, hf⟩
      refine ⟨rfl, key _ _ w' hf (by rw [hl8]) ?_⟩
      unfold sz at g15 ⊢; (repeat' split) <;> (repeat' split at g15) <;> omega
theorem rollSum_any (b : Nat) (l : List Int) (w : World) (h : RollIs b l w) :
    Calls Try.prog 27 #[.pointer (some ⟨b, 0, none⟩)] w fun e w' => e = .returned (.int .u32 (Pl.Roll.sum 0 (Pl.Roll.last8 l))) ∧ w = w' := by
  have h1 := h.sum
  go_enter Try.func27, Try.ntmps27
  go_wp2
  go_ret
  exact ⟨rfl, rfl⟩
/-- a new Roll -/
theorem RollIs.new (w : World) :
    RollIs w.heap.size [] (w.alloc (.cells #[.int .u32 0, .int .u8 0, .int .u8 0, .int .u8 0, .int .u8 0, .int .u8 0, .int .u8 0, .int .u8 0, .int .u8 0, .int .i64 0] 51)) := by
  refine ⟨by go_simp; rfl, by go_simp; rfl, ?_, fun o => by go_simp⟩
  intro i hi
  refine ⟨0, by omega, by omega, ?_, fun j h => by simp at h⟩
  have : i = 0 ∨ i = 1 ∨ i = 2 ∨ i = 3 ∨ i = 4 ∨ i = 5 ∨ i = 6 ∨ i = 7 := by omega
  rcases this with rfl | rfl | rfl | rfl | rfl | rfl | rfl | rfl <;> go_simp
end Go.Proofs.Ytfnjcobgbdioeaa.WalkRoll
