/-
  The walks of the log's Tail, padded, Writes; of area.Sectors.
-/
import Derived.Test.YtgdedimoblpgbaaDoorWalkDiskK
namespace Go.Proofs.YtgdedimoblpgbaaDoor.Disk
open Go.RowKit Go.Proofs.YtgdedimoblpgbaaDoor.DiskRows
set_option linter.unusedVariables false
set_option linter.unusedSimpArgs false
set_option maxRecDepth 100000

/-- how many sectors so many bytes take -/
def secs (n : Nat) : Nat := (n + 127) / 128
theorem sectors_any (n : Nat) (w : World) (hn : (n : Int) ≤ 1000000000000) (r : Nat) (hr : secs n = r) :
    Calls Tryd.prog 19 #[.int .i64 n] w fun x w' => x = .returned (.int .i64 (r : Nat)) ∧ w = w' := by
  by_cases h : (n : Int) ≤ 0
  · have hn0 : n = 0 := by omega
    subst hn0
    obtain rfl : r = 0 := by rw [← hr]; decide
    go_enter Tryd.func19, Tryd.ntmps19
    go_wp2
    go_ret
    exact ⟨rfl, rfl⟩
  · have h1 : decide ((n : Int) ≤ 0) = false := decide_eq_false h
    have hq : Int.tdiv ((n : Int) - 1) 128 + 1 = (r : Int) := by
      rw [← hr, Int.tdiv_eq_ediv_of_nonneg (by omega)]
      unfold secs
      omega
    have hw1 : IntKind.i64.wrap ((n : Int) - 1) = (n : Int) - 1 := by rw [IntKind.wrap_i64]; omega
    have hd : Int.tdiv ((n : Int) - 1) 128 = (r : Int) - 1 := by omega
    have hr0 : 0 < r := by rw [← hr]; unfold secs; omega
    have hrb : (r : Int) ≤ 1000000000000 := by rw [← hr]; unfold secs; omega
    clear h hr hq hn
    go_enter Tryd.func19, Tryd.ntmps19
    go_wp2
    all_goals first | (go_ret; exact ⟨rfl, rfl⟩) | (exfalso; simp_all; done)
/-- a log's cells -/
structure LogAt (bl b : Nat) (first most : Nat) (t : ByteArray) (w : World) : Prop where
  box : w.heap[bl]? = some (.cells #[.pointer (some ⟨b, 0, none⟩), .int .i64 (first : Nat), .int .i64 (most : Nat), .string t] 26 (0, 0))
theorem LogAt.cells {bl b first most : Nat} {t : ByteArray} {w : World} (h : LogAt bl b first most t w) :
    (w.cell? ⟨bl, 0, none⟩ = some (.pointer (some ⟨b, 0, none⟩)) ∧ w.cell? ⟨bl, 1, none⟩ = some (.int .i64 (first : Nat)) ∧ w.cell? ⟨bl, 2, none⟩ = some (.int .i64 (most : Nat)) ∧ w.cell? ⟨bl, 3, none⟩ = some (.string t)) ∧ ∀ i, w.frozen? ⟨bl, i, none⟩ = false :=
  ⟨⟨(cell_of_row w _ 0 _ _ _ h.box).trans rfl, (cell_of_row w _ 1 _ _ _ h.box).trans rfl, (cell_of_row w _ 2 _ _ _ h.box).trans rfl, (cell_of_row w _ 3 _ _ _ h.box).trans rfl⟩, fun i => frozen_of_row w _ i _ _ h.box⟩
theorem LogAt.lt {bl b first most : Nat} {t : ByteArray} {w : World} (h : LogAt bl b first most t w) : bl < w.heap.size := (Array.getElem?_eq_some_iff.1 h.box).1
theorem LogAt.later {bl b first most : Nat} {t : ByteArray} {w w' : World} (h : LogAt bl b first most t w) (k : Below w.heap.size w w') : LogAt bl b first most t w' := ⟨by rw [k.block _ h.lt]; exact h.box⟩
theorem LogAt.kp {bl b first most : Nat} {t : ByteArray} {w w' : World} {F : Nat → Prop} (h : LogAt bl b first most t w) (k : Kp F w w') (hF : F bl) : LogAt bl b first most t w' := ⟨by rw [k.block _ h.lt hF]; exact h.box⟩
theorem LogAt.put {bl b first most : Nat} {t : ByteArray} {w : World} (h : LogAt bl b first most t w) (u : ByteArray) : LogAt bl b first most u (w.setCell ⟨bl, 3, none⟩ (.string u)) := ⟨by rw [Joins.block_setCell (i := 3) h.box]; rfl⟩
theorem tail_any (bl b first most : Nat) (t : ByteArray) (w : World) (h : LogAt bl b first most t w) :
    Calls Tryd.prog 7 #[.pointer (some ⟨bl, 0, none⟩)] w fun x w' => x = .returned (.int .i64 (t.size : Nat)) ∧ w = w' := by
  obtain ⟨⟨x0, x1, x2, x3⟩, f⟩ := h.cells
  clear h f
  go_enter Tryd.func7, Tryd.ntmps7
  go_wp2
  go_ret
  exact ⟨rfl, rfl⟩
/-- bytes as whole sectors -/
def padV (s : ByteArray) : ByteArray := s ++ bs (zeros (secs s.size * 128 - s.size))
theorem secs_le (n : Nat) : n ≤ secs n * 128 := by unfold secs; omega
theorem secs_lt (n : Nat) : secs n * 128 < n + 128 := by unfold secs; omega
theorem padV_size (s : ByteArray) : (padV s).size = secs s.size * 128 := by
  unfold padV
  rw [ByteArray.size_append, bs_size]
  have := secs_le s.size
  simp [zeros]
  omega
theorem repeat_hid (n : Nat) (w : World) (hn : n ≤ 4096) (r : ByteArray) (hr : bs (zeros n) = r) :
    Calls Tryd.prog 33 #[.string ⟨#[0]⟩, .int .i64 n] w fun e w' => e = .returned (.string r) ∧ Below w.heap.size w w' := by
  subst hr
  exact repeat_any n w hn
theorem padded_any (s r : ByteArray) (w : World) (hs : (s.size : Int) ≤ 1000000) (hr : padV s = r) :
    Calls Tryd.prog 23 #[.string s] w fun e w' => e = .returned (.string r) ∧ Below w.heap.size w w' := by
  obtain ⟨k, hk⟩ : ∃ k, secs s.size = k := ⟨_, rfl⟩
  have h1 := secs_le s.size
  have h2 := secs_lt s.size
  rw [hk] at h1 h2
  have hS := fun W => sectors_any s.size W (by omega) k hk
  obtain ⟨m, hm⟩ : ∃ m, k * 128 - s.size = m := ⟨_, rfl⟩
  have hmi : (k : Int) * 128 - (s.size : Int) = (m : Int) := by omega
  obtain ⟨z, hz⟩ : ∃ z, bs (zeros m) = z := ⟨_, rfl⟩
  have hR := fun W => repeat_hid m W (by omega) z hz
  have hw1 : IntKind.i64.wrap ((k : Int) * 128) = (k : Int) * 128 := by rw [IntKind.wrap_i64]; omega
  have hw2 : IntKind.i64.wrap ((k : Int) * 128 - (s.size : Int)) = (m : Int) := by rw [hmi, IntKind.wrap_i64]; omega
  have hzs : z.size = m := by rw [← hz, bs_size]; simp [zeros]
  have hfit : ¬ (9223372036854775807 < s.size + z.size) := by omega
  have hres : s ++ z = r := by rw [← hr, ← hz]; unfold padV; rw [hk, hm]
  have HS := Lib.hid hS
  have HR := Lib.hid hR
  have HRes := Lib.hid hres
  clear hS hR hres hr hz hk h1 h2 hm hmi hzs
  go_enter Tryd.func23, Tryd.ntmps23
  go_wp2_with fail
  refine (HS.out _).mono ?_
  rintro x w1 ⟨rfl, rfl⟩
  go_wp2_with fail
  refine (HR.out _).mono ?_
  rintro x w1 ⟨rfl, b1⟩
  go_wp2
  go_ret
  exact ⟨by show Ending.returned (Value.string (s ++ z)) = _; rw [HRes.out], b1⟩
end Go.Proofs.YtgdedimoblpgbaaDoor.Disk
