/-
  The walks of the areas: Check, Half, First, Place.
-/
import Derived.Test.YtfbakelpplpomaaGreatDoorWalkDiskK
import Derived.BigQuiet
namespace Go.Proofs.YtfbakelpplpomaaGreatDoor.Disk
open Go.RowKit Go.Proofs.YtfbakelpplpomaaGreatDoor.DiskRows
set_option linter.unusedVariables false
set_option linter.unusedSimpArgs false
set_option maxRecDepth 100000

/-- how many sectors each half has -/
def halfV (n : Nat) : Nat := (n - 2) / 2
/-- the first sector of a half -/
def firstV (n half : Nat) : Nat := if half = 1 then 2 + halfV n else 2
/-- the sector of a record -/
def placeV (n half seq : Nat) : Nat := firstV n half + halfV n - 1 - seq
theorem areaCheck_ok (n : Nat) (w : World) (h : 16 ≤ n ∧ n ≤ 4096) :
    Calls Tryz.prog 58 #[.int .i64 n] w fun x w' => x = .returned (.int .i64 0) ∧ w = w' := by
  have h1 : (16 : Int) ≤ (n : Int) := by omega
  have h2 : (n : Int) ≤ 4096 := by omega
  clear h
  go_enter Tryz.func58, Tryz.ntmps58
  go_wp2
  go_ret
  exact ⟨rfl, rfl⟩
theorem areaCheck_no (w : World) :
    Calls Tryz.prog 58 #[.int .i64 0] w fun x w' => x = .returned (.int .i64 2) ∧ w = w' := by
  go_enter Tryz.func58, Tryz.ntmps58
  go_wp2
  go_ret
  exact ⟨rfl, rfl⟩
theorem half_ok (n v : Nat) (w : World) (h : 16 ≤ n ∧ n ≤ 4096) (hv : halfV n = v) :
    Calls Tryz.prog 31 #[.int .i64 n] w fun x w' => x = .returned (.int .i64 (v : Nat)) ∧ w = w' := by
  have HC := Lib.hid (areaCheck_ok n w h)
  have h1 : (16 : Int) ≤ (n : Int) := by omega
  have h2 : (n : Int) ≤ 4096 := by omega
  have hw1 : IntKind.i64.wrap ((n : Int) - 2) = (n : Int) - 2 := by rw [IntKind.wrap_i64]; omega
  have hq : Int.tdiv ((n : Int) - 2) 2 = (v : Int) := by
    rw [Int.tdiv_eq_ediv_of_nonneg (by omega)]
    unfold halfV at hv
    omega
  have hvb : (v : Int) ≤ 4096 := by unfold halfV at hv; omega
  clear h hv
  go_enter Tryz.func31, Tryz.ntmps31
  go_wp2_with fail
  refine HC.out.mono ?_
  rintro x w1 ⟨rfl, rfl⟩
  go_wp2
  go_ret
  exact ⟨rfl, rfl⟩
theorem first_ok (n half f : Nat) (w : World) (h : 16 ≤ n ∧ n ≤ 4096) (hh : half ≤ 1) (hf : firstV n half = f) :
    Calls Tryz.prog 59 #[.int .i64 n, .int .i64 half] w fun x w' => x = .returned (.int .i64 (f : Nat)) ∧ w = w' := by
  obtain ⟨v, hv⟩ : ∃ v, halfV n = v := ⟨_, rfl⟩
  have HC := Lib.hid (half_ok n v w h hv)
  have hvb : v ≤ 4096 := by rw [← hv]; unfold halfV; omega
  have hvi : (v : Int) ≤ 4096 := by omega
  unfold firstV at hf
  rw [hv] at hf
  clear h hv hvb
  have hc : half = 0 ∨ half = 1 := by omega
  rcases hc with rfl | rfl
  · rw [if_neg (by decide)] at hf
    subst hf
    go_enter Tryz.func59, Tryz.ntmps59
    go_wp2
    go_ret
    exact ⟨rfl, rfl⟩
  · rw [if_pos rfl] at hf
    have hfi : (2 : Int) + (v : Int) = (f : Int) := by omega
    have hw1 : IntKind.i64.wrap ((2 : Int) + (v : Int)) = (f : Int) := by rw [hfi, IntKind.wrap_i64]; omega
    clear hf
    go_enter Tryz.func59, Tryz.ntmps59
    go_wp2_with fail
    refine HC.out.mono ?_
    rintro x w1 ⟨rfl, rfl⟩
    go_wp2
    go_ret
    exact ⟨rfl, rfl⟩
theorem place_ok (n half seq p : Nat) (w : World) (h : 16 ≤ n ∧ n ≤ 4096) (hh : half ≤ 1) (hs : seq < halfV n) (hp : placeV n half seq = p) :
    Calls Tryz.prog 32 #[.int .i64 n, .int .i64 half, .int .i64 seq] w fun x w' => x = .returned (.tuple #[.int .i64 (p : Nat), .int .i64 0]) ∧ w = w' := by
  obtain ⟨v, hv⟩ : ∃ v, halfV n = v := ⟨_, rfl⟩
  obtain ⟨f, hf⟩ : ∃ f, firstV n half = f := ⟨_, rfl⟩
  have HH := Lib.hid (fun W => half_ok n v W h hv)
  have HF := Lib.hid (fun W => first_ok n half f W h hh hf)
  have hvb : v ≤ 4096 := by rw [← hv]; unfold halfV; omega
  have hfb : f ≤ 4200 ∧ 2 ≤ f := by rw [← hf]; unfold firstV; rw [hv]; split <;> omega
  unfold placeV at hp
  rw [hv] at hs
  rw [hv, hf] at hp
  have e1 : (f : Int) + (v : Int) - 1 - (seq : Int) = (p : Int) := by omega
  have h2 : (seq : Int) < (v : Int) := by omega
  have h3 : (v : Int) ≤ 4096 := by omega
  have h4 : (f : Int) ≤ 4200 := by omega
  have hw1 : IntKind.i64.wrap ((f : Int) + (v : Int)) = (f : Int) + (v : Int) := by rw [IntKind.wrap_i64]; omega
  have hw2 : IntKind.i64.wrap ((f : Int) + (v : Int) - 1) = (f : Int) + (v : Int) - 1 := by rw [IntKind.wrap_i64]; omega
  have hw3 : IntKind.i64.wrap ((f : Int) + (v : Int) - 1 - (seq : Int)) = (p : Int) := by rw [e1, IntKind.wrap_i64]; omega
  have HE := Lib.hid e1
  clear h hh hs hp hv hf hvb hfb e1
  go_enter Tryz.func32, Tryz.ntmps32
  go_wp2_with fail
  refine (HH.out _).mono ?_
  rintro x w1 ⟨rfl, rfl⟩
  go_wp2_with fail
  refine (HF.out _).mono ?_
  rintro x w1 ⟨rfl, rfl⟩
  go_wp2_with fail
  refine (HH.out _).mono ?_
  rintro x w1 ⟨rfl, rfl⟩
  go_wp2
  go_ret2
  exact ⟨rfl, rfl⟩
theorem place_no (n half seq : Nat) (w : World) (h : 16 ≤ n ∧ n ≤ 4096) (hs : halfV n ≤ seq) (hb : seq ≤ 1000000) :
    Calls Tryz.prog 32 #[.int .i64 n, .int .i64 half, .int .i64 seq] w fun x w' => x = .returned (.tuple #[.int .i64 0, .int .i64 8]) ∧ w = w' := by
  obtain ⟨v, hv⟩ : ∃ v, halfV n = v := ⟨_, rfl⟩
  have HH := Lib.hid (fun W => half_ok n v W h hv)
  rw [hv] at hs
  have h2 : (v : Int) ≤ (seq : Int) := by omega
  clear h hs hv hb
  go_enter Tryz.func32, Tryz.ntmps32
  go_wp2_with fail
  refine (HH.out _).mono ?_
  rintro x w1 ⟨rfl, rfl⟩
  go_wp2
  go_ret2
  exact ⟨rfl, rfl⟩
end Go.Proofs.YtfbakelpplpomaaGreatDoor.Disk
/-
  A journal; the walks of At and Count.
-/
namespace Go.Proofs.YtfbakelpplpomaaGreatDoor.Disk
open Go.RowKit Go.Proofs.YtfbakelpplpomaaGreatDoor.DiskRows
set_option linter.unusedVariables false
set_option linter.unusedSimpArgs false
set_option maxRecDepth 100000

/-- a journal's cells -/
structure JnAt (bj b : Nat) (half : Nat) (epoch : Nat) (count : Nat) (w : World) : Prop where
  box : w.heap[bj]? = some (.cells #[.pointer (some ⟨b, 0, none⟩), .int .i64 (half : Nat), .int .i64 (epoch : Nat), .int .i64 (count : Nat)] 71 (0, 0))
theorem JnAt.cells {bj b half epoch count : Nat} {w : World} (h : JnAt bj b half epoch count w) :
    (w.cell? ⟨bj, 0, none⟩ = some (.pointer (some ⟨b, 0, none⟩)) ∧ w.cell? ⟨bj, 1, none⟩ = some (.int .i64 (half : Nat)) ∧ w.cell? ⟨bj, 2, none⟩ = some (.int .i64 (epoch : Nat)) ∧ w.cell? ⟨bj, 3, none⟩ = some (.int .i64 (count : Nat))) ∧ ∀ i, w.frozen? ⟨bj, i, none⟩ = false :=
  ⟨⟨(cell_of_row w _ 0 _ _ _ h.box).trans rfl, (cell_of_row w _ 1 _ _ _ h.box).trans rfl, (cell_of_row w _ 2 _ _ _ h.box).trans rfl, (cell_of_row w _ 3 _ _ _ h.box).trans rfl⟩, fun i => frozen_of_row w _ i _ _ h.box⟩
theorem JnAt.lt {bj b half epoch count : Nat} {w : World} (h : JnAt bj b half epoch count w) : bj < w.heap.size := (Array.getElem?_eq_some_iff.1 h.box).1
theorem JnAt.later {bj b half epoch count : Nat} {w w' : World} (h : JnAt bj b half epoch count w) (k : Below w.heap.size w w') : JnAt bj b half epoch count w' := ⟨by rw [k.block _ h.lt]; exact h.box⟩
theorem JnAt.kp {bj b half epoch count : Nat} {w w' : World} {F : Nat → Prop} (h : JnAt bj b half epoch count w) (k : Kp F w w') (hF : F bj) : JnAt bj b half epoch count w' := ⟨by rw [k.block _ h.lt hF]; exact h.box⟩
theorem JnAt.put {bj b half epoch count : Nat} {w : World} (h : JnAt bj b half epoch count w) (c : Nat) : JnAt bj b half epoch c (w.setCell ⟨bj, 3, none⟩ (.int .i64 (c : Nat))) := ⟨by rw [Joins.block_setCell (i := 3) h.box]; rfl⟩
theorem count_any (bj b half epoch count : Nat) (w : World) (h : JnAt bj b half epoch count w) :
    Calls Tryz.prog 22 #[.pointer (some ⟨bj, 0, none⟩)] w fun x w' => x = .returned (.int .i64 (count : Nat)) ∧ w = w' := by
  obtain ⟨⟨x0, x1, x2, x3⟩, f⟩ := h.cells
  clear h f
  go_enter Tryz.func22, Tryz.ntmps22
  go_wp2
  go_ret
  exact ⟨rfl, rfl⟩
/-- may there be such a journal? -/
def atOk (n : Nat) (half epoch count : Int) : Prop := 0 ≤ half ∧ half ≤ 1 ∧ 1 ≤ epoch ∧ epoch ≤ 4294967295 ∧ 0 ≤ count ∧ count ≤ (halfV n : Int)
theorem at_ok (F : Nat → Prop) (b : Nat) (d : Dk) (half epoch count : Nat) (w : World) (hD : DiskAt F b d w) (h1 : half ≤ 1) (h2 : 1 ≤ epoch) (h3 : epoch ≤ 4294967295) (h4 : count ≤ halfV d.S.length) :
    Calls Tryz.prog 29 #[.pointer (some ⟨b, 0, none⟩), .int .i64 half, .int .i64 epoch, .int .i64 count] w fun x w' => x = .returned (.tuple #[.pointer (some ⟨w.heap.size, 0, none⟩), .int .i64 0]) ∧ JnAt w.heap.size b half epoch count w' ∧ w'.heap.size = w.heap.size + 1 ∧ Below w.heap.size w w' := by
  have hsz := size_any F b d w hD
  obtain ⟨n, hn⟩ : ∃ n, d.S.length = n := ⟨_, rfl⟩
  have hn16 : 16 ≤ n ∧ n ≤ 4096 := by
    obtain ⟨gS, cS, gH, cH, vC, h⟩ := hD
    exact ⟨hn ▸ h.pos, hn ▸ h.most⟩
  rw [hn] at hsz h4
  obtain ⟨v, hv⟩ : ∃ v, halfV n = v := ⟨_, rfl⟩
  rw [hv] at h4
  have HS := Lib.hid hsz
  have HC := Lib.hid (fun W => areaCheck_ok n W hn16)
  have HH := Lib.hid (fun W => half_ok n v W hn16 hv)
  have g1 : (half : Int) ≤ 1 := by omega
  have g2 : 1 ≤ (epoch : Int) := by omega
  have g3 : (epoch : Int) ≤ 4294967295 := by omega
  have g4 : (count : Int) ≤ (v : Int) := by omega
  clear hsz hn hn16 hv h1 h2 h3 h4 hD
  go_enter Tryz.func29, Tryz.ntmps29
  go_wp2_with fail
  refine HS.out.mono ?_
  rintro x w1 ⟨rfl, rfl⟩
  go_wp2_with fail
  refine (HC.out _).mono ?_
  rintro x w1 ⟨rfl, rfl⟩
  go_wp2_with fail
  refine (HH.out _).mono ?_
  rintro x w1 ⟨rfl, rfl⟩
  go_wp2
  go_ret2
  exact ⟨rfl, ⟨heap_alloc_last _ _⟩, by simp, Joins.below_alloc1 _ _⟩
theorem at_no (p : Option Addr) (half epoch count : Int) (w : World) (h : NoDisk w p) :
    Calls Tryz.prog 29 #[.pointer p, .int .i64 half, .int .i64 epoch, .int .i64 count] w fun x w' => x = .returned (.tuple #[.pointer none, .int .i64 1]) ∧ Below w.heap.size w w' := by
  have HS := Lib.hid (size_no p w h)
  have HC := Lib.hid (fun W => areaCheck_no W)
  clear h
  go_enter Tryz.func29, Tryz.ntmps29
  go_wp2_with fail
  refine HS.out.mono ?_
  rintro x w1 ⟨rfl, rfl⟩
  go_wp2_with fail
  refine (HC.out _).mono ?_
  rintro x w1 ⟨rfl, rfl⟩
  go_wp2
  go_ret2
  exact ⟨rfl, Below.refl _ _⟩
theorem jopen_no (p : Option Addr) (half epoch : Int) (w : World) (h : NoDisk w p) :
    Calls Tryz.prog 8 #[.pointer p, .int .i64 half, .int .i64 epoch] w fun x w' => x = .returned (.tuple #[.pointer none, .slice none 0 0, .int .i64 1]) ∧ Below w.heap.size w w' := by
  have HA := Lib.hid (at_no p half epoch 0 w h)
  clear h
  go_enter Tryz.func8, Tryz.ntmps8
  go_wp2_with fail
  refine HA.out.mono ?_
  rintro x w1 ⟨rfl, k1⟩
  go_wp2
  go_ret3
  exact ⟨rfl, k1⟩
/-- a journal that no call made -/
def NoJn (w : World) (p : Option Addr) : Prop := p = none ∨ ∃ bj, p = some ⟨bj, 0, none⟩ ∧ w.heap[bj]? = some (.cells #[.pointer none, .int .i64 0, .int .i64 0, .int .i64 0] 71 (0, 0))
theorem NoJn.later {w w' : World} {p : Option Addr} (h : NoJn w p) (k : Below w.heap.size w w') : NoJn w' p := by
  rcases h with rfl | ⟨bl, rfl, h⟩
  · exact .inl rfl
  · exact .inr ⟨bl, rfl, by rw [k.block bl (Array.getElem?_eq_some_iff.1 h).1]; exact h⟩
theorem count_no (p : Option Addr) (w : World) (h : NoJn w p) : Calls Tryz.prog 22 #[.pointer p] w fun x w' => x = .returned (.int .i64 0) ∧ Below w.heap.size w w' := by
  rcases h with rfl | ⟨bl, rfl, h⟩
  · go_enter Tryz.func22, Tryz.ntmps22
    go_wp2
    go_ret
    exact ⟨rfl, Below.refl _ _⟩
  · have x3 := (cell_of_row w _ 3 _ _ _ h).trans rfl
    clear h
    go_enter Tryz.func22, Tryz.ntmps22
    go_wp2
    go_ret
    exact ⟨rfl, Below.refl _ _⟩
theorem append_no (p : Option Addr) (e q k : Int) (N O M : ByteArray) (t u : Int) (w : World) (h : NoJn w p) : Calls Tryz.prog 9 #[.pointer p, .agg #[.int .i64 e, .int .i64 q, .int .i64 k, .string N, .string O, .string M, .int .i64 t, .int .i64 u]] w fun x w' => x = .returned (.int .i64 1) ∧ Below w.heap.size w w' := by
  have b1 : Below w.heap.size w ((w.alloc (.cells #[.pointer p] 33)).alloc (.cells #[.int .i64 e, .int .i64 q, .int .i64 k, .string N, .string O, .string M, .int .i64 t, .int .i64 u] 24)) := ((Below.refl _ w).alloc (Nat.le_refl _) _).alloc (by simp) _
  rcases h with rfl | ⟨bl, rfl, h⟩
  · go_enter Tryz.func9, Tryz.ntmps9
    go_wp2
    go_ret
    exact ⟨rfl, b1⟩
  · have hl := (Array.getElem?_eq_some_iff.1 h).1
    have x0 : ∀ o1, (w.alloc o1).cell? ⟨bl, 0, none⟩ = some (.pointer none) := fun o1 => ((Joins.below_alloc1 w o1).cell (p := ⟨bl, 0, none⟩) hl).trans ((cell_of_row w _ 0 _ _ _ h).trans rfl)
    have y0 : ∀ o1 o2, ((w.alloc o1).alloc o2).cell? ⟨bl, 0, none⟩ = some (.pointer none) := fun o1 o2 => ((Joins.below_alloc1 (w.alloc o1) o2).cell (p := ⟨bl, 0, none⟩) (by simp; omega)).trans (x0 o1)
    clear h
    go_enter Tryz.func9, Tryz.ntmps9
    go_wp2
    go_ret
    exact ⟨rfl, b1⟩
end Go.Proofs.YtfbakelpplpomaaGreatDoor.Disk
