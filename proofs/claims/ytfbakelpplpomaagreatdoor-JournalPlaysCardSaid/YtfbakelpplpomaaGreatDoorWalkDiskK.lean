/-
  The walks of New; of the methods over no disk, and over one that no call made.
-/
import Derived.Test.YtfbakelpplpomaaGreatDoorWalkDiskJ
namespace Go.Proofs.YtfbakelpplpomaaGreatDoor.Disk
open Go.RowKit Go.Proofs.YtfbakelpplpomaaGreatDoor.DiskRows
set_option linter.unusedVariables false
set_option linter.unusedSimpArgs false
set_option maxRecDepth 100000

theorem DiskAt.base {base base0 : Nat → Prop} {b : Nat} {d : Dk} {w : World} (h : DiskAt base b d w) (hb : ∀ k, base0 k → base k) : DiskAt base0 b d w := by
  obtain ⟨gS, cS, gH, cH, vC, h⟩ := h
  have hn : ∀ k, Nf base k → Nf base0 k := fun k hk q => hk (hb k q)
  exact ⟨gS, cS, gH, cH, vC, { h with sep := ⟨hn _ h.sep.1, hn _ h.sep.2.1, hn _ h.sep.2.2.1, h.sep.2.2.2⟩, nfC := fun k hk => hn _ (h.nfC k hk) }⟩
/-- a sector of noughts -/
def Z : ByteArray := bs (zeros 128)
theorem Z_size : Z.size = 128 := by unfold Z; rw [bs_size]; simp [zeros]
/-- a disk of noughts -/
def fresh (n : Nat) : Dk := ⟨List.replicate n Z, List.replicate n Z, [], 0, false, 0⟩
theorem new_bad (n : Int) (w : World) (hn : n < 16 ∨ 4096 < n) :
    Calls Tryz.prog 7 #[.int .i64 n] w fun x w' => x = .returned (.tuple #[.pointer none, .int .i64 2]) ∧ w = w' := by
  by_cases h : n < 16
  · clear hn
    go_enter Tryz.func7, Tryz.ntmps7
    go_wp2
    go_ret2
    exact ⟨rfl, rfl⟩
  · have h2 : 4096 < n := by omega
    have h3 : 16 ≤ n := by omega
    clear hn h
    go_enter Tryz.func7, Tryz.ntmps7
    go_wp2
    go_ret2
    exact ⟨rfl, rfl⟩
theorem new_ok (n : Nat) (w : World) (hn : 16 ≤ n) (hn2 : n ≤ 4096) :
    Calls Tryz.prog 7 #[.int .i64 n] w fun x w' => (∃ b, x = .returned (.tuple #[.pointer (some ⟨b, 0, none⟩), .int .i64 0]) ∧ DiskAt (lo w.heap.size) b (fresh n) w') ∧ Below w.heap.size w w' := by
  have hz := nought_any w
  have HZ := Lib.hid hz
  have hi1 : (16 : Int) ≤ (n : Int) := by omega
  have hi2 : (n : Int) ≤ 4096 := by omega
  have hmay : mayP (List.replicate n Z) [] := ⟨by simpa using hn, by simpa using hn2, by simp, fun s hs => by rw [List.eq_of_mem_replicate hs]; exact Z_size, fun x hx => by cases hx⟩
  have HM := Lib.hid hmay
  clear hz hmay
  go_enter Tryz.func7, Tryz.ntmps7
  go_wp2_with fail
  refine HZ.out.mono ?_
  rintro x w1 ⟨rfl, b1⟩
  rw [show bs (zeros 128) = Z from rfl]
  have HB := Lib.hid b1
  clear b1 HZ
  go_wp2_with fail
  have k1 := Joins.below_alloc1 w1 (.cells #[.string Z] 9)
  have ht : Txs (w1.alloc (.cells #[.string Z] 9)) (some ⟨w1.heap.size, 0, none⟩) [Z] :=
    .inr ⟨w1.heap.size, 0, rfl, by simp, fun i hi => by
      have : i = 0 := by simpa using hi
      subst this
      exact (cell_of_row _ _ 0 _ _ _ (heap_alloc_last _ _)).trans rfl⟩
  have HT := Lib.hid (And.intro ht k1)
  clear ht k1
  refine (repeat1_any (some ⟨w1.heap.size, 0, none⟩) 1 n Z _ HT.out.1 hn hn2).mono ?_
  rintro x w2 ⟨⟨g, cap, rfl, r2, hg⟩, b2⟩
  have H2 := Lib.hid (And.intro r2 b2)
  clear r2 b2 hg
  go_wp2_with fail
  have hl := load_ok (some ⟨g, 0, none⟩) none cap 0 (List.replicate n Z) [] w2 H2.out.1.txs (.inl rfl) (by simp; omega) (by simp) HM.out
  rw [List.length_replicate] at hl
  refine hl.mono ?_
  rintro x w3 ⟨⟨b, rfl, hd⟩, b3⟩
  have hw2 : w.heap.size ≤ w2.heap.size := Nat.le_trans HB.out.size (Nat.le_trans HT.out.2.size H2.out.2.size)
  go_wp2
  go_ret2
  refine ⟨⟨b, rfl, ?_⟩, HB.out.trans ((HT.out.2.mono HB.out.size).trans ((H2.out.2.mono (Nat.le_trans HB.out.size HT.out.2.size)).trans (b3.mono hw2)))⟩
  exact hd.base (fun k hk => Nat.lt_of_lt_of_le hk hw2)

/-- a disk that no call made -/
def NoDisk (w : World) (p : Option Addr) : Prop := p = none ∨ ∃ b, p = some ⟨b, 0, none⟩ ∧ w.heap[b]? = some (.cells #[.slice none 0 0, .slice none 0 0, .slice none 0 0, .int .i64 0, .bool false, .int .i64 0] 84)
theorem NoDisk.later {w w' : World} {p : Option Addr} (h : NoDisk w p) (k : Below w.heap.size w w') : NoDisk w' p := by
  rcases h with rfl | ⟨b, rfl, hb⟩
  · exact .inl rfl
  · exact .inr ⟨b, rfl, by rw [k.block b (Array.getElem?_eq_some_iff.1 hb).1]; exact hb⟩
theorem ready_no (p : Option Addr) (w : World) (h : NoDisk w p) : Calls Tryz.prog 42 #[.pointer p] w fun x w' => x = .returned (.int .i64 1) ∧ w = w' := by
  rcases h with rfl | ⟨b, rfl, hb⟩
  · exact ready_nil w
  · exact ready_zero b w (by rw [cell_of_row w b 0 _ _ _ hb]; rfl)
theorem write_no (i : Int) (s : ByteArray) (p : Option Addr) (w : World) (h : NoDisk w p) : Calls Tryz.prog 38 #[.pointer p, .int .i64 i, .string s] w fun x w' => x = .returned (.int .i64 1) ∧ w = w' := by
  have HR := Lib.hid (ready_no p w h)
  clear h
  go_enter Tryz.func38, Tryz.ntmps38
  go_wp2_with fail
  refine HR.out.mono ?_
  rintro x w1 ⟨rfl, rfl⟩
  go_wp2
  go_ret
  exact ⟨rfl, rfl⟩
theorem flush_no (p : Option Addr) (w : World) (h : NoDisk w p) : Calls Tryz.prog 41 #[.pointer p] w fun x w' => x = .returned (.int .i64 1) ∧ w = w' := by
  have HR := Lib.hid (ready_no p w h)
  clear h
  go_enter Tryz.func41, Tryz.ntmps41
  go_wp2_with fail
  refine HR.out.mono ?_
  rintro x w1 ⟨rfl, rfl⟩
  go_wp2
  go_ret
  exact ⟨rfl, rfl⟩
theorem arm_no (n : Int) (p : Option Addr) (w : World) (h : NoDisk w p) : Calls Tryz.prog 14 #[.pointer p, .int .i64 n] w fun x w' => x = .returned (.int .i64 1) ∧ w = w' := by
  have HR := Lib.hid (ready_no p w h)
  clear h
  go_enter Tryz.func14, Tryz.ntmps14
  go_wp2_with fail
  refine HR.out.mono ?_
  rintro x w1 ⟨rfl, rfl⟩
  go_wp2
  go_ret
  exact ⟨rfl, rfl⟩
theorem crash_no (A : Option Addr) (n c : Nat) (p : Option Addr) (w : World) (h : NoDisk w p) : Calls Tryz.prog 15 #[.pointer p, .slice A n c] w fun x w' => x = .returned (.int .i64 1) ∧ w = w' := by
  have HR := Lib.hid (ready_no p w h)
  clear h
  go_enter Tryz.func15, Tryz.ntmps15
  go_wp2_with fail
  refine HR.out.mono ?_
  rintro x w1 ⟨rfl, rfl⟩
  go_wp2
  go_ret
  exact ⟨rfl, rfl⟩
theorem boot_no (p : Option Addr) (w : World) (h : NoDisk w p) : Calls Tryz.prog 16 #[.pointer p] w fun x w' => x = .returned (.int .i64 1) ∧ w = w' := by
  have HR := Lib.hid (ready_no p w h)
  clear h
  go_enter Tryz.func16, Tryz.ntmps16
  go_wp2_with fail
  refine HR.out.mono ?_
  rintro x w1 ⟨rfl, rfl⟩
  go_wp2
  go_ret
  exact ⟨rfl, rfl⟩
theorem over_no (i : Int) (s : ByteArray) (p : Option Addr) (w : World) (h : NoDisk w p) : Calls Tryz.prog 11 #[.pointer p, .int .i64 i, .string s] w fun x w' => x = .returned (.int .i64 1) ∧ w = w' := by
  have HR := Lib.hid (ready_no p w h)
  clear h
  go_enter Tryz.func11, Tryz.ntmps11
  go_wp2_with fail
  refine HR.out.mono ?_
  rintro x w1 ⟨rfl, rfl⟩
  go_wp2
  go_ret
  exact ⟨rfl, rfl⟩
theorem read_no (i : Int) (p : Option Addr) (w : World) (h : NoDisk w p) : Calls Tryz.prog 33 #[.pointer p, .int .i64 i] w fun x w' => x = .returned (.tuple #[.string ByteArray.empty, .int .i64 1]) ∧ w = w' := by
  have HR := Lib.hid (ready_no p w h)
  clear h
  go_enter Tryz.func33, Tryz.ntmps33
  go_wp2_with fail
  refine HR.out.mono ?_
  rintro x w1 ⟨rfl, rfl⟩
  go_wp2
  go_ret2
  exact ⟨rfl, rfl⟩
theorem size_no (p : Option Addr) (w : World) (h : NoDisk w p) : Calls Tryz.prog 30 #[.pointer p] w fun x w' => x = .returned (.int .i64 0) ∧ w = w' := by
  rcases h with rfl | ⟨b, rfl, hb⟩
  · go_enter Tryz.func30, Tryz.ntmps30
    go_wp2
    go_ret
    exact ⟨rfl, rfl⟩
  · have c0 := cell_of_row w b 0 _ _ _ hb
    simp at c0
    clear hb
    go_enter Tryz.func30, Tryz.ntmps30
    go_wp2
    go_ret
    exact ⟨rfl, rfl⟩
theorem ops_no (p : Option Addr) (w : World) (h : NoDisk w p) : Calls Tryz.prog 24 #[.pointer p] w fun x w' => x = .returned (.int .i64 0) ∧ w = w' := by
  rcases h with rfl | ⟨b, rfl, hb⟩
  · go_enter Tryz.func24, Tryz.ntmps24
    go_wp2
    go_ret
    exact ⟨rfl, rfl⟩
  · have c0 := cell_of_row w b 5 _ _ _ hb
    simp at c0
    clear hb
    go_enter Tryz.func24, Tryz.ntmps24
    go_wp2
    go_ret
    exact ⟨rfl, rfl⟩
theorem cloneW_nil (c : Nat) (w : World) :
    Calls Tryz.prog 48 #[.slice none 0 c] w fun e w' => e = .returned (.slice none 0 0) ∧ w = w' := by
  have heq := eqlW
  go_enter Tryz.func48, Tryz.ntmps48
  go_wp2
  go_ret
  exact ⟨rfl, rfl⟩
set_option maxHeartbeats 1600000 in
theorem seize_no (p : Option Addr) (w : World) (h : NoDisk w p) : Calls Tryz.prog 19 #[.pointer p] w fun x w' => x = .returned (.agg #[.slice none 0 0, .slice none 0 0]) ∧ Below w.heap.size w w' := by
  have ka := Joins.below_alloc1 w (.cells #[.slice none 0 0, .slice none 0 0] 51)
  have t1 : (w.alloc (.cells #[.slice none 0 0, .slice none 0 0] 51)).cell? ⟨w.heap.size, 0, none⟩ = some (.slice none 0 0) := (cell_of_row _ _ 0 _ _ _ (heap_alloc_last _ _)).trans rfl
  have t2 : (w.alloc (.cells #[.slice none 0 0, .slice none 0 0] 51)).cell? ⟨w.heap.size, 1, none⟩ = some (.slice none 0 0) := (cell_of_row _ _ 1 _ _ _ (heap_alloc_last _ _)).trans rfl
  rcases h with rfl | ⟨b, rfl, hb⟩
  · go_enter Tryz.func19, Tryz.ntmps19
    go_wp2
    (try simp only [Exit.inBlock, Exit.then])
    refine bodyPost_ret (v := .agg #[.slice none 0 0, .slice none 0 0]) (by simp [results, Tryz.results19, go_sem, t1, t2]) rfl ?_
    exact ⟨rfl, ka⟩
  · have hlt := (Array.getElem?_eq_some_iff.1 hb).1
    have c0 := (ka.cell (p := ⟨b, 0, none⟩) hlt).trans (cell_of_row w b 0 _ _ _ hb)
    have c1 := (ka.cell (p := ⟨b, 1, none⟩) hlt).trans (cell_of_row w b 1 _ _ _ hb)
    simp at c0 c1
    clear hb
    go_enter Tryz.func19, Tryz.ntmps19
    go_upto_region 3 with fail
    have f1 : ∀ i, (w.alloc (.cells #[.slice none 0 0, .slice none 0 0] 51)).drew.frozen? ⟨w.heap.size, i, none⟩ = false := fun i => frozen_of_row _ _ i _ _ (heap_alloc_last _ _)
    have f2 := f1 0
    have f3 := f1 1
    have HB := Lib.hid ka
    clear f1 ka
    go_region_with (first
      | (go_at_call 47; go_must (refine (cloneT_nil 0 _).mono ?_; rintro e w2 ⟨rfl, rfl⟩))
      | (go_at_call 48; go_must (refine (cloneW_nil 0 _).mono ?_; rintro e w3 ⟨rfl, rfl⟩)))
    all_goals
      go_wp2
      (try simp only [Exit.inBlock, Exit.then])
      refine bodyPost_ret (v := .agg #[.slice none 0 0, .slice none 0 0]) (by simp [results, Tryz.results19, go_sem, t1, t2]) rfl ?_
      exact ⟨rfl, HB.out.drew⟩
end Go.Proofs.YtfbakelpplpomaaGreatDoor.Disk
