/-
  The walk of pleachref07's Same, where the images are the same.
-/
import Derived.Test.YtmehehiobcpeoaaRefOps3
namespace Go.Proofs.Ytmehehiobcpeoaa.Disk
open Go.RowKit Go.Proofs.Ytmehehiobcpeoaa.DiskRows
set_option linter.unusedVariables false
set_option linter.unusedSimpArgs false
set_option maxRecDepth 100000

theorem txs_at {w : World} {A : Option Addr} {l : List ByteArray} (h : Txs w A l) {k : Nat} (hk : k < l.length) : ∃ g off, A = some ⟨g, off, none⟩ ∧ w.cell? ⟨g, off + k, none⟩ = some (.string (l.getD k ByteArray.empty)) := by
  rcases h with rfl | ⟨g, off, rfl, _, hc⟩
  · simp at hk
  · exact ⟨g, off, rfl, hc k hk⟩
theorem wrs_at {w : World} {A : Option Addr} {C : List (Int × ByteArray)} (h : Wrs w A C) {k : Nat} (hk : k < C.length) : ∃ g off, A = some ⟨g, off, none⟩ ∧ w.cell? ⟨g, off + k * 2, none⟩ = some (.int .i64 (C.getD k (0, ByteArray.empty)).1) ∧ w.cell? ⟨g, off + k * 2 + 1, none⟩ = some (.string (C.getD k (0, ByteArray.empty)).2) := by
  rcases h with rfl | ⟨g, off, rfl, _, hc⟩
  · simp at hk
  · exact ⟨g, off, rfl, hc k hk⟩
set_option maxHeartbeats 3200000 in
theorem same_any (A A' B B' : Option Addr) (c c' k k' : Nat) (l : List ByteArray) (C : List (Int × ByteArray)) (w : World) (h1 : Txs w A l) (h2 : Wrs w A' C) (h3 : Txs w B l) (h4 : Wrs w B' C) (hl : (l.length : Int) ≤ 1000000) (hC : (C.length : Int) ≤ 1000000) :
    Calls Try.prog 13 #[.agg #[.slice A l.length c, .slice A' C.length c'], .agg #[.slice B l.length k, .slice B' C.length k']] w fun x w' => x = .returned (.bool true) ∧ Below w.heap.size w w' := by
  have kb := Joins.below_alloc1 w (.cells #[.slice A l.length c, .slice A' C.length c'] 32)
  have kb2 := kb.trans ((Joins.below_alloc1 _ (.cells #[.slice B l.length k, .slice B' C.length k'] 32)).mono kb.size)
  have HB := Lib.hid kb2
  have HR := Lib.hid (fun W (q : Below w.heap.size w W) => And.intro (h1.later q) (And.intro (h2.later q) (And.intro (h3.later q) (h4.later q))))
  clear h1 h2 h3 h4 kb kb2
  go_enter Try.func13, Try.ntmps13
  go_upto_region 1 with fail
  have e1 : (w.alloc (.cells #[.slice A l.length c, .slice A' C.length c'] 32)).heap.size = w.heap.size + 1 := by simp
  have t0 : ((w.alloc (.cells #[.slice A l.length c, .slice A' C.length c'] 32)).alloc (.cells #[.slice B l.length k, .slice B' C.length k'] 32)).heap[w.heap.size]? = some (.cells #[.slice A l.length c, .slice A' C.length c'] 32 (0, 0)) := by
    rw [Below.heap_alloc _ _ _ (by simp)]; exact heap_alloc_last _ _
  have t1 : ((w.alloc (.cells #[.slice A l.length c, .slice A' C.length c'] 32)).alloc (.cells #[.slice B l.length k, .slice B' C.length k'] 32)).heap[w.heap.size + 1]? = some (.cells #[.slice B l.length k, .slice B' C.length k'] 32 (0, 0)) := by
    rw [← e1]; exact heap_alloc_last _ _
  have HT := Lib.hid (And.intro t0 t1)
  clear t0 t1 e1
  generalize World.alloc (World.alloc w _) _ = W at *
  have hst : ∀ wr : World, Below w.heap.size w wr ∧ wr.heap = W.heap → (wr.cell? ⟨w.heap.size, 0, none⟩ = some (.slice A l.length c) ∧ wr.cell? ⟨w.heap.size, 1, none⟩ = some (.slice A' C.length c') ∧ wr.cell? ⟨w.heap.size + 1, 0, none⟩ = some (.slice B l.length k) ∧ wr.cell? ⟨w.heap.size + 1, 1, none⟩ = some (.slice B' C.length k')) := fun wr hw => by
    obtain ⟨a0, a1⟩ := HT.out
    rw [← hw.2] at a0 a1
    exact ⟨(cell_of_row wr _ 0 _ _ _ a0).trans rfl, (cell_of_row wr _ 1 _ _ _ a0).trans rfl, (cell_of_row wr _ 0 _ _ _ a1).trans rfl, (cell_of_row wr _ 1 _ _ _ a1).trans rfl⟩
  obtain ⟨x0, x1, y0, y1⟩ := hst W ⟨HB.out, rfl⟩
  have HST := Lib.hid hst
  clear hst
  go_upto_region 4 with fail
  clear x0 x1 y0 y1
  go_loopw [5] (fun i wr => ∃ k : Nat, k ≤ l.length ∧ i = .int .i64 k ∧ Below w.heap.size w wr ∧ wr.heap = W.heap) (fun i _ => l.length - (intOf i).toNat)
  case atStart => exact ⟨0, by omega, rfl, HB.out, rfl⟩
  case round =>
    obtain ⟨j, hj, rfl, hb, hh⟩ := hrel
    obtain ⟨x0, x1, y0, y1⟩ := HST.out wr ⟨hb, hh⟩
    obtain ⟨r1, r2, r3, r4⟩ := HR.out wr hb
    have HBH := Lib.hid (And.intro hb hh)
    have HRW := Lib.hid (And.intro r2 r4)
    clear hb hh r2 r4
    by_cases hlt : j < l.length
    · obtain ⟨g, off, rfl, q1⟩ := txs_at r1 hlt
      obtain ⟨g', off', rfl, q2⟩ := txs_at r3 hlt
      have hji : (j : Int) < (l.length : Int) := by omega
      obtain ⟨u, hu⟩ : ∃ u, l.getD j ByteArray.empty = u := ⟨_, rfl⟩
      rw [hu] at q1 q2
      clear hu r1 r3
      go_upto_region 6 with fail
      go_region
      go_wp2
      go_round
      case rel => exact ⟨j + 1, by omega, by go_num, HBH.out.1.drew, HBH.out.2⟩
      case measure => simp [intOf]; omega
    · obtain rfl : j = l.length := by omega
      go_upto_region 9 with fail
      clear x0 x1 y0 y1 r1 r3
      go_loopw [6] (fun i wr => ∃ k : Nat, k ≤ C.length ∧ i = .int .i64 k ∧ Below w.heap.size w wr ∧ wr.heap = W.heap) (fun i _ => C.length - (intOf i).toNat)
      case atStart => exact ⟨0, by omega, rfl, HBH.out.1, HBH.out.2⟩
      case round =>
        obtain ⟨j, hj, rfl, hb, hh⟩ := hrel
        obtain ⟨x0, x1, y0, y1⟩ := HST.out wr ⟨hb, hh⟩
        obtain ⟨r1, r2, r3, r4⟩ := HR.out wr hb
        have HBH2 := Lib.hid (And.intro hb hh)
        clear hb hh r1 r3
        by_cases hlt : j < C.length
        · obtain ⟨g, off, rfl, q1, q2⟩ := wrs_at r2 hlt
          obtain ⟨g', off', rfl, q3, q4⟩ := wrs_at r4 hlt
          have hji : (j : Int) < (C.length : Int) := by omega
          obtain ⟨u, hu⟩ : ∃ u, C.getD j (0, ByteArray.empty) = u := ⟨_, rfl⟩
          rw [hu] at q1 q2 q3 q4
          obtain ⟨p, t⟩ := u
          dsimp only at q1 q2 q3 q4
          clear hu r2 r4
          go_upto_region 11 with fail
          go_region
          go_wp2
          go_round
          case rel => exact ⟨j + 1, by omega, by go_num, HBH2.out.1.drew, HBH2.out.2⟩
          case measure => simp [intOf]; omega
        · obtain rfl : j = C.length := by omega
          go_wp2
          go_ret
          exact ⟨rfl, HBH2.out.1⟩
end Go.Proofs.Ytmehehiobcpeoaa.Disk
