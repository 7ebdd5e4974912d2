/-
  The walk of the log's Open, where there is nothing; Writes.
-/
import Derived.Test.YtgdedimoblpgbaaDoorLogB
namespace Go.Proofs.YtgdedimoblpgbaaDoor.Disk
open Go.RowKit Go.Proofs.YtgdedimoblpgbaaDoor.DiskRows
set_option linter.unusedVariables false
set_option linter.unusedSimpArgs false
set_option maxRecDepth 100000

theorem builder_new (w : World) : Lib.IsBuilderF 47 5 w.heap.size w.heap.size [] (w.alloc (.cells #[.pointer none, .slice none 0 0] 47)) :=
  .inl ⟨Nat.le_refl _, .slice none 0 0, heap_alloc_last _ _, World.ownsRowF_of (World.ownsRow_nil _ _ _ _), by simp [Value.ownBlock]⟩
theorem openNil_any (F : Nat → Prop) (b first most : Nat) (d : Dk) (w : World) (hD : DiskAt F b d w) (hfm : first + most ≤ d.S.length) :
    Calls Tryd.prog 6 #[.pointer (some ⟨b, 0, none⟩), .int .i64 first, .int .i64 most, .int .i64 0] w fun x w' => (∃ bl, x = .returned (.tuple #[.pointer (some ⟨bl, 0, none⟩), .int .i64 0]) ∧ LogAt bl b first most ByteArray.empty w' ∧ w.heap.size ≤ bl) ∧ Below w.heap.size w w' := by
  have hsz := size_any F b d w hD
  obtain ⟨n, hn⟩ : ∃ n, d.S.length = n := ⟨_, rfl⟩
  have hn16 : 16 ≤ n ∧ n ≤ 4096 := by
    obtain ⟨gS, cS, gH, cH, vC, h⟩ := hD
    exact ⟨hn ▸ h.pos, hn ▸ h.most⟩
  rw [hn] at hsz hfm
  have hS0 := fun W => sectors_any 0 W (by omega) 0 (by decide)
  have HS := Lib.hid hsz
  have HS0 := Lib.hid hS0
  have hn0 : ((n : Int) == 0) = false := by simp; omega
  have hnb : (n : Int) ≤ 4096 := by omega
  have hfb : (first : Int) ≤ (n : Int) := by omega
  have hmb : (most : Int) ≤ (n : Int) - (first : Int) := by omega
  have hw1 : IntKind.i64.wrap ((n : Int) - (first : Int)) = (n : Int) - (first : Int) := by rw [IntKind.wrap_i64]; omega
  clear hsz hS0 hD hn hfm hn16
  go_enter Tryd.func6, Tryd.ntmps6
  go_wp2_with fail
  refine HS.out.mono ?_
  rintro x w1 ⟨rfl, rfl⟩
  go_wp2_with fail
  refine (HS0.out w).mono ?_
  rintro x w1 ⟨rfl, rfl⟩
  go_upto_region 10 with fail
  obtain ⟨w2, hw2⟩ : ∃ w2, w.alloc (.cells #[.pointer (some ⟨b, 0, none⟩), .int .i64 first, .int .i64 most, .string ⟨#[]⟩] 26) = w2 := ⟨_, rfl⟩
  have hl2 : LogAt w.heap.size b first most ByteArray.empty w2 := ⟨by rw [← hw2]; exact heap_alloc_last _ _⟩
  have b2 : Below w.heap.size w w2 := by rw [← hw2]; exact Joins.below_alloc1 _ _
  have hs2 : w2.heap.size = w.heap.size + 1 := by rw [← hw2]; simp
  have hbn := builder_new w2
  have b3 := Joins.below_alloc1 w2 (.cells #[.pointer none, .slice none 0 0] 47)
  rw [hs2] at hbn
  have hz3 : w.heap.size + 1 ≤ (w2.alloc (.cells #[.pointer none, .slice none 0 0] 47)).heap.size := by simp; omega
  rw [hw2]
  have hl3 := hl2.later b3
  have HB := Lib.hid (And.intro hl3 (And.intro (b2.trans (b3.mono b2.size)) (And.intro hbn hz3)))
  clear hw2 hl2 b2 hs2 hbn b3 hz3 hl3
  generalize w2.alloc _ = w3 at *
  go_wp2_with fail
  refine (HS0.out w3).mono ?_
  rintro x w4 ⟨rfl, rfl⟩
  go_upto_region 11 with fail
  go_loopw [56] (fun i wr => i = .int .i64 0 ∧ wr = w3) (fun _ _ => 0)
  case atStart => exact ⟨rfl, rfl⟩
  case round =>
    obtain ⟨rfl, hwr⟩ := hrel
    subst hwr
    go_upto_region 18 with fail
    go_wp2_with fail
    refine (Tryd.Builder_String_empty_k (w.heap.size + 1) (w.heap.size + 1) wr HB.out.2.2.1 HB.out.2.2.2).mono ?_
    rintro x w5 ⟨rfl, -, b5, -⟩
    have hl5 : LogAt w.heap.size b first most ByteArray.empty w5 := ⟨by rw [b5.block _ (by omega)]; exact HB.out.1.box⟩
    have bb := HB.out.2.1.trans (b5.mono (by omega))
    obtain ⟨⟨x0, x1, x2, x3⟩, f⟩ := hl5.cells
    have f3 := f 3
    have hput := hl5.put ByteArray.empty
    have HE := Lib.hid (And.intro hput (bb.setCell (p := ⟨w.heap.size, 3, none⟩) (Nat.le_refl _) (.string ByteArray.empty)))
    clear hl5 hput bb f b5
    go_wp2
    go_ret2
    exact ⟨⟨w.heap.size, rfl, HE.out.1, Nat.le_refl _⟩, HE.out.2⟩
end Go.Proofs.YtgdedimoblpgbaaDoor.Disk
