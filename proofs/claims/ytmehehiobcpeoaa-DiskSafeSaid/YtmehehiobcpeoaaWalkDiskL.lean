/-
  The walk of pleachlaw07's awake.
-/
import Derived.Test.YtmehehiobcpeoaaWalkDiskK
namespace Go.Proofs.Ytmehehiobcpeoaa.Disk
open Go.RowKit Go.Proofs.Ytmehehiobcpeoaa.DiskRows
set_option linter.unusedVariables false
set_option linter.unusedSimpArgs false
set_option maxRecDepth 100000

theorem awake_last (a b : ByteArray) : (keeps (List.replicate 16 Z) [(1, a), (1, b)] [0] 2).getD 1 ByteArray.empty = a := by
  simp [keeps]
set_option maxHeartbeats 1600000 in
theorem awake_any (w : World) : Calls Try.prog 8 #[] w fun x w' => x = .returned (.bool true) ∧ Below w.heap.size w w' := by
  obtain ⟨sa, hsa⟩ : ∃ sa, full ⟨#[97]⟩ = sa := ⟨_, rfl⟩
  obtain ⟨sb, hsb⟩ : ∃ sb, full ⟨#[98]⟩ = sb := ⟨_, rfl⟩
  have za : sa.size = 128 := by rw [← hsa]; exact full_size _
  have zb : sb.size = 128 := by rw [← hsb]; exact full_size _
  have fa : ∀ W, Calls Try.prog 28 #[.string ⟨#[97]⟩] W fun e w' => e = .returned (.string sa) ∧ Below W.heap.size W w' := fun W => by rw [← hsa]; exact plainFull_any _ W (by decide)
  have fb : ∀ W, Calls Try.prog 28 #[.string ⟨#[98]⟩] W fun e w' => e = .returned (.string sb) ∧ Below W.heap.size W w' := fun W => by rw [← hsb]; exact plainFull_any _ W (by decide)
  have FA := Lib.hid fa
  have FB := Lib.hid fb
  have ZA := Lib.hid za
  have ZB := Lib.hid zb
  clear fa fb za zb hsa hsb
  go_enter Try.func8, Try.ntmps8
  go_wp2_with fail
  refine (new_ok 16 w (by omega) (by omega)).mono ?_
  rintro x w1 ⟨⟨b, rfl, h1⟩, b1⟩
  have H1 := Lib.hid h1
  clear h1
  go_wp2_with fail
  refine (FA.out _).mono ?_
  rintro x w2 ⟨rfl, b2⟩
  have H2 := Lib.hid (H1.out.later b2)
  have B2 := Lib.hid (b1.trans (b2.mono b1.size))
  clear H1 b1 b2
  go_wp2_with fail
  refine (write_ok (lo w.heap.size) b (fresh 16) w2 H2.out rfl rfl 1 sa (by simp [fresh]) ZA.out (by simp [fresh]) (by simp [fresh]) ((lo_top _).trans B2.out.size)).mono ?_
  rintro x w3 ⟨rfl, h3, b3⟩
  have H3 := Lib.hid h3
  have B3 := Lib.hid (B2.out.trans (b3.below B2.out.size))
  clear h3 b3 H2 B2
  go_wp2_with fail
  refine (FB.out _).mono ?_
  rintro x w4 ⟨rfl, b4⟩
  have H4 := Lib.hid (H3.out.later b4)
  have B4 := Lib.hid (B3.out.trans (b4.mono B3.out.size))
  clear H3 B3 b4
  go_wp2_with fail
  refine (write_ok (lo w.heap.size) b _ w4 H4.out rfl rfl 1 sb (by simp [fresh]) ZB.out (by simp [fresh]) (by simp [fresh]) ((lo_top _).trans B4.out.size)).mono ?_
  rintro x w5 ⟨rfl, h5, b5⟩
  have H5 := Lib.hid h5
  have B5 := Lib.hid (B4.out.trans (b5.below B4.out.size))
  clear h5 b5 H4 B4
  go_wp2_with fail
  have k5 := Joins.below_alloc1 w5 (.cells #[.int .i64 0] 3)
  have hnum : Nums (w5.alloc (.cells #[.int .i64 0] 3)) (some ⟨w5.heap.size, 0, none⟩) [0] :=
    .inr ⟨w5.heap.size, 0, rfl, by simp, fun i hi => by
      have : i = 0 := by simpa using hi
      subst this
      exact (cell_of_row _ _ 0 _ _ _ (heap_alloc_last _ _)).trans rfl⟩
  have H6 := Lib.hid (H5.out.later k5)
  have B6 := Lib.hid (B5.out.trans (k5.mono B5.out.size))
  have HN := Lib.hid hnum
  clear H5 k5 hnum B5
  refine (crash_ok (lo w.heap.size) b _ _ H6.out ((lo_top _).trans B6.out.size) (some ⟨w5.heap.size, 0, none⟩) 1 [0] HN.out (by simp) (by intro z hz; simp at hz; subst hz; decide)).mono ?_
  rintro x w7 ⟨rfl, h7, b7⟩
  have H7 := Lib.hid h7
  have B7 := Lib.hid (B6.out.trans (b7.below B6.out.size))
  clear h7 b7 H6 B6 HN
  go_wp2_with fail
  refine (boot_ok (lo w.heap.size) b _ w7 H7.out ((lo_top _).trans B7.out.size)).mono ?_
  rintro x w8 ⟨rfl, h8, b8⟩
  have H8 := Lib.hid h8
  have B8 := Lib.hid (B7.out.trans (b8.below B7.out.size))
  clear h8 b8 H7 B7
  go_wp2_with fail
  have hrd := read_ok (lo w.heap.size) b _ w8 H8.out rfl 1 (by simp [fresh, keeps_length]) (by simp [fresh])
  have hlast : (keeps (fresh 16).S ((fresh 16).C ++ [(1, sa)] ++ [(1, sb)]) [0] ((fresh 16).C ++ [(1, sa)] ++ [(1, sb)]).length).getD 1 ByteArray.empty = sa := awake_last sa sb
  dsimp only at hrd
  rw [hlast] at hrd
  have HR := Lib.hid hrd
  clear hrd hlast H8
  refine HR.out.mono ?_
  rintro x w9 ⟨rfl, h9, b9⟩
  have H9 := Lib.hid h9
  have B9 := Lib.hid (B8.out.trans (b9.below B8.out.size))
  clear h9 b9 HR B8
  go_wp2_with fail
  refine (FA.out _).mono ?_
  rintro x w10 ⟨rfl, b10⟩
  have H10 := Lib.hid (H9.out.later b10)
  have B10 := Lib.hid (B9.out.trans (b10.mono B9.out.size))
  clear H9 B9 b10
  go_wp2_with fail
  have hop := ops_any (lo w.heap.size) b _ w10 H10.out
  have HO := Lib.hid hop
  clear hop
  refine HO.out.mono ?_
  rintro x w11 ⟨rfl, rfl⟩
  go_wp2
  go_ret
  exact ⟨rfl, B10.out⟩
end Go.Proofs.Ytmehehiobcpeoaa.Disk
