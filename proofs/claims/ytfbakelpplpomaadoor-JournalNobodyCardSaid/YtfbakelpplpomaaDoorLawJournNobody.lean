/-
  The walk of JournalNobody.
-/
import Derived.Test.YtfbakelpplpomaaDoorJournJ
namespace Go.Proofs.YtfbakelpplpomaaDoor.Disk
open Go.RowKit Go.Proofs.YtfbakelpplpomaaDoor.DiskRows Go.Proofs.YtfbakelpplpomaaDoor.WalkCrc
open Go.Proofs.YtfbakelpplpomaaDoor.WalkSeat (RecAt)
set_option linter.unusedVariables false
set_option linter.unusedSimpArgs false
set_option maxRecDepth 100000

set_option maxHeartbeats 12800000 in
theorem journalNobody_walk (e q k : Int) (N O M : ByteArray) (t u : Int) (half epoch : Int) (there : Bool) (w : World) (ht : Tab w) :
    Calls Tryd.prog 3 #[.agg #[.int .i64 e, .int .i64 q, .int .i64 k, .string N, .string O, .string M, .int .i64 t, .int .i64 u], .int .i64 half, .int .i64 epoch, .bool there] w fun x w' => x = .returned (.bool true) ∧ Below w.heap.size w w' := by
  have HR := Lib.hid (RecAt.new w e q k N O M t u 23)
  have HB := Lib.hid (Joins.below_alloc1 w (.cells #[.int .i64 e, .int .i64 q, .int .i64 k, .string N, .string O, .string M, .int .i64 t, .int .i64 u] 23))
  have HT := Lib.hid ht
  clear ht
  cases there
  · go_enter Tryd.func3, Tryd.ntmps3
    go_wp2_with fail
    have HN0 := Lib.hid (show NoJn (w.alloc (.cells #[.int .i64 e, .int .i64 q, .int .i64 k, .string N, .string O, .string M, .int .i64 t, .int .i64 u] 23)) none from .inl rfl)
    have HR0 := HR
    have HB0 := HB
    clear HR HB
    generalize w.alloc (.cells #[.int .i64 e, .int .i64 q, .int .i64 k, .string N, .string O, .string M, .int .i64 t, .int .i64 u] 23) = v0 at *
    refine (jopen_no none half epoch v0 (.inl rfl)).mono ?_
    rintro x v1 ⟨rfl, b1⟩
    have HN1 := Lib.hid ((HN0.out.later b1).later (Joins.below_alloc1 _ (.cells #[.slice none 0 0, .slice none 0 0, .slice none 0 0, .int .i64 0, .bool false, .int .i64 0] 39)))
    have HR1 := Lib.hid ((HR0.out.after b1).after (Joins.below_alloc1 _ (.cells #[.slice none 0 0, .slice none 0 0, .slice none 0 0, .int .i64 0, .bool false, .int .i64 0] 39)))
    have hb1 := HB0.out.trans (b1.mono HB0.out.size)
    have HB1 := Lib.hid (hb1.trans ((Joins.below_alloc1 _ (.cells #[.slice none 0 0, .slice none 0 0, .slice none 0 0, .int .i64 0, .bool false, .int .i64 0] 39)).mono hb1.size))
    have HD1 := Lib.hid (show NoDisk (v1.alloc (.cells #[.slice none 0 0, .slice none 0 0, .slice none 0 0, .int .i64 0, .bool false, .int .i64 0] 39)) (some ⟨v1.heap.size, 0, none⟩) from .inr ⟨_, rfl, heap_alloc_last _ _⟩)
    clear b1 hb1
    go_wp2_with fail
    generalize v1.alloc (.cells #[.slice none 0 0, .slice none 0 0, .slice none 0 0, .int .i64 0, .bool false, .int .i64 0] 39) = v2 at *
    generalize v1.heap.size = gd at *
    refine (at_no _ half epoch 0 v2 HD1.out).mono ?_
    rintro x v3 ⟨rfl, b3⟩
    have HN3 := Lib.hid (HN1.out.later b3)
    have HR3 := Lib.hid (HR1.out.after b3)
    have HB3 := Lib.hid (HB1.out.trans (b3.mono HB1.out.size))
    obtain ⟨c0, c1, c2, c3, c4, c5, c6, c7, -⟩ := id HR3.out
    clear b3
    go_wp2_with fail
    clear c0 c1 c2 c3 c4 c5 c6 c7
    refine (append_no none e q k N O M t u v3 HN3.out).mono ?_
    rintro x v4 ⟨rfl, b4⟩
    have HN4 := Lib.hid (HN3.out.later b4)
    have HB4 := Lib.hid (HB3.out.trans (b4.mono HB3.out.size))
    clear b4
    go_wp2_with fail
    refine (count_no none v4 HN4.out).mono ?_
    rintro x v5 ⟨rfl, b5⟩
    have HB5 := Lib.hid (HB4.out.trans (b5.mono HB4.out.size))
    clear b5
    go_wp2_with fail
    refine (awake38_any v5 (HT.out.below HB5.out HT.out.lt)).mono ?_
    rintro x v6 ⟨rfl, b6⟩
    have HB6 := Lib.hid (HB5.out.trans (b6.mono HB5.out.size))
    clear b6
    go_wp2
    go_ret
    exact ⟨rfl, HB6.out⟩
  · go_enter Tryd.func3, Tryd.ntmps3
    go_wp2_with fail
    have hz0 : (w.alloc (.cells #[.int .i64 e, .int .i64 q, .int .i64 k, .string N, .string O, .string M, .int .i64 t, .int .i64 u] 23)).heap.size = w.heap.size + 1 := by simp
    have HN0 := Lib.hid (show NoJn ((w.alloc (.cells #[.int .i64 e, .int .i64 q, .int .i64 k, .string N, .string O, .string M, .int .i64 t, .int .i64 u] 23)).alloc (.cells #[.pointer none, .int .i64 0, .int .i64 0, .int .i64 0] 27)) (some ⟨w.heap.size + 1, 0, none⟩) from .inr ⟨_, rfl, by rw [← hz0]; exact heap_alloc_last _ _⟩)
    have HR0 := Lib.hid (HR.out.after (Joins.below_alloc1 _ (.cells #[.pointer none, .int .i64 0, .int .i64 0, .int .i64 0] 27)))
    have HB0 := Lib.hid (HB.out.trans ((Joins.below_alloc1 _ (.cells #[.pointer none, .int .i64 0, .int .i64 0, .int .i64 0] 27)).mono HB.out.size))
    clear hz0 HR HB
    generalize (w.alloc (.cells #[.int .i64 e, .int .i64 q, .int .i64 k, .string N, .string O, .string M, .int .i64 t, .int .i64 u] 23)).alloc (.cells #[.pointer none, .int .i64 0, .int .i64 0, .int .i64 0] 27) = v0 at *
    refine (jopen_no none half epoch v0 (.inl rfl)).mono ?_
    rintro x v1 ⟨rfl, b1⟩
    have HN1 := Lib.hid ((HN0.out.later b1).later (Joins.below_alloc1 _ (.cells #[.slice none 0 0, .slice none 0 0, .slice none 0 0, .int .i64 0, .bool false, .int .i64 0] 39)))
    have HR1 := Lib.hid ((HR0.out.after b1).after (Joins.below_alloc1 _ (.cells #[.slice none 0 0, .slice none 0 0, .slice none 0 0, .int .i64 0, .bool false, .int .i64 0] 39)))
    have hb1 := HB0.out.trans (b1.mono HB0.out.size)
    have HB1 := Lib.hid (hb1.trans ((Joins.below_alloc1 _ (.cells #[.slice none 0 0, .slice none 0 0, .slice none 0 0, .int .i64 0, .bool false, .int .i64 0] 39)).mono hb1.size))
    have HD1 := Lib.hid (show NoDisk (v1.alloc (.cells #[.slice none 0 0, .slice none 0 0, .slice none 0 0, .int .i64 0, .bool false, .int .i64 0] 39)) (some ⟨v1.heap.size, 0, none⟩) from .inr ⟨_, rfl, heap_alloc_last _ _⟩)
    clear b1 hb1
    go_wp2_with fail
    generalize v1.alloc (.cells #[.slice none 0 0, .slice none 0 0, .slice none 0 0, .int .i64 0, .bool false, .int .i64 0] 39) = v2 at *
    generalize v1.heap.size = gd at *
    refine (at_no _ half epoch 0 v2 HD1.out).mono ?_
    rintro x v3 ⟨rfl, b3⟩
    have HN3 := Lib.hid (HN1.out.later b3)
    have HR3 := Lib.hid (HR1.out.after b3)
    have HB3 := Lib.hid (HB1.out.trans (b3.mono HB1.out.size))
    obtain ⟨c0, c1, c2, c3, c4, c5, c6, c7, -⟩ := id HR3.out
    clear b3
    go_wp2_with fail
    clear c0 c1 c2 c3 c4 c5 c6 c7
    refine (append_no (some ⟨w.heap.size + 1, 0, none⟩) e q k N O M t u v3 HN3.out).mono ?_
    rintro x v4 ⟨rfl, b4⟩
    have HN4 := Lib.hid (HN3.out.later b4)
    have HB4 := Lib.hid (HB3.out.trans (b4.mono HB3.out.size))
    clear b4
    go_wp2_with fail
    refine (count_no (some ⟨w.heap.size + 1, 0, none⟩) v4 HN4.out).mono ?_
    rintro x v5 ⟨rfl, b5⟩
    have HB5 := Lib.hid (HB4.out.trans (b5.mono HB4.out.size))
    clear b5
    go_wp2_with fail
    refine (awake38_any v5 (HT.out.below HB5.out HT.out.lt)).mono ?_
    rintro x v6 ⟨rfl, b6⟩
    have HB6 := Lib.hid (HB5.out.trans (b6.mono HB5.out.size))
    clear b6
    go_wp2
    go_ret
    exact ⟨rfl, HB6.out⟩
end Go.Proofs.YtfbakelpplpomaaDoor.Disk
