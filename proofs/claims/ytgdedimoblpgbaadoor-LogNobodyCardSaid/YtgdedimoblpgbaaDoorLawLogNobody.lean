/-
  The walk of LogNobody.
-/
import Derived.Test.YtgdedimoblpgbaaDoorLogN
namespace Go.Proofs.YtgdedimoblpgbaaDoor.Disk
open Go.RowKit Go.Proofs.YtgdedimoblpgbaaDoor.DiskRows
set_option linter.unusedVariables false
set_option linter.unusedSimpArgs false
set_option maxRecDepth 100000

set_option maxHeartbeats 12800000 in
theorem logNobody_walk (s : ByteArray) (n : Int) (there : Bool) (w : World) (hs : (s.size : Int) ≤ 9223372036854775807) :
    Calls Tryd.prog 3 #[.string s, .int .i64 n, .bool there] w fun x w' => x = .returned (.bool true) ∧ Below w.heap.size w w' := by
  obtain ⟨na, hna⟩ : ∃ n : Int, (s.size : Int) = n := ⟨_, rfl⟩
  rw [hna] at hs
  have h0 : 0 ≤ na := by omega
  by_cases qa : 1000 < na
  · go_enter Tryd.func3, Tryd.ntmps3
    go_wp2_with fail
    refine (awake15_any _).mono ?_
    rintro x w2 ⟨rfl, b2⟩
    go_wp2
    go_ret
    exact ⟨rfl, b2⟩
  · cases there
    · go_enter Tryd.func3, Tryd.ntmps3
      go_wp2_with fail
      have HN0 := Lib.hid (show NoLog w none from .inl rfl)
      have HB0 := Lib.hid (Below.refl w.heap.size w)
      refine (all_no none _ HN0.out).mono ?_
      rintro x v1 ⟨rfl, b1⟩
      have HB1 := Lib.hid (HB0.out.trans (b1.mono HB0.out.size))
      have HN1 := Lib.hid (HN0.out.later b1)
      clear b1
      go_wp2_with fail
      refine (openNo_any n _).mono ?_
      rintro x v2 ⟨rfl, b2⟩
      have HB2 := Lib.hid (HB1.out.trans (b2.mono HB1.out.size))
      have HN2 := Lib.hid (HN1.out.later b2)
      clear b2
      go_wp2_with fail
      refine (tail_no none _ HN2.out).mono ?_
      rintro x v3 ⟨rfl, b3⟩
      have HB3 := Lib.hid (HB2.out.trans (b3.mono HB2.out.size))
      have HN3 := Lib.hid (HN2.out.later b3)
      clear b3
      go_wp2_with fail
      refine (text_no none _ HN3.out).mono ?_
      rintro x v4 ⟨rfl, b4⟩
      have HB4 := Lib.hid (HB3.out.trans (b4.mono HB3.out.size))
      have HN4 := Lib.hid (HN3.out.later b4)
      clear b4
      go_wp2_with fail
      refine (grow_no none s _ HN4.out).mono ?_
      rintro x v5 ⟨rfl, b5⟩
      have HB5 := Lib.hid (HB4.out.trans (b5.mono HB4.out.size))
      have HN5 := Lib.hid (HN4.out.later b5)
      clear b5
      go_wp2_with fail
      have HN5a := Lib.hid (HN5.out.later (Joins.below_alloc1 _ (.cells #[.string s] 9)))
      have HB5a := Lib.hid (HB5.out.trans ((Joins.below_alloc1 _ (.cells #[.string s] 9)).mono HB5.out.size))
      refine (put_no none _ _ _ _ HN5a.out).mono ?_
      rintro x v6 ⟨rfl, b6⟩
      have HB6 := Lib.hid (HB5a.out.trans (b6.mono HB5a.out.size))
      have HN6 := Lib.hid (HN5a.out.later b6)
      clear b6
      go_wp2_with fail
      refine (writes_no none n _ HN6.out).mono ?_
      rintro x v7 ⟨rfl, b7⟩
      have HB7 := Lib.hid (HB6.out.trans (b7.mono HB6.out.size))
      have HN7 := Lib.hid (HN6.out.later b7)
      clear b7
      go_wp2_with fail
      refine (cut_no none n _ HN7.out).mono ?_
      rintro x v8 ⟨rfl, b8⟩
      have HB8 := Lib.hid (HB7.out.trans (b8.mono HB7.out.size))
      have HN8 := Lib.hid (HN7.out.later b8)
      clear b8
      go_wp2_with fail
      refine (limit_no none n _ HN8.out).mono ?_
      rintro x v9 ⟨rfl, b9⟩
      have HB9 := Lib.hid (HB8.out.trans (b9.mono HB8.out.size))
      have HN9 := Lib.hid (HN8.out.later b9)
      clear b9
      go_wp2_with fail
      refine (awake15_any _).mono ?_
      rintro x v10 ⟨rfl, b10⟩
      have HB10 := Lib.hid (HB9.out.trans (b10.mono HB9.out.size))
      clear b10
      go_wp2
      go_ret
      exact ⟨rfl, HB10.out⟩
    · go_enter Tryd.func3, Tryd.ntmps3
      go_wp2_with fail
      have HN0 := Lib.hid (show NoLog (w.alloc (.cells #[.pointer none, .int .i64 0, .int .i64 0, .string ⟨#[]⟩] 26)) (some ⟨w.heap.size, 0, none⟩) from .inr ⟨_, rfl, heap_alloc_last _ _⟩)
      have HB0 := Lib.hid (Joins.below_alloc1 w (.cells #[.pointer none, .int .i64 0, .int .i64 0, .string ⟨#[]⟩] 26))
      generalize w.alloc _ = v0 at *
      refine (all_no (some ⟨w.heap.size, 0, none⟩) _ HN0.out).mono ?_
      rintro x v1 ⟨rfl, b1⟩
      have HB1 := Lib.hid (HB0.out.trans (b1.mono HB0.out.size))
      have HN1 := Lib.hid (HN0.out.later b1)
      clear b1
      go_wp2_with fail
      refine (openNo_any n _).mono ?_
      rintro x v2 ⟨rfl, b2⟩
      have HB2 := Lib.hid (HB1.out.trans (b2.mono HB1.out.size))
      have HN2 := Lib.hid (HN1.out.later b2)
      clear b2
      go_wp2_with fail
      refine (tail_no (some ⟨w.heap.size, 0, none⟩) _ HN2.out).mono ?_
      rintro x v3 ⟨rfl, b3⟩
      have HB3 := Lib.hid (HB2.out.trans (b3.mono HB2.out.size))
      have HN3 := Lib.hid (HN2.out.later b3)
      clear b3
      go_wp2_with fail
      refine (text_no (some ⟨w.heap.size, 0, none⟩) _ HN3.out).mono ?_
      rintro x v4 ⟨rfl, b4⟩
      have HB4 := Lib.hid (HB3.out.trans (b4.mono HB3.out.size))
      have HN4 := Lib.hid (HN3.out.later b4)
      clear b4
      go_wp2_with fail
      refine (grow_no (some ⟨w.heap.size, 0, none⟩) s _ HN4.out).mono ?_
      rintro x v5 ⟨rfl, b5⟩
      have HB5 := Lib.hid (HB4.out.trans (b5.mono HB4.out.size))
      have HN5 := Lib.hid (HN4.out.later b5)
      clear b5
      go_wp2_with fail
      have HN5a := Lib.hid (HN5.out.later (Joins.below_alloc1 _ (.cells #[.string s] 9)))
      have HB5a := Lib.hid (HB5.out.trans ((Joins.below_alloc1 _ (.cells #[.string s] 9)).mono HB5.out.size))
      refine (put_no (some ⟨w.heap.size, 0, none⟩) _ _ _ _ HN5a.out).mono ?_
      rintro x v6 ⟨rfl, b6⟩
      have HB6 := Lib.hid (HB5a.out.trans (b6.mono HB5a.out.size))
      have HN6 := Lib.hid (HN5a.out.later b6)
      clear b6
      go_wp2_with fail
      refine (writes_no (some ⟨w.heap.size, 0, none⟩) n _ HN6.out).mono ?_
      rintro x v7 ⟨rfl, b7⟩
      have HB7 := Lib.hid (HB6.out.trans (b7.mono HB6.out.size))
      have HN7 := Lib.hid (HN6.out.later b7)
      clear b7
      go_wp2_with fail
      refine (cut_no (some ⟨w.heap.size, 0, none⟩) n _ HN7.out).mono ?_
      rintro x v8 ⟨rfl, b8⟩
      have HB8 := Lib.hid (HB7.out.trans (b8.mono HB7.out.size))
      have HN8 := Lib.hid (HN7.out.later b8)
      clear b8
      go_wp2_with fail
      refine (limit_no (some ⟨w.heap.size, 0, none⟩) n _ HN8.out).mono ?_
      rintro x v9 ⟨rfl, b9⟩
      have HB9 := Lib.hid (HB8.out.trans (b9.mono HB8.out.size))
      have HN9 := Lib.hid (HN8.out.later b9)
      clear b9
      go_wp2_with fail
      refine (awake15_any _).mono ?_
      rintro x v10 ⟨rfl, b10⟩
      have HB10 := Lib.hid (HB9.out.trans (b10.mono HB9.out.size))
      clear b10
      go_wp2
      go_ret
      exact ⟨rfl, HB10.out⟩
end Go.Proofs.YtgdedimoblpgbaaDoor.Disk
