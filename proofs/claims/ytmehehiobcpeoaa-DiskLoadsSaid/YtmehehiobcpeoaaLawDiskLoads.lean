/-
  Of any image there is the disk that has it, or none (DiskLoads): the walk.
-/
import Derived.Test.YtmehehiobcpeoaaLawDiskPlays
import Derived.Test.YtmehehiobcpeoaaRefMay
namespace Go.Proofs.Ytmehehiobcpeoaa.Disk
open Go.RowKit Go.Proofs.Ytmehehiobcpeoaa.DiskRows
set_option linter.unusedVariables false
set_option linter.unusedSimpArgs false
set_option maxRecDepth 100000

theorem rin_of_txs {w : World} {A : Option Addr} {l : List ByteArray} (h : Txs w A l) : RIn (lo w.heap.size) A l.length := by
  rcases h with rfl | ⟨g, off, rfl, hg, _⟩
  · exact .inl rfl
  · exact .inr ⟨g, off, rfl, hg⟩
theorem rin_of_wrs {w : World} {A : Option Addr} {C : List (Int × ByteArray)} (h : Wrs w A C) : RIn (lo w.heap.size) A C.length := by
  rcases h with rfl | ⟨g, off, rfl, hg, _⟩
  · exact .inl rfl
  · exact .inr ⟨g, off, rfl, hg⟩
theorem loads_off (A A' : Option Addr) (c c' : Nat) (S : List ByteArray) (C : List (Int × ByteArray)) (A0 : Option Addr) (c0 : Nat) (l : List Ac) (w : World) (hS : (S.length : Int) ≤ 9223372036854775807) (hC : (C.length : Int) ≤ 9223372036854775807) (h : ¬ (S.length ≤ 60 ∧ C.length ≤ 60)) :
    Calls Try.prog 4 #[.agg #[.slice A S.length c, .slice A' C.length c'], .slice A0 l.length c0] w fun x w' => x = .returned (.bool true) ∧ Below w.heap.size w w' := by
  have ka := Joins.below_alloc1 w (.cells #[.slice A S.length c, .slice A' C.length c'] 32)
  have HK := Lib.hid ka
  clear ka
  by_cases h1 : S.length ≤ 60
  · have d1 : decide ((60 : Int) < (S.length : Int)) = false := decide_eq_false (by omega)
    have d2 : decide ((60 : Int) < (C.length : Int)) = true := decide_eq_true (by omega)
    clear h h1
    go_enter Try.func4, Try.ntmps4
    go_wp2_with fail
    refine (awake_any _).mono ?_
    rintro x w1 ⟨rfl, b1⟩
    go_wp2
    go_ret
    exact ⟨rfl, HK.out.trans (b1.mono HK.out.size)⟩
  · have d1 : decide ((60 : Int) < (S.length : Int)) = true := decide_eq_true (by omega)
    clear h h1
    go_enter Try.func4, Try.ntmps4
    go_wp2_with fail
    refine (awake_any _).mono ?_
    rintro x w1 ⟨rfl, b1⟩
    go_wp2
    go_ret
    exact ⟨rfl, HK.out.trans (b1.mono HK.out.size)⟩
theorem acs_later_ok {w w' : World} {A0 : Option Addr} {l : List Ac} (hl : Acs w A0 l) (ok : ∀ a ∈ l, AcOk w a) (k : Below w.heap.size w w') : Acs w' A0 l ∧ ∀ a ∈ l, AcOk w' a := ⟨hl.later k, fun a ha => (ok a ha).later k⟩
theorem loads_many (A A' : Option Addr) (c c' : Nat) (S : List ByteArray) (C : List (Int × ByteArray)) (A0 : Option Addr) (c0 : Nat) (l : List Ac) (w : World) (h : S.length ≤ 60 ∧ C.length ≤ 60) (hl : Acs w A0 l) (hm : (l.length : Int) ≤ 9223372036854775807) (ok : ∀ a ∈ l, AcOk w a) (hf : ¬ (fewB l ∧ l.length ≤ 20)) :
    Calls Try.prog 4 #[.agg #[.slice A S.length c, .slice A' C.length c'], .slice A0 l.length c0] w fun x w' => x = .returned (.bool true) ∧ Below w.heap.size w w' := by
  have ka := Joins.below_alloc1 w (.cells #[.slice A S.length c, .slice A' C.length c'] 32)
  have HK := Lib.hid ka
  obtain ⟨hl2, ok2⟩ := acs_later_ok hl ok ka
  have hfew := few_any A0 c0 l _ hl2 hm (acs_ok_few ok2)
  have d1 : decide ((60 : Int) < (S.length : Int)) = false := decide_eq_false (by omega)
  have d2 : decide ((60 : Int) < (C.length : Int)) = false := decide_eq_false (by omega)
  have hSi : (S.length : Int) ≤ 60 := by omega
  have hCi : (C.length : Int) ≤ 60 := by omega
  by_cases hfb : fewB l
  · rw [decide_eq_true hfb] at hfew
    have d3 : decide ((20 : Int) < (l.length : Int)) = true := decide_eq_true (by
      have : ¬ l.length ≤ 20 := fun q => hf ⟨hfb, q⟩
      omega)
    have HF := Lib.hid hfew
    clear hfew hl hl2 ok ok2 hf hfb ka h
    go_enter Try.func4, Try.ntmps4
    go_wp2_with fail
    refine HF.out.mono ?_
    rintro x w1 ⟨rfl, b1⟩
    go_wp2_with fail
    refine (awake_any _).mono ?_
    rintro x w2 ⟨rfl, b2⟩
    go_wp2
    go_ret
    exact ⟨rfl, HK.out.trans ((b1.trans (b2.mono b1.size)).mono HK.out.size)⟩
  · rw [decide_eq_false hfb] at hfew
    have HF := Lib.hid hfew
    clear hfew hl hl2 ok ok2 hf hfb ka h
    go_enter Try.func4, Try.ntmps4
    go_wp2_with fail
    refine HF.out.mono ?_
    rintro x w1 ⟨rfl, b1⟩
    go_wp2_with fail
    refine (awake_any _).mono ?_
    rintro x w2 ⟨rfl, b2⟩
    go_wp2
    go_ret
    exact ⟨rfl, HK.out.trans ((b1.trans (b2.mono b1.size)).mono HK.out.size)⟩
/-- what stays of an image that came in, and of its copy -/
structure Ld (w : World) (A A' A1 A2 : Option Addr) (c c' c1 c2 : Nat) (S : List ByteArray) (C : List (Int × ByteArray)) (g5 : Nat) (W : World) : Prop where
  box : W.heap[w.heap.size]? = some (.cells #[.slice A S.length c, .slice A' C.length c'] 32 (0, 0))
  own : W.heap[g5]? = some (.cells #[.slice A1 S.length c1, .slice A2 C.length c2] 32 (0, 0))
  t1 : Txs W A S
  t2 : Wrs W A' C
  t3 : Txs W A1 S
  t4 : Wrs W A2 C
  bel : Below w.heap.size w W
theorem Ld.later {w : World} {A A' A1 A2 : Option Addr} {c c' c1 c2 : Nat} {S : List ByteArray} {C : List (Int × ByteArray)} {g5 : Nat} {W W' : World} (h : Ld w A A' A1 A2 c c' c1 c2 S C g5 W) (k : Below W.heap.size W W') : Ld w A A' A1 A2 c c' c1 c2 S C g5 W' :=
  ⟨by rw [k.block _ (Array.getElem?_eq_some_iff.1 h.box).1]; exact h.box, by rw [k.block _ (Array.getElem?_eq_some_iff.1 h.own).1]; exact h.own, h.t1.later k, h.t2.later k, h.t3.later k, h.t4.later k, h.bel.trans (k.mono h.bel.size)⟩
theorem Ld.cells {w : World} {A A' A1 A2 : Option Addr} {c c' c1 c2 : Nat} {S : List ByteArray} {C : List (Int × ByteArray)} {g5 : Nat} {W : World} (h : Ld w A A' A1 A2 c c' c1 c2 S C g5 W) :
    W.cell? ⟨w.heap.size, 0, none⟩ = some (.slice A S.length c) ∧ W.cell? ⟨w.heap.size, 1, none⟩ = some (.slice A' C.length c') ∧ W.cell? ⟨g5, 0, none⟩ = some (.slice A1 S.length c1) ∧ W.cell? ⟨g5, 1, none⟩ = some (.slice A2 C.length c2) :=
  ⟨(cell_of_row W _ 0 _ _ _ h.box).trans rfl, (cell_of_row W _ 1 _ _ _ h.box).trans rfl, (cell_of_row W _ 0 _ _ _ h.own).trans rfl, (cell_of_row W _ 1 _ _ _ h.own).trans rfl⟩
set_option maxHeartbeats 6400000 in
theorem loads_bad (A A' : Option Addr) (c c' : Nat) (S : List ByteArray) (C : List (Int × ByteArray)) (A0 : Option Addr) (c0 : Nat) (l : List Ac) (w : World) (h : S.length ≤ 60 ∧ C.length ≤ 60) (hT : Txs w A S) (hW : Wrs w A' C) (hz : ∀ x ∈ C, (Lit.int .i64 x.1).wf = true ∧ x.2.size ≤ maxLen) (hl : Acs w A0 l) (hm : (l.length : Int) ≤ 9223372036854775807) (ok : ∀ a ∈ l, AcOk w a) (hf : fewB l ∧ l.length ≤ 20) (hmay : ¬ mayP S C) :
    Calls Try.prog 4 #[.agg #[.slice A S.length c, .slice A' C.length c'], .slice A0 l.length c0] w fun x w' => x = .returned (.bool true) ∧ Below w.heap.size w w' := by
  have ka := Joins.below_alloc1 w (.cells #[.slice A S.length c, .slice A' C.length c'] 32)
  have hbx := heap_alloc_last w (.cells #[.slice A S.length c, .slice A' C.length c'] 32)
  have HK := Lib.hid ka
  obtain ⟨hl2, ok2⟩ := acs_later_ok hl ok ka
  have hfew := few_any A0 c0 l _ hl2 hm (acs_ok_few ok2)
  rw [decide_eq_true hf.1] at hfew
  have hmayW := fun W' (q : Below w.heap.size w W') => refMay_any A A' c c' S C W' (hT.later q) (hW.later q) (by omega) (by omega) hz
  rw [decide_eq_false hmay] at hmayW
  have hcp := fun W' (q : Below w.heap.size w W') => copy_any A A' c c' S C W' (hT.later q) (hW.later q) (by omega) (by omega)
  have hbad := fun W' (B B' : Option Addr) k k' (h1 : Txs W' B S) (h2 : Wrs W' B' C) => load_bad B B' k k' S C W' h1 h2 (by omega) (by omega) hmay
  have d1 : decide ((60 : Int) < (S.length : Int)) = false := decide_eq_false (by omega)
  have d2 : decide ((60 : Int) < (C.length : Int)) = false := decide_eq_false (by omega)
  have d3 : decide ((20 : Int) < (l.length : Int)) = false := decide_eq_false (by omega)
  have hSi : (S.length : Int) ≤ 60 := by omega
  have hCi : (C.length : Int) ≤ 60 := by omega
  have HF := Lib.hid hfew
  have HM := Lib.hid hmayW
  have HCp := Lib.hid hcp
  have HBad := Lib.hid hbad
  have HBx := Lib.hid hbx
  have HTW := Lib.hid (fun W (q : Below w.heap.size w W) => And.intro (hT.later q) (hW.later q))
  clear hfew hl hl2 ok ok2 hf ka h hmayW hcp hbad hmay hz hT hW hbx
  go_enter Try.func4, Try.ntmps4
  go_wp2_with fail
  refine HF.out.mono ?_
  rintro x w1 ⟨rfl, b1⟩
  have B1 := Lib.hid (HK.out.trans (b1.mono HK.out.size))
  have hbx1 := (b1.block _ (by simp)).trans HBx.out
  have x0 := (cell_of_row w1 w.heap.size 0 _ _ _ hbx1).trans rfl
  have x1 := (cell_of_row w1 w.heap.size 1 _ _ _ hbx1).trans rfl
  go_wp2_with fail
  refine (HCp.out w1 B1.out).mono ?_
  rintro x w2 ⟨⟨A1, c1, A2, c2, rfl, ho1, ho2, -⟩, b2⟩
  have k2 := Joins.below_alloc1 w2 (.cells #[.slice A1 S.length c1, .slice A2 C.length c2] 32)
  have B2 := B1.out.trans (b2.mono B1.out.size)
  have hld : Ld w A A' A1 A2 c c' c1 c2 S C w2.heap.size (w2.alloc (.cells #[.slice A1 S.length c1, .slice A2 C.length c2] 32)) :=
    ⟨by rw [k2.block _ (Nat.lt_of_lt_of_le (Array.getElem?_eq_some_iff.1 hbx1).1 b2.size), b2.block _ (Array.getElem?_eq_some_iff.1 hbx1).1]; exact hbx1, heap_alloc_last _ _, ((HTW.out w2 B2).1).later k2, ((HTW.out w2 B2).2).later k2, (ho1.txs).later k2, (ho2.wrs).later k2, B2.trans (k2.mono B2.size)⟩
  clear x0 x1 hbx1 b1 b2 ho1 ho2 k2 B2 B1
  go_upto_region 4 with fail
  obtain ⟨g5, hg5⟩ : ∃ g, w2.heap.size = g := ⟨_, rfl⟩
  rw [hg5] at hld ⊢
  clear hg5
  generalize w2.alloc _ = w3 at *
  obtain ⟨x0, x1, y0, y1⟩ := hld.cells
  have HLd := Lib.hid hld
  clear hld
  go_wp2_with fail
  refine (HBad.out w3 A1 A2 c1 c2 HLd.out.t3 HLd.out.t4).mono ?_
  rintro x w4 ⟨rfl, b4⟩
  have HLd4 := Lib.hid (HLd.out.later b4)
  clear x0 x1 y0 y1 b4
  obtain ⟨x0, x1, y0, y1⟩ := HLd4.out.cells
  go_wp2_with fail
  refine (HM.out w4 HLd4.out.bel).mono ?_
  rintro x w5 ⟨rfl, b5⟩
  go_wp2_with fail
  refine (awake_any _).mono ?_
  rintro x w6 ⟨rfl, b6⟩
  go_wp2
  go_ret
  exact ⟨rfl, HLd4.out.bel.trans ((b5.trans (b6.mono b5.size)).mono HLd4.out.bel.size)⟩
set_option maxHeartbeats 6400000 in
theorem loads_main (A A' : Option Addr) (c c' : Nat) (S : List ByteArray) (C : List (Int × ByteArray)) (A0 : Option Addr) (c0 : Nat) (l : List Ac) (w : World) (h : S.length ≤ 60 ∧ C.length ≤ 60) (hT : Txs w A S) (hW : Wrs w A' C) (hz : ∀ x ∈ C, (Lit.int .i64 x.1).wf = true ∧ x.2.size ≤ maxLen) (hl : Acs w A0 l) (hm : (l.length : Int) ≤ 9223372036854775807) (ok : ∀ a ∈ l, AcOk w a) (hf : fewB l ∧ l.length ≤ 20) (hmay : mayP S C) :
    Calls Try.prog 4 #[.agg #[.slice A S.length c, .slice A' C.length c'], .slice A0 l.length c0] w fun x w' => x = .returned (.bool true) ∧ Below w.heap.size w w' := by
  have ka := Joins.below_alloc1 w (.cells #[.slice A S.length c, .slice A' C.length c'] 32)
  have hbx := heap_alloc_last w (.cells #[.slice A S.length c, .slice A' C.length c'] 32)
  have HK := Lib.hid ka
  obtain ⟨hl2, ok2⟩ := acs_later_ok hl ok ka
  have hfew := few_any A0 c0 l _ hl2 hm (acs_ok_few ok2)
  rw [decide_eq_true hf.1] at hfew
  have hmayW := fun W' (q : Below w.heap.size w W') => refMay_any A A' c c' S C W' (hT.later q) (hW.later q) (by omega) (by omega) hz
  rw [decide_eq_true hmay] at hmayW
  have hcp := fun W' (q : Below w.heap.size w W') => copy_any A A' c c' S C W' (hT.later q) (hW.later q) (by omega) (by omega)
  have hbad := fun W' (B B' : Option Addr) k k' (h1 : Txs W' B S) (h2 : Wrs W' B' C) => load_ok B B' k k' S C W' h1 h2 (by omega) (by omega) hmay
  have d1 : decide ((60 : Int) < (S.length : Int)) = false := decide_eq_false (by omega)
  have d2 : decide ((60 : Int) < (C.length : Int)) = false := decide_eq_false (by omega)
  have d3 : decide ((20 : Int) < (l.length : Int)) = false := decide_eq_false (by omega)
  have hSi : (S.length : Int) ≤ 60 := by omega
  have hCi : (C.length : Int) ≤ 60 := by omega
  have HF := Lib.hid hfew
  have HM := Lib.hid hmayW
  have HCp := Lib.hid hcp
  have HBad := Lib.hid hbad
  have HBx := Lib.hid hbx
  have HL := Lib.hid (And.intro hl ok)
  have hll : (l.length : Int) ≤ 20 := by omega
  have hns := ints_nats C (fun x hx => (hmay.2.2.2.2 x hx).1)
  have HNs := Lib.hid hns
  have HMay := Lib.hid hmay
  have HTW := Lib.hid (fun W (q : Below w.heap.size w W) => And.intro (hT.later q) (hW.later q))
  clear hfew hl hl2 ok ok2 hf ka h hmayW hcp hbad hmay hz hT hW hbx hns
  go_enter Try.func4, Try.ntmps4
  go_wp2_with fail
  refine HF.out.mono ?_
  rintro x w1 ⟨rfl, b1⟩
  have B1 := Lib.hid (HK.out.trans (b1.mono HK.out.size))
  have hbx1 := (b1.block _ (by simp)).trans HBx.out
  have x0 := (cell_of_row w1 w.heap.size 0 _ _ _ hbx1).trans rfl
  have x1 := (cell_of_row w1 w.heap.size 1 _ _ _ hbx1).trans rfl
  go_wp2_with fail
  refine (HCp.out w1 B1.out).mono ?_
  rintro x w2 ⟨⟨A1, c1, A2, c2, rfl, ho1, ho2, -⟩, b2⟩
  have k2 := Joins.below_alloc1 w2 (.cells #[.slice A1 S.length c1, .slice A2 C.length c2] 32)
  have B2 := B1.out.trans (b2.mono B1.out.size)
  have hld : Ld w A A' A1 A2 c c' c1 c2 S C w2.heap.size (w2.alloc (.cells #[.slice A1 S.length c1, .slice A2 C.length c2] 32)) :=
    ⟨by rw [k2.block _ (Nat.lt_of_lt_of_le (Array.getElem?_eq_some_iff.1 hbx1).1 b2.size), b2.block _ (Array.getElem?_eq_some_iff.1 hbx1).1]; exact hbx1, heap_alloc_last _ _, ((HTW.out w2 B2).1).later k2, ((HTW.out w2 B2).2).later k2, (ho1.txs).later k2, (ho2.wrs).later k2, B2.trans (k2.mono B2.size)⟩
  clear x0 x1 hbx1 b1 b2 ho1 ho2 k2 B2 B1
  go_upto_region 4 with fail
  obtain ⟨g5, hg5⟩ : ∃ g, w2.heap.size = g := ⟨_, rfl⟩
  rw [hg5] at hld ⊢
  clear hg5
  generalize w2.alloc _ = w3 at *
  obtain ⟨x0, x1, y0, y1⟩ := hld.cells
  have HLd := Lib.hid hld
  clear hld
  go_wp2_with fail
  refine (HBad.out w3 A1 A2 c1 c2 HLd.out.t3 HLd.out.t4).mono ?_
  rintro x w4 ⟨⟨b, rfl, hd⟩, b4⟩
  have HLd4 := Lib.hid (HLd.out.later b4)
  have HD := Lib.hid hd
  have K34 := Lib.hid b4
  clear x0 x1 y0 y1 b4 hd
  obtain ⟨x0, x1, y0, y1⟩ := HLd4.out.cells
  go_wp2_with fail
  refine (HM.out w4 HLd4.out.bel).mono ?_
  rintro x w5 ⟨rfl, b5⟩
  have HLd5 := Lib.hid (HLd4.out.later b5)
  have HD5 := Lib.hid (HD.out.later b5)
  have K35 := Lib.hid (K34.out.trans (b5.mono K34.out.size))
  clear x0 x1 y0 y1 b5 HLd4 HD K34
  obtain ⟨d, hd⟩ : ∃ d : Dk, (⟨S, shows S (nats C), nats C, 0, false, 0⟩ : Dk) = d := ⟨_, rfl⟩
  have hdS : d.S = S := by rw [← hd]
  have hdC : ints d.C = C := by rw [← hd]; exact HNs.out
  have hdl : d.C.length = C.length := by rw [← hdC, ints_length]
  have hdH : d.H = shows d.S d.C := by rw [← hd]
  have hdA : d.armed = 0 ∧ d.down = false ∧ d.ops = 0 := by rw [← hd]; exact ⟨rfl, rfl, rfl⟩
  rw [hd] at HD5
  clear hd
  have hsz := fun W (q : Below w5.heap.size w5 W) => seize_any (lo w3.heap.size) b d W (HD5.out.later q) ((lo_top _).trans (Nat.le_trans K35.out.size q.size))
  rw [hdS, hdC, hdl] at hsz
  have HSz := Lib.hid hsz
  have HSame := Lib.hid (fun W (q : Ld w A A' A1 A2 c c' c1 c2 S C g5 W) (B B' : Option Addr) k k' (h1 : Txs W B S) (h2 : Wrs W B' C) => same_any B B' A A' k k' c c' S C W h1 h2 q.t1 q.t2 (by omega) (by omega))
  have hx := HLd5.out.later (Below.refl _ w5).drew
  have hk0 := And.intro hx.cells.1 hx.cells.2.1
  clear hx hsz
  go_upto_region 7 with fail
  go_region_held3 (fun W' => W'.cell? ⟨w.heap.size, 0, none⟩ = some (.slice A S.length c) ∧ W'.cell? ⟨w.heap.size, 1, none⟩ = some (.slice A' C.length c')) (first | with_reducible exact hk0 | with_reducible exact hk2 | with_reducible exact hk1) (first
    | (go_at_call 10; refine (HSz.out _ (Below.refl _ w5).drew).mono ?_; rintro x w6 ⟨⟨g6, cg6, A6, c6, rfl, hr6, -, hw6⟩, b6⟩; have B6 := Lib.hid (below_drew b6); have hx6 := HLd5.out.later B6.out; have hk1 := And.intro hx6.cells.1 hx6.cells.2.1)
    | (go_at_call 13; refine (HSame.out w6 hx6 (some ⟨g6, 0, none⟩) A6 cg6 c6 hr6.txs hw6).mono ?_; rintro x w7 ⟨rfl, b7⟩; have B7 := Lib.hid (B6.out.trans (b7.mono B6.out.size)); have hx7 := HLd5.out.later B7.out; have hk2 := And.intro hx7.cells.1 hx7.cells.2.1))
  have HLd7 := Lib.hid hx7
  have HD7 := Lib.hid (HD5.out.later B7.out)
  have K37 := Lib.hid (K35.out.trans (B7.out.mono K35.out.size))
  clear hk0 hk1 hk2 hx6 hx7 hr6 hw6 b6 b7 B6 B7 HLd5 HD5 K35
  obtain ⟨x0, x1, y0, y1⟩ := HLd7.out.cells
  have hst : PlaySt (lo w3.heap.size) w7 b w7.heap.size 60 0 A A' c c' d (w7.alloc (.cells #[.slice A S.length c, .slice A' C.length c', .int .i64 0, .bool false, .int .i64 0] 35)) := by
    have hF : Top (lo w3.heap.size) w7.heap.size := (lo_top _).trans K37.out.size
    have hww : w.heap.size ≤ w3.heap.size := HLd.out.bel.size
    have hQ : RQ (lo w.heap.size) w7 A A' d := ⟨⟨by rw [hdS]; exact HLd7.out.t1, by rw [hdC]; exact HLd7.out.t2⟩, by rw [hdS]; exact rin_of_txs (HTW.out w (Below.refl _ _)).1, by rw [hdl]; exact rin_of_wrs (HTW.out w (Below.refl _ _)).2⟩
    have h := play_start (P := lo w3.heap.size) (m := 60) (c1 := c) (c2 := c') HD7.out hF hQ (fun k q => Nat.lt_of_lt_of_le q hww) (fun k q => q) hdH hdA.2.2 (by omega)
    rw [hdS, hdl, hdA.1, hdA.2.1, hdA.2.2] at h
    exact h
  have HB7 := Lib.hid HLd7.out.bel
  go_upto_region 11 with fail
  obtain ⟨gr, hgr⟩ : ∃ gr, w7.heap.size = gr := ⟨_, rfl⟩
  have HG := Lib.hid hgr
  rw [hgr] at hst ⊢
  clear hgr x0 x1 y0 y1
  generalize w7.alloc _ = w8 at *
  have HST := Lib.hid hst
  clear hst
  go_loopw [69] (fun i wr => ∃ k : Nat, k ≤ l.length ∧ i = .int .i64 k ∧ ∃ B1 B2 e1 e2 dk, PlaySt (lo w3.heap.size) w7 b gr 60 k B1 B2 e1 e2 dk wr) (fun i _ => l.length - (intOf i).toNat)
  case atStart => exact ⟨0, by omega, rfl, _, _, _, _, _, HST.out⟩
  case round =>
    obtain ⟨k, hk, rfl, B1, B2, e1, e2, dk, hst⟩ := hrel
    have hb3 := hst.kp.below K37.out.size
    have hbw := HB7.out.trans (hb3.mono HLd.out.bel.size)
    have HBw := Lib.hid hbw
    by_cases hlt : k < l.length
    · obtain ⟨g0, off, rfl, hg0, hc0⟩ := acs_at HL.out.1 hlt
      have hq := fun j u (hu : (l[k].cells)[j]? = some u) => (hbw.cell (p := ⟨g0, off + k * 6 + j, none⟩) hg0).trans (hc0 j u hu)
      have hok := HL.out.2 _ (List.getElem_mem hlt)
      generalize l[k] = a at hq hok
      have hoka := AcOk.kept hok hbw
      obtain ⟨q1, q2, q3, q4, q5⟩ := And.intro (hq 1 _ rfl) (And.intro (hq 2 _ rfl) (And.intro (hq 3 _ rfl) (And.intro (hq 4 _ rfl) (hq 5 _ rfl))))
      have q0 : wr.cell? ⟨g0, off + k * 6, none⟩ = some (.int .i64 a.kind) := hq 0 _ rfl
      have hki : (k : Int) < (l.length : Int) := by omega
      have ba := Joins.below_alloc1 wr (.cells a.cells.toArray 39)
      have hst5 := hst.later ba
      have HO := Lib.hid (hoka.later ba)
      obtain ⟨x0, x1, x2, x3, x4⟩ := hst5.cells
      have HST5 := Lib.hid hst5
      have hga := heap_alloc_last wr (.cells a.cells.toArray 39)
      have hcell := fun j => cell_of_row _ wr.heap.size j _ _ _ hga
      obtain ⟨ak, ap, an, t, raw, ka, kl, kc⟩ := a
      simp only [Ac.cells] at *
      have y0 := (hcell 0).trans rfl
      have y1 := (hcell 1).trans rfl
      have y2 := (hcell 2).trans rfl
      have y3 := (hcell 3).trans rfl
      have y4 := (hcell 4).trans rfl
      have y5 := (hcell 5).trans rfl
      clear hst hst5 hq hok hoka hc0 ba hga hcell hbw
      go_upto_region 14 with fail
      obtain ⟨ga, hgae⟩ : ∃ ga, wr.heap.size = ga := ⟨_, rfl⟩
      rw [hgae] at y0 y1 y2 y3 y4 y5 ⊢
      clear hgae q0 q1 q2 q3 q4 q5
      generalize wr.alloc _ = w5 at *
      go_wp2_with fail
      refine (does_play HST5.out (Nat.le_of_eq HG.out) (by omega) (by omega) ⟨ak, ap, an, t, raw, ka, kl, kc⟩ HO.out).mono ?_
      rintro x w6 ⟨A3, c3, A4, c4, d', rfl, hbox6, hS6, hst6⟩
      have z0 := (cell_of_row w6 gr 0 _ _ _ hbox6).trans rfl
      have z1 := (cell_of_row w6 gr 1 _ _ _ hbox6).trans rfl
      have z2 := (cell_of_row w6 gr 2 _ _ _ hbox6).trans rfl
      have z3 := (cell_of_row w6 gr 3 _ _ _ hbox6).trans rfl
      have z4 := (cell_of_row w6 gr 4 _ _ _ hbox6).trans rfl
      have f0 := frozen_of_row w6 gr 0 _ _ hbox6
      have f1 := frozen_of_row w6 gr 1 _ _ hbox6
      have f2 := frozen_of_row w6 gr 2 _ _ hbox6
      have f3 := frozen_of_row w6 gr 3 _ _ hbox6
      have f4 := frozen_of_row w6 gr 4 _ _ hbox6
      have HST6 := Lib.hid hst6
      clear hst6 hbox6 hS6 x0 x1 x2 x3 x4 y0 y1 y2 y3 y4 y5
      go_upto_region 17 with fail
      clear z0 z1 z2 z3 z4 f0 f1 f2 f3 f4
      generalize World.setCell _ _ _ = w7 at *
      go_wp2
      go_round
      case rel => exact ⟨k + 1, by omega, by go_num, A3, A4, c3, c4, d', HST6.out⟩
      case measure => simp [intOf]; omega
    · obtain rfl : k = l.length := by omega
      obtain ⟨x0, x1, -⟩ := hst.cells
      have hld := HLd.out.later (K37.out.trans hb3)
      have hgl := (Array.getElem?_eq_some_iff.1 hst.box).1
      have hkeep : ∀ W', Below wr.heap.size wr W' → (W'.cell? ⟨gr, 0, none⟩ = some (.slice B1 dk.S.length e1) ∧ W'.cell? ⟨gr, 1, none⟩ = some (.slice B2 dk.C.length e2) ∧ W'.cell? ⟨g5, 0, none⟩ = some (.slice A1 S.length c1) ∧ W'.cell? ⟨g5, 1, none⟩ = some (.slice A2 C.length c2) ∧ W'.cell? ⟨w.heap.size, 0, none⟩ = some (.slice A S.length c) ∧ W'.cell? ⟨w.heap.size, 1, none⟩ = some (.slice A' C.length c')) ∧ Ld w A A' A1 A2 c c' c1 c2 S C g5 W' := fun W' q => by
        have h := hld.later q
        obtain ⟨t1, t2, t3, t4⟩ := h.cells
        exact ⟨⟨(q.cell (p := ⟨gr, 0, none⟩) hgl).trans x0, (q.cell (p := ⟨gr, 1, none⟩) hgl).trans x1, t3, t4, t1, t2⟩, h⟩
      have hk0 := (hkeep wr.drew (Below.refl _ _).drew).1
      have HKp := Lib.hid (fun W' q => (hkeep W' q).1)
      have HKl := Lib.hid (fun W' q => (hkeep W' q).2)
      obtain ⟨F, Q, hb, -⟩ := hst.ex
      have hos := hb.disk.ok
      have hl1 : (dk.S.length : Int) ≤ 1000000 := by have := hos.most; omega
      have hl2 : ((ints dk.C).length : Int) ≤ 1000000 := by have := hos.few; rw [ints_length]; omega
      have hSz := fun W' (q : Below wr.heap.size wr W') => seize_any F b dk W' (hb.disk.later q) (hb.top.trans q.size)
      have hSame := fun W' (q : Below wr.heap.size wr W') B B' k k' (h1 : Txs W' B dk.S) (h2 : Wrs W' B' (ints dk.C)) => same_any B B' B1 B2 k k' e1 e2 dk.S (ints dk.C) W' h1 h2 (hb.rows.rows.1.later q) (hb.rows.rows.2.later q) hl1 hl2
      rw [ints_length] at hSame
      have HSz2 := Lib.hid hSz
      have HSame2 := Lib.hid hSame
      have HSame3 := Lib.hid (fun W (q : Ld w A A' A1 A2 c c' c1 c2 S C g5 W) => same_any A1 A2 A A' c1 c2 c c' S C W q.t3 q.t4 q.t1 q.t2 (by omega) (by omega))
      clear hst hkeep x0 x1 hb hos hl1 hl2 hSz hSame hbw hld hb3
      go_upto_region 18 with fail
      go_region_held3 (fun W' => W'.cell? ⟨gr, 0, none⟩ = some (.slice B1 dk.S.length e1) ∧ W'.cell? ⟨gr, 1, none⟩ = some (.slice B2 dk.C.length e2) ∧ W'.cell? ⟨g5, 0, none⟩ = some (.slice A1 S.length c1) ∧ W'.cell? ⟨g5, 1, none⟩ = some (.slice A2 C.length c2) ∧ W'.cell? ⟨w.heap.size, 0, none⟩ = some (.slice A S.length c) ∧ W'.cell? ⟨w.heap.size, 1, none⟩ = some (.slice A' C.length c')) (first | with_reducible exact hk0 | with_reducible exact HKp.out _ B9.out | with_reducible exact HKp.out _ B8.out | with_reducible exact HKp.out _ B7.out | with_reducible exact HKp.out _ B6.out) (first
        | (go_at_call 10; refine (HSz2.out _ (Below.refl _ _).drew).mono ?_; rintro x w9 ⟨⟨g6, cg6, A6', c6', rfl, hr6, -, hw6⟩, b6⟩; have B6 := Lib.hid (below_drew b6))
        | (go_at_call_of 13 (Value.slice (some ⟨g6, 0, none⟩) dk.S.length cg6); refine (HSame2.out w9 B6.out (some ⟨g6, 0, none⟩) A6' cg6 c6' hr6.txs hw6).mono ?_; rintro x w10 ⟨rfl, b7⟩; have B7 := Lib.hid (B6.out.trans (b7.mono B6.out.size)))
        | (go_at_call 13; refine (HSame3.out w10 (HKl.out w10 B7.out)).mono ?_; rintro x w11 ⟨rfl, b8⟩; have B8 := Lib.hid (B7.out.trans (b8.mono B7.out.size)))
        | (go_at_call 8; refine (awake_any _).mono ?_; rintro x w12 ⟨rfl, b9⟩; have B9 := Lib.hid (B8.out.trans (b9.mono B8.out.size))))
      go_wp2
      go_ret
      exact ⟨rfl, HBw.out.trans (B9.out.mono HBw.out.size)⟩
theorem loads_walk (A A' : Option Addr) (c c' : Nat) (S : List ByteArray) (C : List (Int × ByteArray)) (A0 : Option Addr) (c0 : Nat) (l : List Ac) (w : World) (hT : Txs w A S) (hW : Wrs w A' C) (hz : ∀ x ∈ C, (Lit.int .i64 x.1).wf = true ∧ x.2.size ≤ maxLen) (hS : S.length * 16 ≤ reachBytes) (hC : C.length * 24 ≤ reachBytes) (hl : Acs w A0 l) (hm : l.length ≤ maxLen) (ok : ∀ a ∈ l, AcOk w a) :
    Calls Try.prog 4 #[.agg #[.slice A S.length c, .slice A' C.length c'], .slice A0 l.length c0] w fun x w' => x = .returned (.bool true) ∧ Below w.heap.size w w' := by
  have hm' : (l.length : Int) ≤ 9223372036854775807 := by unfold maxLen at hm; omega
  have hr : reachBytes ≤ 140737488355328 := by decide
  by_cases h1 : S.length ≤ 60 ∧ C.length ≤ 60
  · by_cases hf : fewB l ∧ l.length ≤ 20
    · by_cases h2 : mayP S C
      · exact loads_main A A' c c' S C A0 c0 l w h1 hT hW hz hl hm' ok hf h2
      · exact loads_bad A A' c c' S C A0 c0 l w h1 hT hW hz hl hm' ok hf h2
    · exact loads_many A A' c c' S C A0 c0 l w h1 hl hm' ok hf
  · exact loads_off A A' c c' S C A0 c0 l w (by omega) (by omega) h1
end Go.Proofs.Ytmehehiobcpeoaa.Disk
