/-
  Whatever is done with a disk of any few sectors (DiskPlays): the walk.
-/
import Derived.Test.YtmehehiobcpeoaaPlay
import Derived.Deep.RegionHeld3
namespace Go.Proofs.Ytmehehiobcpeoaa.Disk
open Go.RowKit Go.Proofs.Ytmehehiobcpeoaa.DiskRows
set_option linter.unusedVariables false
set_option linter.unusedSimpArgs false
set_option maxRecDepth 100000

theorem acs_ok_few {w : World} {l : List Ac} (ok : ∀ a ∈ l, AcOk w a) : ∀ a ∈ l, (a.text.size : Int) ≤ 9223372036854775807 ∧ (a.kl : Int) ≤ 9223372036854775807 := fun a ha => by
  have h1 := (ok a ha).text
  have h2 := (ok a ha).kl
  have : reachBytes ≤ 140737488355328 := by decide
  unfold maxLen at h2
  omega
theorem acs_at {w : World} {A : Option Addr} {l : List Ac} (h : Acs w A l) {k : Nat} (hk : k < l.length) : ∃ g off, A = some ⟨g, off, none⟩ ∧ g < w.heap.size ∧ ∀ j u, (l[k].cells)[j]? = some u → w.cell? ⟨g, off + k * 6 + j, none⟩ = some u := by
  rcases h with rfl | ⟨g, off, rfl, hg, hc⟩
  · simp at hk
  · exact ⟨g, off, rfl, hg, hc k hk⟩
theorem noughts_Z (w : World) : Calls Try.prog 11 #[.int .i64 128] w fun e w' => e = .returned (.string Z) ∧ Below w.heap.size w w' := noughts_any 128 w (by omega)
theorem plays_off (n : Int) (A0 : Option Addr) (c0 : Nat) (l : List Ac) (w : World) (h1 : 40 < n) (h2 : n ≤ 4096) :
    Calls Try.prog 3 #[.int .i64 n, .slice A0 l.length c0] w fun x w' => x = .returned (.bool true) ∧ Below w.heap.size w w' := by
  have d1 : decide ((40 : Int) < n) = true := decide_eq_true h1
  have d2 : decide (n ≤ 4096) = true := decide_eq_true h2
  clear h1 h2
  go_enter Try.func3, Try.ntmps3
  go_wp2_with fail
  refine (awake_any w).mono ?_
  rintro x w1 ⟨rfl, b1⟩
  go_wp2
  go_ret
  exact ⟨rfl, b1⟩
theorem plays_many (n : Int) (A0 : Option Addr) (c0 : Nat) (l : List Ac) (w : World) (h1 : ¬ (40 < n ∧ n ≤ 4096)) (hl : Acs w A0 l) (hm : (l.length : Int) ≤ 9223372036854775807) (ok : ∀ a ∈ l, AcOk w a) (hf : ¬ fewB l) :
    Calls Try.prog 3 #[.int .i64 n, .slice A0 l.length c0] w fun x w' => x = .returned (.bool true) ∧ Below w.heap.size w w' := by
  have hfew := few_any A0 c0 l w hl hm (acs_ok_few ok)
  rw [decide_eq_false hf] at hfew
  have HF := Lib.hid hfew
  clear hfew hl hm ok hf
  by_cases h40 : 40 < n
  · have d1 : decide ((40 : Int) < n) = true := decide_eq_true h40
    have d2 : decide (n ≤ 4096) = false := decide_eq_false (by omega)
    clear h1 h40
    go_enter Try.func3, Try.ntmps3
    go_wp2_with fail
    refine HF.out.mono ?_
    rintro x w1 ⟨rfl, b1⟩
    go_wp2_with fail
    refine (awake_any w1).mono ?_
    rintro x w2 ⟨rfl, b2⟩
    go_wp2
    go_ret
    exact ⟨rfl, b1.trans (b2.mono b1.size)⟩
  · have d1 : decide ((40 : Int) < n) = false := decide_eq_false h40
    clear h1 h40
    go_enter Try.func3, Try.ntmps3
    go_wp2_with fail
    refine HF.out.mono ?_
    rintro x w1 ⟨rfl, b1⟩
    go_wp2_with fail
    refine (awake_any w1).mono ?_
    rintro x w2 ⟨rfl, b2⟩
    go_wp2
    go_ret
    exact ⟨rfl, b1.trans (b2.mono b1.size)⟩
theorem plays_bad (n : Int) (A0 : Option Addr) (c0 : Nat) (l : List Ac) (w : World) (h1 : n < 16 ∨ 4096 < n) (hl : Acs w A0 l) (hm : (l.length : Int) ≤ 9223372036854775807) (ok : ∀ a ∈ l, AcOk w a) (hf : fewB l) :
    Calls Try.prog 3 #[.int .i64 n, .slice A0 l.length c0] w fun x w' => x = .returned (.bool true) ∧ Below w.heap.size w w' := by
  have hfew := few_any A0 c0 l w hl hm (acs_ok_few ok)
  rw [decide_eq_true hf] at hfew
  have HF := Lib.hid hfew
  have HN := Lib.hid (fun W => new_bad n W h1)
  clear hfew hl hm ok hf
  by_cases h16 : n < 16
  · have d1 : decide ((40 : Int) < n) = false := decide_eq_false (by omega)
    have d2 : decide (n < 16) = true := decide_eq_true h16
    clear h1 h16
    go_enter Try.func3, Try.ntmps3
    go_wp2_with fail
    refine HF.out.mono ?_
    rintro x w1 ⟨rfl, b1⟩
    go_wp2_with fail
    refine (HN.out w1).mono ?_
    rintro x w2 ⟨rfl, rfl⟩
    go_wp2_with fail
    refine (awake_any w1).mono ?_
    rintro x w2 ⟨rfl, b2⟩
    go_wp2
    go_ret
    exact ⟨rfl, b1.trans (b2.mono b1.size)⟩
  · have d1 : decide ((40 : Int) < n) = true := decide_eq_true (by omega)
    have d2 : decide (n ≤ 4096) = false := decide_eq_false (by omega)
    have d3 : decide (n < 16) = false := decide_eq_false (by omega)
    have d4 : decide ((4096 : Int) < n) = true := decide_eq_true (by omega)
    clear h1 h16
    go_enter Try.func3, Try.ntmps3
    go_wp2_with fail
    refine HF.out.mono ?_
    rintro x w1 ⟨rfl, b1⟩
    go_wp2_with fail
    refine (HN.out w1).mono ?_
    rintro x w2 ⟨rfl, rfl⟩
    go_wp2_with fail
    refine (awake_any w1).mono ?_
    rintro x w2 ⟨rfl, b2⟩
    go_wp2
    go_ret
    exact ⟨rfl, b1.trans (b2.mono b1.size)⟩
theorem below_drew {w w' : World} (h : Below w.drew.heap.size w.drew w') : Below w.heap.size w w' := (Below.refl _ w).drew.trans h
theorem AcOk.kept {w w' : World} {a : Ac} (h : AcOk w a) (k : Below w.heap.size w w') : AcOk w' a := h.later k
set_option maxHeartbeats 6400000 in
theorem plays_main (N : Nat) (A0 : Option Addr) (c0 : Nat) (l : List Ac) (w : World) (h16 : 16 ≤ N) (h40 : N ≤ 40) (hl : Acs w A0 l) (hm : (l.length : Int) ≤ 9223372036854775807) (ok : ∀ a ∈ l, AcOk w a) (hf : fewB l) :
    Calls Try.prog 3 #[.int .i64 N, .slice A0 l.length c0] w fun x w' => x = .returned (.bool true) ∧ Below w.heap.size w w' := by
  have hfew := few_any A0 c0 l w hl hm (acs_ok_few ok)
  rw [decide_eq_true hf] at hfew
  have HF := Lib.hid hfew
  have HL := Lib.hid (And.intro hl ok)
  have hll : (l.length : Int) ≤ 60 := by have := hf.1; omega
  have HN := Lib.hid (And.intro h16 h40)
  have d1 : decide ((40 : Int) < (N : Int)) = false := decide_eq_false (by omega)
  have d2 : decide ((N : Int) < 16) = false := decide_eq_false (by omega)
  have d3 : decide ((4096 : Int) < (N : Int)) = false := decide_eq_false (by omega)
  have hNi : (N : Int) ≤ 40 := by omega
  clear hfew hl hm ok hf h16 h40
  go_enter Try.func3, Try.ntmps3
  go_wp2_with fail
  refine HF.out.mono ?_
  rintro x w1 ⟨rfl, b1⟩
  go_wp2_with fail
  refine (new_ok N w1 HN.out.1 (by have := HN.out.2; omega)).mono ?_
  rintro x w2 ⟨⟨b, rfl, hd⟩, b2⟩
  have B2 := Lib.hid (b1.trans (b2.mono b1.size))
  have HD := Lib.hid (hd.base (base0 := lo w.heap.size) (fun k hk => Nat.lt_of_lt_of_le hk b1.size))
  clear b1 b2 hd d1
  go_wp2_with fail
  have hsz := seize_any (lo w.heap.size) b (fresh N) w2 HD.out ((lo_top _).trans B2.out.size)
  rw [show (fresh N).S.length = N by simp [fresh], show (fresh N).S = List.replicate N Z from rfl, show (fresh N).C = [] from rfl] at hsz
  refine hsz.mono ?_
  rintro x w3 ⟨⟨g, cg, A6, c6, rfl, hr, hg, hw6⟩, b3⟩
  have hst : PlaySt (lo w.heap.size) w3 b w3.heap.size 0 0 (some ⟨g, 0, none⟩) A6 cg c6 (fresh N) (w3.alloc (.cells #[.slice (some ⟨g, 0, none⟩) N cg, .slice A6 0 c6, .int .i64 0, .bool false, .int .i64 0] 35)) := by
    have h := play_start (P := lo w.heap.size) (m := 0) (c1 := cg) (c2 := c6) (HD.out.grow b3) (Plus.top ((lo_top _).trans B2.out.size) b3.size) (Q := Plus (lo w.heap.size) w2.heap.size w3.heap.size) (A1 := some ⟨g, 0, none⟩) (A2 := A6) ⟨⟨hr.txs, hw6⟩, .inr ⟨g, 0, rfl, .inr ⟨hg, hr.lt⟩⟩, .inl rfl⟩ (fun k q => q) (fun k q => .inl q) rfl rfl (by simp [fresh])
    rw [show (fresh N).S.length = N by simp [fresh], show (fresh N).C = [] from rfl] at h
    exact h
  have hrow := (hr.alloc (.cells #[.slice (some ⟨g, 0, none⟩) N cg, .slice A6 0 c6, .int .i64 0, .bool false, .int .i64 0] 35))
  have B4 := Lib.hid ((B2.out.trans (b3.mono B2.out.size)).alloc (Nat.le_trans B2.out.size b3.size) (.cells #[.slice (some ⟨g, 0, none⟩) N cg, .slice A6 0 c6, .int .i64 0, .bool false, .int .i64 0] 35))
  have HB3 := Lib.hid (Nat.le_trans B2.out.size b3.size)
  have HBW := Lib.hid (B2.out.trans (b3.mono B2.out.size))
  clear hr hg hw6 b3 hsz
  go_upto_region 9 with fail
  obtain ⟨gr, hgr⟩ : ∃ gr, w3.heap.size = gr := ⟨_, rfl⟩
  have HG := Lib.hid hgr
  rw [hgr] at hst HB3 ⊢
  clear hgr
  generalize w3.alloc _ = w4 at *
  have HS := Lib.hid (And.intro hst hrow)
  obtain ⟨x0, x1, x2, x3, x4⟩ := hst.cells
  rw [show (fresh N).S.length = N by simp [fresh]] at x0
  rw [show (fresh N).C = [] from rfl] at x1
  clear hst hrow
  go_upto_region 12 with fail
  clear x0 x1 x2 x3 x4
  go_loopw [67] (fun i wr => ∃ k : Nat, k ≤ N ∧ i = .int .i64 k ∧ Below w4.heap.size w4 wr) (fun i _ => N - (intOf i).toNat)
  case atStart => exact ⟨0, by omega, rfl, Below.refl _ _⟩
  case round =>
    obtain ⟨k, hk, rfl, bk⟩ := hrel
    by_cases hlt : k < N
    · have hst := HS.out.1.later bk
      have hrow := HS.out.2.below bk HS.out.2.lt
      have x0 := hst.cells.1
      rw [show (fresh N).S.length = N by simp [fresh]] at x0
      have x1 := hrow.cell (i := k) (by simpa using hlt)
      rw [show (List.replicate N Z).getD k ByteArray.empty = Z by simp [List.getD_eq_getElem?_getD, hlt]] at x1
      have hx := And.intro x0 x1
      have hki : (k : Int) < (N : Int) := by omega
      have hgl := (Array.getElem?_eq_some_iff.1 hst.box).1
      have hgl2 := hrow.lt
      have HBK := Lib.hid bk
      have hkeep : ∀ W', Below wr.heap.size wr W' → W'.cell? ⟨gr, 0, none⟩ = some (.slice (some ⟨g, 0, none⟩) N cg) ∧ W'.cell? ⟨g, k, none⟩ = some (.string Z) := fun W' q => ⟨(q.cell (p := ⟨gr, 0, none⟩) hgl).trans x0, (q.cell (p := ⟨g, k, none⟩) hgl2).trans x1⟩
      have hk0 := hkeep wr.drew (Below.refl _ _).drew
      have HKp := Lib.hid hkeep
      clear hst hrow bk hkeep x0 x1 hx
      go_upto_region 14 with fail
      go_region_held3 (fun W' => W'.cell? ⟨gr, 0, none⟩ = some (.slice (some ⟨g, 0, none⟩) N cg) ∧ W'.cell? ⟨g, k, none⟩ = some (.string Z)) (first | with_reducible exact hk0 | with_reducible exact HKp.out _ (below_drew hbn)) (first | (go_at_call 11; refine (noughts_Z _).mono ?_; rintro x w5 ⟨rfl, hbn⟩))
      have hb5 := HBK.out.trans ((below_drew hbn).mono HBK.out.size)
      go_wp2
      go_round
      case rel => exact ⟨k + 1, by omega, by go_num, hb5⟩
      case measure => simp [intOf]; omega
    · obtain rfl : k = N := by omega
      have hst := HS.out.1.later bk
      have HST := Lib.hid hst
      clear hst bk
      go_upto_region 18 with fail
      go_loopw [81] (fun i wr => ∃ k : Nat, k ≤ l.length ∧ i = .int .i64 k ∧ ∃ A1 A2 c1 c2 d, PlaySt (lo w.heap.size) w3 b gr 0 k A1 A2 c1 c2 d wr) (fun i _ => l.length - (intOf i).toNat)
      case atStart => exact ⟨0, by omega, rfl, _, _, _, _, _, HST.out⟩
      case round =>
        obtain ⟨k, hk, rfl, A1, A2, c1, c2, d, hst⟩ := hrel
        have hbw := HBW.out.trans (hst.kp.below HBW.out.size)
        have HBw := Lib.hid hbw
        by_cases hlt : k < l.length
        · obtain ⟨g0, off, rfl, hg0, hc0⟩ := acs_at HL.out.1 hlt
          have hq := fun j u (hu : (l[k].cells)[j]? = some u) => (hbw.cell (p := ⟨g0, off + k * 6 + j, none⟩) hg0).trans (hc0 j u hu)
          have hok := HL.out.2 _ (List.getElem_mem hlt)
          generalize l[k] = a at hq hok
          have hoka := AcOk.kept hok hbw
          obtain ⟨q1, q2, q3, q4, q5⟩ := And.intro (hq 1 _ rfl) (And.intro (hq 2 _ rfl) (And.intro (hq 3 _ rfl) (And.intro (hq 4 _ rfl) (hq 5 _ rfl))))
          have q0 : wr.cell? ⟨g0, off + k * 6, none⟩ = some (.int .i64 a.kind) := hq 0 _ rfl
          have hki : (k : Int) < (l.length : Int) := by omega
          have ba := Joins.below_alloc1 wr (.cells a.cells.toArray 39)
          have hst5 := hst.later ba
          have HO := Lib.hid (hoka.later ba)
          obtain ⟨x0, x1, x2, x3, x4⟩ := hst5.cells
          have HST5 := Lib.hid hst5
          have hga := heap_alloc_last wr (.cells a.cells.toArray 39)
          have hcell := fun j => cell_of_row _ wr.heap.size j _ _ _ hga
          obtain ⟨ak, ap, an, t, raw, ka, kl, kc⟩ := a
          simp only [Ac.cells] at *
          have y0 := (hcell 0).trans rfl
          have y1 := (hcell 1).trans rfl
          have y2 := (hcell 2).trans rfl
          have y3 := (hcell 3).trans rfl
          have y4 := (hcell 4).trans rfl
          have y5 := (hcell 5).trans rfl
          clear hst hst5 hq hok hoka hc0 ba hga hcell hbw
          go_upto_region 21 with fail
          obtain ⟨ga, hgae⟩ : ∃ ga, wr.heap.size = ga := ⟨_, rfl⟩
          rw [hgae] at y0 y1 y2 y3 y4 y5 ⊢
          clear hgae q0 q1 q2 q3 q4 q5
          generalize wr.alloc _ = w5 at *
          go_wp2_with fail
          refine (does_play HST5.out (Nat.le_of_eq HG.out) (by omega) (by omega) ⟨ak, ap, an, t, raw, ka, kl, kc⟩ HO.out).mono ?_
          rintro x w6 ⟨A3, c3, A4, c4, d', rfl, hbox6, hS6, hst6⟩
          have z0 := (cell_of_row w6 gr 0 _ _ _ hbox6).trans rfl
          have z1 := (cell_of_row w6 gr 1 _ _ _ hbox6).trans rfl
          have z2 := (cell_of_row w6 gr 2 _ _ _ hbox6).trans rfl
          have z3 := (cell_of_row w6 gr 3 _ _ _ hbox6).trans rfl
          have z4 := (cell_of_row w6 gr 4 _ _ _ hbox6).trans rfl
          have f0 := frozen_of_row w6 gr 0 _ _ hbox6
          have f1 := frozen_of_row w6 gr 1 _ _ hbox6
          have f2 := frozen_of_row w6 gr 2 _ _ hbox6
          have f3 := frozen_of_row w6 gr 3 _ _ hbox6
          have f4 := frozen_of_row w6 gr 4 _ _ hbox6
          have HST6 := Lib.hid hst6
          clear hst6 hbox6 hS6 x0 x1 x2 x3 x4 y0 y1 y2 y3 y4 y5
          go_upto_region 24 with fail
          clear z0 z1 z2 z3 z4 f0 f1 f2 f3 f4
          generalize World.setCell _ _ _ = w7 at *
          go_wp2
          go_round
          case rel => exact ⟨k + 1, by omega, by go_num, A3, A4, c3, c4, d', HST6.out⟩
          case measure => simp [intOf]; omega
        · obtain rfl : k = l.length := by omega
          obtain ⟨x0, x1, -⟩ := hst.cells
          have hx := And.intro x0 x1
          have hgl := (Array.getElem?_eq_some_iff.1 hst.box).1
          have hkeep : ∀ W', Below wr.heap.size wr W' → W'.cell? ⟨gr, 0, none⟩ = some (.slice A1 d.S.length c1) ∧ W'.cell? ⟨gr, 1, none⟩ = some (.slice A2 d.C.length c2) := fun W' q => ⟨(q.cell (p := ⟨gr, 0, none⟩) hgl).trans x0, (q.cell (p := ⟨gr, 1, none⟩) hgl).trans x1⟩
          have hk0 := hkeep wr.drew (Below.refl _ _).drew
          have HKp := Lib.hid hkeep
          obtain ⟨F, Q, hb, -⟩ := hst.ex
          have hos := hb.disk.ok
          have hl1 : (d.S.length : Int) ≤ 1000000 := by have := hos.most; omega
          have hl2 : ((ints d.C).length : Int) ≤ 1000000 := by have := hos.few; rw [ints_length]; omega
          have hSz := fun W' (q : Below wr.heap.size wr W') => seize_any F b d W' (hb.disk.later q) (hb.top.trans q.size)
          have hSame := fun W' (q : Below wr.heap.size wr W') B B' k k' (h1 : Txs W' B d.S) (h2 : Wrs W' B' (ints d.C)) => same_any B B' A1 A2 k k' c1 c2 d.S (ints d.C) W' h1 h2 (hb.rows.rows.1.later q) (hb.rows.rows.2.later q) hl1 hl2
          rw [ints_length] at hSame
          have HSz := Lib.hid hSz
          have HSame := Lib.hid hSame
          clear hst hkeep x0 x1 hx hb hos hl1 hl2 hSz hSame hbw
          go_upto_region 25 with fail
          go_region_held3 (fun W' => W'.cell? ⟨gr, 0, none⟩ = some (.slice A1 d.S.length c1) ∧ W'.cell? ⟨gr, 1, none⟩ = some (.slice A2 d.C.length c2)) (first | with_reducible exact hk0 | with_reducible exact HKp.out _ B8.out | with_reducible exact HKp.out _ B7.out | with_reducible exact HKp.out _ B6.out) (first
            | (go_at_call 10; refine (HSz.out _ (Below.refl _ _).drew).mono ?_; rintro x w6 ⟨⟨g6, cg6, A6', c6', rfl, hr6, -, hw6⟩, b6⟩; have B6 := Lib.hid (below_drew b6))
            | (go_at_call 13; refine (HSame.out w6 B6.out (some ⟨g6, 0, none⟩) A6' cg6 c6' hr6.txs hw6).mono ?_; rintro x w7 ⟨rfl, b7⟩; have B7 := Lib.hid (B6.out.trans (b7.mono B6.out.size)))
            | (go_at_call 8; refine (awake_any _).mono ?_; rintro x w8 ⟨rfl, b8⟩; have B8 := Lib.hid (B7.out.trans (b8.mono B7.out.size))))
          go_wp2
          go_ret
          exact ⟨rfl, HBw.out.trans (B8.out.mono HBw.out.size)⟩
theorem plays_walk (n : Int) (A0 : Option Addr) (c0 : Nat) (l : List Ac) (w : World) (hl : Acs w A0 l) (hm : l.length ≤ maxLen) (ok : ∀ a ∈ l, AcOk w a) :
    Calls Try.prog 3 #[.int .i64 n, .slice A0 l.length c0] w fun x w' => x = .returned (.bool true) ∧ Below w.heap.size w w' := by
  have hm' : (l.length : Int) ≤ 9223372036854775807 := by unfold maxLen at hm; omega
  by_cases h1 : 40 < n ∧ n ≤ 4096
  · exact plays_off n A0 c0 l w h1.1 h1.2
  · by_cases hf : fewB l
    · by_cases h2 : n < 16 ∨ 4096 < n
      · exact plays_bad n A0 c0 l w h2 hl hm' ok hf
      · obtain ⟨N, rfl⟩ : ∃ N : Nat, n = N := ⟨n.toNat, by omega⟩
        exact plays_main N A0 c0 l w (by omega) (by omega) hl hm' ok hf
    · exact plays_many n A0 c0 l w h1 hl hm' ok hf
end Go.Proofs.Ytmehehiobcpeoaa.Disk
