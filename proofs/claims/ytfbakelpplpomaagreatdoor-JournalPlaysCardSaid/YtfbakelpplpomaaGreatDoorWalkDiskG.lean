/-
  The walks of the disk's Flush; slices.Clone of writes; Seize; the methods over no disk.
-/
import Derived.Test.YtfbakelpplpomaaGreatDoorWalkDiskE
import Derived.Deep.Upon
namespace Go.Proofs.YtfbakelpplpomaaGreatDoor.Disk
open Go.RowKit Go.Proofs.YtfbakelpplpomaaGreatDoor.DiskRows
set_option linter.unusedVariables false
set_option linter.unusedSimpArgs false
set_option maxRecDepth 100000

set_option maxHeartbeats 1600000 in
theorem flush_go (base : Nat → Prop) (b : Nat) (d : Dk) (w : World) (h : DiskAt base b d w) (hd : d.down = false) (hst : d.step.2 = false) (ho : d.ops < 1000000000000) (hbase : Top base w.heap.size) :
    Calls Tryz.prog 41 #[.pointer (some ⟨b, 0, none⟩)] w fun x w' => x = .returned (.int .i64 0) ∧ DiskAt base b { d.step.1 with S := shows d.S d.C, C := [] } w' ∧ Kp base w w' := by
  have hr := ready_hid h 0 (by rw [hd]; rfl)
  have HR := Lib.hid hr
  obtain ⟨eS, eH, eC⟩ := step_same d
  obtain ⟨gS, cS, gH, cH, vC, h⟩ := h
  have hs := step_any base b gS cS gH cH vC d w h ho
  rw [hst] at hs
  obtain ⟨dd, hdd⟩ : ∃ dd, d.step.1 = dd := ⟨_, rfl⟩
  rw [hdd] at eS eH eC hs ⊢
  rw [← eS, ← eC]
  have HS := Lib.hid hs
  clear hr hs h hd hst ho eS eH eC hdd
  go_enter Tryz.func41, Tryz.ntmps41
  go_wp2_with fail
  refine HR.out.mono ?_
  rintro x w1 ⟨rfl, rfl⟩
  go_wp2_with fail
  refine HS.out.mono ?_
  rintro x w1 ⟨rfl, h1, b1, z1⟩
  have hb1 : Top base w1.heap.size := by rw [z1]; exact hbase
  clear z1 HS HR
  obtain ⟨aC, nC, kC, rfl⟩ := own_shapeV h1.rowC
  have hnC := own_lenW h1.rowC
  subst hnC
  have c1 : w1.cell? ⟨b, 1, none⟩ = some (.slice aC dd.C.length kC) := by rw [cell_of_row w1 b 1 _ _ _ h1.heap]; rfl
  have H1 := Lib.hid h1
  clear h1
  go_upto_region 8 with fail
  clear c1
  go_loopw [23] (fun i wr => ∃ k : Nat, k ≤ dd.C.length ∧ i = .int .i64 k ∧ DAt base b gS cS gH cH (.slice aC dd.C.length kC) { dd with S := shows dd.S (dd.C.take k) } wr ∧ Kp base w wr) (fun i _ => dd.C.length - (intOf i).toNat)
  case atStart => exact ⟨0, by omega, rfl, H1.out, b1⟩
  case round =>
    obtain ⟨k, hk, rfl, hd, bq⟩ := hrel
    have hbaser := hbase.trans bq.size
    by_cases hlt : k < dd.C.length
    · obtain ⟨gC, oC, rfl⟩ : ∃ g o, aC = some ⟨g, o, none⟩ := by
        rcases hd.rowC.2 with ⟨e, h0⟩ | ⟨g, cap, cur, e, _⟩
        · have h0' : dd.C.length = 0 := h0
          omega
        · simp at e; exact ⟨g, 0, e.1⟩
      obtain ⟨rfl, q1, q2⟩ := own_cellW hd.rowC k hlt
      have hsk := shows_take dd.S dd.C k hlt _ rfl
      have hat := hd.ats (dd.C.getD k (0, ByteArray.empty)) (by rw [List.getD_eq_getElem?_getD, List.getElem?_eq_getElem hlt]; exact List.getElem_mem hlt)
      obtain ⟨x, hx⟩ : ∃ x, dd.C.getD k (0, ByteArray.empty) = x := ⟨_, rfl⟩
      rw [hx] at q1 q2 hsk hat
      obtain ⟨i, s⟩ := x
      dsimp only at q1 q2 hsk hat
      have c0 : wr.cell? ⟨b, 0, none⟩ = some (.slice (some ⟨gS, 0, none⟩) dd.S.length cS) := by rw [cell_of_row wr b 0 _ _ _ hd.heap]; simp [dV, shows_length]
      have hin : (i : Int) < (dd.S.length : Int) := by rw [shows_length] at hat; omega
      have hfi : (dd.C.length : Int) ≤ 100000 := by have : dd.C.length ≤ 100000 := hd.few; omega
      have c3 := hd.rowS.cell (i := i) hat
      have f3 := hd.rowS.frozen i
      have hgl := hd.rowS.lt
      have hgb := hd.lt
      have ka := Joins.below_alloc1 wr (.cells #[.int .i64 (i : Nat), .string s] 89)
      have hda := (hd.later ka).setS i (by exact hat) s
      have bqa : Kp base w ((wr.alloc (.cells #[.int .i64 (i : Nat), .string s] 89)).setCell ⟨gS, i, none⟩ (.string s)) := (bq.alloc hbaser _).setCell (p := ⟨gS, i, none⟩) hd.sep.2.1 _
      have a0 := (ka.cell (p := ⟨b, 0, none⟩) hgb).trans c0
      have a3 := (ka.cell (p := ⟨gS, i, none⟩) hgl).trans c3
      have a4 := (ka.frozen (p := ⟨gS, i, none⟩) hgl).trans f3
      have a5 : (wr.alloc (.cells #[.int .i64 (i : Nat), .string s] 89)).cell? ⟨wr.heap.size, 0, none⟩ = some (.int .i64 (i : Nat)) := (cell_of_row _ _ 0 _ _ _ (heap_alloc_last _ _)).trans rfl
      have a6 : (wr.alloc (.cells #[.int .i64 (i : Nat), .string s] 89)).cell? ⟨wr.heap.size, 1, none⟩ = some (.string s) := (cell_of_row _ _ 1 _ _ _ (heap_alloc_last _ _)).trans rfl
      have HD := Lib.hid (And.intro hda bqa)
      have HK := Lib.hid hsk
      clear hd ka hda bqa c0 c3 f3 hx hsk hat
      go_upto_region 10 with fail
      clear q1 q2
      generalize World.alloc _ _ = wa at *
      go_region
      go_wp2
      go_round
      case rel => exact ⟨k + 1, by omega, by go_num, by rw [HK.out]; exact HD.out.1.drewD, HD.out.2.drew⟩
      case measure => simp [intOf]; omega
    · have hkc : k = dd.C.length := by omega
      subst hkc
      rw [List.take_length] at hd
      have f1 := frozen_of_row wr b 1 _ _ hd.heap
      have c1 : wr.cell? ⟨b, 1, none⟩ = some (.slice aC dd.C.length kC) := by rw [cell_of_row wr b 1 _ _ _ hd.heap]; rfl
      have h1 := hd.setC (.slice none 0 0) [] (World.ownsRow_nil _ _ _ _) (fun k hk => by simp [Value.ownBlock] at hk) (fun k hk => by simp [Value.ownBlock] at hk) (by simp) (by simp)
      have hB := bq.setCell (p := ⟨b, 1, none⟩) hd.sep.1 (.slice none 0 0)
      have H2 := Lib.hid (And.intro h1 hB)
      clear hd h1 hB
      go_wp2
      go_ret
      exact ⟨rfl, ⟨gS, cS, gH, cH, _, H2.out.1⟩, H2.out.2⟩
theorem flush_any (base : Nat → Prop) (b : Nat) (d : Dk) (w : World) (h : DiskAt base b d w) (ho : d.ops < 1000000000000) (hbase : Top base w.heap.size) :
    Calls Tryz.prog 41 #[.pointer (some ⟨b, 0, none⟩)] w fun x w' => x = .returned (.int .i64 d.flush.2) ∧ DiskAt base b d.flush.1 w' ∧ Kp base w w' := by
  have H := Lib.hid h
  cases hd : d.down
  · cases hst : d.step.2
    · have e : d.flush = ({ d.step.1 with S := shows d.S d.C, C := [] }, 0) := by simp [Dk.flush, hd, hst]
      rw [e]
      exact flush_go base b d w h hd hst ho hbase
    · have e : d.flush = (d.step.1, 7) := by simp [Dk.flush, hd, hst]
      rw [e]
      have hr := ready_hid h 0 (by rw [hd]; rfl)
      have HR := Lib.hid hr
      obtain ⟨gS, cS, gH, cH, vC, h⟩ := h
      have hst2 := step_any base b gS cS gH cH vC d w h ho
      rw [hst] at hst2
      have HSt := Lib.hid hst2
      clear h hr e hd hst2
      go_enter Tryz.func41, Tryz.ntmps41
      go_wp2_with fail
      refine HR.out.mono ?_
      rintro e w1 ⟨rfl, rfl⟩
      go_wp2_with fail
      refine HSt.out.mono ?_
      rintro e w1 ⟨rfl, h1, b1, z1⟩
      go_wp2
      go_ret
      exact ⟨rfl, ⟨gS, cS, gH, cH, vC, h1⟩, b1⟩
  · have hr := ready_hid h 7 (by rw [hd]; rfl)
    have HR := Lib.hid hr
    have e : d.flush = (d, 7) := by simp [Dk.flush, hd]
    rw [e]
    clear h hr e hd
    go_enter Tryz.func41, Tryz.ntmps41
    go_wp2_with fail
    refine HR.out.mono ?_
    rintro e w1 ⟨rfl, rfl⟩
    go_wp2
    go_ret
    exact ⟨rfl, H.out, Kp.refl _ _⟩
end Go.Proofs.YtfbakelpplpomaaGreatDoor.Disk
/-
  Rows of texts and of writes, as they are read; slices.Clone of them; Seize; the methods over no disk.
-/
namespace Go.Proofs.YtfbakelpplpomaaGreatDoor.Disk
open Go.RowKit Go.Proofs.YtfbakelpplpomaaGreatDoor.DiskRows
set_option linter.unusedVariables false
set_option linter.unusedSimpArgs false
set_option maxRecDepth 100000

/-- a row of texts lies there -/
def Txs (w : World) (A : Option Addr) (l : List ByteArray) : Prop := l = [] ∨ ∃ g off, A = some ⟨g, off, none⟩ ∧ g < w.heap.size ∧ ∀ i, i < l.length → w.cell? ⟨g, off + i, none⟩ = some (.string (l.getD i ByteArray.empty))
/-- a row of writes lies there -/
def Wrs (w : World) (A : Option Addr) (C : List (Int × ByteArray)) : Prop := C = [] ∨ ∃ g off, A = some ⟨g, off, none⟩ ∧ g < w.heap.size ∧ ∀ k, k < C.length → w.cell? ⟨g, off + k * 2, none⟩ = some (.int .i64 (C.getD k (0, ByteArray.empty)).1) ∧ w.cell? ⟨g, off + k * 2 + 1, none⟩ = some (.string (C.getD k (0, ByteArray.empty)).2)
/-- writes as cells -/
def wvI (C : List (Int × ByteArray)) : List Value := C.flatMap fun x => [.int .i64 x.1, .string x.2]
/-- writes, their places as numbers of any sign -/
def ints (C : List (Nat × ByteArray)) : List (Int × ByteArray) := C.map fun x => ((x.1 : Int), x.2)
theorem ints_length (C : List (Nat × ByteArray)) : (ints C).length = C.length := by simp [ints]
theorem wv_ints (C : List (Nat × ByteArray)) : wvI (ints C) = wv C := by
  induction C with
  | nil => rfl
  | cons x C ih =>
    have h1 : wvI (ints (x :: C)) = [.int .i64 (x.1 : Nat), .string x.2] ++ wvI (ints C) := by simp [wvI, ints]
    have h2 : wv (x :: C) = [.int .i64 (x.1 : Nat), .string x.2] ++ wv C := by simp [wv]
    rw [h1, h2, ih]
theorem wvI_length (C : List (Int × ByteArray)) : (wvI C).length = C.length * 2 := by
  induction C with
  | nil => rfl
  | cons x C ih =>
    have : wvI (x :: C) = [.int .i64 x.1, .string x.2] ++ wvI C := by simp [wvI]
    rw [this, List.length_append, ih, List.length_cons]
    simp; omega
theorem wvI_get (C : List (Int × ByteArray)) : ∀ (k : Nat), k < C.length → (wvI C)[k * 2]? = some (.int .i64 (C.getD k (0, ByteArray.empty)).1) ∧ (wvI C)[k * 2 + 1]? = some (.string (C.getD k (0, ByteArray.empty)).2) := by
  induction C with
  | nil => intro k h; simp at h
  | cons x C ih =>
    intro k h
    have e : wvI (x :: C) = [.int .i64 x.1, .string x.2] ++ wvI C := by simp [wvI]
    cases k with
    | zero => rw [e]; simp
    | succ k =>
      have := ih k (by simp at h; omega)
      rw [e, show (k + 1) * 2 = k * 2 + 2 by omega]
      simpa using this
theorem wvI_one (C : List (Int × ByteArray)) : ∀ u ∈ wvI C, u.oneCell' = true := by
  intro u hu
  simp only [wvI, List.mem_flatMap] at hu
  obtain ⟨b, _, hb⟩ := hu
  simp at hb
  rcases hb with rfl | rfl <;> rfl
theorem Txs.later {w w' : World} {A : Option Addr} {l : List ByteArray} (h : Txs w A l) (k : Below w.heap.size w w') : Txs w' A l := by
  rcases h with rfl | ⟨g, off, rfl, hg, hc⟩
  · exact .inl rfl
  · exact .inr ⟨g, off, rfl, Nat.lt_of_lt_of_le hg k.size, fun i hi => by rw [k.cell (p := ⟨g, off + i, none⟩) hg]; exact hc i hi⟩
theorem Wrs.later {w w' : World} {A : Option Addr} {l : List (Int × ByteArray)} (h : Wrs w A l) (k : Below w.heap.size w w') : Wrs w' A l := by
  rcases h with rfl | ⟨g, off, rfl, hg, hc⟩
  · exact .inl rfl
  · exact .inr ⟨g, off, rfl, Nat.lt_of_lt_of_le hg k.size, fun i hi => by rw [k.cell (p := ⟨g, off + i * 2, none⟩) hg, k.cell (p := ⟨g, off + i * 2 + 1, none⟩) hg]; exact hc i hi⟩
theorem _root_.Go.Proofs.YtfbakelpplpomaaGreatDoor.DiskRows.RowS.txs {w : World} {g cap : Nat} {l : List ByteArray} (h : RowS w g cap l) : Txs w (some ⟨g, 0, none⟩) l :=
  .inr ⟨g, 0, rfl, h.lt, fun i hi => by rw [Nat.zero_add]; exact h.cell hi⟩
/-- a row of writes of its own is read -/
theorem own_wrs {w : World} {base n c : Nat} {A : Option Addr} {C : List (Int × ByteArray)} (h : w.ownsRow base 89 2 (.slice A n c) C.length (wvI C)) : Wrs w A C := by
  rcases h.2 with ⟨e, h0⟩ | ⟨g, cap, cur, e, hb, hg, _⟩
  · exact .inl (List.eq_nil_of_length_eq_zero h0)
  · obtain ⟨rfl, -, -⟩ := Value.slice.inj e
    have hc := h.cells (g := g) rfl
    refine .inr ⟨g, 0, rfl, (Array.getElem?_eq_some_iff.1 hg).1, fun k hk => ?_⟩
    obtain ⟨h1, h2⟩ := wvI_get C k hk
    have e1 := hc _ _ h1
    have e2 := hc _ _ h2
    rw [Addr.add_lit, Nat.zero_add] at e1 e2
    rw [Nat.zero_add]
    exact ⟨e1, e2⟩
theorem own_lenI {w : World} {base n c : Nat} {A : Option Addr} {C : List (Int × ByteArray)} (h : w.ownsRow base 89 2 (.slice A n c) C.length (wvI C)) : n = C.length := by
  rcases h.2 with ⟨e, h0⟩ | ⟨g', cap', cur, e, _⟩
  · simp at e; omega
  · simp at e; exact e.2.1
theorem own_emptyW (w : World) : (w.alloc (.cells #[] 89)).ownsRow w.heap.size 89 2 (.slice (some ⟨w.heap.size, 0, none⟩) 0 0) 0 (wvI []) :=
  ⟨rfl, .inr ⟨w.heap.size, 0, #[], rfl, Nat.le_refl _, heap_alloc_last _ _, Nat.le_refl _, by simp [maxLen], rfl, rfl⟩⟩
theorem eqlW (w : World) (a : Option Addr) (n c n' c' : Nat) : (binOp .eql 49 (.slice a n c) (.slice none n' c')).run Tryz.prog w = .ok (.bool a.isNone) w := Lib.run_eql_slice_nil w _ _ a n c n' c' Tryz.underlying49
section
variable {ops : Array Oper} {rest : List Oper} {o : Oper} {a : Act} {w : World} {Q : Exit → Act → World → Prop}
/-- append of a row of writes onto an empty row of its own -/
theorem wpList_append_ws (hgd : o.guard = none) (sl x : Operand) (ho : o.op = .call { callee := .builtin .append, args := #[sl, x], argTypes := #[49, 49] })
    (base : Nat) (v : Value) (hs : a.eval sl = v) (hown : w.ownsRow base 89 2 v 0 (wvI [])) (A : Option Addr) (C : List (Int × ByteArray)) (c : Nat) (hx : a.eval x = .slice A C.length c) (hc : Wrs w A C)
    (hb : C.length ≤ 1000000) (hbase : base ≤ w.heap.size)
    (h : ∀ v' w', w'.ownsRow base 89 2 v' C.length (wvI C) → w.grownBy w' v.ownBlock → (v'.ownBlock = v.ownBlock ∨ v'.ownBlock = some w.heap.size) → wpList Tryz.prog ops Q rest (a.put o.dst v') w') : wpList Tryz.prog ops Q (o :: rest) a w := by
  obtain ⟨i0, hi, hz0, hz1, hz2⟩ := info_parts info_w
  refine wpList_plain hgd fun K hK => ?_
  rcases hc with rfl | ⟨g, off, rfl, hg, hc⟩
  · have hsrc : Src Tryz.prog i0.size 49 (.slice A ([] : List (Int × ByteArray)).length c) 0 [] w := by
      cases A with
      | none => exact Src.ofNil w Tryz.underlying49 c
      | some ad => exact Src.ofSlice w Tryz.underlying49 ad 0 c [] (by simp) (fun j u hj => by simp at hj) (fun u hu => by cases hu)
    obtain ⟨base', sL, sC, rfl, hle⟩ : ∃ A0 n0 c0, v = .slice A0 n0 c0 ∧ n0 ≤ c0 := by
      rcases hown.2 with ⟨e, h0⟩ | ⟨g, cap, cur, e, hb, hg, hle, _⟩
      · exact ⟨_, _, _, e, Nat.le_refl _⟩
      · exact ⟨_, _, _, e, hle⟩
    have hr := run_append_nothing (P := Tryz.prog) w 49 49 o.type 89 i0 Tryz.underlying49 hi base' sL sC hle _ hsrc
    unfold Oper.wp execOp
    simp only [ho, resolve, invoke, builtin, Sem.run_bind, Sem.run_pure, Result.andThen_ok, List.map_toArray, List.map_cons, List.map_nil, hs, hx, hr]
    exact hK _ _ (h _ _ hown ⟨rfl, rfl, rfl, Nat.le_refl _, fun _ _ _ => rfl⟩ (.inl rfl))
  · obtain ⟨v', w', hr, h2, h3, _, h5⟩ := run_append_own_at (P := Tryz.prog) w base 49 o.type 89 i0 (.agg #[.int .i64 0, .string ByteArray.empty]) 2 24 Tryz.underlying49 hi hz0 hz1 hz2 rfl (by decide) v 0 (wvI []) hown
      ⟨g, off, none⟩ C.length c (wvI C) (by rw [wvI_length]) (fun j u hj => by
        have hj2 := (List.getElem?_eq_some_iff.1 hj).1
        rw [wvI_length] at hj2
        obtain ⟨k, hk⟩ : ∃ k, j = k * 2 ∨ j = k * 2 + 1 := ⟨j / 2, by omega⟩
        have hkl : k < C.length := by omega
        obtain ⟨g1, g2⟩ := wvI_get C k hkl
        obtain ⟨e1, e2⟩ := hc k hkl
        rw [Addr.add_lit]
        rcases hk with rfl | rfl
        · rw [hj] at g1; rw [g1]; exact e1
        · rw [hj] at g2; rw [g2]; exact e2) (wvI_one C) (by unfold maxLen; omega) (by omega) hbase
    unfold Oper.wp execOp
    simp only [ho, resolve, invoke, builtin, Sem.run_bind, Sem.run_pure, Result.andThen_ok, List.map_toArray, List.map_cons, List.map_nil, hs, hx, hr]
    exact hK _ _ (h v' w' (by simpa [wvI] using h2) h3 h5)
end
/-- slices.Clone of writes -/
theorem cloneW_any (A : Option Addr) (n c : Nat) (C : List (Int × ByteArray)) (w : World) (h : Wrs w A C) (hn : n = C.length) (hb : n ≤ 1000000) :
    Calls Tryz.prog 48 #[.slice A n c] w fun e w' => (∃ A' c', e = .returned (.slice A' n c') ∧ w'.ownsRow w.heap.size 89 2 (.slice A' n c') C.length (wvI C)) ∧ Below w.heap.size w w' := by
  subst hn
  have heq := eqlW
  cases A with
  | none =>
    obtain rfl : C = [] := by
      rcases h with rfl | ⟨g, off, e, _⟩
      · rfl
      · cases e
    go_enter Tryz.func48, Tryz.ntmps48
    go_wp2
    go_ret
    exact ⟨⟨none, 0, rfl, World.ownsRow_nil _ _ _ _⟩, Below.refl _ _⟩
  | some ad =>
    have h2 := h.later (Joins.below_alloc1 w (.cells #[] 89))
    have ho := own_emptyW w
    have H2 := Lib.hid (And.intro h2 ho)
    clear h h2 ho
    go_enter Tryz.func48, Tryz.ntmps48
    go_wp2_with (at_builtin; go_must (refine wpList_append_ws rfl _ _ rfl w.heap.size (.slice (some ⟨w.heap.size, 0, none⟩) 0 0) rfl H2.out.2 (some ad) C c rfl H2.out.1 hb (by simp) ?_; intro v1 w1 o1 g1 l1; obtain ⟨A1, n1, c1, rfl⟩ := own_shapeV o1; obtain rfl := own_lenI o1))
    go_ret
    exact ⟨⟨A1, c1, rfl, o1⟩, (Joins.below_alloc1 w _).trans ((Below.refl w.heap.size _).grown g1 (by simp) (fun k hk => by simp [Value.ownBlock] at hk; omega))⟩
set_option maxHeartbeats 3200000 in
/-- what a disk has -/
theorem seize_any (base : Nat → Prop) (b : Nat) (d : Dk) (w : World) (h : DiskAt base b d w) (hbase : Top base w.heap.size) :
    Calls Tryz.prog 19 #[.pointer (some ⟨b, 0, none⟩)] w fun x w' => (∃ g c A c', x = .returned (.agg #[.slice (some ⟨g, 0, none⟩) d.S.length c, .slice A d.C.length c']) ∧ RowS w' g c d.S ∧ w.heap.size ≤ g ∧ Wrs w' A (ints d.C)) ∧ Below w.heap.size w w' := by
  obtain ⟨gS, cS, gH, cH, vC, h⟩ := h
  obtain ⟨⟨c0, c1, c2, c3, c4, c5⟩, fz⟩ := h.cells
  obtain ⟨aC, nC, kC, rfl⟩ := own_shapeV h.rowC
  have hnC := own_lenW h.rowC
  subst hnC
  have hwr : Wrs w aC (ints d.C) := own_wrs (by rw [ints_length, wv_ints]; exact h.rowC)
  have hfew := h.few
  have hps := h.pos
  have hms := h.most
  have hblt := h.lt
  have H := Lib.hid h
  have HW := Lib.hid hwr
  clear h hwr fz c2 c3 c4 c5
  go_enter Tryz.func19, Tryz.ntmps19
  go_upto_region 3 with fail
  have ka := Joins.below_alloc1 w (.cells #[.slice none 0 0, .slice none 0 0] 51)
  have kb : Below w.heap.size w (w.alloc (.cells #[.slice none 0 0, .slice none 0 0] 51)).drew := ka.drew
  have a0 := (ka.cell (p := ⟨b, 0, none⟩) hblt).trans c0
  have a1 := (ka.cell (p := ⟨b, 1, none⟩) hblt).trans c1
  have hz := kb.size
  have r0 := H.out.rowS.below kb H.out.rowS.lt
  have hS := cloneS_any gS cS d.S.length d.S _ r0 rfl (by omega) (by omega)
  have hW : ∀ W, Below w.heap.size w W → Calls Tryz.prog 48 #[.slice aC d.C.length kC] W fun e w' => (∃ A' c', e = .returned (.slice A' d.C.length c') ∧ w'.ownsRow W.heap.size 89 2 (.slice A' d.C.length c') (ints d.C).length (wvI (ints d.C))) ∧ Below W.heap.size W w' := fun W k => cloneW_any aC d.C.length kC (ints d.C) W (HW.out.later k) (ints_length _).symm (by omega)
  have HS := Lib.hid hS
  have HWW := Lib.hid hW
  have hc1 : ∀ W, Below w.heap.size w W → W.cell? ⟨b, 1, none⟩ = some (.slice aC d.C.length kC) := fun W k => (k.cell (p := ⟨b, 1, none⟩) hblt).trans c1
  have HC1 := Lib.hid hc1
  have ks : w.heap.size < (w.alloc (.cells #[.slice none 0 0, .slice none 0 0] 51)).drew.heap.size := by simp
  have t1 : (w.alloc (.cells #[.slice none 0 0, .slice none 0 0] 51)).drew.cell? ⟨w.heap.size, 0, none⟩ = some (.slice none 0 0) := (cell_of_row _ _ 0 _ _ _ (heap_alloc_last _ _)).trans rfl
  have t2 : (w.alloc (.cells #[.slice none 0 0, .slice none 0 0] 51)).drew.cell? ⟨w.heap.size, 1, none⟩ = some (.slice none 0 0) := (cell_of_row _ _ 1 _ _ _ (heap_alloc_last _ _)).trans rfl
  have t3 : ∀ i, (w.alloc (.cells #[.slice none 0 0, .slice none 0 0] 51)).drew.frozen? ⟨w.heap.size, i, none⟩ = false := fun i => frozen_of_row _ _ i _ _ (heap_alloc_last _ _)
  have T := Lib.hid (And.intro t1 (And.intro t2 (And.intro t3 ks)))
  have HB := Lib.hid kb
  clear hS hW hc1 t1 t2 t3 ks kb r0 ka c0 c1 hz
  go_region_with (first
    | (go_at_call 47; go_must (refine HS.out.mono ?_; rintro e w2 ⟨⟨g2, k2, rfl, r2, hg2⟩, b2⟩; have f1 := HC1.out w2 (HB.out.trans (b2.mono HB.out.size)); have T1 := (b2.cell (p := ⟨w.heap.size, 0, none⟩) T.out.2.2.2).trans T.out.1))
    | (go_at_call 48; go_must (refine (HWW.out _ (HB.out.trans (b2.mono HB.out.size))).mono ?_; rintro e w3 ⟨⟨A3, k3, rfl, o3⟩, b3⟩; have b4 := b2.trans (b3.mono b2.size); have T1 := (b4.cell (p := ⟨w.heap.size, 0, none⟩) T.out.2.2.2).trans T.out.1; have T2 := (b4.cell (p := ⟨w.heap.size, 1, none⟩) T.out.2.2.2).trans T.out.2.1; have T3 := (b4.frozen (p := ⟨w.heap.size, 0, none⟩) T.out.2.2.2).trans (T.out.2.2.1 0); have T4 := (b4.frozen (p := ⟨w.heap.size, 1, none⟩) T.out.2.2.2).trans (T.out.2.2.1 1))))
  all_goals
    go_wp2
    (try simp only [Exit.inBlock, Exit.then])
    refine bodyPost_ret (v := .agg #[.slice (some ⟨g2, 0, none⟩) d.S.length k2, .slice A3 d.C.length k3]) (by simp [results, Tryz.results19, go_sem, T1, T2]) rfl ?_
    have hlt := T.out.2.2.2
    have hb2 := b2.size
    have hg : g2 ≠ w.heap.size := by omega
    have hk : ∀ k, (Value.slice A3 d.C.length k3).ownBlock = some k → k ≠ w.heap.size := fun k hk => by have := (o3.lt k hk).1; omega
    exact ⟨⟨g2, k2, A3, k3, rfl, ((r2.below b3 r2.lt).other _ _ hg).other _ _ hg, by omega, own_wrs (own_other (own_other o3 ⟨w.heap.size, 0, none⟩ _ hk) ⟨w.heap.size, 1, none⟩ _ hk)⟩, ((HB.out.trans (b4.mono HB.out.size)).setCell (p := ⟨w.heap.size, 0, none⟩) (Nat.le_refl _) _).setCell (p := ⟨w.heap.size, 1, none⟩) (Nat.le_refl _) _⟩
end Go.Proofs.YtfbakelpplpomaaGreatDoor.Disk
