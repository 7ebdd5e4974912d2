/-
  The walk of the disk's show; Boot.
-/
import Derived.Test.YtfbakelpplpomaaGreatDoorWalkDisk
import Derived.Maps.OwnOps
import Derived.Maps.OwnSet
namespace Go.Proofs.YtfbakelpplpomaaGreatDoor.Disk
open Go.RowKit Go.Proofs.YtfbakelpplpomaaGreatDoor.DiskRows
set_option linter.unusedVariables false
set_option linter.unusedSimpArgs false
set_option maxRecDepth 100000

theorem own_cellW {w : World} {base g n c : Nat} {C : List (Nat × ByteArray)} {off : Nat} (h : w.ownsRow base 89 2 (.slice (some ⟨g, off, none⟩) n c) C.length (wv C)) (k : Nat) (hk : k < C.length) :
    off = 0 ∧ w.cell? ⟨g, k * 2, none⟩ = some (.int .i64 ((C.getD k (0, ByteArray.empty)).1 : Nat)) ∧ w.cell? ⟨g, k * 2 + 1, none⟩ = some (.string (C.getD k (0, ByteArray.empty)).2) := by
  have hc := h.cells (g := g) rfl
  obtain ⟨h1, h2⟩ := wv_get C k hk
  rw [Nat.mul_comm] at h1 h2
  have e1 := hc _ _ h1
  have e2 := hc _ _ h2
  rw [Addr.add_lit, Nat.zero_add] at e1 e2
  refine ⟨?_, e1, e2⟩
  rcases h.2 with ⟨e, _⟩ | ⟨g', cap', cur, e, _⟩
  · simp at e
  · simp at e; exact e.1.2
theorem own_lenW {w : World} {base n c : Nat} {a : Option Addr} {C : List (Nat × ByteArray)} (h : w.ownsRow base 89 2 (.slice a n c) C.length (wv C)) : n = C.length := by
  rcases h.2 with ⟨e, h0⟩ | ⟨g', cap', cur, e, _⟩
  · simp at e; omega
  · simp at e; exact e.2.1
theorem DAt.drewD {base : Nat → Prop} {b gS cS gH cH : Nat} {vC : Value} {d : Dk} {w : World} (h : DAt base b gS cS gH cH vC d w) : DAt base b gS cS gH cH vC d w.drew := { h with rowS := h.rowS.drew, rowH := h.rowH.drew, rowC := h.rowC }
set_option maxHeartbeats 1600000 in
theorem show_any (base : Nat → Prop) (b gS cS : Nat) (vC vH : Value) (d : Dk) (w : World) (h : DPre base b gS cS vC vH d w) (hb : Top base w.heap.size) :
    Calls Tryz.prog 44 #[.pointer (some ⟨b, 0, none⟩)] w fun e w' => e = .returned (.tuple #[]) ∧ (∃ g' c', DAt base b gS cS g' c' vC { d with H := shows d.S d.C } w') ∧ Kp base w w' := by
  have c0 : w.cell? ⟨b, 0, none⟩ = some (.slice (some ⟨gS, 0, none⟩) d.S.length cS) := by rw [cell_of_row w b 0 _ _ _ h.heap]; rfl
  have hblt := h.lt
  have hps := h.pos
  have hms := h.most
  have hcl := cloneS_any gS cS d.S.length d.S w h.rowS rfl (by omega) (by omega)
  have HCl := Lib.hid hcl
  have H := Lib.hid h
  obtain ⟨n, hn⟩ : ∃ n, d.S.length = n := ⟨_, rfl⟩
  rw [hn] at c0 HCl
  have hvc := own_shapeV h.rowC
  obtain ⟨aC, nC, kC, rfl⟩ := hvc
  have hnC := own_lenW h.rowC
  subst hnC
  have c2a : w.cell? ⟨b, 2, none⟩ = some vH := by rw [cell_of_row w b 2 _ _ _ h.heap]; rfl
  have f2a := frozen_of_row w b 2 _ _ h.heap
  clear h hcl hps hms
  go_enter Tryz.func44, Tryz.ntmps44
  go_wp2_with fail
  refine HCl.out.mono ?_
  rintro e w1 ⟨⟨g', c', rfl, r1, hg⟩, b1⟩
  have d2 : w1.cell? ⟨b, 2, none⟩ = some vH := (b1.cell (p := ⟨b, 2, none⟩) hblt).trans c2a
  have e2 : w1.frozen? ⟨b, 2, none⟩ = false := (b1.frozen (p := ⟨b, 2, none⟩) hblt).trans f2a
  have h1 := H.out.cloned b1 r1 hg hb
  rw [hn] at h1
  have b1' : Kp base w (w1.setCell ⟨b, 2, none⟩ (.slice (some ⟨g', 0, none⟩) n c')) := b1.kp.setCell (p := ⟨b, 2, none⟩) H.out.sep.1 _
  have z1' : w1.heap.size = (w1.setCell ⟨b, 2, none⟩ (.slice (some ⟨g', 0, none⟩) n c')).heap.size := by simp [World.setCell]
  have c1 : (w1.setCell ⟨b, 2, none⟩ (.slice (some ⟨g', 0, none⟩) n c')).cell? ⟨b, 1, none⟩ = some (.slice aC d.C.length kC) := by rw [cell_of_row _ b 1 _ _ _ h1.heap]; rfl
  have H1 := Lib.hid (And.intro h1 (And.intro b1' z1'))
  clear h1 b1' z1' HCl
  go_upto_region 2 with fail
  have h1 := H1.out.1
  have b1' := H1.out.2.1
  have HN := Lib.hid hn
  have hv0 : {d with H := shows d.S []} = {d with H := shows d.S (d.C.take 0)} := rfl
  rw [hv0] at h1
  have HA := Lib.hid (And.intro h1 b1')
  clear c1 H1 h1 b1' d2 e2 c2a f2a c0 hn hv0 r1 b1
  generalize w1.setCell _ _ = w2 at *
  go_loopw [19] (fun i wr => ∃ k : Nat, k ≤ d.C.length ∧ i = .int .i64 k ∧ DAt base b gS cS g' c' (.slice aC d.C.length kC) { d with H := shows d.S (d.C.take k) } wr ∧ Kp base w wr) (fun i _ => d.C.length - (intOf i).toNat)
  case atStart => exact ⟨0, by omega, rfl, HA.out.1, HA.out.2⟩
  case round =>
    obtain ⟨k, hk, rfl, hd, bk⟩ := hrel
    have hbase := hb.trans bk.size
    by_cases hlt : k < d.C.length
    · obtain ⟨gC, oC, rfl⟩ : ∃ g o, aC = some ⟨g, o, none⟩ := by
        rcases hd.rowC.2 with ⟨e, h0⟩ | ⟨g, cap, cur, e, _⟩
        · have h0' : d.C.length = 0 := h0
          omega
        · simp at e; exact ⟨g, 0, e.1⟩
      obtain ⟨rfl, q1, q2⟩ := own_cellW hd.rowC k hlt
      have hst := shows_take d.S d.C k hlt _ rfl
      have hat := hd.ats (d.C.getD k (0, ByteArray.empty)) (by rw [List.getD_eq_getElem?_getD, List.getElem?_eq_getElem hlt]; exact List.getElem_mem hlt)
      obtain ⟨x, hx⟩ : ∃ x, d.C.getD k (0, ByteArray.empty) = x := ⟨_, rfl⟩
      rw [hx] at q1 q2 hst hat
      obtain ⟨i, s⟩ := x
      dsimp only at q1 q2 hst hat
      have c2 : wr.cell? ⟨b, 2, none⟩ = some (.slice (some ⟨g', 0, none⟩) n c') := by rw [cell_of_row wr b 2 _ _ _ hd.heap]; simp [dV, HN.out]
      have hin : (i : Int) < (n : Int) := by have := HN.out; omega
      have c3 := hd.rowH.cell (i := i) (by rw [hd.len]; exact hat)
      have f3 := hd.rowH.frozen i
      have hgl := hd.rowH.lt
      have hfew : (d.C.length : Int) ≤ 100000 := by have : d.C.length ≤ 100000 := hd.few; omega
      have hgb := hd.lt
      have hd2 := (hd.later (Joins.below_alloc1 wr (.cells #[.int .i64 (i : Nat), .string s] 89))).setH i (by exact hat) s
      have hb2 : Kp base w ((wr.alloc (.cells #[.int .i64 (i : Nat), .string s] 89)).setCell ⟨g', i, none⟩ (.string s)) := (bk.alloc hbase _).setCell (p := ⟨g', i, none⟩) hd.sep.2.2.1 _
      have HST := Lib.hid hst
      have HD := Lib.hid (And.intro hd2 hb2)
      clear hd hd2 hb2 hst hat hx
      go_upto_region 4 with fail
      have ka := Joins.below_alloc1 wr (.cells #[.int .i64 (i : Nat), .string s] 89)
      have a2 := (ka.cell (p := ⟨b, 2, none⟩) hgb).trans c2
      have a3 := (ka.cell (p := ⟨g', i, none⟩) hgl).trans c3
      have a4 := (ka.frozen (p := ⟨g', i, none⟩) hgl).trans f3
      have a5 : (wr.alloc (.cells #[.int .i64 (i : Nat), .string s] 89)).cell? ⟨wr.heap.size, 0, none⟩ = some (.int .i64 (i : Nat)) := (cell_of_row _ _ 0 _ _ _ (heap_alloc_last _ _)).trans rfl
      have a6 : (wr.alloc (.cells #[.int .i64 (i : Nat), .string s] 89)).cell? ⟨wr.heap.size, 1, none⟩ = some (.string s) := (cell_of_row _ _ 1 _ _ _ (heap_alloc_last _ _)).trans rfl
      clear ka c2 c3 f3 q1 q2
      generalize World.alloc _ _ = wa at *
      go_region
      go_wp2
      go_round
      case rel => exact ⟨k + 1, by omega, by go_num, by rw [HST.out]; exact (HD.out.1).drewD, HD.out.2.drew⟩
      case measure => simp [intOf]; omega
    · have : k = d.C.length := by omega
      subst this
      rw [List.take_length] at hd
      go_wp2
      go_end0
      exact ⟨rfl, ⟨g', c', hd⟩, bk⟩
/-- the power comes back -/
theorem boot_ok (base : Nat → Prop) (b : Nat) (d : Dk) (w : World) (h : DiskAt base b d w) (hb : Top base w.heap.size) :
    Calls Tryz.prog 16 #[.pointer (some ⟨b, 0, none⟩)] w fun x w' => x = .returned (.int .i64 0) ∧ DiskAt base b { d with C := [], H := d.S, armed := 0, down := false } w' ∧ Kp base w w' := by
  obtain ⟨gS, cS, gH, cH, vC, h⟩ := h
  have hr := ready_ok base b gS cS gH cH vC d w h _ rfl
  have c1 : w.cell? ⟨b, 1, none⟩ = some vC := by rw [cell_of_row w b 1 _ _ _ h.heap]; rfl
  have c3 : w.cell? ⟨b, 3, none⟩ = some (.int .i64 (d.armed : Nat)) := by rw [cell_of_row w b 3 _ _ _ h.heap]; rfl
  have c4 : w.cell? ⟨b, 4, none⟩ = some (.bool d.down) := by rw [cell_of_row w b 4 _ _ _ h.heap]; rfl
  have f1 := frozen_of_row w b 1 _ _ h.heap
  have f3 := frozen_of_row w b 3 _ _ h.heap
  have f4 := frozen_of_row w b 4 _ _ h.heap
  have h1 := ((h.setC (.slice none 0 0) [] (World.ownsRow_nil _ _ _ _) (fun k hk => by simp [Value.ownBlock] at hk) (fun k hk => by simp [Value.ownBlock] at hk) (by simp) (by simp)).setDown false).setArmed 0 (by simp)
  have hB := (((Kp.refl base w).setCell (p := ⟨b, 1, none⟩) h.sep.1 (.slice none 0 0)).setCell (p := ⟨b, 4, none⟩) h.sep.1 (.bool false)).setCell (p := ⟨b, 3, none⟩) h.sep.1 (.int .i64 ((0 : Nat) : Int))
  have HR := Lib.hid hr
  have H1 := Lib.hid (And.intro h1 hB)
  obtain ⟨e, he⟩ : ∃ e : Int, (if d.down = true then (7 : Int) else 0) = e := ⟨_, rfl⟩
  have he1 : ¬ e = 1 := by rw [← he]; split <;> decide
  rw [he] at HR
  clear h hr h1 hB he
  go_enter Tryz.func16, Tryz.ntmps16
  go_wp2_with fail
  refine HR.out.mono ?_
  rintro x w' ⟨rfl, rfl⟩
  go_wp2_with fail
  refine (show_any base b gS cS _ _ _ _ H1.out.1.pre (by simpa [World.setCell] using hb)).mono ?_
  rintro x w2 ⟨rfl, ⟨g', c', h2⟩, b2⟩
  go_wp2
  go_ret
  exact ⟨rfl, ⟨gS, cS, g', c', _, h2⟩, H1.out.2.trans b2⟩
end Go.Proofs.YtfbakelpplpomaaGreatDoor.Disk
/-
  The walk of the disk's Crash.
-/
namespace Go.Proofs.YtfbakelpplpomaaGreatDoor.Disk
open Go.RowKit Go.Proofs.YtfbakelpplpomaaGreatDoor.DiskRows
open Go.Maps (Keyed)
set_option linter.unusedVariables false
set_option linter.unusedSimpArgs false
set_option maxRecDepth 100000

/-- the numbers that are kept, as a map -/
def kmap (l : List Int) : DataW Unit := l.foldl (fun D z => D.put (.int .i64 z) (.lit (.int .i64 1))) (.map [])
theorem kmap_snoc (l : List Int) (z : Int) : kmap (l ++ [z]) = (kmap l).put (.int .i64 z) (.lit (.int .i64 1)) := by simp [kmap, List.foldl_append]
theorem kmap_isMap (l : List Int) : Maps.IsMap (kmap l) := by
  have : ∀ (l : List Int) (D : DataW Unit), Maps.IsMap D → Maps.IsMap (l.foldl (fun D z => D.put (.int .i64 z) (.lit (.int .i64 1))) D) := by
    intro l
    induction l with
    | nil => intro D h; exact h
    | cons z l ih => intro D h; exact ih _ (h.put _ _)
  exact this l _ Maps.isMap_empty
theorem kmap_at (l : List Int) (x : Int) : (kmap l).atKey (.int .i64 x) (.lit (.int .i64 0)) = .lit (.int .i64 (if l.contains x then 1 else 0)) := by
  have : ∀ (n : Nat) (l : List Int), l.length = n → (kmap l).atKey (.int .i64 x) (.lit (.int .i64 0)) = .lit (.int .i64 (if l.contains x then 1 else 0)) := by
    intro n
    induction n with
    | zero => intro l h; rw [List.eq_nil_of_length_eq_zero h]; rfl
    | succ n ih =>
      intro l h
      rcases List.eq_nil_or_concat l with rfl | ⟨l', z, rfl⟩
      · simp at h
      · rw [List.concat_eq_append] at h ⊢
        rw [kmap_snoc]
        by_cases hz : x = z
        · subst hz
          rw [Maps.atKey_put_same (kmap_isMap l') (by trivial)]
          simp
        · rw [Maps.atKey_put_other (by intro e; cases e; exact hz rfl), ih l' (by simpa using h)]
          have : (l' ++ [z]).contains x = l'.contains x := by simp [hz]
          rw [this]
  exact this _ l rfl
/-- of the first n writes those of some numbers -/
def keeps (S : List ByteArray) (C : List (Nat × ByteArray)) (l : List Int) : Nat → List ByteArray
  | 0 => S
  | n + 1 => if l.contains (n : Int) then (keeps S C l n).set (C.getD n (0, ByteArray.empty)).1 (C.getD n (0, ByteArray.empty)).2 else keeps S C l n
theorem keeps_length (S : List ByteArray) (C : List (Nat × ByteArray)) (l : List Int) (n : Nat) : (keeps S C l n).length = S.length := by
  induction n with
  | zero => rfl
  | succ n ih => rw [keeps]; split <;> simp [ih]
/-- a row of numbers lies there -/
def Nums (w : World) (A : Option Addr) (l : List Int) : Prop := l = [] ∨ ∃ g off, A = some ⟨g, off, none⟩ ∧ g < w.heap.size ∧ ∀ i, i < l.length → w.cell? ⟨g, off + i, none⟩ = some (.int .i64 (l.getD i 0))
theorem Nums.later {w w' : World} {A : Option Addr} {l : List Int} (h : Nums w A l) (k : Below w.heap.size w w') : Nums w' A l := by
  rcases h with rfl | ⟨g, off, rfl, hg, hc⟩
  · exact .inl rfl
  · exact .inr ⟨g, off, rfl, Nat.lt_of_lt_of_le hg k.size, fun i hi => by rw [k.cell (p := ⟨g, off + i, none⟩) hg]; exact hc i hi⟩
theorem keyI : Keyed Tryz.prog 3 := Maps.int_keyed Tryz.underlying3
theorem zeroI (w : World) : (zeroValue 3).run Tryz.prog w = .ok (.int .i64 0) w := (zero_of_info (P := Tryz.prog) (t := 3) (v := .int .i64 0) (n := 1) (by kernel_rfl)).1 w
set_option maxHeartbeats 3200000 in
theorem crash_ok (base : Nat → Prop) (b : Nat) (d : Dk) (w : World) (h : DiskAt base b d w) (hb : Top base w.heap.size) (A : Option Addr) (c : Nat) (l : List Int) (hl : Nums w A l) (hn : (l.length : Int) ≤ 9223372036854775807) (hw : ∀ z ∈ l, (Lit.int .i64 z).wf = true) :
    Calls Tryz.prog 15 #[.pointer (some ⟨b, 0, none⟩), .slice A l.length c] w fun x w' => x = .returned (.int .i64 0) ∧ DiskAt base b { d with S := keeps d.S d.C l d.C.length, C := [], H := keeps d.S d.C l d.C.length, armed := 0, down := true } w' ∧ Kp base w w' := by
  obtain ⟨gS, cS, gH, cH, vC, h⟩ := h
  have hr := ready_ok base b gS cS gH cH vC d w h _ rfl
  have HR := Lib.hid hr
  obtain ⟨e, he⟩ : ∃ e : Int, (if d.down = true then (7 : Int) else 0) = e := ⟨_, rfl⟩
  have he1 : ¬ e = 1 := by rw [← he]; split <;> decide
  rw [he] at HR
  have HD := Lib.hid h
  have HL := Lib.hid hl
  have hfew : d.C.length ≤ 100000 := h.few
  have HW := Lib.hid hw
  have hni : (l.length : Int) ≤ 9223372036854775807 := by omega
  have hmk := fun W => run_makeMap (P := Tryz.prog) 87 W
  clear h hl hr he hw
  go_enter Tryz.func15, Tryz.ntmps15
  go_wp2_with fail
  refine HR.out.mono ?_
  rintro x w' ⟨rfl, rfl⟩
  go_upto_region 6 with fail
  rename (e == 1) = false => hq
  clear hq he1
  have hbm := Joins.below_alloc1 w (.map #[] 0)
  have hm0 := World.ownsMap_made w Tryz.prog 3 (plainElem (H := Unit) Tryz.prog 3)
  generalize w.alloc (.map #[] 0) = wm at *
  have HM0 := Lib.hid (And.intro hm0 hbm)
  clear hm0 hbm
  go_loopw [19] (fun i wr => ∃ k : Nat, k ≤ l.length ∧ i = .int .i64 k ∧ wr.ownsMap Tryz.prog 3 (plainElem (H := Unit) Tryz.prog 3) w.heap.size k (kmap (l.take k)) ∧ Below w.heap.size w wr) (fun i _ => l.length - (intOf i).toNat)
  case atStart => exact ⟨0, by omega, rfl, HM0.out.1, HM0.out.2⟩
  case round =>
    obtain ⟨k, hk, rfl, hm, bk⟩ := hrel
    by_cases hlt : k < l.length
    · obtain ⟨gK, oK, rfl, hgK, hcK⟩ : ∃ g off, A = some ⟨g, off, none⟩ ∧ g < w.heap.size ∧ ∀ i, i < l.length → w.cell? ⟨g, off + i, none⟩ = some (.int .i64 (l.getD i 0)) := by
        rcases HL.out with h0 | h0
        · rw [h0] at hlt; simp at hlt
        · exact h0
      have q1 := (bk.cell (p := ⟨gK, oK + k, none⟩) hgK).trans (hcK k hlt)
      have hz : (Lit.int .i64 (l.getD k 0)).wf = true := HW.out _ (by rw [List.getD_eq_getElem?_getD, List.getElem?_eq_getElem hlt]; exact List.getElem_mem hlt)
      have hsn : kmap (l.take (k + 1)) = (kmap (l.take k)).put (.int .i64 (l.getD k 0)) (.lit (.int .i64 1)) := by
        rw [List.take_succ_eq_append_getElem hlt, kmap_snoc]
        simp [List.getD_eq_getElem?_getD, List.getElem?_eq_getElem hlt]
      obtain ⟨z, hzz⟩ : ∃ z, l.getD k 0 = z := ⟨_, rfl⟩
      rw [hzz] at q1 hz hsn
      have hkey := Maps.keyOf_int_mk (P := Tryz.prog) (k := 3) Tryz.underlying3 hz
      have HSn := Lib.hid hsn
      clear hsn hcK hzz hz
      go_wp2_with (first | (at_mapUpdate; go_must (refine wpList_mapUpdate_own _ rfl _ _ _ 87 rfl 3 3 keyI Tryz.underlying87 _ w.heap.size k _ rfl hm (by unfold maxLen; omega) _ _ _ rfl rfl hkey _ [] (plainElem_int Tryz.underlying3 (by decide)) ?_; intro w1 hm1 g1)))
      go_round
      case rel => exact ⟨k + 1, by omega, by go_num, by rw [HSn.out]; exact hm1, bk.grown g1 (by have := bk.size; omega) (fun j hj => by simp at hj; omega)⟩
      case measure => simp [intOf]; omega
    · have hkl : k = l.length := by omega
      subst hkl
      rw [List.take_length] at hm
      have HM := Lib.hid hm
      have h1 := HD.out.later bk
      clear hm
      have hlw := hb.trans bk.size
      have hmlt := HM.out.lt
      have c1 : wr.cell? ⟨b, 1, none⟩ = some vC := by rw [cell_of_row wr b 1 _ _ _ h1.heap]; rfl
      have hgm : ∀ g, g < w.heap.size → g ≠ w.heap.size := fun g h => Nat.ne_of_lt h
      obtain ⟨aC, nC, kC, rfl⟩ := own_shapeV h1.rowC
      have hnC := own_lenW h1.rowC
      subst hnC
      have H1 := Lib.hid h1
      clear h1
      generalize wr = w1 at *
      go_upto_region 11 with fail
      go_loopw [32] (fun i wr => ∃ k : Nat, k ≤ d.C.length ∧ i = .int .i64 k ∧ DAt base b gS cS gH cH (.slice aC d.C.length kC) { d with S := keeps d.S d.C l k } wr ∧ Kp base w wr ∧ wr.ownsMap Tryz.prog 3 (plainElem (H := Unit) Tryz.prog 3) w.heap.size l.length (kmap l)) (fun i _ => d.C.length - (intOf i).toNat)
      case atStart => exact ⟨0, by omega, rfl, H1.out, bk.kp, HM.out⟩
      case round =>
        obtain ⟨k, hk, rfl, hd, bq, hm⟩ := hrel
        have hbase := hb.trans bq.size
        by_cases hlt : k < d.C.length
        · obtain ⟨gC, oC, rfl⟩ : ∃ g o, aC = some ⟨g, o, none⟩ := by
            rcases hd.rowC.2 with ⟨e, h0⟩ | ⟨g, cap, cur, e, _⟩
            · have h0' : d.C.length = 0 := h0
              omega
            · simp at e; exact ⟨g, 0, e.1⟩
          obtain ⟨rfl, q1, q2⟩ := own_cellW hd.rowC k hlt
          have hks : keeps d.S d.C l (k + 1) = if l.contains (k : Int) then (keeps d.S d.C l k).set (d.C.getD k (0, ByteArray.empty)).1 (d.C.getD k (0, ByteArray.empty)).2 else keeps d.S d.C l k := rfl
          have hat := hd.ats (d.C.getD k (0, ByteArray.empty)) (by rw [List.getD_eq_getElem?_getD, List.getElem?_eq_getElem hlt]; exact List.getElem_mem hlt)
          obtain ⟨x, hx⟩ : ∃ x, d.C.getD k (0, ByteArray.empty) = x := ⟨_, rfl⟩
          rw [hx] at q1 q2 hks hat
          obtain ⟨i, s⟩ := x
          dsimp only at q1 q2 hks hat
          have c0 : wr.cell? ⟨b, 0, none⟩ = some (.slice (some ⟨gS, 0, none⟩) d.S.length cS) := by rw [cell_of_row wr b 0 _ _ _ hd.heap]; simp [dV, keeps_length]
          have hin : (i : Int) < (d.S.length : Int) := by rw [keeps_length] at hat; omega
          have c3 := hd.rowS.cell (i := i) hat
          have f3 := hd.rowS.frozen i
          have hgl := hd.rowS.lt
          have hgb := hd.lt
          have ka := Joins.below_alloc1 wr (.cells #[.int .i64 (i : Nat), .string s] 89)
          have hda := hd.later ka
          have bqa : Kp base w (wr.alloc (.cells #[.int .i64 (i : Nat), .string s] 89)) := bq.alloc hbase _
          have hma := hm.alloc (.cells #[.int .i64 (i : Nat), .string s] 89)
          have a0 := (ka.cell (p := ⟨b, 0, none⟩) hgb).trans c0
          have a3 := (ka.cell (p := ⟨gS, i, none⟩) hgl).trans c3
          have a4 := (ka.frozen (p := ⟨gS, i, none⟩) hgl).trans f3
          have a5 : (wr.alloc (.cells #[.int .i64 (i : Nat), .string s] 89)).cell? ⟨wr.heap.size, 0, none⟩ = some (.int .i64 (i : Nat)) := (cell_of_row _ _ 0 _ _ _ (heap_alloc_last _ _)).trans rfl
          have a6 : (wr.alloc (.cells #[.int .i64 (i : Nat), .string s] 89)).cell? ⟨wr.heap.size, 1, none⟩ = some (.string s) := (cell_of_row _ _ 1 _ _ _ (heap_alloc_last _ _)).trans rfl
          have hkey := Maps.keyOf_int_mk (P := Tryz.prog) (k := 3) (q := .i64) Tryz.underlying3 (a := (k : Int)) (by simp [Lit.wf, IntKind.min, IntKind.max, IntKind.bits, IntKind.signed]; omega)
          have hfi : (d.C.length : Int) ≤ 100000 := by omega
          have HDa := Lib.hid (And.intro hda bqa)
          have HMa := Lib.hid hma
          clear hd ka hda bqa hma hm c0 c3 f3 hx c1
          by_cases hcnt : l.contains (k : Int) = true
          · rw [if_pos hcnt] at hks
            have HKs := Lib.hid hks
            have HCn := Lib.hid hcnt
            have hset := HDa.out.1.setS i (by exact hat) s
            have hbset : Kp base w ((wr.alloc (.cells #[.int .i64 (i : Nat), .string s] 89)).setCell ⟨gS, i, none⟩ (.string s)) := HDa.out.2.setCell (p := ⟨gS, i, none⟩) HDa.out.1.sep.2.1 _
            have hmset := HMa.out.setCell (a := ⟨gS, i, none⟩) (by show w.heap.size ≠ gS; have := HD.out.rowS.lt; omega) (.string s)
            have HSet := Lib.hid (And.intro hset (And.intro hbset hmset))
            clear hks hcnt hset hbset hmset
            go_upto_region 13 with fail
            generalize World.alloc _ _ = wa at *
            go_upto_region 14 with (first | (at_lookup; go_must (refine wpList_lookup_own_int _ rfl _ _ 87 rfl 3 3 .i64 keyI Tryz.underlying87 Tryz.underlying3 (zeroI _) w.heap.size l.length _ rfl HMa.out _ _ rfl hkey ?_; intro cv hcv hwc; rw [kmap_at, HCn.out] at hcv; obtain rfl : cv = 1 := (by simpa using hcv.symm))))
            go_region
            go_wp2
            go_round
            case rel => exact ⟨k + 1, by omega, by go_num, by rw [HKs.out]; exact HSet.out.1.drewD, HSet.out.2.1.drew, HSet.out.2.2.drew⟩
            case measure => simp [intOf]; omega
          · have hcf : l.contains (k : Int) = false := by simpa using hcnt
            rw [if_neg hcnt] at hks
            have HKs := Lib.hid hks
            have HCn := Lib.hid hcf
            clear hks hcnt hcf
            go_upto_region 13 with fail
            generalize World.alloc _ _ = wa at *
            go_wp2_with (first | (at_lookup; go_must (refine wpList_lookup_own_int _ rfl _ _ 87 rfl 3 3 .i64 keyI Tryz.underlying87 Tryz.underlying3 (zeroI _) w.heap.size l.length _ rfl HMa.out _ _ rfl hkey ?_; intro cv hcv hwc; rw [kmap_at, HCn.out] at hcv; obtain rfl : cv = 0 := (by simpa using hcv.symm))))
            go_round
            case rel => exact ⟨k + 1, by omega, by go_num, by rw [HKs.out]; exact HDa.out.1, HDa.out.2, HMa.out⟩
            case measure => simp [intOf]; omega
        · have hkc : k = d.C.length := by omega
          subst hkc
          have f1 := frozen_of_row wr b 1 _ _ hd.heap
          have f3 := frozen_of_row wr b 3 _ _ hd.heap
          have f4 := frozen_of_row wr b 4 _ _ hd.heap
          have c1 : wr.cell? ⟨b, 1, none⟩ = some (.slice aC d.C.length kC) := by rw [cell_of_row wr b 1 _ _ _ hd.heap]; rfl
          have c3 : wr.cell? ⟨b, 3, none⟩ = some (.int .i64 (d.armed : Nat)) := by rw [cell_of_row wr b 3 _ _ _ hd.heap]; rfl
          have c4 : wr.cell? ⟨b, 4, none⟩ = some (.bool d.down) := by rw [cell_of_row wr b 4 _ _ _ hd.heap]; rfl
          have h1 := ((hd.setC (.slice none 0 0) [] (World.ownsRow_nil _ _ _ _) (fun k hk => by simp [Value.ownBlock] at hk) (fun k hk => by simp [Value.ownBlock] at hk) (by simp) (by simp)).setDown true).setArmed 0 (by simp)
          have hB := ((bq.setCell (p := ⟨b, 1, none⟩) hd.sep.1 (.slice none 0 0)).setCell (p := ⟨b, 4, none⟩) hd.sep.1 (.bool true)).setCell (p := ⟨b, 3, none⟩) hd.sep.1 (.int .i64 ((0 : Nat) : Int))
          have H1 := Lib.hid (And.intro h1 hB)
          clear hd hm h1 hB
          go_wp2_with fail
          refine (show_any base b gS cS _ _ _ _ H1.out.1.pre (by simpa [World.setCell] using hbase)).mono ?_
          rintro x w2 ⟨rfl, ⟨g', c', h2⟩, b2⟩
          go_wp2
          go_ret
          exact ⟨rfl, ⟨gS, cS, g', c', _, h2⟩, H1.out.2.trans b2⟩
end Go.Proofs.YtfbakelpplpomaaGreatDoor.Disk
