/-
  The walk of pleachlaw15's awake.
-/
import Derived.Test.YtgdedimoblpgbaaDoorLogE
namespace Go.Proofs.YtgdedimoblpgbaaDoor.Disk
open Go.RowKit Go.Proofs.YtgdedimoblpgbaaDoor.DiskRows
set_option linter.unusedVariables false
set_option linter.unusedSimpArgs false
set_option maxRecDepth 100000

/-- these blocks, and those that were made since -/
def Plus (F : Nat → Prop) (n m : Nat) : Nat → Prop := fun k => F k ∨ (n ≤ k ∧ k < m)
theorem DiskAt.grow {F : Nat → Prop} {b : Nat} {d : Dk} {w w' : World} (h : DiskAt F b d w) (k : Below w.heap.size w w') : DiskAt (Plus F w.heap.size w'.heap.size) b d w' := by
  obtain ⟨gS, cS, gH, cH, vC, h⟩ := h
  have hn : ∀ j, Nf F j → j < w.heap.size → Nf (Plus F w.heap.size w'.heap.size) j := fun j hj hl q => by
    rcases q with q | q
    · exact hj q
    · omega
  have hl := h.later k
  exact ⟨gS, cS, gH, cH, vC, { hl with sep := ⟨hn _ h.sep.1 h.lt, hn _ h.sep.2.1 h.rowS.lt, hn _ h.sep.2.2.1 h.rowH.lt, h.sep.2.2.2⟩, nfC := fun j hj => hn _ (h.nfC j hj) (h.rowC.lt j hj).2 }⟩
theorem Plus.top {F : Nat → Prop} {n m : Nat} (h : Top F n) (k : n ≤ m) : Top (Plus F n m) m := fun j hj => by
  rcases hj with q | q
  · have := h j q; omega
  · exact q.2
/-- a disk and a log over it -/
structure Lg (w0 : World) (bl b first most : Nat) (d : Dk) (t : ByteArray) (w : World) : Prop where
  ex : ∃ F, DiskAt F b d w ∧ Top F w.heap.size ∧ F bl ∧ ∀ k, k < w0.heap.size → F k
  log : LogAt bl b first most t w
  bl : w0.heap.size ≤ bl
  bel : Below w0.heap.size w0 w
  armed : d.armed = 0
  down : d.down = false
  fits : first + most ≤ d.S.length
  size : t.size ≤ most * 128
theorem Lg.later {w0 : World} {bl b first most : Nat} {d : Dk} {t : ByteArray} {w w' : World} (h : Lg w0 bl b first most d t w) (k : Below w.heap.size w w') : Lg w0 bl b first most d t w' := by
  obtain ⟨F, h1, h2, h3, h4⟩ := h.ex
  exact ⟨⟨F, h1.later k, h2.trans k.size, h3, h4⟩, h.log.later k, h.bl, h.bel.trans (k.mono h.bel.size), h.armed, h.down, h.fits, h.size⟩
theorem Lg.start {w0 w1 w2 : World} {bl b first most : Nat} {d : Dk} (hD : DiskAt (lo w0.heap.size) b d w1) (h01 : Below w0.heap.size w0 w1) (h12 : Below w1.heap.size w1 w2) (hl : LogAt bl b first most ByteArray.empty w2) (hb : w1.heap.size ≤ bl) (ha : d.armed = 0) (hd : d.down = false) (hf : first + most ≤ d.S.length) : Lg w0 bl b first most d ByteArray.empty w2 :=
  ⟨⟨_, hD.grow h12, Plus.top ((lo_top _).trans h01.size) h12.size, .inr ⟨hb, hl.lt⟩, fun k hk => .inl hk⟩, hl, Nat.le_trans h01.size hb, h01.trans (h12.mono h01.size), ha, hd, hf, by simp⟩
theorem Lg.grow {w0 : World} {bl b first most : Nat} {d : Dk} {t : ByteArray} {w : World} (h : Lg w0 bl b first most d t w) (s : ByteArray) (ho : d.ops ≤ 1000000) (hC : d.C.length ≤ 50000) (hs : (s.size : Int) ≤ 140737488355328) (n : Nat) (hn : wrV most t s.size = n) :
    Calls Tryd.prog 9 #[.pointer (some ⟨bl, 0, none⟩), .string s] w fun x w' => ∃ d' t' e, x = .returned (.int .i64 e) ∧ Lg w0 bl b first most d' t' w' ∧ d'.ops = d.ops + n ∧ d'.C.length = d.C.length + n ∧ (t.size + s.size ≤ most * 128 → e = 0 ∧ t'.size = t.size + s.size) ∧ (¬ t.size + s.size ≤ most * 128 → e = 6 ∧ t' = t) := by
  obtain ⟨F, h1, h2, h3, h4⟩ := h.ex
  subst hn
  refine (grow_free F bl b first most d t s w h1 h2 h.log h3 h.armed h.down h.fits h.size ho hC hs).mono ?_
  rintro x w' ⟨d', t', e, rfl, hd, hl, hk, hfr, hif⟩
  have hbl := h.bl
  refine ⟨d', t', e, rfl, ⟨⟨F, hd, h2.trans hk.size, h3, h4⟩, hl, h.bl, h.bel.trans ⟨hk.os, hk.tape, hk.output, hk.size, fun k hk' => hk.block k (Nat.lt_of_lt_of_le hk' h.bel.size) ⟨h4 k hk', by omega⟩⟩, hfr.armed, hfr.down, by rw [hfr.S]; exact h.fits, ?_⟩, hfr.ops, hfr.C, fun q => by rw [if_pos q] at hif; exact hif, fun q => by rw [if_neg q] at hif; exact hif⟩
  by_cases q : t.size + s.size ≤ most * 128
  · rw [if_pos q] at hif
    omega
  · rw [if_neg q] at hif
    rw [hif.2]
    exact h.size
theorem noughts_hid (n : Nat) (w : World) (hn : n ≤ 4096) : ∃ z : ByteArray, z.size = n ∧ ∀ w, Calls Tryd.prog 15 #[.int .i64 n] w fun e w' => e = .returned (.string z) ∧ Below w.heap.size w w' :=
  ⟨bs (zeros n), by rw [bs_size]; simp [zeros], fun w => noughts_any n w hn⟩
set_option maxHeartbeats 3200000 in
theorem awake15_any (w : World) : Calls Tryd.prog 4 #[] w fun x w' => x = .returned (.bool true) ∧ Below w.heap.size w w' := by
  obtain ⟨N, hN⟩ : ∃ N : Nat, 16 = N := ⟨_, rfl⟩
  have hnew : ∀ W, Calls Tryd.prog 14 #[.int .i64 16] W fun x w' => (∃ b, x = .returned (.tuple #[.pointer (some ⟨b, 0, none⟩), .int .i64 0]) ∧ DiskAt (lo W.heap.size) b (fresh N) w') ∧ Below W.heap.size W w' := fun W => by
    rw [← hN]; exact new_ok 16 W (by omega) (by omega)
  obtain ⟨z1, hz1, hn1⟩ := noughts_hid 100 w (by omega)
  obtain ⟨z2, hz2, hn2⟩ := noughts_hid 50 w (by omega)
  have HNew := Lib.hid hnew
  have HN := Lib.hid hN
  have HZ1 := Lib.hid hn1
  have HZ2 := Lib.hid hn2
  have HS := Lib.hid (And.intro hz1 hz2)
  clear hnew hN hn1 hn2 hz1 hz2
  go_enter Tryd.func4, Tryd.ntmps4
  go_wp2_with fail
  refine (HNew.out w).mono ?_
  rintro x w1 ⟨⟨b, rfl, hd⟩, b1⟩
  have HD := Lib.hid (And.intro hd b1)
  clear hd b1
  go_wp2_with fail
  refine (openNil_any _ b 2 4 (fresh N) w1 HD.out.1 (by simp [fresh]; have := HN.out; omega)).mono ?_
  rintro x w2 ⟨⟨bl, rfl, hl, hb⟩, b2⟩
  have HL2 := Lib.hid (Lg.start HD.out.1 HD.out.2 b2 hl hb rfl rfl (by simp [fresh]; have := HN.out; omega))
  clear hl hb b2
  go_wp2_with fail
  refine (HZ1.out w2).mono ?_
  rintro x w3 ⟨rfl, b3⟩
  have HL3 := Lib.hid (HL2.out.later b3)
  clear b3
  go_wp2_with fail
  refine (HL3.out.grow z1 (by simp [fresh]) (by simp [fresh]) (by have := HS.out.1; omega) 1 (by unfold wrV; rw [HS.out.1]; simp [secs])).mono ?_
  rintro x w4 ⟨d4, t4, e4, rfl, hl4, ho4, hc4, hy4, -⟩
  obtain ⟨rfl, ht4⟩ := hy4 (by have := HS.out.1; simp; omega)
  have HT4 := Lib.hid (And.intro hl4 (And.intro (show d4.ops = 1 by rw [ho4]; simp [fresh]) (And.intro (show d4.C.length = 1 by rw [hc4]; simp [fresh]) (show t4.size = 100 by rw [ht4, HS.out.1]; simp))))
  clear hl4 ho4 hc4 hy4 ht4
  go_wp2_with fail
  refine (writes_any bl b 2 4 t4 50 w4 HT4.out.1.log (by omega) (by have := HT4.out.2.2.2; omega) (by omega) 2 (by unfold wrV; rw [HT4.out.2.2.2]; simp [secs])).mono ?_
  rintro x w5 ⟨rfl, b5⟩
  have HL5 := Lib.hid (HT4.out.1.later b5)
  clear b5
  go_wp2_with fail
  refine (HZ2.out w5).mono ?_
  rintro x w6 ⟨rfl, b6⟩
  have HL6 := Lib.hid (HL5.out.later b6)
  clear b6
  go_wp2_with fail
  refine (HL6.out.grow z2 (by have := HT4.out.2.1; omega) (by have := HT4.out.2.2.1; omega) (by have := HS.out.2; omega) 2 (by unfold wrV; rw [HS.out.2, HT4.out.2.2.2]; simp [secs])).mono ?_
  rintro x w7 ⟨d7, t7, e7, rfl, hl7, ho7, hc7, hy7, -⟩
  obtain ⟨rfl, ht7⟩ := hy7 (by have := HS.out.2; have := HT4.out.2.2.2; omega)
  have hts : (t7.size : Int) = 150 := by rw [ht7, HS.out.2, HT4.out.2.2.2]; rfl
  have hos : (d7.ops : Int) = 3 := by rw [ho7, HT4.out.2.1]; rfl
  have HL7 := Lib.hid hl7
  clear hl7 ho7 hc7 hy7 ht7
  go_wp2_with fail
  refine (tail_any bl b 2 4 t7 w7 HL7.out.log).mono ?_
  rintro x w8 ⟨rfl, rfl⟩
  obtain ⟨F, hdk, -⟩ := HL7.out.ex
  have HDk := Lib.hid hdk
  clear hdk
  go_wp2_with fail
  refine (ops_any F b d7 w7 HDk.out).mono ?_
  rintro x w8 ⟨rfl, rfl⟩
  go_wp2
  go_ret
  exact ⟨rfl, HL7.out.bel⟩
end Go.Proofs.YtgdedimoblpgbaaDoor.Disk
