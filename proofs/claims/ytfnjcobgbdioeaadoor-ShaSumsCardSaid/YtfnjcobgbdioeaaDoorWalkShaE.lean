/-
  The walk of sha's Put: bytes on a sum on its way.
-/
import Derived.Test.YtfnjcobgbdioeaaDoorWalkShaD
namespace Go.Proofs.YtfnjcobgbdioeaaDoor.WalkSha
open Go.RowKit Go.Proofs.YtfnjcobgbdioeaaDoor.BytesRow
set_option linter.unusedVariables false
set_option linter.unusedSimpArgs false
set_option maxRecDepth 100000

theorem turned_at (s t : Pl.Sha.St) (B : List UInt8) (b off c : Nat) (w : World) (ht : Tab w) (hs : Ok s) (hB : Blk w b off B) (hb : b < w.heap.size) (he : Pl.Sha.turned s B = t) :
    Calls Tryd.prog 24 #[.agg (stV s), .slice (some ⟨b, off, none⟩) 64 c] w fun e w' => e = .returned (.agg (stV t)) ∧ Below w.heap.size w w' := he ▸ turned_any s B b off c w ht hs hB hb
theorem Sl.shape {w : World} {base : Nat} {v : Value} {l : List UInt8} (h : Sl w base v l) : ∃ a n c, v = .slice a n c ∧ n = l.length ∧ (n : Int) = (l.length : Nat) := by
  rcases h with ⟨rfl, rfl⟩ | ⟨g, off, cap, cur, rfl, _⟩
  · exact ⟨_, _, _, rfl, rfl, rfl⟩
  · exact ⟨_, _, _, rfl, rfl, rfl⟩
theorem hV_rest (st : Pl.Sha.St) (v u : Value) (n : Nat) : (hV st v n).setIfInBounds 8 u = hV st u n := by simp [hV]
theorem hV_size (st : Pl.Sha.St) (v : Value) (n m : Nat) : (hV st v n).setIfInBounds 9 (.int .i64 (m : Nat)) = hV st v m := by simp [hV]
theorem below_grown {B : Nat} {v : Value} {w w' : World} {l : List UInt8} (h : w.grownBy w' v.ownBlock) (hs : Sl w B v l) (hB : B ≤ w.heap.size) : Below B w w' :=
  (Below.refl B w).grown h hB (fun k hk => by
    rcases hs.form with ⟨rfl, _⟩ | ⟨g, off, cap, rfl, hg, _⟩
    · simp [Value.ownBlock] at hk
    · simp [Value.ownBlock] at hk; omega)
theorem sum_after {b N : Nat} {s : Pl.Sha.St} {v : Value} {w w' : World} (h : w.heap[b]? = some (.cells (hV s v N) 39)) (k : Below w.heap.size w w') :
    (w'.cell? ⟨b, 0, none⟩ = some (.int .u32 (s.a : Nat)) ∧ w'.cell? ⟨b, 1, none⟩ = some (.int .u32 (s.b : Nat)) ∧ w'.cell? ⟨b, 2, none⟩ = some (.int .u32 (s.c : Nat)) ∧ w'.cell? ⟨b, 3, none⟩ = some (.int .u32 (s.d : Nat)) ∧ w'.cell? ⟨b, 4, none⟩ = some (.int .u32 (s.e : Nat)) ∧ w'.cell? ⟨b, 5, none⟩ = some (.int .u32 (s.f : Nat)) ∧ w'.cell? ⟨b, 6, none⟩ = some (.int .u32 (s.g : Nat)) ∧ w'.cell? ⟨b, 7, none⟩ = some (.int .u32 (s.h : Nat))) ∧ w'.frozen? ⟨b, 0, none⟩ = false ∧ w'.frozen? ⟨b, 1, none⟩ = false ∧ w'.frozen? ⟨b, 2, none⟩ = false ∧ w'.frozen? ⟨b, 3, none⟩ = false ∧ w'.frozen? ⟨b, 4, none⟩ = false ∧ w'.frozen? ⟨b, 5, none⟩ = false ∧ w'.frozen? ⟨b, 6, none⟩ = false ∧ w'.frozen? ⟨b, 7, none⟩ = false ∧ w'.heap[b]? = some (.cells (hV s v N) 39) := by
  have h' : w'.heap[b]? = some (.cells (hV s v N) 39) := by rw [k.block b (Array.getElem?_eq_some_iff.1 h).1]; exact h
  refine ⟨⟨?_, ?_, ?_, ?_, ?_, ?_, ?_, ?_⟩, frozen_of_row w' b 0 _ _ h', frozen_of_row w' b 1 _ _ h', frozen_of_row w' b 2 _ _ h', frozen_of_row w' b 3 _ _ h', frozen_of_row w' b 4 _ _ h', frozen_of_row w' b 5 _ _ h', frozen_of_row w' b 6 _ _ h', frozen_of_row w' b 7 _ _ h', h'⟩
  · rw [cell_of_row w' b 0 _ _ _ h']; rfl
  · rw [cell_of_row w' b 1 _ _ _ h']; rfl
  · rw [cell_of_row w' b 2 _ _ _ h']; rfl
  · rw [cell_of_row w' b 3 _ _ _ h']; rfl
  · rw [cell_of_row w' b 4 _ _ _ h']; rfl
  · rw [cell_of_row w' b 5 _ _ _ h']; rfl
  · rw [cell_of_row w' b 6 _ _ _ h']; rfl
  · rw [cell_of_row w' b 7 _ _ _ h']; rfl
theorem hset8 {b N : Nat} {x : Pl.Sha.St} {v : Value} {w : World} (h : w.heap[b]? = some (.cells (hV x v N) 39)) (y : Pl.Sha.St) :
    ∃ w', ((((((((w.setCell ⟨b, 0, none⟩ (.int .u32 (y.a : Nat))).setCell ⟨b, 1, none⟩ (.int .u32 (y.b : Nat))).setCell ⟨b, 2, none⟩ (.int .u32 (y.c : Nat))).setCell ⟨b, 3, none⟩ (.int .u32 (y.d : Nat))).setCell ⟨b, 4, none⟩ (.int .u32 (y.e : Nat))).setCell ⟨b, 5, none⟩ (.int .u32 (y.f : Nat))).setCell ⟨b, 6, none⟩ (.int .u32 (y.g : Nat))).setCell ⟨b, 7, none⟩ (.int .u32 (y.h : Nat))) = w' ∧ w'.heap[b]? = some (.cells (hV y v N) 39) ∧ Below b w w' ∧ ∀ base u l, b < base → Sl w base u l → Sl w' base u l := by
  refine ⟨_, rfl, ?_, below_set8 (Below.refl b w) (Nat.le_refl _) y, fun base u l hb hs => ((((((((hs.set b 0 _ hb).set b 1 _ hb).set b 2 _ hb).set b 3 _ hb).set b 4 _ hb).set b 5 _ hb).set b 6 _ hb).set b 7 _ hb)⟩
  rw [Joins.block_setCell (Joins.block_setCell (Joins.block_setCell (Joins.block_setCell (Joins.block_setCell (Joins.block_setCell (Joins.block_setCell (Joins.block_setCell h _) _) _) _) _) _) _) _]
  simp [hV]
/-- how long the row in cell 8 of block b is -/
def restLen (b : Nat) (w : World) : Nat := match w.cell? ⟨b, 8, none⟩ with | some (.slice _ n _) => n | _ => 0
theorem blk_of {w : World} {base g off n c : Nat} {l : List UInt8} (h : Sl w base (.slice (some ⟨g, off, none⟩) n c) l) (hn : 64 ≤ l.length) : Blk w g off (l.take 64) := fun i hi => by
  rw [h.cell i (by omega)]
  simp [List.getD_eq_getElem?_getD, List.getElem?_take, hi]
theorem Blk.drew {w : World} {b off : Nat} {B : List UInt8} (h : Blk w b off B) : Blk w.drew b off B := h
theorem Tab.drew {w : World} (h : Tab w) : Tab w.drew := ⟨h.first, h.consts⟩
set_option maxHeartbeats 8000000 in
theorem put_h (b : Nat) (st : Pl.Sha.St) (v : Value) (n N : Nat) (r A : List UInt8) (s : ByteArray) (w : World) (ht : Tab w) (h : HAt b st v n r w) (hb1 : 1 < b) (hn : (n : Int) + s.size ≤ 140737488355328) (hr : r.length ≤ n) (hA : r ++ s.data.toList = A) (hN : n + s.size = N) :
    Calls Tryd.prog 12 #[.pointer (some ⟨b, 0, none⟩), .string s] w fun e w' => e = .returned (.int .i64 0) ∧ (∃ v', HAt b (Pl.Sha.blocks st A (A.length / 64)) v' N (A.drop (64 * (A.length / 64))) w') ∧ Below b w w' := by
  have HA := Lib.hid hA
  have HN := Lib.hid hN
  clear hA hN
  obtain ⟨h0, hrow, hok⟩ := h
  have hblt := (Array.getElem?_eq_some_iff.1 h0).1
  have c8 : w.cell? ⟨b, 8, none⟩ = some v := by rw [cell_of_row w b 8 _ _ _ h0]; rfl
  have c9 : w.cell? ⟨b, 9, none⟩ = some (.int .i64 (n : Nat)) := by rw [cell_of_row w b 9 _ _ _ h0]; rfl
  have c10 : w.cell? ⟨b, 10, none⟩ = some (.bool true) := by rw [cell_of_row w b 10 _ _ _ h0]; rfl
  have f8 := frozen_of_row w b 8 _ _ h0
  have f9 := frozen_of_row w b 9 _ _ h0
  have H0 := Lib.hid h0
  have HT := Lib.hid ht
  have HRow := Lib.hid hrow
  clear h0 hrow ht
  go_enter Tryd.func12, Tryd.ntmps12
  go_wp2_with fail
  refine (there_yes b w c10).mono ?_
  rintro e w' ⟨rfl, rfl⟩
  go_upto_region 4 with fail
  obtain ⟨w1, hw1⟩ : ∃ w1, w.setCell ⟨b, 9, none⟩ (.int .i64 ((n : Int) + s.size)) = w1 := ⟨_, rfl⟩
  have h1 : w1.heap[b]? = some (.cells (hV st v (n + s.size)) 39) := by
    rw [← hw1, Joins.block_setCell H0.out]
    have := hV_size st v n (n + s.size)
    rw [Int.natCast_add] at this
    rw [this]
  have r1 : Sl w1 (b + 1) v r := by rw [← hw1]; exact HRow.out.set b 9 _ (Nat.lt_succ_self _)
  have b1 : Below b w w1 := by rw [← hw1]; exact (Below.refl b w).setCell (p := ⟨b, 9, none⟩) (Nat.le_refl _) _
  have z1 : b < w1.heap.size := Nat.lt_of_lt_of_le hblt b1.size
  have t1 : Tab w1 := HT.out.below b1 hb1
  rw [hw1]
  clear hw1 c8 c9 c10 f8 f9 H0 HT HRow hblt
  have c8 : w1.cell? ⟨b, 8, none⟩ = some v := by rw [cell_of_row w1 b 8 _ _ _ h1]; rfl
  have f8 := frozen_of_row w1 b 8 _ _ h1
  have H1 := Lib.hid h1
  have T1 := Lib.hid t1
  clear h1 t1
  have hsz : s.data.toList.length = s.size := by simp
  go_upto_region 5 with (at_builtin; go_must (refine wpList_append_sl_string rfl _ _ rfl (b + 1) v r s rfl rfl r1 (by omega) z1 ?_); intro v' w2 r2 hgr; obtain ⟨ao, ln, cp, rfl, hln, -⟩ := Sl.shape r2; have b2 := below_grown hgr r1 z1; have d8 := (b2.cell (p := ⟨b, 8, none⟩) (Nat.lt_succ_self b)).trans c8; have g8 := (b2.frozen (p := ⟨b, 8, none⟩) (Nat.lt_succ_self b)).trans f8)
  have hA := HA.out
  have hN := HN.out
  have hAl : A.length = r.length + s.size := by rw [← hA, List.length_append, hsz]
  have hAN : A.length ≤ N := by omega
  have hNb : (N : Int) ≤ 140737488355328 := by omega
  rw [hA] at r2 hln
  rw [hN] at H1
  rw [← hAl]
  obtain ⟨w3, hw3⟩ : ∃ w3, w2.setCell ⟨b, 8, none⟩ (.slice ao A.length cp) = w3 := ⟨_, rfl⟩
  rw [← hln] at hw3 ⊢
  have h3 : w3.heap[b]? = some (.cells (hV st (.slice ao ln cp) N) 39) := by
    rw [← hw3, Joins.block_setCell ((b2.block b (Nat.lt_succ_self b)).trans H1.out), hV_rest]
  have r3 : Sl w3 (b + 1) (.slice ao ln cp) A := by rw [← hw3]; exact r2.set b 8 _ (Nat.lt_succ_self _)
  have b3 : Below b w w3 := by rw [← hw3]; exact (b1.trans (b2.mono (Nat.le_succ b))).setCell (p := ⟨b, 8, none⟩) (Nat.le_refl _) _
  have t0 : Tab w3 := (T1.out.below b2 (by omega)).below (by rw [← hw3]; exact (Below.refl b w2).setCell (p := ⟨b, 8, none⟩) (Nat.le_refl _) _) hb1
  rw [hw3]
  have T0 := Lib.hid t0
  clear hA hN hln hAl hw3 b1 b2 d8 g8 r2 hgr r1 z1 c8 f8 H1 T1 t0
  go_loopw [] (fun wr => ∃ (j : Nat) (x : Value), 64 * j ≤ A.length ∧ wr.heap[b]? = some (.cells (hV (Pl.Sha.blocks st A j) x N) 39) ∧ Sl wr (b + 1) x (A.drop (64 * j)) ∧ Below b w3 wr) (fun wr => restLen b wr)
  case atStart => exact ⟨0, _, by omega, h3, by simpa using r3, Below.refl _ _⟩
  case round =>
    obtain ⟨j, x, hj, hh, hx, bw⟩ := hrel
    clear h3 r3
    obtain ⟨sj, hsj⟩ : ∃ t, Pl.Sha.blocks st A j = t := ⟨_, rfl⟩
    rw [hsj] at hh
    have hokj : Ok sj := by rw [← hsj]; exact hok.blocks _ _
    obtain ⟨R, hR⟩ : ∃ R, A.drop (64 * j) = R := ⟨_, rfl⟩
    rw [hR] at hx
    have hRl : R.length = A.length - 64 * j := by rw [← hR, List.length_drop]
    have HRl := Lib.hid hRl
    clear hRl
    obtain ⟨ax, lx, cx, rfl, hlx, -⟩ := Sl.shape hx
    subst hlx
    have htw : Tab wr := T0.out.below bw hb1
    have hlt := (Array.getElem?_eq_some_iff.1 hh).1
    have e0 := cell_of_row wr b 0 _ _ _ hh
    have e1 := cell_of_row wr b 1 _ _ _ hh
    have e2 := cell_of_row wr b 2 _ _ _ hh
    have e3 := cell_of_row wr b 3 _ _ _ hh
    have e4 := cell_of_row wr b 4 _ _ _ hh
    have e5 := cell_of_row wr b 5 _ _ _ hh
    have e6 := cell_of_row wr b 6 _ _ _ hh
    have e7 := cell_of_row wr b 7 _ _ _ hh
    have e8 := cell_of_row wr b 8 _ _ _ hh
    simp only [hV, List.getElem?_toArray, List.getElem?_cons_zero, List.getElem?_cons_succ] at e0 e1 e2 e3 e4 e5 e6 e7 e8
    by_cases hge : 64 ≤ R.length
    · have hgei : (64 : Int) ≤ (R.length : Int) := by omega
      rcases hx.form with ⟨_, hnil⟩ | ⟨g, off, cap, h0, hg1, hg2, hg3, hg4⟩
      · rw [hnil] at hge; simp at hge
      · simp at h0
        obtain ⟨rfl, rfl⟩ := h0
        have hblk := blk_of hx hge
        have z0 := frozen_of_row wr b 0 _ _ hh
        have z1 := frozen_of_row wr b 1 _ _ hh
        have z2 := frozen_of_row wr b 2 _ _ hh
        have z3 := frozen_of_row wr b 3 _ _ hh
        have z4 := frozen_of_row wr b 4 _ _ hh
        have z5 := frozen_of_row wr b 5 _ _ hh
        have z6 := frozen_of_row wr b 6 _ _ hh
        have z7 := frozen_of_row wr b 7 _ _ hh
        have z8 := frozen_of_row wr b 8 _ _ hh
        obtain ⟨sk, hsk⟩ : ∃ t, Pl.Sha.turned sj (R.take 64) = t := ⟨_, rfl⟩
        have hcall := fun (W : World) (k : Below wr.heap.size wr W) => turned_at sj sk (R.take 64) g off cx W (htw.below k (by omega)) hokj (hblk.below k hg2) (Nat.lt_of_lt_of_le hg2 k.size) hsk
        unfold stV at hcall
        have HCall := Lib.hid hcall
        have HH := Lib.hid hh
        have HX := Lib.hid hx
        have HSj := Lib.hid (And.intro hsj (And.intro hR hsk))
        have hge2 : (64 : Int) ≤ (cx : Int) := by omega
        clear hcall hblk htw hh hx hsj hR hsk T0
        go_upto_region 6 with fail
        go_region_with (go_at_call 24; refine (HCall.out _ (by first | exact (Below.refl _ _).drew)).mono ?_; rintro e w5 ⟨rfl, hB5⟩; obtain ⟨⟨q0, q1, q2, q3, q4, q5, q6, q7⟩, p0, p1, p2, p3, p4, p5, p6, p7, hh5⟩ := sum_after (w := wr.drew) HH.out hB5)
        all_goals
          obtain ⟨w6, hw6, h6, b6, s6⟩ := hset8 hh5 sk
          rw [hw6]
          have hx6 : Sl w6 (b + 1) (.slice (some ⟨g, off, none⟩) R.length cx) R := s6 _ _ _ (Nat.lt_succ_self b) ((Sl.drew HX.out).below hB5 (fun g' off' n c e => (Sl.drew HX.out).lt g' off' n c e))
          have bw6 : Below b w3 w6 := bw.drew.trans ((hB5.mono (Nat.le_of_lt hlt)).trans b6)
          have d8 : w6.cell? ⟨b, 8, none⟩ = some (.slice (some ⟨g, off, none⟩) R.length cx) := by rw [cell_of_row w6 b 8 _ _ _ h6]; rfl
          have k8 := frozen_of_row w6 b 8 _ _ h6
          have H6 := Lib.hid h6
          have X6 := Lib.hid hx6
          have bstep : ∀ u, Below b w3 (w6.setCell ⟨b, 8, none⟩ u) := fun u => bw6.setCell (p := ⟨b, 8, none⟩) (Nat.le_refl _) u
          have hstep : ∀ u, (w6.setCell ⟨b, 8, none⟩ u).heap[b]? = some (.cells (hV sk u N) 39) := fun u => by rw [Joins.block_setCell H6.out, hV_rest]
          have BS := Lib.hid bstep
          have HS := Lib.hid hstep
          have hmeas : restLen b wr = R.length := by unfold restLen; rw [e8]
          have HM := Lib.hid hmeas
          have hsub : (R.length : Int) - 64 = ((R.length - 64 : Nat) : Int) := by omega
          have hsub2 : (cx : Int) - 64 = ((cx - 64 : Nat) : Int) := by omega
          clear hw6 q0 q1 q2 q3 q4 q5 q6 q7 p0 p1 p2 p3 p4 p5 p6 p7 hh5 e0 e1 e2 e3 e4 e5 e6 e7 z0 z1 z2 z3 z4 z5 z6 z7 s6 h6 hx6 hB5 b6 HCall HH HX z8 e8 bstep hstep hmeas
          have key : ∀ u, Sl w6 (b + 1) u (R.drop 64) → restLen b (w6.setCell ⟨b, 8, none⟩ u) = R.length - 64 → (∃ (j : Nat) (x : Value), 64 * j ≤ A.length ∧ (w6.setCell ⟨b, 8, none⟩ u).heap[b]? = some (.cells (hV (Pl.Sha.blocks st A j) x N) 39) ∧ Sl (w6.setCell ⟨b, 8, none⟩ u) (b + 1) x (A.drop (64 * j)) ∧ Below b w3 (w6.setCell ⟨b, 8, none⟩ u)) ∧ restLen b (w6.setCell ⟨b, 8, none⟩ u) < restLen b wr := by
            intro u hu hm
            obtain ⟨k1, k2, k3⟩ := HSj.out
            refine ⟨⟨j + 1, u, by have := HRl.out; omega, ?_, ?_, BS.out _⟩, by rw [hm, HM.out]; omega⟩
            · rw [Pl.Sha.blocks, k1, k2, k3]; exact HS.out _
            · rw [show 64 * (j + 1) = 64 * j + 64 by omega, ← List.drop_drop, k2]; exact hu.set b 8 _ (Nat.lt_succ_self _)
          have KEY := Lib.hid key
          have hrl : ∀ a n c, restLen b (w6.setCell ⟨b, 8, none⟩ (.slice a n c)) = n := by
            intro a n c
            unfold restLen
            rw [World.cell?_setCell_same w6 _ _ d8]
          have RL := Lib.hid hrl
          clear key hrl
          by_cases hc : cx = 64
          · subst hc
            have hR64 : R.length = 64 := by omega
            go_wp2
            have K := KEY.out (.slice (some ⟨g, off, none⟩) 0 0) (by rw [List.drop_of_length_le (by omega)]; exact X6.out.empty rfl) (by rw [RL.out]; omega)
            go_round
            case rel => exact K.1
            case measure => exact K.2
          · have hc2 : ¬ cx - 64 = 0 := by omega
            go_wp2
            have K := KEY.out (.slice (some ⟨g, off + 64, none⟩) (R.length - 64) (cx - 64)) (X6.out.drop 64 hge) (by rw [RL.out])
            go_round
            case rel => exact K.1
            case measure => exact K.2
    · have hl := HRl.out
      have hje : j = A.length / 64 := by omega
      have hn64 : ¬ (64 : Int) ≤ (R.length : Int) := by omega
      have hfin : HAt b (Pl.Sha.blocks st A (A.length / 64)) (.slice ax R.length cx) N (A.drop (64 * (A.length / 64))) wr := by
        rw [← hje, hsj, hR]
        exact ⟨hh, hx, hokj⟩
      have hb3 := b3.trans bw
      have HF := Lib.hid hfin
      clear hl hje hfin hsj hR hh hx HRl
      go_wp2
      go_ret
      exact ⟨rfl, ⟨_, HF.out⟩, hb3⟩
/-- bytes put on a sum -/
theorem put_any (b : Nat) (l : List UInt8) (s : ByteArray) (w : World) (ht : Tab w) (h : HashAt b l w) (hb : 1 < b) (hn : (l.length : Int) + s.size ≤ 140737488355328) :
    Calls Tryd.prog 12 #[.pointer (some ⟨b, 0, none⟩), .string s] w fun e w' => e = .returned (.int .i64 0) ∧ HashAt b (l ++ s.data.toList) w' ∧ Below b w w' := by
  obtain ⟨v, h⟩ := h
  have hsz : s.data.toList.length = s.size := by simp
  have hrl := Pl.Sha.rest_length l
  have hlen : (l ++ s.data.toList).length = l.length + s.size := by rw [List.length_append, hsz]
  refine (put_h b _ v l.length (l.length + s.size) (Pl.Sha.rest l) (Pl.Sha.rest l ++ s.data.toList) s w ht h hb hn (by omega) rfl rfl).mono ?_
  rintro e w' ⟨he, ⟨v', h'⟩, hB⟩
  refine ⟨he, ⟨v', ?_⟩, hB⟩
  have hA : (Pl.Sha.rest l ++ s.data.toList).length = l.length % 64 + s.size := by rw [List.length_append, hrl, hsz]
  have e1 : Pl.Sha.rest l ++ s.data.toList = (l ++ s.data.toList).drop (64 * (l.length / 64)) := by
    unfold Pl.Sha.rest
    rw [List.drop_append_of_le_length (by omega)]
  have e2 : (l ++ s.data.toList).length / 64 = l.length / 64 + (Pl.Sha.rest l ++ s.data.toList).length / 64 := by rw [hlen, hA]; omega
  have e3 : Pl.Sha.blocks Pl.Sha.first (l ++ s.data.toList) (l.length / 64) = Pl.Sha.blocks Pl.Sha.first l (l.length / 64) := Pl.Sha.blocks_append _ _ _ _ (by omega)
  have e4 : Pl.Sha.blocks Pl.Sha.first (l ++ s.data.toList) ((l ++ s.data.toList).length / 64) = Pl.Sha.blocks (Pl.Sha.blocks Pl.Sha.first l (l.length / 64)) (Pl.Sha.rest l ++ s.data.toList) ((Pl.Sha.rest l ++ s.data.toList).length / 64) := by
    rw [e2, Pl.Sha.blocks_add, e3, ← e1]
  have e5 : Pl.Sha.rest (l ++ s.data.toList) = (Pl.Sha.rest l ++ s.data.toList).drop (64 * ((Pl.Sha.rest l ++ s.data.toList).length / 64)) := by
    unfold Pl.Sha.rest
    rw [e2, Nat.mul_add, ← List.drop_drop, ← e1]
    rfl
  rw [e4, e5, hlen]
  exact h'
end Go.Proofs.YtfnjcobgbdioeaaDoor.WalkSha
