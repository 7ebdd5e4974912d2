/-
  The walk of the log's Open, whatever the tail.
-/
import Derived.Test.YtgdedimoblpgbaaLogZC
namespace Go.Proofs.Ytgdedimoblpgbaa.Disk
open Go.RowKit Go.Proofs.Ytgdedimoblpgbaa.DiskRows
set_option linter.unusedVariables false
set_option linter.unusedSimpArgs false
set_option maxRecDepth 100000

/-- how it stands behind k sectors -/
structure OpSt (F : Nat → Prop) (b first most : Nat) (d : Dk) (w : World) (k : Nat) (wr : World) : Prop where
  disk : DiskAt (Plus F w.heap.size wr.heap.size) b { d with ops := d.ops + k } wr
  log : LogAt w.heap.size b first most ByteArray.empty wr
  bld : Lib.IsBuilderF 52 5 (w.heap.size + 1) (w.heap.size + 1) (cellsOf (rdV d.H first k)) wr
  kp : Kp F w wr
  sz : w.heap.size + 1 ≤ wr.heap.size
set_option maxHeartbeats 6400000 in
theorem open_any (F : Nat → Prop) (b first most n K : Nat) (d : Dk) (w : World) (hD : DiskAt F b d w) (hT : Top F w.heap.size) (hdn : d.down = false) (hfm : first + most ≤ d.S.length) (hK : secs n = K) (hKm : K ≤ most) (ho : d.ops ≤ 1000000) (hl : d.H.length = d.S.length) (hz : ∀ x ∈ d.H, x.size = 128) (r : ByteArray) (hr : (rdV d.H first K).extract 0 n = r) :
    Calls Try.prog 7 #[.pointer (some ⟨b, 0, none⟩), .int .i64 first, .int .i64 most, .int .i64 n] w fun x w' => (∃ bl, x = .returned (.tuple #[.pointer (some ⟨bl, 0, none⟩), .int .i64 0]) ∧ LogAt bl b first most r w') ∧ Kp F w w' := by
  have hsz := size_any F b d w hD
  obtain ⟨m, hm⟩ : ∃ m, d.S.length = m := ⟨_, rfl⟩
  have hm16 : 16 ≤ m ∧ m ≤ 4096 := by
    obtain ⟨gS, cS, gH, cH, vC, h⟩ := hD
    exact ⟨hm ▸ h.pos, hm ▸ h.most⟩
  have hnK : n ≤ K * 128 := by rw [← hK]; exact secs_le n
  rw [hm] at hsz hfm hl
  have hS0 := fun W => sectors_any n W (by omega) K hK
  have HS := Lib.hid hsz
  have HS0 := Lib.hid hS0
  have hn0 : ((m : Int) == 0) = false := by simp; omega
  have hnb : (m : Int) ≤ 4096 := by omega
  have hfb : (first : Int) ≤ (m : Int) := by omega
  have hmb : (most : Int) ≤ (m : Int) - (first : Int) := by omega
  have hKb : (K : Int) ≤ (most : Int) := by omega
  have hw1 : IntKind.i64.wrap ((m : Int) - (first : Int)) = (m : Int) - (first : Int) := by rw [IntKind.wrap_i64]; omega
  have HA := Lib.hid (And.intro hD (And.intro hT (And.intro hdn (And.intro hl (And.intro hz (And.intro hr (And.intro hm (And.intro hnK (And.intro hfm ho)))))))))
  clear hsz hS0 hD hm hfm hm16 hT hdn hl hz hr hnK hK ho hKm
  go_enter Try.func7, Try.ntmps7
  go_wp2_with fail
  refine HS.out.mono ?_
  rintro x w1 ⟨rfl, rfl⟩
  go_wp2_with fail
  refine (HS0.out w).mono ?_
  rintro x w1 ⟨rfl, rfl⟩
  go_upto_region 10 with fail
  obtain ⟨w2, hw2⟩ : ∃ w2, w.alloc (.cells #[.pointer (some ⟨b, 0, none⟩), .int .i64 first, .int .i64 most, .string ⟨#[]⟩] 48) = w2 := ⟨_, rfl⟩
  have hl2 : LogAt w.heap.size b first most ByteArray.empty w2 := ⟨by rw [← hw2]; exact heap_alloc_last _ _⟩
  have b2 : Below w.heap.size w w2 := by rw [← hw2]; exact Joins.below_alloc1 _ _
  have hs2 : w2.heap.size = w.heap.size + 1 := by rw [← hw2]; simp
  have hbn := builder_new w2
  have b3 := Joins.below_alloc1 w2 (.cells #[.pointer none, .slice none 0 0] 52)
  rw [hs2] at hbn
  have hz3 : w.heap.size + 1 ≤ (w2.alloc (.cells #[.pointer none, .slice none 0 0] 52)).heap.size := by simp; omega
  rw [hw2]
  have hl3 := hl2.later b3
  have HB := Lib.hid (And.intro hl3 (And.intro (b2.trans (b3.mono b2.size)) (And.intro hbn hz3)))
  clear hw2 hl2 b2 hs2 hbn b3 hz3 hl3
  generalize w2.alloc _ = w3 at *
  go_wp2_with fail
  refine (HS0.out w3).mono ?_
  rintro x w4 ⟨rfl, rfl⟩
  go_upto_region 11 with fail
  go_loopw [56] (fun i wr => ∃ k : Nat, k ≤ K ∧ i = .int .i64 k ∧ OpSt F b first most d w k wr) (fun i _ => K - (intOf i).toNat)
  case atStart => exact ⟨0, by omega, rfl, ⟨HA.out.1.grow HB.out.2.1, HB.out.1, HB.out.2.2.1, HB.out.2.1.kp, HB.out.2.2.2⟩⟩
  case round =>
    obtain ⟨k, hk, rfl, hst⟩ := hrel
    have HSt := Lib.hid hst
    clear hst
    by_cases hlt : k < K
    · have hkK : (k : Int) < (K : Int) := by omega
      have hw2 : IntKind.i64.wrap ((first : Int) + (k : Int)) = (first : Int) + (k : Int) := by rw [IntKind.wrap_i64]; omega
      obtain ⟨s, hs⟩ : ∃ s, d.H.getD (first + k) ByteArray.empty = s := ⟨_, rfl⟩
      have hs128 : s.size = 128 := by
        have := HA.out
        rw [← hs, List.getD_eq_getElem?_getD, List.getElem?_eq_getElem (show first + k < d.H.length by omega)]
        exact this.2.2.2.2.1 _ (List.getElem_mem _)
      have hrd := read_sz _ b { d with ops := d.ops + k } wr HSt.out.disk HA.out.2.2.1 (first + k) (by have := HA.out; dsimp only; omega) (by have := HA.out; dsimp only; omega) s hs
      rw [show ((first + k : Nat) : Int) = (first : Int) + (k : Int) by omega] at hrd
      have hsz2 : (rdV d.H first k).size = k * 128 := (rdV_get d.H first HA.out.2.2.2.2.1 k (by have := HA.out; omega)).1
      have hnx : rdV d.H first k ++ s = rdV d.H first (k + 1) := by rw [rdV, hs]
      have HRd := Lib.hid hrd
      have HN := Lib.hid (And.intro hnx (And.intro hsz2 hs128))
      clear hrd hnx hsz2 hs hs128
      go_wp2_with fail
      refine HRd.out.mono ?_
      rintro x w4 ⟨rfl, hd4, k4, z4⟩
      rw [← z4] at hd4
      have hb4 := builder_kp HSt.out.bld k4 (fun j hj hl => .inr ⟨by omega, hl⟩)
      have hl4 := HSt.out.log.kp k4 (.inr ⟨Nat.le_refl _, HSt.out.log.lt⟩)
      have HW := Lib.hid (And.intro hd4 (And.intro hb4 (And.intro hl4 (And.intro (k4.sub (fun j hj => Or.inl hj) : Kp F wr w4) z4))))
      clear hd4 k4 z4 hb4 hl4
      go_wp2_with fail
      refine (bwrite_any _ _ _ s _ w4 HW.out.2.1 (by have := HN.out.2; omega) (by have := HW.out.2.2.2.2; have := HSt.out.sz; omega) HN.out.1).mono ?_
      rintro x w5 ⟨rfl, hb5, k5⟩
      have hd5 := HW.out.1.on k5 (Nat.le_succ _)
      have hl5 : LogAt w.heap.size b first most ByteArray.empty w5 := ⟨by rw [k5.block _ (Nat.lt_succ_self _)]; exact HW.out.2.2.1.box⟩
      have hk5 : Kp F w w5 := (HSt.out.kp.trans HW.out.2.2.2.1).trans ⟨k5.os, k5.tape, k5.output, k5.size, fun j _ hF => k5.block j (by have := HA.out.2.1 j hF; omega)⟩
      have hz5 : w.heap.size + 1 ≤ w5.heap.size := by have := HW.out.2.2.2.2; have := HSt.out.sz; have := k5.size; omega
      have HS5 := Lib.hid (OpSt.mk (k := k + 1) hd5 hl5 hb5 hk5 hz5)
      clear hb5 k5 hd5 hl5 hk5 hz5
      go_wp2
      go_round
      case rel => exact ⟨k + 1, by omega, by go_num, HS5.out⟩
      case measure => simp [intOf]; omega
    · obtain rfl : k = K := by omega
      obtain ⟨u, hu⟩ : ∃ u, rdV d.H first k = u := ⟨_, rfl⟩
      have hsz2 : u.size = k * 128 := by rw [← hu]; exact (rdV_get d.H first HA.out.2.2.2.2.1 k (by have := HA.out; omega)).1
      have hbl := HSt.out.bld
      rw [hu] at hbl
      have hnu : n ≤ u.size := by have := HA.out; omega
      have hru : u.extract 0 n = r := by rw [← hu]; exact HA.out.2.2.2.2.2.1
      have HRu := Lib.hid hru
      have HU := Lib.hid (And.intro hbl hsz2)
      have hun : (n : Int) ≤ (u.size : Int) := by omega
      clear hu hsz2 hbl hnu hru
      go_upto_region 18 with fail
      go_wp2_with fail
      refine (bstring_any _ _ u wr HU.out.1 HSt.out.sz).mono ?_
      rintro x w5 ⟨rfl, b5⟩
      have hl5 : LogAt w.heap.size b first most ByteArray.empty w5 := ⟨by rw [b5.block _ (Nat.lt_succ_self _)]; exact HSt.out.log.box⟩
      have hk5 : Kp F w w5 := HSt.out.kp.trans ⟨b5.os, b5.tape, b5.output, b5.size, fun j _ hF => b5.block j (by have := HA.out.2.1 j hF; omega)⟩
      obtain ⟨⟨x0, x1, x2, x3⟩, f⟩ := hl5.cells
      have f3 := f 3
      have hput : LogAt w.heap.size b first most r (w5.setCell ⟨w.heap.size, 3, none⟩ (.string (u.extract 0 n))) := by rw [HRu.out]; exact hl5.put r
      have HE := Lib.hid (And.intro hput (Kp.setCell hk5 (p := ⟨w.heap.size, 3, none⟩) (HA.out.2.1.nf (Nat.le_refl _)) (.string (u.extract 0 n))))
      clear hl5 hput hk5 f b5
      go_wp2
      go_ret2
      exact ⟨⟨w.heap.size, rfl, HE.out.1⟩, HE.out.2⟩
end Go.Proofs.Ytgdedimoblpgbaa.Disk
