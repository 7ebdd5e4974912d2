/-
  The log's Grow, where nothing is armed.
-/
import Derived.Test.YtgdedimoblpgbaaDoorLogD
namespace Go.Proofs.YtgdedimoblpgbaaDoor.Disk
open Go.RowKit Go.Proofs.YtgdedimoblpgbaaDoor.DiskRows
set_option linter.unusedVariables false
set_option linter.unusedSimpArgs false
set_option maxRecDepth 100000

theorem putk_free (d : Dk) (p : Nat) (r : ByteArray) (K : Nat) (h0 : d.armed = 0) (hd : d.down = false) (hp : p + K ≤ d.S.length) (hr : r.size = K * 128) : ∀ k, k ≤ K → (d.putk p r k).2 = 0 ∧ (d.putk p r k).1.armed = 0 ∧ (d.putk p r k).1.down = false ∧ (d.putk p r k).1.S = d.S ∧ (d.putk p r k).1.ops = d.ops + k ∧ (d.putk p r k).1.C.length = d.C.length + k := by
  intro k
  induction k with
  | zero => intro _; exact ⟨rfl, h0, hd, rfl, rfl, rfl⟩
  | succ k ih =>
    intro hk
    obtain ⟨i1, i2, i3, i4, i5, i6⟩ := ih (by omega)
    rw [Dk.putk, if_pos i1]
    generalize (d.putk p r k).1 = dk at i2 i3 i4 i5 i6 ⊢
    obtain ⟨S, H, C, a, dn, o⟩ := dk
    dsimp only at i2 i3 i4 i5 i6
    subst i2 i3 i4
    have hs : (sect r k).size = 128 := by unfold sect; rw [ByteArray.size_extract, hr]; omega
    have hh : Dk.has ⟨d.S, H, C, 0, false, o⟩ ((p + k : Nat) : Int) := by unfold Dk.has; dsimp only; omega
    have e : Dk.write ⟨d.S, H, C, 0, false, o⟩ ((p + k : Nat) : Int) (sect r k) = (⟨d.S, H.set (((p + k : Nat) : Int)).toNat (sect r k), C ++ [((((p + k : Nat) : Int)).toNat, sect r k)], 0, false, o + 1⟩, 0) := by
      unfold Dk.write
      rw [if_neg (by simp), if_pos hh, if_pos hs, if_neg (by simp [Dk.step])]
      simp [Dk.step]
    rw [e]
    exact ⟨rfl, rfl, rfl, rfl, by show o + 1 = _; omega, by simp; omega⟩
/-- a disk at which nothing is armed -/
structure Free (d d' : Dk) (n : Nat) : Prop where
  armed : d'.armed = 0
  down : d'.down = false
  S : d'.S = d.S
  ops : d'.ops = d.ops + n
  C : d'.C.length = d.C.length + n
theorem grow_free (F : Nat → Prop) (bl b first most : Nat) (d : Dk) (t s : ByteArray) (w : World) (hD : DiskAt F b d w) (hT : Top F w.heap.size) (h : LogAt bl b first most t w) (hF : F bl) (h0 : d.armed = 0) (hd : d.down = false) (hfm : first + most ≤ d.S.length) (ht : t.size ≤ most * 128) (ho : d.ops ≤ 1000000) (hC : d.C.length ≤ 50000) (hs : (s.size : Int) ≤ 140737488355328) :
    Calls Tryd.prog 9 #[.pointer (some ⟨bl, 0, none⟩), .string s] w fun x w' => ∃ d' t' e, x = .returned (.int .i64 e) ∧ DiskAt F b d' w' ∧ LogAt bl b first most t' w' ∧ Kp (fun k => F k ∧ k ≠ bl) w w' ∧ Free d d' (wrV most t s.size) ∧
      (if t.size + s.size ≤ most * 128 then e = 0 ∧ t'.size = t.size + s.size else e = 6 ∧ t' = t) := by
  have hm : d.S.length ≤ 4096 := by
    obtain ⟨gS, cS, gH, cH, vC, h⟩ := hD
    exact h.most
  have hkd : Kp (fun k => F k ∧ k ≠ bl) w w.drew := (Kp.refl _ w).drew
  by_cases hf : (s.size : Int) > (most : Int) * 128 - (t.size : Int)
  · refine (grow_full bl b first most t s w h (by omega) (by omega) hs hf).mono ?_
    rintro x w' ⟨rfl, rfl⟩
    refine ⟨d, t, 6, rfl, hD.later (Below.refl _ w).drew, h.later (Below.refl _ w).drew, hkd, ?_, ?_⟩
    · unfold wrV
      rw [if_pos (.inr hf)]
      exact ⟨h0, hd, rfl, rfl, rfl⟩
    · rw [if_neg (by omega)]
      exact ⟨rfl, rfl⟩
  · by_cases hz : s.size = 0
    · refine (grow_none bl b first most t s w h (by omega) (by omega) hz hf).mono ?_
      rintro x w' ⟨rfl, rfl⟩
      refine ⟨d, t, 0, rfl, hD.later (Below.refl _ w).drew, h.later (Below.refl _ w).drew, hkd, ?_, ?_⟩
      · unfold wrV
        rw [if_pos (.inl hz)]
        exact ⟨h0, hd, rfl, rfl, rfl⟩
      · rw [if_pos (by omega), hz]
        exact ⟨rfl, rfl⟩
    · have hw : wrV most t s.size = secs (t.size + s.size) - t.size / 128 := by
        unfold wrV
        rw [if_neg (by rintro (q | q); exact hz q; exact hf q)]
      obtain ⟨r, hr⟩ : ∃ r, padV (t.extract (t.size / 128 * 128) t.size ++ s) = r := ⟨_, rfl⟩
      have hrs : r.size = (secs (t.size + s.size) - t.size / 128) * 128 := by
        rw [← hr, padV_size, ByteArray.size_append, ByteArray.size_extract]
        unfold secs
        omega
      have hK : r.size / 128 = wrV most t s.size := by rw [hw, hrs]; omega
      have hpk := putk_free d (first + t.size / 128) r (wrV most t s.size) h0 hd (by rw [hw]; unfold secs; omega) (by rw [hw]; exact hrs) _ (Nat.le_refl _)
      refine (grow_main F bl b first most d t s w hD hT h hF (by omega) (by omega) (by omega) (by omega) hf ho hC r hr _ rfl _ rfl).mono ?_
      rintro x w' ⟨rfl, hd', hl', hk'⟩
      rw [hK] at hd' hl' ⊢
      rw [if_pos hpk.1] at hl'
      refine ⟨_, _, _, rfl, hd', hl', hk', ⟨hpk.2.1, hpk.2.2.1, hpk.2.2.2.1, hpk.2.2.2.2.1, hpk.2.2.2.2.2⟩, ?_⟩
      rw [if_pos (by omega)]
      exact ⟨hpk.1, by rw [ByteArray.size_append]⟩
end Go.Proofs.YtgdedimoblpgbaaDoor.Disk
