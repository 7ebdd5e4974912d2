/-
  The log's Grow, whatever is armed; a log on a disk.
-/
import Derived.Test.YtgdedimoblpgbaaLogZA
namespace Go.Proofs.Ytgdedimoblpgbaa.Disk
open Go.RowKit Go.Proofs.Ytgdedimoblpgbaa.DiskRows
set_option linter.unusedVariables false
set_option linter.unusedSimpArgs false
set_option maxRecDepth 100000

theorem grow_any (F : Nat → Prop) (bl b first most : Nat) (d : Dk) (t s : ByteArray) (w : World) (hD : DiskAt F b d w) (hT : Top F w.heap.size) (h : LogAt bl b first most t w) (hF : F bl) (hfi : first ≤ 100000) (hm : most ≤ 4096) (ht : t.size ≤ 1000000) (ho : d.ops ≤ 1000000) (hC : d.C.length ≤ 50000) (hs : (s.size : Int) ≤ 140737488355328) (q : Dk × ByteArray × Int) (hq : growV d first most t s = q) :
    Calls Try.prog 8 #[.pointer (some ⟨bl, 0, none⟩), .string s] w fun x w' => x = .returned (.int .i64 q.2.2) ∧ DiskAt F b q.1 w' ∧ LogAt bl b first most q.2.1 w' ∧ Kp (fun k => F k ∧ k ≠ bl) w w' := by
  have hkd : Kp (fun k => F k ∧ k ≠ bl) w w.drew := (Kp.refl _ w).drew
  by_cases hf : (s.size : Int) > (most : Int) * 128 - (t.size : Int)
  · refine (grow_full bl b first most t s w h (by omega) (by omega) hs hf).mono ?_
    rintro x w' ⟨rfl, rfl⟩
    have e : q = (d, t, 6) := by rw [← hq]; unfold growV; rw [if_pos hf]
    subst e
    exact ⟨rfl, hD.later (Below.refl _ w).drew, h.later (Below.refl _ w).drew, hkd⟩
  · by_cases hz : s.size = 0
    · refine (grow_none bl b first most t s w h (by omega) (by omega) hz hf).mono ?_
      rintro x w' ⟨rfl, rfl⟩
      have e : q = (d, t, 0) := by rw [← hq]; unfold growV; rw [if_neg hf, if_pos hz]
      subst e
      exact ⟨rfl, hD.later (Below.refl _ w).drew, h.later (Below.refl _ w).drew, hkd⟩
    · unfold growV at hq
      rw [if_neg hf, if_neg hz] at hq
      subst hq
      exact (grow_main F bl b first most d t s w hD hT h hF hfi hm ht (by omega) hf ho hC _ rfl _ rfl _ rfl).mono fun x w' p => p
/-- a disk and a log over it -/
structure Lh (w0 : World) (bl b first most : Nat) (d : Dk) (t : ByteArray) (w : World) : Prop where
  ex : ∃ F, DiskAt F b d w ∧ Top F w.heap.size ∧ F bl ∧ ∀ k, k < w0.heap.size → F k
  log : LogAt bl b first most t w
  bl : w0.heap.size ≤ bl
  bel : Below w0.heap.size w0 w
theorem Kp.bel0 {F : Nat → Prop} {w0 w w' : World} (h : Kp F w w') (b : Below w0.heap.size w0 w) (hF : ∀ k, k < w0.heap.size → F k) : Below w0.heap.size w0 w' :=
  b.trans ⟨h.os, h.tape, h.output, h.size, fun k hk => h.block k (Nat.lt_of_lt_of_le hk b.size) (hF k hk)⟩
theorem Lh.later {w0 : World} {bl b first most : Nat} {d : Dk} {t : ByteArray} {w w' : World} (h : Lh w0 bl b first most d t w) (k : Below w.heap.size w w') : Lh w0 bl b first most d t w' := by
  obtain ⟨F, h1, h2, h3, h4⟩ := h.ex
  exact ⟨⟨F, h1.later k, h2.trans k.size, h3, h4⟩, h.log.later k, h.bl, h.bel.trans (k.mono h.bel.size)⟩
theorem Lh.start {w0 w1 w2 : World} {bl b first most : Nat} {d : Dk} {t : ByteArray} (hD : DiskAt (lo w0.heap.size) b d w1) (h01 : Below w0.heap.size w0 w1) (h12 : Below w1.heap.size w1 w2) (hl : LogAt bl b first most t w2) (hb : w1.heap.size ≤ bl) : Lh w0 bl b first most d t w2 :=
  ⟨⟨_, hD.grow h12, Plus.top ((lo_top _).trans h01.size) h12.size, .inr ⟨hb, hl.lt⟩, fun k hk => .inl hk⟩, hl, Nat.le_trans h01.size hb, h01.trans (h12.mono h01.size)⟩
/-- a call that writes to the disk alone -/
theorem Lh.on {w0 : World} {bl b first most : Nat} {d : Dk} {t : ByteArray} {w : World} (h : Lh w0 bl b first most d t w) {f : Nat} {args : Array Value} {P : Ending → Prop} {d' : Dk} (c : ∀ F, DiskAt F b d w → Top F w.heap.size → Calls Try.prog f args w fun x w' => P x ∧ DiskAt F b d' w' ∧ Kp F w w') :
    Calls Try.prog f args w fun x w' => P x ∧ Lh w0 bl b first most d' t w' := by
  obtain ⟨F, h1, h2, h3, h4⟩ := h.ex
  refine (c F h1 h2).mono ?_
  rintro x w' ⟨hp, hd, hk⟩
  exact ⟨hp, ⟨F, hd, h2.trans hk.size, h3, h4⟩, h.log.kp hk h3, h.bl, hk.bel0 h.bel h4⟩
theorem Lh.grow {w0 : World} {bl b first most : Nat} {d : Dk} {t : ByteArray} {w : World} (h : Lh w0 bl b first most d t w) (s : ByteArray) (hfi : first ≤ 100000) (hm : most ≤ 4096) (ht : t.size ≤ 1000000) (ho : d.ops ≤ 1000000) (hC : d.C.length ≤ 50000) (hs : (s.size : Int) ≤ 140737488355328) (q : Dk × ByteArray × Int) (hq : growV d first most t s = q) :
    Calls Try.prog 8 #[.pointer (some ⟨bl, 0, none⟩), .string s] w fun x w' => x = .returned (.int .i64 q.2.2) ∧ Lh w0 bl b first most q.1 q.2.1 w' := by
  obtain ⟨F, h1, h2, h3, h4⟩ := h.ex
  refine (grow_any F bl b first most d t s w h1 h2 h.log h3 hfi hm ht ho hC hs q hq).mono ?_
  rintro x w' ⟨rfl, hd, hl, hk⟩
  have hbl := h.bl
  exact ⟨rfl, ⟨F, hd, h2.trans hk.size, h3, h4⟩, hl, h.bl, hk.bel0 h.bel (fun k hk => ⟨h4 k hk, by omega⟩)⟩
theorem growV_ops (d : Dk) (first most : Nat) (t s : ByteArray) : (growV d first most t s).1.ops ≤ d.ops + (secs (t.size + s.size) + 1) ∧ (growV d first most t s).1.C.length ≤ d.C.length + (secs (t.size + s.size) + 1) := by
  unfold growV
  split
  · simp
  · split
    · simp
    · obtain ⟨r, hr⟩ : ∃ r, padV (t.extract (t.size / 128 * 128) t.size ++ s) = r := ⟨_, rfl⟩
      have hrs : r.size / 128 ≤ secs (t.size + s.size) := by
        rw [← hr, padV_size, ByteArray.size_append, ByteArray.size_extract]
        unfold secs
        omega
      have := putk_grows d (first + t.size / 128) r (r.size / 128)
      rw [hr]
      dsimp only
      omega
theorem growV_fits (d : Dk) (first most : Nat) (t s : ByteArray) (h0 : d.armed = 0) (hd : d.down = false) (hfm : first + most ≤ d.S.length) (ht : t.size + s.size ≤ most * 128) : (growV d first most t s).2 = (t ++ s, 0) := by
  unfold growV
  rw [if_neg (by omega)]
  split
  · rename_i hz
    have e : s = ByteArray.empty := by
      obtain ⟨⟨l⟩⟩ := s
      simp [ByteArray.size] at hz
      subst hz
      rfl
    rw [e]
    show (t, (0 : Int)) = (t ++ ByteArray.empty, 0)
    rw [ByteArray.append_empty]
  · obtain ⟨r, hr⟩ : ∃ r, padV (t.extract (t.size / 128 * 128) t.size ++ s) = r := ⟨_, rfl⟩
    have hrs : r.size = (secs (t.size + s.size) - t.size / 128) * 128 := by
      rw [← hr, padV_size, ByteArray.size_append, ByteArray.size_extract]
      unfold secs
      omega
    rw [hr]
    have hK : r.size / 128 = secs (t.size + s.size) - t.size / 128 := by omega
    obtain ⟨h1, -⟩ := putk_free d (first + t.size / 128) r (r.size / 128) h0 hd (by rw [hK]; unfold secs; omega) (by rw [hK]; exact hrs) _ (Nat.le_refl _)
    dsimp only
    rw [h1]
    rfl
end Go.Proofs.Ytgdedimoblpgbaa.Disk
