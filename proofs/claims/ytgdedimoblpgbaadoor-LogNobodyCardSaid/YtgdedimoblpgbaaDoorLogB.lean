/-
  The walk of the log's Grow.
-/
import Derived.Test.YtgdedimoblpgbaaDoorLogA
import Derived.Deep.RegionHeld3
namespace Go.Proofs.YtgdedimoblpgbaaDoor.Disk
open Go.RowKit Go.Proofs.YtgdedimoblpgbaaDoor.DiskRows
set_option linter.unusedVariables false
set_option linter.unusedSimpArgs false
set_option maxRecDepth 100000

/-- a sector of bytes -/
def sect (r : ByteArray) (i : Nat) : ByteArray := r.extract (i * 128) ((i + 1) * 128)
/-- k sectors are written, until one is not -/
def Dk.putk (d : Dk) (p : Nat) (r : ByteArray) : Nat → Dk × Int
  | 0 => (d, 0)
  | k + 1 => if (d.putk p r k).2 = 0 then (d.putk p r k).1.write ((p + k : Nat) : Int) (sect r k) else d.putk p r k
theorem putk_stop (d : Dk) (p : Nat) (r : ByteArray) (k m : Nat) (h : (d.putk p r k).2 ≠ 0) : d.putk p r (k + m) = d.putk p r k := by
  induction m with
  | zero => rfl
  | succ m ih =>
    rw [← Nat.add_assoc, Dk.putk, ih, if_neg h]
theorem write_grows (d : Dk) (i : Int) (s : ByteArray) : (d.write i s).1.ops ≤ d.ops + 1 ∧ (d.write i s).1.C.length ≤ d.C.length + 1 := by
  obtain ⟨eS, eH, eC⟩ := step_same d
  have eo : d.step.1.ops ≤ d.ops + 1 := by unfold Dk.step; split <;> simp
  unfold Dk.write
  split
  · simp
  · split
    · split
      · split
        · exact ⟨eo, by rw [eC]; simp⟩
        · exact ⟨eo, by simp⟩
      · simp
    · simp
theorem putk_grows (d : Dk) (p : Nat) (r : ByteArray) (k : Nat) : (d.putk p r k).1.ops ≤ d.ops + k ∧ (d.putk p r k).1.C.length ≤ d.C.length + k := by
  induction k with
  | zero => simp [Dk.putk]
  | succ k ih =>
    rw [Dk.putk]
    split
    · have := write_grows (d.putk p r k).1 ((p + k : Nat) : Int) (sect r k)
      omega
    · omega
/-- what Grow does -/
def growV (d : Dk) (first most : Nat) (t s : ByteArray) : Dk × ByteArray × Int :=
  if (s.size : Int) > (most : Int) * 128 - (t.size : Int) then (d, t, 6)
  else if s.size = 0 then (d, t, 0)
  else
    let r := padV (t.extract (t.size / 128 * 128) t.size ++ s)
    let q := d.putk (first + t.size / 128) r (r.size / 128)
    (q.1, if q.2 = 0 then t ++ s else t, q.2)
theorem below_drew' {w w' : World} (h : Below w.drew.heap.size w.drew w') : Below w.heap.size w w' := (Below.refl _ w).drew.trans h
theorem grow_full (bl b first most : Nat) (t s : ByteArray) (w : World) (h : LogAt bl b first most t w) (hm : most ≤ 100000) (ht : t.size ≤ 100000000) (hs : (s.size : Int) ≤ 140737488355328) (hf : (s.size : Int) > (most : Int) * 128 - (t.size : Int)) :
    Calls Tryd.prog 9 #[.pointer (some ⟨bl, 0, none⟩), .string s] w fun x w' => x = .returned (.int .i64 6) ∧ w' = w.drew := by
  obtain ⟨⟨x0, x1, x2, x3⟩, f⟩ := h.cells
  have hm1 : (most : Int) ≤ 100000 := by omega
  have ht1 : (t.size : Int) ≤ 100000000 := by omega
  have hw1 : IntKind.i64.wrap ((most : Int) * 128) = (most : Int) * 128 := by rw [IntKind.wrap_i64]; omega
  have hw2 : IntKind.i64.wrap ((most : Int) * 128 - (t.size : Int)) = (most : Int) * 128 - (t.size : Int) := by rw [IntKind.wrap_i64]; omega
  have d1 : decide ((most : Int) * 128 - (t.size : Int) < (s.size : Int)) = true := decide_eq_true hf
  clear h f hf hm ht
  go_enter Tryd.func9, Tryd.ntmps9
  go_upto_region 3 with fail
  go_region
  go_wp2
  go_ret
  exact ⟨rfl, rfl⟩
theorem grow_none (bl b first most : Nat) (t s : ByteArray) (w : World) (h : LogAt bl b first most t w) (hm : most ≤ 100000) (ht : t.size ≤ 100000000) (hs : s.size = 0) (hf : ¬ (s.size : Int) > (most : Int) * 128 - (t.size : Int)) :
    Calls Tryd.prog 9 #[.pointer (some ⟨bl, 0, none⟩), .string s] w fun x w' => x = .returned (.int .i64 0) ∧ w' = w.drew := by
  obtain rfl : s = ByteArray.empty := by
    obtain ⟨⟨l⟩⟩ := s
    simp [ByteArray.size] at hs
    subst hs
    rfl
  obtain ⟨⟨x0, x1, x2, x3⟩, f⟩ := h.cells
  have hm1 : (most : Int) ≤ 100000 := by omega
  have ht1 : (t.size : Int) ≤ 100000000 := by omega
  have hw1 : IntKind.i64.wrap ((most : Int) * 128) = (most : Int) * 128 := by rw [IntKind.wrap_i64]; omega
  have hw2 : IntKind.i64.wrap ((most : Int) * 128 - (t.size : Int)) = (most : Int) * 128 - (t.size : Int) := by rw [IntKind.wrap_i64]; omega
  have d1 : decide ((most : Int) * 128 - (t.size : Int) < 0) = false := decide_eq_false (by
    have : (ByteArray.empty.size : Int) = 0 := rfl
    omega)
  clear h f hf hm ht hs
  go_enter Tryd.func9, Tryd.ntmps9
  go_upto_region 3 with fail
  go_region
  go_wp2
  go_ret
  exact ⟨rfl, rfl⟩
theorem sliceS (s : ByteArray) (i j : Nat) (a b : Int) (ha : a = i) (hb : b = j) (h : i ≤ j) (hj : j ≤ s.size) (w : World) : (Instr.slice 9 (.string s) (some (.int .i64 a)) (some (.int .i64 b)) none).run Tryd.prog w = .ok (.string (s.extract i j)) w := by
  subst ha
  subst hb
  have h1 : (i : Int) ≤ (j : Int) := by omega
  have h2 : (j : Int) ≤ (s.size : Int) := by omega
  go_simp
theorem DiskAt.put {F : Nat → Prop} {b : Nat} {d : Dk} {w : World} (h : DiskAt F b d w) (p : Addr) (u : Value) (hp : F p.block) : DiskAt F b d (w.setCell p u) := by
  obtain ⟨gS, cS, gH, cH, vC, h⟩ := h
  have hn : ∀ k, Nf F k → k ≠ p.block := fun k hk e => hk (e ▸ hp)
  exact ⟨gS, cS, gH, cH, vC, { h with heap := by rw [Below.heap_setCell _ _ _ _ (hn _ h.sep.1)]; exact h.heap, rowS := h.rowS.other _ _ (hn _ h.sep.2.1), rowH := h.rowH.other _ _ (hn _ h.sep.2.2.1), rowC := own_other h.rowC _ _ (fun k hk => hn _ (h.nfC k hk)) }⟩
/-- how it stands behind k sectors -/
structure PutSt (F : Nat → Prop) (bl b first most : Nat) (t : ByteArray) (d : Dk) (p : Nat) (r : ByteArray) (k : Nat) (w1 wr : World) : Prop where
  ok : (d.putk p r k).2 = 0
  disk : DiskAt F b (d.putk p r k).1 wr
  log : LogAt bl b first most t wr
  kp : Kp F w1 wr
set_option maxHeartbeats 6400000 in
theorem grow_main (F : Nat → Prop) (bl b first most : Nat) (d : Dk) (t s : ByteArray) (w : World) (hD : DiskAt F b d w) (hT : Top F w.heap.size) (h : LogAt bl b first most t w) (hF : F bl) (hfi : first ≤ 100000) (hm : most ≤ 4096) (ht : t.size ≤ 1000000) (hs : 0 < s.size) (hf : ¬ (s.size : Int) > (most : Int) * 128 - (t.size : Int)) (ho : d.ops ≤ 1000000) (hC : d.C.length ≤ 50000) (r : ByteArray) (hr : padV (t.extract (t.size / 128 * 128) t.size ++ s) = r) (q : Dk × Int) (hq : d.putk (first + t.size / 128) r (r.size / 128) = q) (tt : ByteArray) (htt : (if q.2 = 0 then t ++ s else t) = tt) :
    Calls Tryd.prog 9 #[.pointer (some ⟨bl, 0, none⟩), .string s] w fun x w' => x = .returned (.int .i64 q.2) ∧ DiskAt F b q.1 w' ∧ LogAt bl b first most tt w' ∧ Kp (fun k => F k ∧ k ≠ bl) w w' := by
  have hsb : (s.size : Int) ≤ 524288 := by omega
  obtain ⟨fr, hfr⟩ : ∃ fr, t.size / 128 = fr := ⟨_, rfl⟩
  rw [hfr] at hr hq
  obtain ⟨⟨x0, x1, x2, x3⟩, f⟩ := h.cells
  have hm1 : (most : Int) ≤ 4096 := by omega
  have ht1 : (t.size : Int) ≤ 1000000 := by omega
  have hfr1 : Int.tdiv (t.size : Int) 128 = (fr : Int) := by rw [Int.tdiv_eq_ediv_of_nonneg (by omega)]; omega
  have hfr2 : (fr : Int) * 128 ≤ (t.size : Int) := by omega
  have hfrb : (fr : Int) ≤ 10000 := by omega
  have hw1 : IntKind.i64.wrap ((most : Int) * 128) = (most : Int) * 128 := by rw [IntKind.wrap_i64]; omega
  have hw2 : IntKind.i64.wrap ((most : Int) * 128 - (t.size : Int)) = (most : Int) * 128 - (t.size : Int) := by rw [IntKind.wrap_i64]; omega
  have hw3 : IntKind.i64.wrap ((fr : Int) * 128) = (fr : Int) * 128 := by rw [IntKind.wrap_i64]; omega
  have d1 : decide ((most : Int) * 128 - (t.size : Int) < (s.size : Int)) = false := decide_eq_false hf
  have hse : s ≠ ByteArray.empty := fun e => by rw [e] at hs; simp at hs
  have hP := fun W => padded_any (t.extract (fr * 128) t.size ++ s) r W (by rw [ByteArray.size_append, ByteArray.size_extract]; omega) hr
  have HP := Lib.hid hP
  have HQ := Lib.hid (And.intro hr hq)
  have HTT := Lib.hid htt
  have HX := Lib.hid (And.intro hD (And.intro hT (And.intro h hF)))
  have HB := Lib.hid (And.intro hs (And.intro ho (And.intro hC hf)))
  have hL : s.toList.isEmpty = false := by
    rw [ByteArray.toList_eq]
    cases hx : s.data.toList with
    | nil =>
      have : s.size = 0 := by
        show s.data.size = 0
        rw [← Array.length_toList, hx]; rfl
      omega
    | cons a l => rfl
  clear hD hT h hP hr hq hf hs hse htt
  go_enter Tryd.func9, Tryd.ntmps9
  go_upto_region 3 with fail
  go_region
  go_upto_region 8 with fail
  go_wp2_with fail
  refine (HP.out _).mono ?_
  rintro x w1 ⟨rfl, b1⟩
  have HK1 := Lib.hid (below_drew' b1)
  have HL1 := Lib.hid (HX.out.2.2.1.later HK1.out)
  have HD1 := Lib.hid (HX.out.1.later HK1.out)
  have HT1 := Lib.hid (HX.out.2.1.trans HK1.out.size)
  clear x0 x1 x2 x3 f b1 d1 hL hw1 hw2 hw3 hfr2
  obtain ⟨⟨x0, x1, x2, x3⟩, f⟩ := HL1.out.cells
  obtain ⟨K, hK⟩ : ∃ K, r.size / 128 = K := ⟨_, rfl⟩
  have hrs : (r.size : Int) ≤ 1000000 := by
    have h1 := HQ.out.1
    rw [← h1, padV_size, ByteArray.size_append, ByteArray.size_extract]
    have := secs_lt (min t.size t.size - fr * 128 + s.size)
    omega
  have hKi : Int.tdiv (r.size : Int) 128 = (K : Int) := by rw [Int.tdiv_eq_ediv_of_nonneg (by omega)]; omega
  have hKb : (K : Int) ≤ 10000 := by omega
  have hr128 : r.size = K * 128 := by
    have h1 := HQ.out.1
    rw [← h1, padV_size] at hK ⊢
    omega
  have HR := Lib.hid hr128
  have HKe := Lib.hid hK
  clear hr128 hK
  go_upto_region 11 with fail
  clear x0 x1 x2 x3 f
  go_loopw [59] (fun i wr => ∃ k : Nat, k ≤ K ∧ i = .int .i64 k ∧ PutSt F bl b first most t d (first + fr) r k w1 wr) (fun i _ => K - (intOf i).toNat)
  case atStart => exact ⟨0, by omega, rfl, ⟨rfl, HD1.out, HL1.out, Kp.refl _ _⟩⟩
  case round =>
    obtain ⟨k, hk, rfl, hst⟩ := hrel
    have HS := Lib.hid hst
    clear hst
    obtain ⟨⟨x0, x1, x2, x3⟩, f⟩ := HS.out.log.cells
    have HTr := Lib.hid (HT1.out.trans HS.out.kp.size)
    by_cases hlt : k < K
    · have hkK : (k : Int) < (K : Int) := by omega
      have hgr := putk_grows d (first + fr) r k
      have hwr := write_any F b (d.putk (first + fr) r k).1 wr.drew (HS.out.disk.later (Below.refl _ wr).drew) (((first + fr) + k : Nat) : Int) (sect r k) (by have := HB.out.2.1; omega) (by have := HB.out.2.2.1; omega) HTr.out (by unfold sect; rw [ByteArray.size_extract]; omega)
      have hnx : d.putk (first + fr) r (k + 1) = (d.putk (first + fr) r k).1.write ((first + fr + k : Nat) : Int) (sect r k) := by rw [Dk.putk, if_pos HS.out.ok]
      rw [← hnx] at hwr
      obtain ⟨q1, hq1⟩ : ∃ q1, d.putk (first + fr) r (k + 1) = q1 := ⟨_, rfl⟩
      rw [hq1] at hwr
      have hri : (r.size : Int) = (K : Int) * 128 := by have := HR.out; omega
      have hfi1 : (first : Int) ≤ 100000 := by omega
      have e1 : (((first + fr) + k : Nat) : Int) = (first : Int) + (fr : Int) + (k : Int) := by omega
      rw [e1] at hwr
      have hw1 : IntKind.i64.wrap ((first : Int) + (fr : Int)) = (first : Int) + (fr : Int) := by rw [IntKind.wrap_i64]; omega
      have hw2 : IntKind.i64.wrap ((first : Int) + (fr : Int) + (k : Int)) = (first : Int) + (fr : Int) + (k : Int) := by rw [IntKind.wrap_i64]; omega
      have hw3 : IntKind.i64.wrap ((k : Int) * 128) = (k : Int) * 128 := by rw [IntKind.wrap_i64]; omega
      have hw4 : IntKind.i64.wrap ((k : Int) + 1) = (k : Int) + 1 := by rw [IntKind.wrap_i64]; omega
      have hw5 : IntKind.i64.wrap (((k : Int) + 1) * 128) = ((k : Int) + 1) * 128 := by rw [IntKind.wrap_i64]; omega
      have hb1 : (k : Int) * 128 ≤ ((k : Int) + 1) * 128 := by omega
      have hb2 : ((k : Int) + 1) * 128 ≤ (r.size : Int) := by omega
      have hsl := fun W => sliceS r (k * 128) ((k + 1) * 128) ((k : Int) * 128) (((k : Int) + 1) * 128) (by omega) (by omega) (by omega) (by omega) W
      rw [show r.extract (k * 128) ((k + 1) * 128) = sect r k from rfl] at hsl
      have HWr := Lib.hid hwr
      have HQ1 := Lib.hid hq1
      have hx := And.intro (show wr.drew.cell? ⟨bl, 0, none⟩ = _ from x0) (And.intro (show wr.drew.cell? ⟨bl, 1, none⟩ = _ from x1) (And.intro (show wr.drew.cell? ⟨bl, 2, none⟩ = _ from x2) (show wr.drew.cell? ⟨bl, 3, none⟩ = _ from x3)))
      clear hwr hq1 hnx hgr e1 f x0 x1 x2 x3 hri
      go_upto_region 13 with fail
      go_region_held3 (fun W' => W'.cell? ⟨bl, 0, none⟩ = some (.pointer (some ⟨b, 0, none⟩)) ∧ W'.cell? ⟨bl, 1, none⟩ = some (.int .i64 (first : Nat)) ∧ W'.cell? ⟨bl, 2, none⟩ = some (.int .i64 (most : Nat)) ∧ W'.cell? ⟨bl, 3, none⟩ = some (.string t)) (first | with_reducible exact hx | with_reducible exact hL2.cells.1) (first
        | (go_at_call 24; refine HWr.out.mono ?_; rintro x w2 ⟨rfl, hd2, k2⟩; have hL2 := (HS.out.log.later (Below.refl _ wr).drew).kp k2 HX.out.2.2.2))
      have HL2 := Lib.hid hL2
      have HD2 := Lib.hid hd2
      have HK2 := Lib.hid (HS.out.kp.drew.trans k2)
      clear hx hL2 hd2 k2 hsl hw1 hw2 hw3 hw5
      by_cases he : q1.2 = 0
      · have HE := Lib.hid he
        rw [he]
        clear he
        go_wp2
        go_round
        case rel => exact ⟨k + 1, by omega, by go_num, ⟨by rw [HQ1.out]; exact HE.out, by rw [HQ1.out]; exact HD2.out, HL2.out, HK2.out⟩⟩
        case measure => simp [intOf]; omega
      · have heb : (q1.2 == 0) = false := by simpa using he
        have hqq : q = q1 := by
          rw [← HQ.out.2, HKe.out, ← HQ1.out, show K = (k + 1) + (K - (k + 1)) by omega]
          exact putk_stop d (first + fr) r (k + 1) _ (by rw [HQ1.out]; exact he)
        have HE := Lib.hid he
        subst hqq
        obtain ⟨e, hee⟩ : ∃ e, q.2 = e := ⟨_, rfl⟩
        have HEE := Lib.hid hee
        rw [hee] at heb he ⊢
        clear hee
        go_wp2
        go_ret
        have ht1 : tt = t := by rw [← HTT.out, if_neg HE.out]
        exact ⟨by show Ending.returned (Value.int .i64 e) = _; rw [HEE.out], HD2.out, by rw [ht1]; exact HL2.out, (HK1.out.kp.trans HK2.out).sub (fun k hk => hk.1)⟩
    · obtain rfl : k = K := by omega
      have hqq : d.putk (first + fr) r k = q := by rw [← HKe.out]; exact HQ.out.2
      have hq0 : q.2 = 0 := by rw [← hqq]; exact HS.out.ok
      have ht1 : t ++ s = tt := by rw [← HTT.out, if_pos hq0]
      have hfit : ¬ (9223372036854775807 < t.size + s.size) := by omega
      have hput := HS.out.log.put (t ++ s)
      have hdk : DiskAt F b q.1 (wr.setCell ⟨bl, 3, none⟩ (.string (t ++ s))) := by
        have h := HS.out.disk
        rw [hqq] at h
        exact DiskAt.put h _ _ HX.out.2.2.2
      have hkp : Kp (fun k => F k ∧ k ≠ bl) w (wr.setCell ⟨bl, 3, none⟩ (.string (t ++ s))) := Kp.setCell ((HK1.out.kp.trans HS.out.kp).sub (fun k hk => hk.1)) (p := ⟨bl, 3, none⟩) (fun h => h.2 rfl) _
      have f3 := f 3
      have HFin := Lib.hid (And.intro hput (And.intro hdk hkp))
      have HT1 := Lib.hid ht1
      have HQ0 := Lib.hid hq0
      clear hput hdk hkp ht1 hqq hq0 f
      go_wp2
      go_ret
      exact ⟨by show Ending.returned (Value.int .i64 0) = _; rw [HQ0.out], HFin.out.2.1, by rw [← HT1.out]; exact HFin.out.1, HFin.out.2.2⟩
end Go.Proofs.YtgdedimoblpgbaaDoor.Disk
