/-
  container/heap over dag's queue: heap.Push, heap.Pop.
-/
import Derived.Test.YtpaegpbabfohcaaHeapG
namespace Go.Proofs.Ytpaegpbabfohcaa.HeapA
open Go.RowKit Go.Proofs.Ytpaegpbabfohcaa.HeapPure
set_option linter.unusedVariables false
set_option linter.unusedSimpArgs false
set_option maxRecDepth 100000

theorem QAt.form {F : Nat → Prop} {b : Nat} {q : List Int} {w : World} (h : QAt F b q w) (hp : 0 < q.length) : ∃ g cap, w.cell? ⟨b, 2, none⟩ = some (.slice (some ⟨g, 0, none⟩) q.length cap) ∧ QRow w g cap q ∧ ¬ F g ∧ b ≠ g := by
  obtain ⟨V, hV, hown, hsep⟩ := h.val
  obtain ⟨g, cap, rfl⟩ := Joins.ownsRow_form hown hp
  obtain ⟨h1, h2, -⟩ := QRow.of_own hown
  obtain ⟨s1, s2⟩ := hsep g rfl
  exact ⟨g, cap, hV, h1, s1, Ne.symm s2⟩
theorem QAt.of {F : Nat → Prop} {b g cap : Nat} {q : List Int} {w : World} (hc : w.cell? ⟨b, 2, none⟩ = some (.slice (some ⟨g, 0, none⟩) q.length cap)) (h : QRow w g cap q) (hg : ¬ F g) (hbg : b ≠ g) (hf : w.frozen? ⟨b, 2, none⟩ = false) (hb : ¬ F b) (ht : ∀ k, F k → k < w.heap.size) (hl : b < w.heap.size) : QAt F b q w :=
  ⟨⟨_, hc, h.own (Nat.zero_le _), fun k hk => by simp [Value.ownBlock] at hk; subst hk; exact ⟨hg, Ne.symm hbg⟩⟩, hf, hb, ht, hl⟩
theorem Ps.top {F : Nat → Prop} {b : Nat} {w w' : World} (p : Ps F b w w') (h : ∀ k, F k → k < w.heap.size) : ∀ k, F k → k < w'.heap.size := fun k hk => Nat.lt_of_lt_of_le (h k hk) p.size

set_option maxHeartbeats 800000 in
theorem hpush_any (F : Nat → Prop) (b : Nat) (q : List Int) (x : Int) (w : World) (h : QAt F b q w) (hh : HeapL q q.length) (hm : q.length ≤ 1000000) :
    Calls Try.prog 77 #[.iface 122 (.pointer (some ⟨b, 2, none⟩)), .iface 3 (.int .i64 x)] w fun e w' => e = .returned (.tuple #[]) ∧ (∃ q', QAt F b q' w' ∧ q'.Perm (x :: q) ∧ HeapL q' q'.length) ∧ Ps F b w w' := by
  have NP := fun (k : Nat) (W : World) (hk : k ≠ 0) => name_push ⟨b, 2, none⟩ (.bool true) W k hk
  have hnf := h.nf
  have HT := Lib.hid h.top
  have hblt := h.lt
  go_enter Try.func77, Try.ntmps77
  go_wp2_with fail
  refine (qpush_any F b q x w h hm).mono ?_
  rintro e w1 ⟨rfl, q1, p1⟩
  obtain ⟨g, cap, hc, hr, hg, hbg⟩ := q1.form (by simp)
  have hf := q1.fz
  obtain ⟨n, hn⟩ : ∃ n, n = (q ++ [x]).length := ⟨_, rfl⟩
  have hn1 : n = q.length + 1 := by simpa using hn
  have HC : w1.cell? ⟨b, 2, none⟩ = some (.slice (some ⟨g, 0, none⟩) n cap) := by rw [hn]; exact hc
  have H1 := Lib.hid hn
  have H2 := Lib.hid hn1
  have H3 := Lib.hid hc
  have H4 := Lib.hid h
  have hnm : n ≤ 1000001 := by omega
  have hn0 : 1 ≤ n := by omega
  clear hn hn1 NP hc h q1
  obtain ⟨-, -, NL⟩ := names b (.slice (some ⟨g, 0, none⟩) n cap)
  go_wp2_with fail
  refine (len_any _ _ _ _).mono ?_
  rintro e w' ⟨rfl, rfl⟩
  clear NL
  have e1 : (n : Int) - 1 = ((n - 1 : Nat) : Int) := by omega
  go_wp2_with fail
  refine (up_any b g cap n (n - 1) (q ++ [x]) w1 hr H1.out (by omega) (by omega) (by have := upL_start x hh; have := H2.out; subst this; exact upL_start x hh) HC hbg).mono ?_
  rintro e w2 ⟨rfl, ⟨q', r1, r2, r3⟩, r4⟩
  go_wp2_with fail
  go_end0
  have hl : q'.length = n := r2.length_eq.trans H1.out.symm
  have p2 := p1.wr r4 hg hbg
  exact ⟨rfl, ⟨q', QAt.of (by rw [hl]; exact (r4.cell hbg).trans HC) r1 hg hbg ((r4.frozen hbg).trans hf) hnf (p2.top HT.out) (Nat.lt_of_lt_of_le hblt p2.size), r2.trans (List.perm_append_singleton _ _), by rw [hl]; exact r3⟩, p2⟩

set_option maxHeartbeats 800000 in
theorem hpop_any (F : Nat → Prop) (b : Nat) (q : List Int) (w : World) (h : QAt F b q w) (hh : HeapL q q.length) (hp : 0 < q.length) (hm : q.length ≤ 1000000) :
    Calls Try.prog 78 #[.iface 122 (.pointer (some ⟨b, 2, none⟩))] w fun e w' => (∃ x q', e = .returned (.iface 3 (.int .i64 x)) ∧ QAt F b q' w' ∧ (x :: q').Perm q ∧ HeapL q' q'.length ∧ ∀ y ∈ q, y ≤ x) ∧ Ps F b w w' := by
  obtain ⟨g, cap, hc, hr, hg, hbg⟩ := h.form hp
  have hf := h.fz
  have hnf := h.nf
  have HT := Lib.hid h.top
  have hblt := h.lt
  obtain ⟨L, hL⟩ : ∃ L, L = q.length := ⟨_, rfl⟩
  obtain ⟨n, hn⟩ : ∃ n, n = L - 1 := ⟨_, rfl⟩
  rw [← hL] at hc
  have hLn : L = n + 1 := by omega
  have hnm : n ≤ 1000000 := by omega
  have hnL : n < L := by omega
  have H1 := Lib.hid hL
  have H2 := Lib.hid hLn
  have e1 : (L : Int) - 1 = (n : Int) := by omega
  have HH := Lib.hid hh
  clear hL hn hLn hh h
  obtain ⟨-, NS, NL⟩ := names b (.slice (some ⟨g, 0, none⟩) L cap)
  have NP := fun (k : Nat) (W : World) (hk : k ≠ 0) => name_pop ⟨b, 2, none⟩ (.bool true) W k hk
  go_enter Try.func78, Try.ntmps78
  go_wp2_with fail
  refine (len_any _ _ _ _).mono ?_
  rintro e w' ⟨rfl, rfl⟩
  go_wp2_with fail
  refine (swapQ g cap L q 0 n w hr H1.out (by omega) hnL (by omega)).mono ?_
  rintro e w1 ⟨rfl, r1, k1⟩
  have hc1 := (k1.cell hbg).trans hc
  clear NS NL
  go_wp2_with fail
  refine (down_any b g cap L n (swapL q 0 n) w1 r1 (by rw [swapL_length]; exact H1.out) (by omega) (by omega) (downL_start (by rw [← H1.out]; exact H2.out) (by have a := HH.out; rw [← H1.out, H2.out] at a; exact a)) hc1 hbg).mono ?_
  rintro e w2 ⟨⟨r, rfl⟩, ⟨q', r2, r3, r4, r5⟩, k2⟩
  have hc2 := (k2.cell hbg).trans hc1
  have hl : q'.length = L := r3.length_eq.trans ((swapL_length _ _ _).trans H1.out.symm)
  have hx := r2.cell (i := n) (by omega)
  have R5 := Lib.hid r5
  have HL := Lib.hid hl
  clear r5 hl
  go_wp2_with fail
  refine (pop_any b g n cap (q'.getD n 0) w2 (by omega) (by have := r2.le; have := HL.out; omega) (by rw [← H2.out]; exact hc2) ((k2.frozen hbg).trans ((k1.frozen hbg).trans hf)) hx).mono ?_
  rintro e w3 ⟨rfl, rfl⟩
  clear hx NP
  go_wp2_with fail
  go_ret
  have hq : q.length = n + 1 := by rw [← H1.out]; exact H2.out
  have hq' : q'.length = n + 1 := by rw [HL.out]; exact H2.out
  have hxe : q'.getD n 0 = q.getD 0 0 := by
    rw [R5.out n (Nat.le_refl _)]
    have := congrFun (swapL_get q 0 n (by omega) (by omega)) n
    rw [show (swapL q 0 n).getD n 0 = _ from this]
    show (if n = 0 then q.getD n 0 else if n = n then q.getD 0 0 else _) = _
    by_cases z : n = 0
    · rw [if_pos z, z]
    · rw [if_neg z, if_pos rfl]
  have ht : (q'.take n).length = n := by rw [List.length_take]; omega
  have hne : ∀ u, (w2.setCell ⟨b, 2, none⟩ u).heap[g]? = w2.heap[g]? := fun u => Below.heap_setCell _ _ _ _ (Ne.symm hbg)
  have hc3 := World.cell?_setCell_same w2 ⟨b, 2, none⟩ (.slice (some ⟨g, 0, none⟩) n cap) hc2
  have p3 := (((Ps.refl F b w).wr k1 hg hbg).wr k2 hg hbg).header hnf (.slice (some ⟨g, 0, none⟩) n cap)
  refine ⟨⟨q'.getD n 0, q'.take n, rfl, QAt.of (g := g) (cap := cap) (by rw [ht]; exact hc3) ((r2.take n).keep (hne _)) hg hbg (by rw [World.frozen?_setCell]; exact (k2.frozen hbg).trans ((k1.frozen hbg).trans hf)) hnf (p3.top HT.out) (Nat.lt_of_lt_of_le hblt p3.size), (take_perm hq' r3).trans (swapL_perm q 0 n (by omega) (by omega)), ?_, ?_⟩, p3⟩
  · exact heapL_take r4 (by omega)
  · intro y hy
    rw [hxe]
    exact heapL_top HH.out rfl y hy
end Go.Proofs.Ytpaegpbabfohcaa.HeapA
