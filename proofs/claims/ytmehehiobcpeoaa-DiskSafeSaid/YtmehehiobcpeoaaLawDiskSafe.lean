/-
  Behind a crash each sector has what was safe, or the last one of those writes to it that were kept (DiskSafe): the walk.
-/
import Derived.Test.YtmehehiobcpeoaaLawDiskPlays
namespace Go.Proofs.Ytmehehiobcpeoaa.Disk
open Go.RowKit Go.Proofs.Ytmehehiobcpeoaa.DiskRows
set_option linter.unusedVariables false
set_option linter.unusedSimpArgs false
set_option maxRecDepth 100000

theorem boot_flush (d : Dk) : d.boot.flush = (⟨d.S, d.S, [], 0, false, d.ops + 1⟩, 0) := by
  simp [Dk.flush, Dk.step, Dk.boot, shows]
/-- a write where nothing is armed -/
theorem write_free (d : Dk) (h0 : d.armed = 0) (hd : d.down = false) (i : Int) (s : ByteArray) :
    (d.has i ∧ s.size = 128 ∧ d.write i s = (⟨d.S, d.H.set i.toNat s, d.C ++ [(i.toNat, s)], 0, false, d.ops + 1⟩, 0)) ∨ ((d.write i s).1 = d ∧ (d.write i s).2 ≠ 0 ∧ ((d.write i s).2 = 8 ∨ (d.write i s).2 = 2)) := by
  obtain ⟨S, H, C, a, dn, o⟩ := d
  dsimp only at h0 hd
  subst h0 hd
  by_cases hi : Dk.has ⟨S, H, C, 0, false, o⟩ i
  · by_cases hs : s.size = 128
    · left
      refine ⟨hi, hs, ?_⟩
      simp [Dk.write, hi, hs, Dk.step]
    · right
      simp [Dk.write, hi, hs]
  · right
    simp [Dk.write, hi]
theorem keeps_pre (S : List ByteArray) (C : List (Nat × ByteArray)) (x : Nat × ByteArray) (l : List Int) (n : Nat) (h : n ≤ C.length) : keeps S (C ++ [x]) l n = keeps S C l n := by
  induction n with
  | zero => rfl
  | succ n ih =>
    have e : (C ++ [x]).getD n (0, ByteArray.empty) = C.getD n (0, ByteArray.empty) := by
      simp [List.getD_eq_getElem?_getD, List.getElem?_append_left (show n < C.length by omega)]
    rw [keeps, keeps, ih (by omega), e]
theorem keeps_snoc (S : List ByteArray) (C : List (Nat × ByteArray)) (i : Nat) (s : ByteArray) (l : List Int) : keeps S (C ++ [(i, s)]) l (C.length + 1) = if l.contains (C.length : Int) then (keeps S C l C.length).set i s else keeps S C l C.length := by
  rw [keeps, keeps_pre S C _ l _ (Nat.le_refl _)]
  simp [List.getD_eq_getElem?_getD]
/-- among the first i numbers: is there this one? -/
def hit (K : List Int) (z : Int) (i : Nat) : Bool := (K.take i).contains z
theorem hit_zero (K : List Int) (z : Int) : hit K z 0 = false := by simp [hit]
theorem hit_all (K : List Int) (z : Int) : hit K z K.length = K.contains z := by simp [hit]
theorem hit_succ (K : List Int) (z : Int) (i : Nat) (h : i < K.length) : hit K z (i + 1) = (hit K z i || K.getD i 0 == z) := by
  unfold hit
  have e : (K.take i ++ [K[i]]).contains z = ((K.take i).contains z || (K[i] == z)) := by
    rw [Bool.eq_iff_iff, Bool.or_eq_true, List.contains_iff_mem, List.contains_iff_mem, List.mem_append, List.mem_singleton, beq_iff_eq]
    exact or_congr Iff.rfl ⟨Eq.symm, Eq.symm⟩
  rw [List.take_succ_eq_append_getElem h, e, List.getD_eq_getElem?_getD, List.getElem?_eq_getElem h]
  rfl
/-- what lies there while the writes go on -/
structure Sf (w : World) (n b g13 gW cW : Nat) (A6 : Option Addr) (c6 : Nat) (d : Dk) (L : List ByteArray) (W : World) : Prop where
  disk : ∃ F, DiskAt F b d W ∧ Top F W.heap.size ∧ F g13 ∧ F gW ∧ ∀ j, j < w.heap.size → F j
  box : W.heap[g13]? = some (.cells #[.slice (some ⟨gW, 0, none⟩) n cW, .slice A6 0 c6] 32 (0, 0))
  row : RowS W gW cW L
  ne : g13 ≠ gW ∧ w.heap.size ≤ g13 ∧ w.heap.size ≤ gW
  bel : Below w.heap.size w W
theorem Sf.later {w : World} {n b g13 gW cW : Nat} {A6 : Option Addr} {c6 : Nat} {d : Dk} {L : List ByteArray} {W W' : World} (h : Sf w n b g13 gW cW A6 c6 d L W) (k : Below W.heap.size W W') : Sf w n b g13 gW cW A6 c6 d L W' := by
  obtain ⟨F, h1, h2, h3⟩ := h.disk
  exact ⟨⟨F, h1.later k, h2.trans k.size, h3⟩, by rw [k.block _ (Array.getElem?_eq_some_iff.1 h.box).1]; exact h.box, h.row.below k h.row.lt, h.ne, h.bel.trans (k.mono h.bel.size)⟩
theorem Sf.set {w : World} {n b g13 gW cW : Nat} {A6 : Option Addr} {c6 : Nat} {d : Dk} {L : List ByteArray} {W : World} (h : Sf w n b g13 gW cW A6 c6 d L W) {i : Nat} (hi : i < L.length) (s : ByteArray) : Sf w n b g13 gW cW A6 c6 d (L.set i s) (W.setCell ⟨gW, i, none⟩ (.string s)) := by
  obtain ⟨F, h1, h2, h3, h4, h5⟩ := h.disk
  exact ⟨⟨F, h1.set _ _ h4, h2.trans (by simp [World.setCell]), h3, h4, h5⟩, by rw [Below.heap_setCell _ _ _ _ h.ne.1]; exact h.box, h.row.set hi s, h.ne, h.bel.setCell (p := ⟨gW, i, none⟩) h.ne.2.2 _⟩
/-- a write, while a call lies in block ga -/
theorem Sf.write {w : World} {n b g13 gW cW : Nat} {A6 : Option Addr} {c6 : Nat} {d : Dk} {L : List ByteArray} {W0 W : World} (h : Sf w n b g13 gW cW A6 c6 d L W0) (k : Below W0.heap.size W0 W) (i : Int) (s : ByteArray) (ho : d.ops < 1000000000000) (hC : d.C.length < 100000) (hsz : (s.size : Int) ≤ 9223372036854775807) :
    Calls Try.prog 19 #[.pointer (some ⟨b, 0, none⟩), .int .i64 i, .string s] W fun x w' => x = .returned (.int .i64 (d.write i s).2) ∧ Sf w n b g13 gW cW A6 c6 (d.write i s).1 L w' ∧ ∀ g, W0.heap.size ≤ g → g < W.heap.size → w'.heap[g]? = W.heap[g]? := by
  obtain ⟨F, h1, h2, h3, h4, h5⟩ := h.disk
  have hl := h.later k
  refine (write_any (Plus F W0.heap.size W.heap.size) b d W (h1.grow k) i s ho hC (Plus.top h2 k.size) hsz).mono ?_
  rintro x w' ⟨rfl, hd, hk⟩
  have hg13 := (Array.getElem?_eq_some_iff.1 hl.box).1
  refine ⟨rfl, ⟨⟨_, hd, (Plus.top h2 k.size).trans hk.size, .inl h3, .inl h4, fun j hj => .inl (h5 j hj)⟩, (hk.block _ hg13 (.inl h3)).trans hl.box, hl.row.keep (hk.block _ hl.row.lt (.inl h4)), h.ne, hl.bel.trans ⟨hk.os, hk.tape, hk.output, hk.size, fun j hj => hk.block j (Nat.lt_of_lt_of_le hj hl.bel.size) (.inl (h5 j hj))⟩⟩, fun g hg hg2 => hk.block g hg2 (.inr ⟨hg, hg2⟩)⟩
/-- .. and a call in block ga -/
structure Sw (w : World) (n b g13 gW cW ga : Nat) (A6 : Option Addr) (c6 : Nat) (d : Dk) (L : List ByteArray) (k p m : Int) (t : ByteArray) (raw : Bool) (kA : Option Addr) (kl kc : Nat) (W : World) : Prop where
  sf : Sf w n b g13 gW cW A6 c6 d L W
  act : W.heap[ga]? = some (.cells #[.int .i64 k, .int .i64 p, .int .i64 m, .string t, .bool raw, .slice kA kl kc] 39 (0, 0))
  ne : ga ≠ gW
theorem Sw.later {w : World} {n b g13 gW cW ga : Nat} {A6 : Option Addr} {c6 : Nat} {d : Dk} {L : List ByteArray} {k p m : Int} {t : ByteArray} {raw : Bool} {kA : Option Addr} {kl kc : Nat} {W W' : World} (h : Sw w n b g13 gW cW ga A6 c6 d L k p m t raw kA kl kc W) (q : Below W.heap.size W W') : Sw w n b g13 gW cW ga A6 c6 d L k p m t raw kA kl kc W' :=
  ⟨h.sf.later q, by rw [q.block _ (Array.getElem?_eq_some_iff.1 h.act).1]; exact h.act, h.ne⟩
theorem Sw.set {w : World} {n b g13 gW cW ga : Nat} {A6 : Option Addr} {c6 : Nat} {d : Dk} {L : List ByteArray} {k p m : Int} {t : ByteArray} {raw : Bool} {kA : Option Addr} {kl kc : Nat} {W : World} (h : Sw w n b g13 gW cW ga A6 c6 d L k p m t raw kA kl kc W) {i : Nat} (hi : i < L.length) (s : ByteArray) : Sw w n b g13 gW cW ga A6 c6 d (L.set i s) k p m t raw kA kl kc (W.setCell ⟨gW, i, none⟩ (.string s)) :=
  ⟨h.sf.set hi s, by rw [Below.heap_setCell _ _ _ _ h.ne]; exact h.act, h.ne⟩
theorem Sw.acts {w : World} {n b g13 gW cW ga : Nat} {A6 : Option Addr} {c6 : Nat} {d : Dk} {L : List ByteArray} {k p m : Int} {t : ByteArray} {raw : Bool} {kA : Option Addr} {kl kc : Nat} {W : World} (h : Sw w n b g13 gW cW ga A6 c6 d L k p m t raw kA kl kc W) :
    W.cell? ⟨ga, 0, none⟩ = some (.int .i64 k) ∧ W.cell? ⟨ga, 1, none⟩ = some (.int .i64 p) ∧ W.cell? ⟨ga, 2, none⟩ = some (.int .i64 m) ∧ W.cell? ⟨ga, 3, none⟩ = some (.string t) ∧ W.cell? ⟨ga, 4, none⟩ = some (.bool raw) ∧ W.cell? ⟨ga, 5, none⟩ = some (.slice kA kl kc) :=
  ⟨(cell_of_row W _ 0 _ _ _ h.act).trans rfl, (cell_of_row W _ 1 _ _ _ h.act).trans rfl, (cell_of_row W _ 2 _ _ _ h.act).trans rfl, (cell_of_row W _ 3 _ _ _ h.act).trans rfl, (cell_of_row W _ 4 _ _ _ h.act).trans rfl, (cell_of_row W _ 5 _ _ _ h.act).trans rfl⟩
theorem Sw.all {w : World} {n b g13 gW cW ga : Nat} {A6 : Option Addr} {c6 : Nat} {d : Dk} {L : List ByteArray} {k p m : Int} {t : ByteArray} {raw : Bool} {kA : Option Addr} {kl kc : Nat} {W : World} (h : Sw w n b g13 gW cW ga A6 c6 d L k p m t raw kA kl kc W) (i : Nat) (hi : i < L.length) :
    W.cell? ⟨g13, 0, none⟩ = some (.slice (some ⟨gW, 0, none⟩) n cW) ∧ W.cell? ⟨gW, i, none⟩ = some (curOf W ⟨gW, i, none⟩) ∧ W.frozen? ⟨gW, i, none⟩ = false ∧
    W.cell? ⟨ga, 0, none⟩ = some (.int .i64 k) ∧ W.cell? ⟨ga, 1, none⟩ = some (.int .i64 p) ∧ W.cell? ⟨ga, 2, none⟩ = some (.int .i64 m) ∧ W.cell? ⟨ga, 3, none⟩ = some (.string t) ∧ W.cell? ⟨ga, 4, none⟩ = some (.bool raw) ∧ W.cell? ⟨ga, 5, none⟩ = some (.slice kA kl kc) :=
  ⟨(cell_of_row W _ 0 _ _ _ h.sf.box).trans rfl, cur_some (h.sf.row.cell hi), h.sf.row.frozen i, h.acts⟩
/-- written, or not -/
def lay (L : List ByteArray) (i : Nat) (s : ByteArray) (b : Bool) : List ByteArray := if b = true then L.set i s else L
theorem lay_length (L : List ByteArray) (i : Nat) (s : ByteArray) (b : Bool) : (lay L i s b).length = L.length := by unfold lay; split <;> simp
theorem lay_set (L : List ByteArray) (i : Nat) (s : ByteArray) (b : Bool) : (lay L i s b).set i s = L.set i s := by unfold lay; split <;> simp
/-- how the disk stands while the writes go on -/
structure Wn (S0 : List ByteArray) (d : Dk) (j : Nat) : Prop where
  S : d.S = S0
  armed : d.armed = 0
  down : d.down = false
  ops : d.ops ≤ 200 + j
  C : d.C.length ≤ j
theorem safe_few (A0 : Option Addr) (c0 : Nat) (l : List Ac) (A1 : Option Addr) (c1 : Nat) (l1 : List Ac) (A2 : Option Addr) (c2 : Nat) (K : List Int) (w : World) (hl : Acs w A0 l) (hm : (l.length : Int) ≤ 9223372036854775807) (ok : ∀ a ∈ l, AcOk w a) (hl1 : Acs w A1 l1) (hm1 : (l1.length : Int) ≤ 9223372036854775807) (ok1 : ∀ a ∈ l1, AcOk w a) (hK : (K.length : Int) ≤ 9223372036854775807) (hf : ¬ (fewB l ∧ fewB l1 ∧ K.length ≤ 200)) :
    Calls Try.prog 5 #[.slice A0 l.length c0, .slice A1 l1.length c1, .slice A2 K.length c2] w fun x w' => x = .returned (.bool true) ∧ Below w.heap.size w w' := by
  have h1 := few_any A0 c0 l w hl hm (acs_ok_few ok)
  have h2 := fun W (k : Below w.heap.size w W) => few_any A1 c1 l1 W (hl1.later k) hm1 (acs_ok_few fun a ha => (ok1 a ha).later k)
  by_cases f1 : fewB l
  · rw [decide_eq_true f1] at h1
    by_cases f2 : fewB l1
    · rw [decide_eq_true f2] at h2
      have d1 : decide ((200 : Int) < (K.length : Int)) = true := decide_eq_true (by
        have : ¬ K.length ≤ 200 := fun q => hf ⟨f1, f2, q⟩
        omega)
      have H1 := Lib.hid h1
      have H2 := Lib.hid h2
      clear h1 h2 hl hl1 ok ok1 f1 f2 hf
      go_enter Try.func5, Try.ntmps5
      go_wp2_with fail
      refine H1.out.mono ?_
      rintro x w1 ⟨rfl, b1⟩
      go_wp2_with fail
      refine (H2.out w1 b1).mono ?_
      rintro x w2 ⟨rfl, b2⟩
      go_wp2_with fail
      refine (awake_any w2).mono ?_
      rintro x w3 ⟨rfl, b3⟩
      go_wp2
      go_ret
      exact ⟨rfl, b1.trans ((b2.trans (b3.mono b2.size)).mono b1.size)⟩
    · rw [decide_eq_false f2] at h2
      have H1 := Lib.hid h1
      have H2 := Lib.hid h2
      clear h1 h2 hl hl1 ok ok1 f1 f2 hf
      go_enter Try.func5, Try.ntmps5
      go_wp2_with fail
      refine H1.out.mono ?_
      rintro x w1 ⟨rfl, b1⟩
      go_wp2_with fail
      refine (H2.out w1 b1).mono ?_
      rintro x w2 ⟨rfl, b2⟩
      go_wp2_with fail
      refine (awake_any w2).mono ?_
      rintro x w3 ⟨rfl, b3⟩
      go_wp2
      go_ret
      exact ⟨rfl, b1.trans ((b2.trans (b3.mono b2.size)).mono b1.size)⟩
  · rw [decide_eq_false f1] at h1
    have H1 := Lib.hid h1
    clear h1 h2 hl hl1 ok ok1 f1 hf
    go_enter Try.func5, Try.ntmps5
    go_wp2_with fail
    refine H1.out.mono ?_
    rintro x w1 ⟨rfl, b1⟩
    go_wp2_with fail
    refine (awake_any w1).mono ?_
    rintro x w3 ⟨rfl, b3⟩
    go_wp2
    go_ret
    exact ⟨rfl, b1.trans (b3.mono b1.size)⟩
set_option maxHeartbeats 12800000 in
theorem safe_main (A0 : Option Addr) (c0 : Nat) (l : List Ac) (X1 : Option Addr) (x1c : Nat) (l1 : List Ac) (X2 : Option Addr) (x2c : Nat) (K : List Int) (w : World) (hl : Acs w A0 l) (hm : (l.length : Int) ≤ 9223372036854775807) (ok : ∀ a ∈ l, AcOk w a) (hl1 : Acs w X1 l1) (hm1 : (l1.length : Int) ≤ 9223372036854775807) (ok1 : ∀ a ∈ l1, AcOk w a) (hNu : Nums w X2 K) (hKw : ∀ z ∈ K, (Lit.int .i64 z).wf = true) (hf : fewB l ∧ fewB l1 ∧ K.length ≤ 200) :
    Calls Try.prog 5 #[.slice A0 l.length c0, .slice X1 l1.length x1c, .slice X2 K.length x2c] w fun x w' => x = .returned (.bool true) ∧ Below w.heap.size w w' := by
  have h1 := few_any A0 c0 l w hl hm (acs_ok_few ok)
  rw [decide_eq_true hf.1] at h1
  have h2 := fun W (k : Below w.heap.size w W) => few_any X1 x1c l1 W (hl1.later k) hm1 (acs_ok_few fun a ha => (ok1 a ha).later k)
  rw [decide_eq_true hf.2.1] at h2
  have H1 := Lib.hid h1
  have H2 := Lib.hid h2
  have HL := Lib.hid (And.intro hl ok)
  have HL1 := Lib.hid (And.intro hl1 ok1)
  have HNu := Lib.hid (And.intro hNu hKw)
  have hll : (l.length : Int) ≤ 60 := by have := hf.1.1; omega
  have hll1 : (l1.length : Int) ≤ 60 := by have := hf.2.1.1; omega
  have hKl : (K.length : Int) ≤ 200 := by omega
  clear h1 h2 hl hm ok hl1 hm1 ok1 hNu hKw hf
  obtain ⟨N, hN⟩ : ∃ N : Nat, 17 = N := ⟨_, rfl⟩
  have hnew : ∀ W, Calls Try.prog 9 #[.int .i64 17] W fun x w' => (∃ b, x = .returned (.tuple #[.pointer (some ⟨b, 0, none⟩), .int .i64 0]) ∧ DiskAt (lo W.heap.size) b (fresh N) w') ∧ Below W.heap.size W w' := fun W => by
    rw [← hN]; exact new_ok 17 W (by omega) (by omega)
  have HNew := Lib.hid hnew
  have HN := Lib.hid hN
  clear hnew hN
  go_enter Try.func5, Try.ntmps5
  go_wp2_with fail
  refine H1.out.mono ?_
  rintro x w1 ⟨rfl, b1⟩
  have B1 := Lib.hid b1
  clear b1
  go_wp2_with fail
  refine (H2.out w1 B1.out).mono ?_
  rintro x w1' ⟨rfl, b1⟩
  have B1' := Lib.hid (B1.out.trans (b1.mono B1.out.size))
  clear b1
  go_wp2_with fail
  refine (HNew.out w1').mono ?_
  rintro x w2 ⟨⟨b, rfl, hd⟩, b2⟩
  have B2 := Lib.hid (B1'.out.trans (b2.mono B1'.out.size))
  have HD := Lib.hid (hd.base (base0 := lo w.heap.size) (fun k hk => Nat.lt_of_lt_of_le hk B1'.out.size))
  clear b2 hd
  go_wp2_with fail
  have hsz := seize_any (lo w.heap.size) b (fresh N) w2 HD.out ((lo_top _).trans B2.out.size)
  rw [show (fresh N).S.length = N by simp [fresh], show (fresh N).S = List.replicate N Z from rfl, show (fresh N).C = [] from rfl] at hsz
  refine hsz.mono ?_
  rintro x w3 ⟨⟨g, cg, A6, c6, rfl, hr, hg, hw6⟩, b3⟩
  have hst : PlaySt (lo w.heap.size) w3 b w3.heap.size 0 0 (some ⟨g, 0, none⟩) A6 cg c6 (fresh N) (w3.alloc (.cells #[.slice (some ⟨g, 0, none⟩) N cg, .slice A6 0 c6, .int .i64 0, .bool false, .int .i64 0] 35)) := by
    have h := play_start (P := lo w.heap.size) (m := 0) (c1 := cg) (c2 := c6) (HD.out.grow b3) (Plus.top ((lo_top _).trans B2.out.size) b3.size) (Q := Plus (lo w.heap.size) w2.heap.size w3.heap.size) (A1 := some ⟨g, 0, none⟩) (A2 := A6) ⟨⟨hr.txs, hw6⟩, .inr ⟨g, 0, rfl, .inr ⟨hg, hr.lt⟩⟩, .inl rfl⟩ (fun k q => q) (fun k q => .inl q) rfl rfl (by simp [fresh])
    rw [show (fresh N).S.length = N by simp [fresh], show (fresh N).C = [] from rfl] at h
    exact h
  have HBW := Lib.hid (B2.out.trans (b3.mono B2.out.size))
  clear hr hg hw6 b3 hsz
  go_upto_region 7 with fail
  obtain ⟨gr, hgr⟩ : ∃ gr, w3.heap.size = gr := ⟨_, rfl⟩
  have HG := Lib.hid hgr
  rw [hgr] at hst ⊢
  clear hgr
  generalize w3.alloc _ = w4 at *
  have HST := Lib.hid hst
  clear hst
  go_upto_region 8 with fail
  go_loopw [44] (fun i wr => ∃ k : Nat, k ≤ l.length ∧ i = .int .i64 k ∧ ∃ A1 A2 c1 c2 d, PlaySt (lo w.heap.size) w3 b gr 0 k A1 A2 c1 c2 d wr ∧ d.S.length = N) (fun i _ => l.length - (intOf i).toNat)
  case atStart => exact ⟨0, by omega, rfl, _, _, _, _, _, HST.out, by simp [fresh]⟩
  case round =>
    obtain ⟨k, hk, rfl, A1, A2, c1, c2, d, hst, h17⟩ := hrel
    have H17 := Lib.hid h17
    clear h17
    have hbw := HBW.out.trans (hst.kp.below HBW.out.size)
    have HBw := Lib.hid hbw
    by_cases hlt : k < l.length
    · obtain ⟨g0, off, rfl, hg0, hc0⟩ := acs_at HL.out.1 hlt
      have hq := fun j u (hu : (l[k].cells)[j]? = some u) => (hbw.cell (p := ⟨g0, off + k * 6 + j, none⟩) hg0).trans (hc0 j u hu)
      have hok := HL.out.2 _ (List.getElem_mem hlt)
      generalize l[k] = a at hq hok
      have hoka := AcOk.kept hok hbw
      obtain ⟨q1, q2, q3, q4, q5⟩ := And.intro (hq 1 _ rfl) (And.intro (hq 2 _ rfl) (And.intro (hq 3 _ rfl) (And.intro (hq 4 _ rfl) (hq 5 _ rfl))))
      have q0 : wr.cell? ⟨g0, off + k * 6, none⟩ = some (.int .i64 a.kind) := hq 0 _ rfl
      have hki : (k : Int) < (l.length : Int) := by omega
      have ba := Joins.below_alloc1 wr (.cells a.cells.toArray 39)
      have hst5 := hst.later ba
      have HO := Lib.hid (hoka.later ba)
      obtain ⟨x0, x1, x2, x3, x4⟩ := hst5.cells
      have HST5 := Lib.hid hst5
      have hga := heap_alloc_last wr (.cells a.cells.toArray 39)
      have hcell := fun j => cell_of_row _ wr.heap.size j _ _ _ hga
      obtain ⟨ak, ap, an, t, raw, ka, kl, kc⟩ := a
      simp only [Ac.cells] at *
      have y0 := (hcell 0).trans rfl
      have y1 := (hcell 1).trans rfl
      have y2 := (hcell 2).trans rfl
      have y3 := (hcell 3).trans rfl
      have y4 := (hcell 4).trans rfl
      have y5 := (hcell 5).trans rfl
      clear hst hst5 hq hok hoka hc0 ba hga hcell hbw
      go_upto_region 11 with fail
      obtain ⟨ga, hgae⟩ : ∃ ga, wr.heap.size = ga := ⟨_, rfl⟩
      rw [hgae] at y0 y1 y2 y3 y4 y5 ⊢
      clear hgae q0 q1 q2 q3 q4 q5
      generalize wr.alloc _ = w5 at *
      go_wp2_with fail
      refine (does_play HST5.out (Nat.le_of_eq HG.out) (by omega) (by omega) ⟨ak, ap, an, t, raw, ka, kl, kc⟩ HO.out).mono ?_
      rintro x w6 ⟨A3, c3, A4, c4, d', rfl, hbox6, hS6, hst6⟩
      have z0 := (cell_of_row w6 gr 0 _ _ _ hbox6).trans rfl
      have z1 := (cell_of_row w6 gr 1 _ _ _ hbox6).trans rfl
      have z2 := (cell_of_row w6 gr 2 _ _ _ hbox6).trans rfl
      have z3 := (cell_of_row w6 gr 3 _ _ _ hbox6).trans rfl
      have z4 := (cell_of_row w6 gr 4 _ _ _ hbox6).trans rfl
      have f0 := frozen_of_row w6 gr 0 _ _ hbox6
      have f1 := frozen_of_row w6 gr 1 _ _ hbox6
      have f2 := frozen_of_row w6 gr 2 _ _ hbox6
      have f3 := frozen_of_row w6 gr 3 _ _ hbox6
      have f4 := frozen_of_row w6 gr 4 _ _ hbox6
      have HST6 := Lib.hid hst6
      have HS17 := Lib.hid (hS6.trans H17.out)
      clear hst6 hbox6 hS6 x0 x1 x2 x3 x4 y0 y1 y2 y3 y4 y5
      go_upto_region 14 with fail
      clear z0 z1 z2 z3 z4 f0 f1 f2 f3 f4
      generalize World.setCell _ _ _ = w7 at *
      go_wp2
      go_round
      case rel => exact ⟨k + 1, by omega, by go_num, A3, A4, c3, c4, d', HST6.out, HS17.out⟩
      case measure => simp [intOf]; omega
    · obtain rfl : k = l.length := by omega
      obtain ⟨F, Q, hb, -, -, hPF⟩ := hst.ex
      have hko := hst.ops
      have HB := Lib.hid hb
      have HPF := Lib.hid hPF
      have HKO := Lib.hid (show d.ops ≤ 60 by omega)
      have HBw2 := Lib.hid hbw
      clear hst hb hPF hko hbw HBw
      go_upto_region 15 with fail
      go_wp2_with fail
      refine (boot_ok F b d wr HB.out.disk HB.out.top).mono ?_
      rintro x w5 ⟨rfl, hd5, k5⟩
      have HD5 := Lib.hid (show DiskAt F b d.boot w5 from hd5)
      have T5 := Lib.hid (HB.out.top.trans k5.size)
      have K5 := Lib.hid (HBw2.out.trans ((k5.sub (G := lo w.heap.size) HPF.out).below HBw2.out.size))
      clear hd5 k5
      go_wp2_with fail
      have hfl := flush_any F b d.boot w5 HD5.out (by have := HKO.out; show d.ops < _; omega) T5.out
      rw [boot_flush] at hfl
      refine hfl.mono ?_
      rintro x w6 ⟨rfl, hd6, k6⟩
      have HD6 := Lib.hid hd6
      have T6 := Lib.hid (T5.out.trans k6.size)
      have K6 := Lib.hid (K5.out.trans ((k6.sub (G := lo w.heap.size) HPF.out).below K5.out.size))
      clear hd6 k6 hfl
      obtain ⟨d2, hd2⟩ : ∃ d2 : Dk, (⟨d.S, d.S, [], 0, false, d.ops + 1⟩ : Dk) = d2 := ⟨_, rfl⟩
      have hSd : d2.S = d.S := by rw [← hd2]
      have hCd : d2.C = [] := by rw [← hd2]
      have hwn : Wn d.S d2 0 := ⟨by rw [← hd2], by rw [← hd2], by rw [← hd2], by rw [← hd2]; show d.ops + 1 ≤ _; have := HKO.out; omega, by rw [← hd2]; simp⟩
      rw [hd2] at HD6
      have hsz := seize_any F b d2 w6 HD6.out T6.out
      rw [hSd, hCd, H17.out] at hsz
      obtain ⟨S0, hS0⟩ : ∃ S0, d.S = S0 := ⟨_, rfl⟩
      rw [hS0] at hsz hwn
      have HLen := Lib.hid (show S0.length = N by rw [← hS0]; exact H17.out)
      have HC2 := Lib.hid hCd
      have HWn := Lib.hid hwn
      clear hd2 hSd hCd hwn hS0
      go_wp2_with fail
      refine hsz.mono ?_
      rintro x w7 ⟨⟨gW, cW, A7, c7, rfl, hr7, hg7, -⟩, b7⟩
      have ka := Joins.below_alloc1 w7 (.cells #[.slice (some ⟨gW, 0, none⟩) N cW, .slice A7 0 c7] 32)
      have hsf : Sf w N b w7.heap.size gW cW A7 c7 d2 S0 (w7.alloc (.cells #[.slice (some ⟨gW, 0, none⟩) N cW, .slice A7 0 c7] 32)) := by
        have hb67 := b7.trans (ka.mono b7.size)
        have hw7 : w.heap.size ≤ w6.heap.size := K6.out.size
        have hs7 := b7.size
        have hz : (w7.alloc (.cells #[.slice (some ⟨gW, 0, none⟩) N cW, .slice A7 0 c7] 32)).heap.size = w7.heap.size + 1 := by simp
        exact ⟨⟨_, HD6.out.grow hb67, Plus.top T6.out hb67.size, .inr ⟨by omega, by omega⟩, .inr ⟨hg7, by have := hr7.lt; omega⟩, fun j hj => .inl (HPF.out j hj)⟩, heap_alloc_last _ _, hr7.alloc _, ⟨by have := hr7.lt; omega, by omega, by omega⟩, K6.out.trans (hb67.mono hw7)⟩
      have hN17 : (N : Int) = 17 := by have := HN.out; omega
      clear hr7 hg7 b7 ka hsz
      go_upto_region 22 with fail
      clear hN17
      obtain ⟨g13, hg13⟩ : ∃ g, w7.heap.size = g := ⟨_, rfl⟩
      rw [hg13] at hsf ⊢
      clear hg13
      generalize w7.alloc _ = w8 at *
      have HSf := Lib.hid hsf
      clear hsf
      go_upto_region 23 with fail
      go_loopw [14, 77] (fun kk ii wr => ∃ j : Nat, j ≤ l1.length ∧ ii = .int .i64 j ∧ ∃ dj : Dk, kk = .int .i64 (dj.C.length : Nat) ∧ Sf w N b g13 gW cW A7 c7 dj (keeps S0 dj.C K dj.C.length) wr ∧ Wn S0 dj j) (fun _ ii _ => l1.length - (intOf ii).toNat)
      case atStart => exact ⟨0, by omega, rfl, d2, by rw [HC2.out]; rfl, by rw [HC2.out]; exact HSf.out, HWn.out⟩
      case round =>
        obtain ⟨j, hj, rfl, dj, rfl, hsf, hwn⟩ := hrel
        have HSj := Lib.hid hsf
        have HWj := Lib.hid hwn
        clear hsf hwn
        by_cases hlt : j < l1.length
        · obtain ⟨g0, off, rfl, hg0, hc0⟩ := acs_at HL1.out.1 hlt
          have hq := fun q u (hu : (l1[j].cells)[q]? = some u) => (HSj.out.bel.cell (p := ⟨g0, off + j * 6 + q, none⟩) hg0).trans (hc0 q u hu)
          have hok := HL1.out.2 _ (List.getElem_mem hlt)
          generalize l1[j] = a at hq hok
          obtain ⟨q1, q2, q3, q4, q5⟩ := And.intro (hq 1 _ rfl) (And.intro (hq 2 _ rfl) (And.intro (hq 3 _ rfl) (And.intro (hq 4 _ rfl) (hq 5 _ rfl))))
          have q0 : wr.cell? ⟨g0, off + j * 6, none⟩ = some (.int .i64 a.kind) := hq 0 _ rfl
          have hji : (j : Int) < (l1.length : Int) := by omega
          obtain ⟨ak, ap, an, t, raw, ka, kl, kc⟩ := a
          dsimp only at q0 q1 q2 q3 q4 q5
          have ba := Joins.below_alloc1 wr (.cells #[.int .i64 ak, .int .i64 ap, .int .i64 an, .string t, .bool raw, .slice ka kl kc] 39)
          have hga := heap_alloc_last wr (.cells #[.int .i64 ak, .int .i64 ap, .int .i64 an, .string t, .bool raw, .slice ka kl kc] 39)
          obtain ⟨s, hs⟩ : ∃ s, Ac.txt ⟨ak, ap, an, t, raw, ka, kl, kc⟩ = s := ⟨_, rfl⟩
          have hT : ∀ W, Calls Try.prog 20 #[.agg #[.int .i64 ak, .int .i64 ap, .int .i64 an, .string t, .bool raw, .slice ka kl kc]] W fun x w' => x = .returned (.string s) ∧ Below W.heap.size W w' := fun W => by
            rw [← hs]; exact text_any ⟨ak, ap, an, t, raw, ka, kl, kc⟩ W (Nat.le_trans hok.text (by decide))
          have hsz : (s.size : Int) ≤ 9223372036854775807 := by rw [← hs]; exact txt_size _ hok.text
          have hla : wr.heap.size < (wr.alloc (.cells #[.int .i64 ak, .int .i64 ap, .int .i64 an, .string t, .bool raw, .slice ka kl kc] 39)).heap.size := by simp
          have HT := Lib.hid hT
          have HSZ := Lib.hid hsz
          have HGA := Lib.hid (And.intro hga hla)
          have HBA := Lib.hid ba
          clear hT hsz hs hq hok hc0 ba hga hla
          go_upto_region 25 with fail
          obtain ⟨ga, hgae⟩ : ∃ ga, wr.heap.size = ga := ⟨_, rfl⟩
          have HGE := Lib.hid hgae
          rw [hgae] at HGA ⊢
          clear hgae q0 q1 q2 q3 q4 q5
          generalize wr.alloc _ = w9 at *
          have hact : ∀ W : World, W.heap[ga]? = w9.heap[ga]? → (W.cell? ⟨ga, 0, none⟩ = some (.int .i64 ak) ∧ W.cell? ⟨ga, 1, none⟩ = some (.int .i64 ap) ∧ W.cell? ⟨ga, 2, none⟩ = some (.int .i64 an) ∧ W.cell? ⟨ga, 3, none⟩ = some (.string t) ∧ W.cell? ⟨ga, 4, none⟩ = some (.bool raw) ∧ W.cell? ⟨ga, 5, none⟩ = some (.slice ka kl kc)) := fun W e => by
            have h := e.trans HGA.out.1
            exact ⟨(cell_of_row W _ 0 _ _ _ h).trans rfl, (cell_of_row W _ 1 _ _ _ h).trans rfl, (cell_of_row W _ 2 _ _ _ h).trans rfl, (cell_of_row W _ 3 _ _ _ h).trans rfl, (cell_of_row W _ 4 _ _ _ h).trans rfl, (cell_of_row W _ 5 _ _ _ h).trans rfl⟩
          have hk0 := hact w9.drew rfl
          have HAct := Lib.hid hact
          have HGW := Lib.hid HSj.out.row.lt
          clear hact
          have HWr := Lib.hid (fun W (k : Below wr.heap.size wr W) => Sf.write HSj.out k ap s (by have := HWj.out.ops; omega) (by have := HWj.out.C; omega) HSZ.out)
          rcases write_free dj HWj.out.armed HWj.out.down ap s with ⟨hhas, hs128, e⟩ | ⟨e1, e2, -⟩
          · rw [e] at HWr
            obtain ⟨d', hd'⟩ : ∃ d' : Dk, (⟨dj.S, dj.H.set ap.toNat s, dj.C ++ [(ap.toNat, s)], 0, false, dj.ops + 1⟩ : Dk) = d' := ⟨_, rfl⟩
            dsimp only at HWr
            rw [hd'] at HWr
            have hdC : d'.C = dj.C ++ [(ap.toNat, s)] := by rw [← hd']
            have hwn : Wn S0 d' (j + 1) := ⟨by rw [← hd']; exact HWj.out.S, by rw [← hd'], by rw [← hd'], by rw [← hd']; have := HWj.out.ops; show dj.ops + 1 ≤ _; omega, by rw [hdC]; have := HWj.out.C; simp; omega⟩
            obtain ⟨i, hi⟩ : ∃ i : Nat, ap = i := ⟨ap.toNat, (Int.toNat_of_nonneg hhas.1).symm⟩
            have hiN : i < N := by have h := hhas.2; rw [HWj.out.S, HLen.out] at h; omega
            obtain ⟨L, hL⟩ : ∃ L, keeps S0 dj.C K dj.C.length = L := ⟨_, rfl⟩
            have hLl : L.length = N := by rw [← hL, keeps_length]; exact HLen.out
            obtain ⟨kk, hkk⟩ : ∃ kk, dj.C.length = kk := ⟨_, rfl⟩
            have hks := keeps_snoc S0 dj.C i s K
            rw [hL, hkk] at hks
            have hdl : d'.C.length = kk + 1 := by rw [hdC]; simp; exact hkk
            have hfin : keeps S0 d'.C K d'.C.length = if hit K (kk : Int) K.length = true then L.set i s else L := by
              rw [hdl, hdC, hi, Int.toNat_natCast, hks, hit_all]
            have hkb : kk ≤ 60 := by have := HWj.out.C; omega
            rw [hL] at HWr
            have HFin := Lib.hid (And.intro hfin (And.intro hwn hdl))
            have HIN := Lib.hid (And.intro hiN hLl)
            subst hi
            clear e hs128 hhas hd' hdC hwn hL hks hdl hfin HSj
            rw [hkk]
            clear hkk HWj
            go_region_held3 (fun W' => W'.cell? ⟨ga, 0, none⟩ = some (.int .i64 ak) ∧ W'.cell? ⟨ga, 1, none⟩ = some (.int .i64 (i : Nat)) ∧ W'.cell? ⟨ga, 2, none⟩ = some (.int .i64 an) ∧ W'.cell? ⟨ga, 3, none⟩ = some (.string t) ∧ W'.cell? ⟨ga, 4, none⟩ = some (.bool raw) ∧ W'.cell? ⟨ga, 5, none⟩ = some (.slice ka kl kc)) (first | with_reducible exact hk0 | with_reducible exact HAct.out _ hg11 | with_reducible exact HAct.out _ hg10) (first
              | (go_at_call 20; refine (HT.out _).mono ?_; rintro x w10 ⟨rfl, b10⟩; have B10 := Lib.hid (HBA.out.trans ((below_drew b10).mono HBA.out.size)); have hg10 := (below_drew b10).block ga HGA.out.2; have hs10 := (below_drew b10).size)
              | (go_at_call 19; refine (HWr.out w10 B10.out).mono ?_; rintro x w11 ⟨rfl, h11, hold⟩; have hg11 := (hold ga (Nat.le_of_eq HGE.out) (by have := HGA.out.2; omega)).trans hg10))
            have hsw : Sw w N b g13 gW cW ga A7 c7 d' L ak (i : Nat) an t raw ka kl kc w11 := ⟨h11, hg11.trans HGA.out.1, fun e => by
              have h1 := HGW.out
              have h2 := HGE.out
              omega⟩
            have HSw := Lib.hid hsw
            clear hsw h11 hold hg11 hg10 hs10 b10 hk0
            have hiNi : (i : Int) < (N : Int) := by have := HIN.out.1; omega
            have hNi : (N : Int) = 17 := by have := HN.out; omega
            have HNi := Lib.hid hNi
            clear hNi
            go_upto_region 27 with fail
            go_loopw [90] (fun ii wv => ∃ q : Nat, q ≤ K.length ∧ ii = .int .i64 q ∧ Sw w N b g13 gW cW ga A7 c7 d' (lay L i s (hit K (kk : Int) q)) ak (i : Nat) an t raw ka kl kc wv) (fun ii _ => K.length - (intOf ii).toNat)
            case atStart => exact ⟨0, by omega, rfl, by rw [hit_zero]; exact HSw.out⟩
            case round =>
              obtain ⟨q, hq, rfl, hsw⟩ := hrel
              have HSq := Lib.hid hsw
              clear hsw
              by_cases hqlt : q < K.length
              · obtain ⟨gK, oK, rfl, hgK, hcK⟩ : ∃ g off, X2 = some ⟨g, off, none⟩ ∧ g < w.heap.size ∧ ∀ i, i < K.length → w.cell? ⟨g, off + i, none⟩ = some (.int .i64 (K.getD i 0)) := by
                  rcases HNu.out.1 with h0 | h0
                  · rw [h0] at hqlt; simp at hqlt
                  · exact h0
                have r1 := (HSq.out.sf.bel.cell (p := ⟨gK, oK + q, none⟩) hgK).trans (hcK q hqlt)
                have hh := hit_succ K (kk : Int) q hqlt
                obtain ⟨z, hz⟩ : ∃ z, K.getD q 0 = z := ⟨_, rfl⟩
                rw [hz] at r1 hh
                have hqi : (q : Int) < (K.length : Int) := by omega
                have HH := Lib.hid hh
                clear hh hz hcK
                by_cases hzk : z = (kk : Int)
                · subst hzk
                  have hlen : i < (lay L i s (hit K (kk : Int) q)).length := by rw [lay_length, HIN.out.2]; exact HIN.out.1
                  have HLn := Lib.hid hlen
                  have hk1 := (HSq.out.later (Below.refl _ wr).drew).all i hlen
                  obtain ⟨Lq, hLq⟩ : ∃ Lq, lay L i s (hit K (kk : Int) q) = Lq := ⟨_, rfl⟩
                  have hset : Lq.set i s = lay L i s (hit K (kk : Int) (q + 1)) := by
                    rw [HH.out, ← hLq, lay_set]; simp [lay]
                  rw [hLq] at HSq HLn
                  have HSet := Lib.hid hset
                  clear hlen hLq hset
                  go_upto_region 30 with fail
                  go_region_held3 (fun W' => W'.cell? ⟨g13, 0, none⟩ = some (.slice (some ⟨gW, 0, none⟩) N cW) ∧ W'.cell? ⟨gW, i, none⟩ = some (curOf W' ⟨gW, i, none⟩) ∧ W'.frozen? ⟨gW, i, none⟩ = false ∧ W'.cell? ⟨ga, 0, none⟩ = some (.int .i64 ak) ∧ W'.cell? ⟨ga, 1, none⟩ = some (.int .i64 (i : Nat)) ∧ W'.cell? ⟨ga, 2, none⟩ = some (.int .i64 an) ∧ W'.cell? ⟨ga, 3, none⟩ = some (.string t) ∧ W'.cell? ⟨ga, 4, none⟩ = some (.bool raw) ∧ W'.cell? ⟨ga, 5, none⟩ = some (.slice ka kl kc)) (first | with_reducible exact hk1 | with_reducible exact (D12.out.set HLn.out s).all i (by rw [List.length_set]; exact HLn.out) | with_reducible exact D12.out.all i HLn.out) (first
                    | (go_at_call 20; refine (HT.out _).mono ?_; rintro x w12 ⟨rfl, b12⟩; have D12 := Lib.hid (HSq.out.later (below_drew b12))))
                  have D13 := Lib.hid (D12.out.set HLn.out s)
                  clear hk1 b12
                  generalize World.setCell _ _ _ = w13 at *
                  go_wp2
                  go_round
                  case rel => exact ⟨q + 1, by omega, by go_num, by rw [← HSet.out]; exact D13.out⟩
                  case measure => simp [intOf]; omega
                · have hzb : (z == (kk : Int)) = false := by simpa using hzk
                  have hse : hit K (kk : Int) (q + 1) = hit K (kk : Int) q := by rw [HH.out, hzb, Bool.or_false]
                  have HSe := Lib.hid hse
                  clear hse
                  go_wp2
                  refine ⟨⟨q + 1, by omega, by go_num, by rw [HSe.out]; exact HSq.out⟩, by simp [intOf]; omega⟩
              · obtain rfl : q = K.length := by omega
                have hsf := HSq.out.sf
                have hfn := HFin.out.1
                unfold lay at hsf
                rw [← hfn] at hsf
                have HSo := Lib.hid hsf
                clear hsf hfn
                have hkk : (kk : Int) ≤ 60 := by omega
                go_wp2
                go_round
                case rel => exact ⟨j + 1, by omega, by go_num, d', by rw [HFin.out.2.2]; go_num, HSo.out, HFin.out.2.1⟩
                case measure => simp [intOf]; omega
          · obtain ⟨r, hr⟩ : ∃ r, (dj.write ap s).2 = r := ⟨_, rfl⟩
            rw [hr] at e2
            rw [e1, hr] at HWr
            have hrb : (r == 0) = false := by simpa using e2
            have hwn : Wn S0 dj (j + 1) := ⟨HWj.out.S, HWj.out.armed, HWj.out.down, by have := HWj.out.ops; omega, by have := HWj.out.C; omega⟩
            have HWn2 := Lib.hid hwn
            clear e1 hr hwn e2
            obtain ⟨kk, hkk⟩ : ∃ kk, dj.C.length = kk := ⟨_, rfl⟩
            have HKK := Lib.hid hkk
            rw [hkk]
            clear hkk HSj HWj
            go_region_held3 (fun W' => W'.cell? ⟨ga, 0, none⟩ = some (.int .i64 ak) ∧ W'.cell? ⟨ga, 1, none⟩ = some (.int .i64 ap) ∧ W'.cell? ⟨ga, 2, none⟩ = some (.int .i64 an) ∧ W'.cell? ⟨ga, 3, none⟩ = some (.string t) ∧ W'.cell? ⟨ga, 4, none⟩ = some (.bool raw) ∧ W'.cell? ⟨ga, 5, none⟩ = some (.slice ka kl kc)) (first | with_reducible exact hk0 | with_reducible exact HAct.out _ hg11 | with_reducible exact HAct.out _ hg10) (first
              | (go_at_call 20; refine (HT.out _).mono ?_; rintro x w10 ⟨rfl, b10⟩; have B10 := Lib.hid (HBA.out.trans ((below_drew b10).mono HBA.out.size)); have hg10 := (below_drew b10).block ga HGA.out.2; have hs10 := (below_drew b10).size)
              | (go_at_call 19; refine (HWr.out w10 B10.out).mono ?_; rintro x w11 ⟨rfl, h11, hold⟩; have hg11 := (hold ga (Nat.le_of_eq HGE.out) (by have := HGA.out.2; omega)).trans hg10))
            have HS11 := Lib.hid h11
            clear h11 hold hg11 hg10 hs10 b10 hk0
            go_wp2
            go_round
            case rel => exact ⟨j + 1, by omega, by go_num, dj, by rw [HKK.out], HS11.out, HWn2.out⟩
            case measure => simp [intOf]; omega
        · obtain rfl : j = l1.length := by omega
          obtain ⟨F2, hdk, hT2, hF13, hFW, hFlo⟩ := HSj.out.disk
          have hos := hdk.ok
          have hnum := HNu.out.1.later HSj.out.bel
          have hcr := crash_ok F2 b dj wr hdk hT2 X2 x2c K hnum (by omega) HNu.out.2
          have HCr := Lib.hid hcr
          have HF := Lib.hid (And.intro hF13 (And.intro hFW (And.intro hFlo hT2)))
          clear hdk hT2 hF13 hFW hFlo hos hnum hcr
          go_upto_region 34 with fail
          go_wp2_with fail
          refine HCr.out.mono ?_
          rintro x w10 ⟨rfl, hd10, k10⟩
          obtain ⟨L, hLe⟩ : ∃ L, keeps S0 dj.C K dj.C.length = L := ⟨_, rfl⟩
          have hLl : L.length = N := by rw [← hLe, keeps_length]; exact HLen.out
          rw [HWj.out.S] at hd10
          obtain ⟨dc, hdc⟩ : ∃ dc : Dk, (⟨keeps S0 dj.C K dj.C.length, keeps S0 dj.C K dj.C.length, [], 0, true, dj.ops⟩ : Dk) = dc := ⟨_, rfl⟩
          have hdS : dc.S = L := by rw [← hdc, ← hLe]
          have hdC : dc.C = [] := by rw [← hdc]
          have hdd : dc.down = true := by rw [← hdc]
          have hd10' : DiskAt F2 b dc w10 := by rw [← hdc]; exact hd10
          have hT10 := HF.out.2.2.2.trans k10.size
          have hbx := (k10.block g13 (Array.getElem?_eq_some_iff.1 HSj.out.box).1 HF.out.1).trans HSj.out.box
          have hrw := HSj.out.row.keep (k10.block gW HSj.out.row.lt HF.out.2.1)
          rw [hLe] at hrw
          have HBl := Lib.hid (HSj.out.bel.trans ⟨k10.os, k10.tape, k10.output, k10.size, fun i hi => k10.block i (Nat.lt_of_lt_of_le hi HSj.out.bel.size) (HF.out.2.2.1 i hi)⟩)
          have hkeep : ∀ W', Below w10.heap.size w10 W' → W'.cell? ⟨g13, 0, none⟩ = some (.slice (some ⟨gW, 0, none⟩) N cW) ∧ W'.cell? ⟨g13, 1, none⟩ = some (.slice A7 0 c7) := fun W' q => by
            have h := (q.block g13 (Array.getElem?_eq_some_iff.1 hbx).1).trans hbx
            exact ⟨(cell_of_row W' _ 0 _ _ _ h).trans rfl, (cell_of_row W' _ 1 _ _ _ h).trans rfl⟩
          have hk0 := hkeep w10.drew (Below.refl _ _).drew
          have hSz := fun W' (q : Below w10.heap.size w10 W') => seize_any F2 b dc W' (hd10'.later q) (hT10.trans q.size)
          rw [hdS, hdC, hLl] at hSz
          have hSame := fun W' (q : Below w10.heap.size w10 W') B B' k k' (h1 : Txs W' B L) (h2 : Wrs W' B' []) => same_any B B' (some ⟨gW, 0, none⟩) A7 k k' cW c7 L [] W' h1 h2 (hrw.below q hrw.lt).txs (.inl rfl) (by have := HN.out; omega) (by simp)
          rw [hLl] at hSame
          have hDn := fun W' (q : Below w10.heap.size w10 W') => down_any F2 b dc W' (hd10'.later q)
          rw [hdd] at hDn
          have HKp := Lib.hid hkeep
          have HSz := Lib.hid hSz
          have HSame := Lib.hid hSame
          have HDn := Lib.hid hDn
          clear hd10 hd10' k10 hLe hLl hdS hdC hdd hT10 hbx hrw hkeep hSz hSame hDn hdc
          go_upto_region 35 with fail
          go_region_held3 (fun W' => W'.cell? ⟨g13, 0, none⟩ = some (.slice (some ⟨gW, 0, none⟩) N cW) ∧ W'.cell? ⟨g13, 1, none⟩ = some (.slice A7 0 c7)) (first | with_reducible exact hk0 | with_reducible exact HKp.out _ B8.out | with_reducible exact HKp.out _ B7.out | with_reducible exact HKp.out _ B6.out) (first
            | (go_at_call 10; refine (HSz.out _ (Below.refl _ _).drew).mono ?_; rintro x w11 ⟨⟨g6, cg6, A6', c6', rfl, hr6, -, hw6⟩, b6⟩; have B6 := Lib.hid (below_drew b6))
            | (go_at_call 13; refine (HSame.out w11 B6.out (some ⟨g6, 0, none⟩) A6' cg6 c6' hr6.txs hw6).mono ?_; rintro x w12 ⟨rfl, b7⟩; have B7 := Lib.hid (B6.out.trans (b7.mono B6.out.size)))
            | (go_at_call 22; refine (HDn.out _ B7.out).mono ?_; rintro x W' ⟨rfl, rfl⟩)
            | (go_at_call 8; refine (awake_any _).mono ?_; rintro x w13 ⟨rfl, b8⟩; have B8 := Lib.hid (B7.out.trans (b8.mono B7.out.size))))
          go_wp2
          go_ret
          exact ⟨rfl, HBl.out.trans (B8.out.mono HBl.out.size)⟩
theorem safe_walk (A0 : Option Addr) (c0 : Nat) (l : List Ac) (X1 : Option Addr) (x1c : Nat) (l1 : List Ac) (X2 : Option Addr) (x2c : Nat) (K : List Int) (w : World) (hl : Acs w A0 l) (hm : l.length ≤ maxLen) (ok : ∀ a ∈ l, AcOk w a) (hl1 : Acs w X1 l1) (hm1 : l1.length ≤ maxLen) (ok1 : ∀ a ∈ l1, AcOk w a) (hNu : Nums w X2 K) (hKw : ∀ z ∈ K, (Lit.int .i64 z).wf = true) (hK : K.length ≤ maxLen) :
    Calls Try.prog 5 #[.slice A0 l.length c0, .slice X1 l1.length x1c, .slice X2 K.length x2c] w fun x w' => x = .returned (.bool true) ∧ Below w.heap.size w w' := by
  unfold maxLen at hm hm1 hK
  by_cases hf : fewB l ∧ fewB l1 ∧ K.length ≤ 200
  · exact safe_main A0 c0 l X1 x1c l1 X2 x2c K w hl (by omega) ok hl1 (by omega) ok1 hNu hKw hf
  · exact safe_few A0 c0 l X1 x1c l1 X2 x2c K w hl (by omega) ok hl1 (by omega) ok1 (by omega) hf
end Go.Proofs.Ytmehehiobcpeoaa.Disk
