/-
  The walks of the document's Constants and Sum.
-/
import Derived.Test.YtfnjcobgbdioeaaDoorWalkShaRefC
import Derived.Deep.RegionHeld
namespace Go.Proofs.YtfnjcobgbdioeaaDoor.WalkSha
open Go.RowKit Go.Proofs.YtfnjcobgbdioeaaDoor.BytesRow Go.Proofs.YtfnjcobgbdioeaaDoor.WalkBytes
set_option linter.unusedVariables false
set_option linter.unusedSimpArgs false
set_option maxRecDepth 100000

theorem ownU_new (w : World) (l : List Nat) (h : l.length ≤ 1000000) : OwnU (w.alloc (.cells (uc l).toArray 35)) w.heap.size (.slice (some ⟨w.heap.size, 0, none⟩) l.length l.length) l :=
  ⟨by rw [uc_length, Nat.mul_one], .inr ⟨w.heap.size, l.length, _, rfl, Nat.le_refl _, heap_alloc_last _ _, Nat.le_refl _, by unfold maxLen; omega, by simp [uc_length], by simp [List.take_of_length_le, uc_length]⟩⟩
theorem constants_any (w : World) :
    Calls Tryd.prog 20 #[] w fun e w' => e = .returned (.slice (some ⟨w.heap.size, 0, none⟩) 64 64) ∧ (∀ i, i < 64 → w'.cell? ⟨w.heap.size, i, none⟩ = some (.int .u32 (Pl.Sha.consts.getD i 0 : Nat))) ∧ Below w.heap.size w w' ∧ w.heap.size < w'.heap.size := by
  go_enter Tryd.func20, Tryd.ntmps20
  go_wp2
  go_ret
  refine ⟨rfl, fun i hi => ?_, Joins.below_alloc1 _ _, by simp⟩
  change (w.alloc (.cells (uc Pl.Sha.consts).toArray 35)).cell? _ = _
  rw [cell_of_row _ _ i _ _ _ (heap_alloc_last _ _)]
  have := uc_get Pl.Sha.consts i hi
  simpa using this
theorem blk_len (P : List UInt8) (j : Nat) (h : 64 * j + 64 ≤ P.length) : ((P.drop (64 * j)).take 64).length = 64 := by simp; omega
theorem extract_bs (P : List UInt8) (i j : Nat) (h : i ≤ j) : (bs P).extract i j = bs ((P.drop i).take (j - i)) := by
  apply ByteArray.ext
  apply Array.ext'
  simp [bs, ByteArray.data_extract, List.extract]
theorem sliceS2 (s : ByteArray) (i j : Nat) (a b : Int) (ha : a = i) (hb : b = j) (h : i ≤ j) (hj : j ≤ s.size) (w : World) : (Instr.slice 9 (.string s) (some (.int .i64 a)) (some (.int .i64 b)) none).run Tryd.prog w = .ok (.string (s.extract i j)) w := by
  subst ha
  subst hb
  have h1 : (i : Int) ≤ (j : Int) := by omega
  have h2 : (j : Int) ≤ (s.size : Int) := by omega
  go_simp
theorem ch_or_bits (e f g : Nat) (he : e < 4294967296) (hf : f < 4294967296) (hg : g < 4294967296) :
    ∃ p q y, bits .and .u32 (e : Int) (f : Int) = (p : Nat) ∧ bits .and .u32 (4294967295 - (e : Int)) (g : Int) = (q : Nat) ∧ bits .or .u32 (p : Int) (q : Int) = (y : Nat) ∧ Pl.Sha.ch e f g = y ∧ y < 4294967296 := by
  have e1 : (4294967295 - (e : Int)) = ((4294967295 - e : Nat) : Int) := by omega
  refine ⟨_, _, _, u32_and_nat _ _ he hf, by rw [e1]; exact u32_and_nat _ _ (by omega) hg, u32_or_nat _ _ (and_lt32 _ _ he) (and_lt32 _ _ (by omega)), (Pl.Sha.ch_or e f g he).symm, Nat.or_lt_two_pow (n := 32) (and_lt32 _ _ he) (and_lt32 _ _ (by omega))⟩
theorem maj_or_bits (a b c : Nat) (ha : a < 4294967296) (hb : b < 4294967296) (hc : c < 4294967296) :
    ∃ p q r m y, bits .and .u32 (a : Int) (b : Int) = (p : Nat) ∧ bits .and .u32 (a : Int) (c : Int) = (q : Nat) ∧ bits .and .u32 (b : Int) (c : Int) = (r : Nat) ∧ bits .or .u32 (p : Int) (q : Int) = (m : Nat) ∧ bits .or .u32 (m : Int) (r : Int) = (y : Nat) ∧ Pl.Sha.maj a b c = y ∧ y < 4294967296 := by
  have h1 : (a &&& b) ||| (a &&& c) < 4294967296 := Nat.or_lt_two_pow (n := 32) (and_lt32 _ _ ha) (and_lt32 _ _ ha)
  exact ⟨_, _, _, _, _, u32_and_nat _ _ ha hb, u32_and_nat _ _ ha hc, u32_and_nat _ _ hb hc, u32_or_nat _ _ (and_lt32 _ _ ha) (and_lt32 _ _ ha), u32_or_nat _ _ h1 (and_lt32 _ _ hb), (Pl.Sha.maj_or a b c).symm, Nat.or_lt_two_pow (n := 32) h1 (and_lt32 _ _ hb)⟩
theorem keep8 {g B : Nat} {s : Pl.Sha.St} {w0 w : World} {o : Obj} (h0 : w.cell? ⟨g, 0, none⟩ = some (.int .u32 (s.a : Nat))) (h1 : w.cell? ⟨g, 1, none⟩ = some (.int .u32 (s.b : Nat))) (h2 : w.cell? ⟨g, 2, none⟩ = some (.int .u32 (s.c : Nat))) (h3 : w.cell? ⟨g, 3, none⟩ = some (.int .u32 (s.d : Nat))) (h4 : w.cell? ⟨g, 4, none⟩ = some (.int .u32 (s.e : Nat))) (h5 : w.cell? ⟨g, 5, none⟩ = some (.int .u32 (s.f : Nat))) (h6 : w.cell? ⟨g, 6, none⟩ = some (.int .u32 (s.g : Nat))) (h7 : w.cell? ⟨g, 7, none⟩ = some (.int .u32 (s.h : Nat))) (hb : Below B w0 w) (hB : B ≤ w0.heap.size) : (w.alloc o).cell? ⟨g, 0, none⟩ = some (.int .u32 (s.a : Nat)) ∧ (w.alloc o).cell? ⟨g, 1, none⟩ = some (.int .u32 (s.b : Nat)) ∧ (w.alloc o).cell? ⟨g, 2, none⟩ = some (.int .u32 (s.c : Nat)) ∧ (w.alloc o).cell? ⟨g, 3, none⟩ = some (.int .u32 (s.d : Nat)) ∧ (w.alloc o).cell? ⟨g, 4, none⟩ = some (.int .u32 (s.e : Nat)) ∧ (w.alloc o).cell? ⟨g, 5, none⟩ = some (.int .u32 (s.f : Nat)) ∧ (w.alloc o).cell? ⟨g, 6, none⟩ = some (.int .u32 (s.g : Nat)) ∧ (w.alloc o).cell? ⟨g, 7, none⟩ = some (.int .u32 (s.h : Nat)) ∧ Below B w0 (w.alloc o) := by
  have hg := block_lt_of_cell h0
  have k := Joins.below_alloc1 w o
  have c : ∀ i, (w.alloc o).cell? ⟨g, i, none⟩ = w.cell? ⟨g, i, none⟩ := fun i => k.cell (p := ⟨g, i, none⟩) hg
  exact ⟨(c 0).trans h0, (c 1).trans h1, (c 2).trans h2, (c 3).trans h3, (c 4).trans h4, (c 5).trans h5, (c 6).trans h6, (c 7).trans h7, hb.alloc (Nat.le_trans hB hb.size) o⟩
theorem OwnU.mono {w : World} {base base' : Nat} {v : Value} {l : List Nat} (h : OwnU w base v l) (hb : base' ≤ base) : OwnU w base' v l := by
  refine ⟨h.1, ?_⟩
  rcases h.2 with h | ⟨g, cap, cur, rfl, hb', hg, hn, hm, hs, ht⟩
  · exact .inl h
  · exact .inr ⟨g, cap, cur, rfl, Nat.le_trans hb hb', hg, hn, hm, hs, ht⟩
theorem wrap_add (a b : Nat) : IntKind.u32.wrap ((a : Int) + (b : Int)) = (((a + b) % 4294967296 : Nat) : Int) := by rw [IntKind.wrap_u32']; omega
theorem plus_cells (s x : Pl.Sha.St) : (#[.int .u32 (IntKind.u32.wrap ((s.a : Int) + x.a)), .int .u32 (IntKind.u32.wrap ((s.b : Int) + x.b)), .int .u32 (IntKind.u32.wrap ((s.c : Int) + x.c)), .int .u32 (IntKind.u32.wrap ((s.d : Int) + x.d)), .int .u32 (IntKind.u32.wrap ((s.e : Int) + x.e)), .int .u32 (IntKind.u32.wrap ((s.f : Int) + x.f)), .int .u32 (IntKind.u32.wrap ((s.g : Int) + x.g)), .int .u32 (IntKind.u32.wrap ((s.h : Int) + x.h))] : Array Value) = (uc (stL (Pl.Sha.plus s x))).toArray := by
  simp only [wrap_add]
  rfl
theorem ret_str {a b : ByteArray} (h : a = b) : Ending.returned (.string a) = .returned (.string b) := by rw [h]
set_option maxHeartbeats 16000000 in
theorem refSum_any (s : ByteArray) (P S : List UInt8) (w : World) (hs : (s.size : Int) ≤ 1000000) (hP : Pl.Sha.pad s.data.toList s.size = P) (hS : Pl.Sha.text (Pl.Sha.blocks Pl.Sha.first P (P.length / 64)) = S) :
    Calls Tryd.prog 8 #[.string s] w fun e w' => e = .returned (.string (bs S)) ∧ Below w.heap.size w w' := by
  have hpl := Pl.Sha.pad_length s.data.toList s.size
  have hsl : s.data.toList.length = s.size := by simp
  have hPl : P.length ≤ 1000200 := by
    have : Pl.Sha.gap s.data.toList.length < 64 := by unfold Pl.Sha.gap; omega
    rw [← hP]; omega
  have hP6 : P.length % 64 = 0 := by rw [← hP]; exact hpl.1
  have HP6 := Lib.hid hP6
  have HPad := Lib.hid (fun W => padded_any s P W hs hP)
  obtain ⟨F, hF⟩ : ∃ F, Pl.Sha.first = F := ⟨_, rfl⟩
  rw [hF] at hS
  have HS := Lib.hid hS
  have hFok : Ok F := by rw [← hF]; exact Ok.first
  have own0 : OwnU (w.alloc (.cells #[.int .u32 1779033703, .int .u32 3144134277, .int .u32 1013904242, .int .u32 2773480762, .int .u32 1359893119, .int .u32 2600822924, .int .u32 528734635, .int .u32 1541459225] 35)) w.heap.size (.slice (some ⟨w.heap.size, 0, none⟩) 8 8) (stL F) := by
    rw [← hF]; exact ownU_new w (stL Pl.Sha.first) (by decide)
  have HO0 := Lib.hid own0
  have hfk : Hid (Ok F) := hFok
  clear hpl hsl hP hS hP6 hF own0 hFok
  go_enter Tryd.func8, Tryd.ntmps8
  go_wp2_with fail
  have b0 := Joins.below_alloc1 w (.cells #[.int .u32 1779033703, .int .u32 3144134277, .int .u32 1013904242, .int .u32 2773480762, .int .u32 1359893119, .int .u32 2600822924, .int .u32 528734635, .int .u32 1541459225] 35)
  generalize w.alloc _ = w0 at *
  refine (HPad.out _).mono ?_
  rintro e w1 ⟨rfl, b1⟩
  have OW1 := Lib.hid (HO0.out.later b1)
  have b01 := b0.trans (b1.mono b0.size)
  go_wp2_with fail
  refine (constants_any _).mono ?_
  rintro e w2 ⟨rfl, hc2, b2, hlt2⟩
  have OW2 := Lib.hid (OW1.out.later b2)
  have HC2 := Lib.hid hc2
  have b02 := b01.trans (b2.mono b01.size)
  have hb01 := b01.size
  clear hc2 b1
  generalize w1.heap.size = c1 at *
  go_upto_region 5 with fail
  have hPi : (P.length : Int) = ((bs P).size : Nat) := by rw [bs_size]
  go_loopw [3, 6] (fun h at_ wr => ∃ j : Nat, 64 * j ≤ P.length ∧ at_ = .int .i64 (64 * (j : Int)) ∧ OwnU wr w.heap.size h (stL (Pl.Sha.blocks F P j)) ∧ Below w2.heap.size w2 wr) (fun _ at_ _ => P.length - (intOf at_).toNat)
  case atStart => exact ⟨0, by omega, rfl, OW2.out, Below.refl _ _⟩
  case round =>
    obtain ⟨j, hj, rfl, own, bj⟩ := hrel
    obtain ⟨sj, hsj⟩ : ∃ t, Pl.Sha.blocks F P j = t := ⟨_, rfl⟩
    have hokj : Ok sj := by rw [← hsj]; exact hfk.out.blocks _ _
    rw [hsj] at own
    obtain ⟨g, cap, rfl, hg1, hg2, hcell⟩ := own.form (by simp [stL])
    by_cases hlt : 64 * j < P.length
    · have h64 : 64 * j + 64 ≤ P.length := by have := HP6.out; omega
      have hl8 : (stL sj).length = 8 := rfl
      have own8 : OwnU wr w.heap.size (.slice (some ⟨g, 0, none⟩) 8 cap) (stL sj) := own
      rw [hl8]
      have e0 : wr.cell? ⟨g, 0, none⟩ = some (.int .u32 (sj.a : Nat)) := hcell 0 (by simp [stL])
      have e1 : wr.cell? ⟨g, 1, none⟩ = some (.int .u32 (sj.b : Nat)) := hcell 1 (by simp [stL])
      have e2 : wr.cell? ⟨g, 2, none⟩ = some (.int .u32 (sj.c : Nat)) := hcell 2 (by simp [stL])
      have e3 : wr.cell? ⟨g, 3, none⟩ = some (.int .u32 (sj.d : Nat)) := hcell 3 (by simp [stL])
      have e4 : wr.cell? ⟨g, 4, none⟩ = some (.int .u32 (sj.e : Nat)) := hcell 4 (by simp [stL])
      have e5 : wr.cell? ⟨g, 5, none⟩ = some (.int .u32 (sj.f : Nat)) := hcell 5 (by simp [stL])
      have e6 : wr.cell? ⟨g, 6, none⟩ = some (.int .u32 (sj.g : Nat)) := hcell 6 (by simp [stL])
      have e7 : wr.cell? ⟨g, 7, none⟩ = some (.int .u32 (sj.h : Nat)) := hcell 7 (by simp [stL])
      obtain ⟨B, hB⟩ : ∃ B, (P.drop (64 * j)).take 64 = B := ⟨_, rfl⟩
      have hBl : B.length = 64 := by rw [← hB]; exact blk_len P j h64
      have hBs : (bs B).size = 64 := by rw [bs_size]; exact hBl
      have hsl := sliceS2 (bs P) (64 * j) (64 * j + 64) (64 * (j : Int)) (64 * (j : Int) + 64) (by omega) (by omega) (by omega) (by rw [bs_size]; exact h64)
      rw [extract_bs P _ _ (by omega), Nat.add_sub_cancel_left, hB] at hsl
      have hwr : IntKind.i64.wrap (64 * (j : Int) + 64) = 64 * (j : Int) + 64 := by rw [IntKind.wrap_i64]; omega
      have hlti : 64 * (j : Int) < (P.length : Int) := by omega
      obtain ⟨n64, hn64⟩ : ∃ n, n = 64 := ⟨_, rfl⟩
      have hsch := fun W => schedule_n (bs B) n64 W hBs hn64
      rw [bs_list] at hsch
      have HN := Lib.hid hn64
      have HSch := Lib.hid hsch
      have hnext : Pl.Sha.blocks F P (j + 1) = Pl.Sha.plus sj (Pl.Sha.rnds sj (Pl.Sha.sched B n64) n64) := by
        rw [Pl.Sha.blocks, hsj, hB, Pl.Sha.turned, hn64]
      have HNext := Lib.hid hnext
      have OW := Lib.hid own8
      have hPli : (P.length : Int) ≤ 1000200 := by omega
      clear hcell own own8 hl8 hB hBl hBs hsch hn64 hnext hsj
      go_wp2_with fail
      refine (HSch.out _).mono ?_
      rintro e w3 ⟨⟨sv, rfl, osv⟩, b3⟩
      obtain ⟨g2, cap2, rfl, hg3, hg4, hcell2⟩ := osv.form (by rw [Pl.Sha.sched_length, HN.out]; decide)
      have hslen := Pl.Sha.sched_length B n64
      have hsbd := sched_lt B n64
      rw [hslen] at hcell2
      rw [hslen]
      have k0 : w3.cell? ⟨g, 0, none⟩ = some (.int .u32 (sj.a : Nat)) := (b3.cell (p := ⟨g, 0, none⟩) hg2).trans e0
      have k1 : w3.cell? ⟨g, 1, none⟩ = some (.int .u32 (sj.b : Nat)) := (b3.cell (p := ⟨g, 1, none⟩) hg2).trans e1
      have k2 : w3.cell? ⟨g, 2, none⟩ = some (.int .u32 (sj.c : Nat)) := (b3.cell (p := ⟨g, 2, none⟩) hg2).trans e2
      have k3 : w3.cell? ⟨g, 3, none⟩ = some (.int .u32 (sj.d : Nat)) := (b3.cell (p := ⟨g, 3, none⟩) hg2).trans e3
      have k4 : w3.cell? ⟨g, 4, none⟩ = some (.int .u32 (sj.e : Nat)) := (b3.cell (p := ⟨g, 4, none⟩) hg2).trans e4
      have k5 : w3.cell? ⟨g, 5, none⟩ = some (.int .u32 (sj.f : Nat)) := (b3.cell (p := ⟨g, 5, none⟩) hg2).trans e5
      have k6 : w3.cell? ⟨g, 6, none⟩ = some (.int .u32 (sj.g : Nat)) := (b3.cell (p := ⟨g, 6, none⟩) hg2).trans e6
      have k7 : w3.cell? ⟨g, 7, none⟩ = some (.int .u32 (sj.h : Nat)) := (b3.cell (p := ⟨g, 7, none⟩) hg2).trans e7
      have HC3 : Hid (∀ i, i < 64 → w3.cell? ⟨c1, i, none⟩ = some (.int .u32 (Pl.Sha.consts.getD i 0 : Nat))) := fun i hi => by
        rw [b3.cell (p := ⟨c1, i, none⟩) (Nat.lt_of_lt_of_le hlt2 bj.size), bj.cell (p := ⟨c1, i, none⟩) hlt2]
        exact HC2.out i hi
      have HW3 := Lib.hid hcell2
      have HBd := Lib.hid hsbd
      have OW3 := Lib.hid (OW.out.later b3)
      clear hcell2 hslen hsbd osv e0 e1 e2 e3 e4 e5 e6 e7
      go_upto_region 8 with fail
      go_quiet (fail)
      go_upto_region 10 with fail
      go_loopw [8, 9, 10, 11, 12, 13, 14, 15, 16] (fun p q r s t u v x i wr => ∃ k : Nat, k ≤ 64 ∧ i = .int .i64 k ∧ p = .int .u32 ((Pl.Sha.rnds sj (Pl.Sha.sched B n64) k).a : Nat) ∧ q = .int .u32 ((Pl.Sha.rnds sj (Pl.Sha.sched B n64) k).b : Nat) ∧ r = .int .u32 ((Pl.Sha.rnds sj (Pl.Sha.sched B n64) k).c : Nat) ∧ s = .int .u32 ((Pl.Sha.rnds sj (Pl.Sha.sched B n64) k).d : Nat) ∧ t = .int .u32 ((Pl.Sha.rnds sj (Pl.Sha.sched B n64) k).e : Nat) ∧ u = .int .u32 ((Pl.Sha.rnds sj (Pl.Sha.sched B n64) k).f : Nat) ∧ v = .int .u32 ((Pl.Sha.rnds sj (Pl.Sha.sched B n64) k).g : Nat) ∧ x = .int .u32 ((Pl.Sha.rnds sj (Pl.Sha.sched B n64) k).h : Nat) ∧ ∃ n, wr = w3.drewN n) (fun _ _ _ _ _ _ _ _ i _ => 64 - (intOf i).toNat)
      case atStart => exact ⟨0, by omega, rfl, rfl, rfl, rfl, rfl, rfl, rfl, rfl, rfl, _, rfl⟩
      case round =>
        obtain ⟨k, hk, rfl, rfl, rfl, rfl, rfl, rfl, rfl, rfl, rfl, n, rfl⟩ := hrel
        by_cases hk64 : k < 64
        · obtain ⟨x, hx⟩ : ∃ x, Pl.Sha.rnds sj (Pl.Sha.sched B n64) k = x := ⟨_, rfl⟩
          have hOx : Ok x := by rw [← hx]; exact hokj.rnds _ _
          rw [hx]
          have HX := Lib.hid hx
          clear hx
          obtain ⟨a, b', c', d, e, f, g', h⟩ := x
          obtain ⟨l1, l2, l3, l4, l5, l6, l7, l8⟩ := hOx
          dsimp only at l1 l2 l3 l4 l5 l6 l7 l8 ⊢
          have cC := HC3.out k hk64
          have cR := HW3.out k (by rw [HN.out]; exact hk64)
          have hkn : (k : Int) < (n64 : Int) := by have := HN.out; omega
          obtain ⟨wk, hwk⟩ : ∃ x, (Pl.Sha.sched B n64).getD k 0 = x := ⟨_, rfl⟩
          obtain ⟨ck, hck⟩ : ∃ x, Pl.Sha.consts.getD k 0 = x := ⟨_, rfl⟩
          have lwk : wk < 4294967296 := by rw [← hwk]; exact getD_lt _ HBd.out k
          rw [hwk] at cR
          rw [hck] at cC
          obtain ⟨p1, q1, r1, m1, y1, i1, i2, i3, i4, i5, i6, ly1⟩ := S1_steps e l5
          obtain ⟨p2, q2, r2', m2, y2, f1, f2, f3, f4, f5, f6, ly2⟩ := S0_steps a l1
          obtain ⟨p3, q3, r3, m3, y3, g1, g2', g3, g4, g5, g6, ly3⟩ := maj_or_bits a b' c' l1 l2 l3
          obtain ⟨p4, q4, y4, h1, h2, h3, h4, ly4⟩ := ch_or_bits e f g' l5 l6 l7
          have C6 := Lib.hid (fun w m n => quiet_at2 (turn6 e (World.drewN w (m + n)) l5))
          have C11 := Lib.hid (fun w m n => quiet_at2 (turn11 e (World.drewN w (m + n)) l5))
          have C25 := Lib.hid (fun w m n => quiet_at2 (turn25 e (World.drewN w (m + n)) l5))
          have C2 := Lib.hid (fun w => turn2 a w l1)
          have C13 := Lib.hid (fun w => turn13 a w l1)
          have C22 := Lib.hid (fun w => turn22 a w l1)
          rw [i1] at C6
          rw [i2] at C11
          rw [i3] at C25
          rw [f1] at C2
          rw [f2] at C13
          rw [f3] at C22
          obtain ⟨T1, hT1⟩ : ∃ t, (h + y1 + y4 + ck + wk) % 4294967296 = t := ⟨_, rfl⟩
          obtain ⟨T2, hT2⟩ : ∃ t, (y2 + y3) % 4294967296 = t := ⟨_, rfl⟩
          have lT1 : T1 < 4294967296 := by rw [← hT1]; exact Nat.mod_lt _ (by decide)
          have lT2 : T2 < 4294967296 := by rw [← hT2]; exact Nat.mod_lt _ (by decide)
          have HT1 := Lib.hid (show (((h : Int) + y1 + y4 + ck) % 4294967296 + wk) % 4294967296 = (T1 : Int) by omega)
          have HT2 := Lib.hid (show ((y2 : Int) + y3) % 4294967296 = (T2 : Int) by omega)
          have hnext1 : Pl.Sha.rnds sj (Pl.Sha.sched B n64) (k + 1) = ⟨(T1 + T2) % 4294967296, a, b', c', (d + T1) % 4294967296, e, f, g'⟩ := by
            rw [Pl.Sha.rnds, HX.out, hwk, hck, Pl.Sha.rnd]
            dsimp only
            rw [i4, h4, hT1, f4, g6, hT2]
          have HN1 := Lib.hid hnext1
          clear hnext1 hwk hck i1 i2 i3 i4 f1 f2 f3 f4 g6 h4 hT1 hT2
          go_upto_region 14 with fail
          go_quiet ((first | with_reducible exact C6.out _ _ _ | with_reducible exact C11.out _ _ _ | with_reducible exact C25.out _ _ _))
          go_upto_region 15 with fail
          rw [HT1.out]
          have ht2 := HT2.out
          go_wp2_with fail
          refine (C2.out _).mono ?_
          rintro e4 w4 ⟨rfl, rfl⟩
          go_wp2_with fail
          refine (C13.out _).mono ?_
          rintro e4 w4 ⟨rfl, rfl⟩
          go_wp2_with fail
          refine (C22.out _).mono ?_
          rintro e4 w4 ⟨rfl, rfl⟩
          go_wp2
          go_round
          case rel =>
            refine ⟨k + 1, by omega, by go_num, ?_⟩
            rw [HN1.out]
            exact ⟨by go_num, rfl, rfl, rfl, by go_num, rfl, rfl, rfl, _, rfl⟩
          case measure => simp [intOf]; omega
        · have hk : k = n64 := by have := HN.out; omega
          subst hk
          obtain ⟨x, hx⟩ : ∃ x, Pl.Sha.rnds sj (Pl.Sha.sched B k) k = x := ⟨_, rfl⟩
          rw [hx] at HNext ⊢
          have hokx' : Ok x := by rw [← hx]; exact hokj.rnds _ _
          clear hx
          have hge64 : (64 : Int) ≤ (k : Int) := by omega
          have hokx : Ok x := hokx'
          go_upto_region 24 with fail
          go_region_held3 (fun w' => w'.cell? ⟨g, 0, none⟩ = some (.int .u32 (sj.a : Nat)) ∧ w'.cell? ⟨g, 1, none⟩ = some (.int .u32 (sj.b : Nat)) ∧ w'.cell? ⟨g, 2, none⟩ = some (.int .u32 (sj.c : Nat)) ∧ w'.cell? ⟨g, 3, none⟩ = some (.int .u32 (sj.d : Nat)) ∧ w'.cell? ⟨g, 4, none⟩ = some (.int .u32 (sj.e : Nat)) ∧ w'.cell? ⟨g, 5, none⟩ = some (.int .u32 (sj.f : Nat)) ∧ w'.cell? ⟨g, 6, none⟩ = some (.int .u32 (sj.g : Nat)) ∧ w'.cell? ⟨g, 7, none⟩ = some (.int .u32 (sj.h : Nat)) ∧ Below w3.heap.size w3 w') (first | exact ⟨k0, k1, k2, k3, k4, k5, k6, k7, (Below.drewN (Below.refl _ w3) _).drew⟩ | exact ⟨k0, k1, k2, k3, k4, k5, k6, k7, (Below.drewN (Below.refl _ w3) _)⟩ | exact keep8 (by assumption) (by assumption) (by assumption) (by assumption) (by assumption) (by assumption) (by assumption) (by assumption) (by first | assumption | exact Below.drewN (Below.refl _ _) _) (Nat.le_refl _)) (fail)
          rw [plus_cells, ← HNext.out]
          have o5 : ∀ q : Nat, OwnU ((w3.drewN q).alloc (.cells (uc (stL (Pl.Sha.blocks F P (j + 1)))).toArray 35)) w.heap.size (.slice (some ⟨w3.heap.size, 0, none⟩) 8 8) (stL (Pl.Sha.blocks F P (j + 1))) := fun q =>
            OwnU.mono (ownU_new (w3.drewN q) (stL (Pl.Sha.blocks F P (j + 1))) (by show 8 ≤ 1000000; decide)) (Nat.le_trans hg1 (Nat.le_trans (Nat.le_of_lt hg2) b3.size))
          have b5 : ∀ q : Nat, Below w2.heap.size w2 ((w3.drewN q).alloc (.cells (uc (stL (Pl.Sha.blocks F P (j + 1)))).toArray 35)) := fun q =>
            Below.alloc (Below.drewN (bj.trans (b3.mono bj.size)) q) (Nat.le_trans bj.size b3.size) _
          have O5 := Lib.hid o5
          have B5 := Lib.hid b5
          clear o5 b5
          clear k0 k1 k2 k3 k4 k5 k6 k7
          go_wp2
          go_round
          case rel => exact ⟨j + 1, by omega, by go_num, O5.out _, B5.out _⟩
          case measure => simp [intOf]; omega
    · have hje : j = P.length / 64 := by have := HP6.out; omega
      have htx : Pl.Sha.text sj = S := by rw [← HS.out, ← hje, hsj]
      have hl8 : (stL sj).length = 8 := rfl
      have hlti : ¬ 64 * (j : Int) < (P.length : Int) := by omega
      rw [hl8] at hcell ⊢
      have HCell := Lib.hid hcell
      have HTx := Lib.hid htx
      have hbw := b02.trans (bj.mono b02.size)
      clear hcell own hje htx hl8 hsj
      generalize wr = wo at *
      go_upto_region 27 with fail
      have C0 : Hid (bs (tk sj 0) = ByteArray.mk #[]) := rfl
      go_loopw [21, 22] (fun o i wr => ∃ k : Nat, k ≤ 8 ∧ i = .int .i64 k ∧ o = .string (bs (tk sj k)) ∧ Below wo.heap.size wo wr) (fun _ i _ => 8 - (intOf i).toNat)
      case atStart => exact ⟨0, by omega, rfl, rfl, Below.refl _ _⟩
      case round =>
        obtain ⟨k, hk, rfl, rfl, bq⟩ := hrel
        by_cases hlt8 : k < 8
        · have ck : wr.cell? ⟨g, k, none⟩ = some (.int .u32 ((stL sj).getD k 0 : Nat)) := (bq.cell (p := ⟨g, k, none⟩) hg2).trans (HCell.out k hlt8)
          have hgq : g < wr.heap.size := Nat.lt_of_lt_of_le hg2 bq.size
          have htk := tk_succ sj k hlt8
          have htl := tk_length sj k hk
          obtain ⟨x, hx⟩ : ∃ x, (stL sj).getD k 0 = x := ⟨_, rfl⟩
          rw [hx] at ck htk
          have hb4 := bc_bytes4 x
          obtain ⟨Y, hY⟩ : ∃ Y, tk sj k = Y := ⟨_, rfl⟩
          rw [hY] at htk htl ⊢
          obtain ⟨Z, hZ⟩ : ∃ Z, Pl.Sha.bytes4 x = Z := ⟨_, rfl⟩
          rw [hZ] at htk hb4
          have hZl : Z.length = 4 := by rw [← hZ]; rfl
          have hcat : bs Y ++ bs Z = bs (Y ++ Z) := by rw [bs_append, bs_list]
          have hzs : ¬ (9223372036854775807 < (bs Y).size + (bs Z).size) := by rw [bs_size, bs_size]; omega
          have hnew : ∀ W : World, Sl (W.alloc (.cells #[.int .u8 ((x : Int) / 16777216 % 256), .int .u8 ((x : Int) / 65536 % 256), .int .u8 ((x : Int) / 256 % 256), .int .u8 ((x : Int) % 256)] 5)) W.heap.size (.slice (some ⟨W.heap.size, 0, none⟩) 4 4) Z := by
            intro W
            have := Sl.new W Z
            rw [hb4, hZl] at this
            rcases this with h | h
            · exact h
            · simp [maxLen] at h
          have hcv : (convert 37 9 (.slice (some ⟨wr.heap.size, 0, none⟩) 4 4)).run Tryd.prog (wr.alloc (.cells #[.int .u8 (IntKind.u8.wrap ((x : Int) / 16777216)), .int .u8 (IntKind.u8.wrap ((x : Int) / 65536)), .int .u8 (IntKind.u8.wrap ((x : Int) / 256)), .int .u8 (IntKind.u8.wrap (x : Int))] 5)).drew = .ok (.string (bs Z)) (wr.alloc (.cells #[.int .u8 (IntKind.u8.wrap ((x : Int) / 16777216)), .int .u8 (IntKind.u8.wrap ((x : Int) / 65536)), .int .u8 (IntKind.u8.wrap ((x : Int) / 256)), .int .u8 (IntKind.u8.wrap (x : Int))] 5)).drew := by
            have hw8 : ∀ z : Int, IntKind.u8.wrap z = z % 256 := fun z => by simp [IntKind.wrap, IntKind.bits, IntKind.signed]
            simp only [hw8]
            exact conv_sl _ wr.heap.size _ Z (Sl.drew (hnew wr))
          have HTK := Lib.hid htk
          clear htk htl hx hY hZ hb4 hnew hZl
          go_upto_region 29 with fail
          go_region_held (fun w' => w'.cell? ⟨g, k, none⟩ = some (.int .u32 (x : Nat)) ∧ Below wr.heap.size wr w') (first | exact ⟨ck, (Below.drewN (Below.refl _ wr) _)⟩ | exact ⟨((Joins.below_alloc1 _ _).cell (p := ⟨g, k, none⟩) hgq).trans ck, (Below.drewN (Below.refl _ wr) _).alloc (Nat.le_refl _) _⟩) (fail)
          have bfin := fun o => (bq.alloc bq.size o).drew
          have BF := Lib.hid bfin
          clear bfin hcv
          all_goals
            go_wp2
            go_round
            case rel => exact ⟨k + 1, by omega, by go_num, by rw [HTK.out], BF.out _⟩
            case measure => simp [intOf]; omega
        · have : k = 8 := by omega
          subst this
          have hS : bs (tk sj 8) = bs S := by rw [tk_all, HTx.out]
          rw [hS]
          go_wp2
          go_ret
          exact ⟨rfl, hbw.trans (bq.mono hbw.size)⟩
end Go.Proofs.YtfnjcobgbdioeaaDoor.WalkSha
