/-
  The walks of disk.noughts, plain.Noughts, plain.Full; slices.Repeat of one text.
-/
import Derived.Test.YtfbakelpplpomaaGreatDoorWalkDiskI
import Derived.Test.YtfbakelpplpomaaGreatDoorShelf
import Derived.Lib.ConvBytes
import Derived.Lib.LazyBuf
import Derived.Deep.OwnRows
import Derived.Laws.CopyOwn
import Derived.Deep.RegionLaw
namespace Go.Proofs.YtfbakelpplpomaaGreatDoor.Disk
open Go.RowKit Go.Proofs.YtfbakelpplpomaaGreatDoor.DiskRows
set_option linter.unusedVariables false
set_option linter.unusedSimpArgs false
set_option maxRecDepth 100000

def bs (l : List UInt8) : ByteArray := ⟨l.toArray⟩
theorem bs_size (l : List UInt8) : (bs l).size = l.length := by simp [bs, ByteArray.size]
theorem bs_append (a b : List UInt8) : bs a ++ bs b = bs (a ++ b) := by
  apply ByteArray.ext
  simp [bs]
theorem bs_list (l : List UInt8) : (bs l).data.toList = l := by simp [bs]
theorem bs_of (s : ByteArray) : bs s.data.toList = s := by apply ByteArray.ext; simp [bs]
theorem nums_bs (l : List UInt8) : strOfNums (l.map fun b => (b.toNat : Int)) = bs l := Lib.Lz.strOfNums_map l
theorem extract_list (s : ByteArray) (a b : Nat) : (s.extract a b).data.toList = (s.data.toList.drop a).take (b - a) := by
  simp [ByteArray.data_extract, Array.toList_extract, List.extract]
theorem maxTwo (ats : Array TypeId) (ty : TypeId) (a b : Value) : Builtin.max_ ats ty #[a, b] = (Builtin.max2 a b >>= fun s => pure s) := by simp only [Builtin.max_, List.foldlM_cons, List.foldlM_nil]
theorem maxInt2 (k k' : IntKind) (x y : Int) : Builtin.max2 (.int k x) (.int k' y) = pure (.int k (if x < y then y else x)) := by simp only [Builtin.max2]
attribute [local go_sem] maxTwo
/-- n noughts -/
def zeros (n : Nat) : List UInt8 := List.replicate n 0
theorem repeat_any (n : Nat) (w : World) (hn : n ≤ 4096) :
    Calls Tryz.prog 39 #[.string ⟨#[0]⟩, .int .i64 n] w fun e w' => e = .returned (.string (bs (zeros n))) ∧ Below w.heap.size w w' := by
  have h1 : (⟨#[0]⟩ : ByteArray).size = 1 := rfl
  have := Tryz.strings_Repeat ⟨#[0]⟩ n w (by omega) (by rw [h1]; omega)
  have e : (Lib.repeatL (⟨#[0]⟩ : ByteArray).data.toList n) = zeros n := by
    have h2 := Lib.repeatL_replicate 0 1 n
    rw [Nat.mul_one] at h2
    exact h2
  rw [e] at this
  exact this
theorem nought_any (w : World) : Calls Tryz.prog 28 #[] w fun e w' => e = .returned (.string (bs (zeros 128))) ∧ Below w.heap.size w w' := by
  have hr := repeat_any 128 w (by omega)
  have HR := Lib.hid hr
  clear hr
  go_enter Tryz.func28, Tryz.ntmps28
  go_wp2_with fail
  refine HR.out.mono ?_
  rintro x w1 ⟨rfl, b1⟩
  go_wp2
  go_ret
  exact ⟨rfl, b1⟩
theorem info_u8 : (Tryz.prog.info? 5).map (fun i => (i.zero, i.size, i.bytes)) = some (some (.int .u8 0), 1, 1) := by kernel_rfl
theorem conv_zeros (n : Nat) (w : World) :
    (convert 107 9 (.slice (some ⟨w.heap.size, 0, none⟩) n n)).run Tryz.prog (w.alloc (.cells (madeCells #[.int .u8 0] n) 5)) = .ok (.string (bs (zeros n))) (w.alloc (.cells (madeCells #[.int .u8 0] n) 5)) := by
  have e : bs (zeros n) = strOfNums (List.replicate n 0) := by rw [← nums_bs]; simp [zeros]
  rw [e]
  refine run_convert_bytes_arg _ 107 5 Tryz.underlying107 Tryz.underlying5 _ 0 n n (List.replicate n 0) (by simp) (fun j hj => ?_) _ Tryz.underlying9
  rw [Nat.zero_add, (World.rowIs_made w (.int .u8 0) n 5).cell hj]
  simp [List.getD_eq_getElem?_getD, hj]
theorem noughts_any (n : Nat) (w : World) (hn : n ≤ 4096) :
    Calls Tryz.prog 46 #[.int .i64 n] w fun e w' => e = .returned (.string (bs (zeros n))) ∧ Below w.heap.size w w' := by
  have hmk := run_make_row' (P := Tryz.prog) 107 5 (.int .u8 0) 1 Tryz.underlying107 info_u8 rfl .i64 .i64 n (by omega) (by omega)
  have hcz := conv_zeros n
  have hmx : Builtin.max2 (.int .i64 (n : Int)) (.int .i64 0) = pure (.int .i64 (n : Int)) := by
    rw [maxInt2]
    rw [if_neg (by omega)]
  go_enter Tryz.func46, Tryz.ntmps46
  go_wp2
  go_ret
  exact ⟨rfl, (Below.refl _ _).alloc (Nat.le_refl _) _⟩
/-- a text with noughts behind it, or cut off -/
def full (s : ByteArray) : ByteArray := bs ((s.data.toList ++ zeros 128).take 128)
theorem full_size (s : ByteArray) : (full s).size = 128 := by
  unfold full
  rw [bs_size]
  simp [zeros]
theorem plainFull_any (s : ByteArray) (w : World) (hs : s.size ≤ 140737488355328) :
    Calls Tryz.prog 13 #[.string s] w fun e w' => e = .returned (.string (full s)) ∧ Below w.heap.size w w' := by
  have hz0 : (bs (zeros 128)).size = 128 := by rw [bs_size]; simp [zeros]
  have hzz : ¬ (9223372036854775807 < s.size + (bs (zeros 128)).size) := by rw [hz0]; omega
  have HN : Hid (∀ w, Calls Tryz.prog 46 #[.int .i64 128] w fun e w' => e = .returned (.string (bs (zeros 128))) ∧ Below w.heap.size w w') := fun w => noughts_any 128 w (by omega)
  have hx : (s ++ bs (zeros 128)).extract 0 128 = full s := by
    unfold full
    rw [← bs_of ((s ++ bs (zeros 128)).extract 0 128), extract_list]
    congr 1
  have hl : (128 : Int) ≤ ((s ++ bs (zeros 128)).size : Int) := by rw [ByteArray.size_append, hz0]; omega
  have HX := Lib.hid hx
  generalize bs (zeros 128) = Z at *
  clear hx hz0
  go_enter Tryz.func13, Tryz.ntmps13
  go_wp2_with (go_at_call 46; refine (HN.out _).mono ?_; rintro e w1 ⟨rfl, hB⟩)
  go_ret
  exact ⟨by rw [← HX.out]; rfl, hB⟩
/-- texts behind so many copies -/
def reps (s : ByteArray) (n k : Nat) : List ByteArray := List.replicate k s ++ List.replicate (n - k) ByteArray.empty
theorem reps_length (s : ByteArray) (n k : Nat) (h : k ≤ n) : (reps s n k).length = n := by simp [reps]; omega
theorem sv_reps (s : ByteArray) (n k : Nat) : sv (reps s n k) = List.replicate k (.string s) ++ List.replicate (n - k) (.string ByteArray.empty) := by simp [sv, reps]
theorem splice_reps (s : ByteArray) (n k m : Nat) (h : k + m ≤ n) : splice (sv (reps s n k)) k (sv (List.replicate m s)) = sv (reps s n (k + m)) := by
  rw [sv_reps, sv_reps]
  unfold splice sv
  simp only [List.map_replicate, List.length_replicate]
  rw [List.take_append_of_le_length (by simp), List.drop_append]
  simp only [List.take_replicate, List.drop_replicate, List.length_replicate]
  rw [show min k k = k by omega, show k - (k + m) = 0 by omega, show n - k - (k + m - k) = n - (k + m) by omega]
  simp only [List.replicate_zero, List.nil_append, ← List.append_assoc, List.replicate_append_replicate]
theorem repeat1_any (A : Option Addr) (c n : Nat) (s : ByteArray) (w : World) (h : Txs w A [s]) (hn : 16 ≤ n) (hn2 : n ≤ 4096) :
    Calls Tryz.prog 27 #[.slice A 1 c, .int .i64 n] w fun e w' => (∃ g cap, e = .returned (.slice (some ⟨g, 0, none⟩) n cap) ∧ RowS w' g cap (List.replicate n s) ∧ w.heap.size ≤ g) ∧ Below w.heap.size w w' := by
  obtain ⟨g0, o0, rfl, hg0, hc0⟩ : ∃ g off, A = some ⟨g, off, none⟩ ∧ g < w.heap.size ∧ ∀ i, i < [s].length → w.cell? ⟨g, off + i, none⟩ = some (.string ([s].getD i ByteArray.empty)) := by
    rcases h with h | h
    · cases h
    · exact h
  have q0 : w.cell? ⟨g0, o0, none⟩ = some (.string s) := by simpa using hc0 0 (by simp)
  have hmul := Tryz.bits_Mul 1 n (by omega) (by omega) w
  rw [show 1 * n / 18446744073709551616 = 0 by omega, show 1 * n % 18446744073709551616 = n by omega] at hmul
  have HM := Lib.hid hmul
  have hmk := run_make_row' (P := Tryz.prog) 25 9 (.string ByteArray.empty) 16 Tryz.underlying25 info_str rfl .i64 .i64 n (by omega) (by omega)
  have hni : (n : Int) ≤ 4096 := by omega
  have ka := Joins.below_alloc1 w (.cells (madeCells #[.string ByteArray.empty] n) 9)
  have hrow : (w.alloc (.cells (madeCells #[.string ByteArray.empty] n) 9)).heap[w.heap.size]? = some (.cells (sv (reps s n 0)).toArray 9 (0, 0)) := by
    rw [heap_alloc_last]
    congr 2
    simp [madeCells, reps, sv]
    apply Array.ext
    · simp
    · intro i h1 h2
      simp [Nat.mod_one]
  have HR := Lib.hid (And.intro hrow ka)
  clear h hc0 hmul hrow ka
  go_enter Tryz.func27, Tryz.ntmps27
  go_upto_region 7 with (go_at_call 57; go_must (refine HM.out.mono ?_; rintro e w1 ⟨rfl, rfl⟩))
  have a0 := (HR.out.2.cell (p := ⟨g0, o0, none⟩) hg0).trans q0
  have hsrc0 : ∀ j v, (sv [s])[j]? = some v → (w1.alloc (.cells (madeCells #[.string ByteArray.empty] n) 9)).cell? ((⟨g0, o0, none⟩ : Addr).add j) = some v := fun j v hj => by
    have hj0 : j = 0 := by
      have := (List.getElem?_eq_some_iff.1 hj).1
      simp [sv] at this
      exact this
    subst hj0
    simp [sv] at hj
    subst hj
    rw [Addr.add_zero']
    exact a0
  have hl1 : (sv [s]).length = Nat.min 1 n := by show 1 = min 1 n; omega
  have hl2 : 0 + (sv [s]).length ≤ (sv (reps s n 0)).length := by rw [sv_length, sv_length, reps_length _ _ _ (by omega)]; simp; omega
  have HF := Lib.hid (And.intro hsrc0 (And.intro hl1 hl2))
  have hsz : (Tryz.prog.info? 9).map (·.size) = some 1 := by kernel_rfl
  clear hmk HM hsrc0 hl1 hl2
  go_upto_region 8 with (with_reducible refine wpList_copy_splice rfl (.tmp 31) (.tmp 32) 25 25 rfl 9 Tryz.underlying25 hsz (some ⟨w1.heap.size, 0, none⟩) (some ⟨g0, o0, none⟩) n n 1 c rfl rfl w1.heap.size 0 (sv (reps s n 0)) 9 HR.out.1 (sv [s]) HF.out.2.1 (fun _ => ⟨rfl, ⟨g0, o0, none⟩, rfl, HF.out.1⟩) HF.out.2.2 (sv_one _) w1.heap.size w1 HR.out.2 (Nat.le_refl _) ?_; intro w2 hr2 b2)
  have hw2 : w2.heap[w1.heap.size]? = some (.cells (sv (reps s n 1)).toArray 9 (0, 0)) := by
    have := hr2.out
    rwa [show ([s] : List ByteArray) = List.replicate 1 s from rfl, splice_reps s n 0 1 (by omega)] at this
  have hone : (sv [s]).length = 1 := rfl
  rw [hone]
  have H2 := Lib.hid (And.intro hw2 b2)
  clear hr2 hw2 b2 HR HF a0 hone
  obtain ⟨g, hg⟩ : ∃ g, w1.heap.size = g := ⟨_, rfl⟩
  rw [hg] at H2 hg0 ⊢
  go_loopw [8] (fun i wr => ∃ k : Nat, 1 ≤ k ∧ k ≤ n ∧ i = .int .i64 k ∧ wr.heap[g]? = some (.cells (sv (reps s n k)).toArray 9 (0, 0)) ∧ Below g w1 wr) (fun i _ => n - (intOf i).toNat)
  case atStart => exact ⟨1, by omega, by omega, rfl, H2.out.1, H2.out.2⟩
  case round =>
    obtain ⟨k, hk1, hk, rfl, hr, bk⟩ := hrel
    by_cases hlt : k < n
    · obtain ⟨m, hm⟩ : ∃ m, min k (n - k) = m := ⟨_, rfl⟩
      have hm1 : 1 ≤ m := by omega
      have hmn : k + m ≤ n := by omega
      have hsp := splice_reps s n k m hmn
      have hsrc : ∀ j v, (sv (List.replicate m s))[j]? = some v → wr.drew.cell? ((⟨g, 0, none⟩ : Addr).add j) = some v := fun j v hj => by
        have hj0 : j < m := by
          have := (List.getElem?_eq_some_iff.1 hj).1
          simpa [sv] using this
        rw [Addr.add_lit, Nat.zero_add]
        show wr.cell? ⟨g, j, none⟩ = some v
        rw [cell_of_row wr g j _ _ _ hr, ← hj, sv_reps]
        simp [sv, List.getElem?_append, List.getElem?_replicate, hj0, show j < k by omega]
      have hl1 : (sv (List.replicate m s)).length = Nat.min k (n - k) := by rw [sv_length]; simp; exact hm.symm
      have hl2 : k + (sv (List.replicate m s)).length ≤ (sv (reps s n k)).length := by rw [sv_length, sv_length, reps_length _ _ _ (by omega)]; simp; omega
      have hl3 : (sv (List.replicate m s)).length = m := by rw [sv_length]; simp
      have hone := sv_one (List.replicate m s)
      generalize sv (List.replicate m s) = cs at *
      have HF := Lib.hid (And.intro hsrc (And.intro hl1 (And.intro hl2 (And.intro hone hsp))))
      have HD := Lib.hid (And.intro (show wr.drew.heap[g]? = some (.cells (sv (reps s n k)).toArray 9 (0, 0)) from hr) bk.drew)
      have hwr : IntKind.i64.wrap ((k : Int) + (m : Int)) = (k : Int) + (m : Int) := by rw [IntKind.wrap_i64]; omega
      have hki : (k : Int) < (n : Int) := by omega
      have hnk : ¬ n = k := by omega
      have hmi : (k : Int) + (m : Int) ≤ (n : Int) := by omega
      clear hsrc hl1 hl2 hsp hr bk hm hone
      go_upto_region 9 with fail
      go_region_law (refine step_copy_splice rfl (.tmp 41) (.tmp 44) 25 25 rfl 9 Tryz.underlying25 hsz (some ⟨g, k, none⟩) (some ⟨g, 0, none⟩) (n - k) (n - k) k n (by simp [Act.eval, Act.put]) (by simp [Act.eval, Act.put]) g k (sv (reps s n k)) 9 HD.out.1 cs HF.out.2.1 (fun _ => ⟨rfl, ⟨g, 0, none⟩, rfl, HF.out.1⟩) HF.out.2.2.1 HF.out.2.2.2.1 g w1 HD.out.2 (Nat.le_refl _) ?_; intro w4 hr4 b4; rw [hl3])
      have hr5 := hr4.out
      rw [HF.out.2.2.2.2] at hr5
      clear HF HD hr4
      have hkm : k + m ≤ n := hmn
      have HW := Lib.hid (And.intro hr5 b4)
      clear hwr hr5 b4
      simp [Act.put, Exit.inBlock]
      go_wp2
      go_round
      case rel =>
        refine ⟨_, _, _, _, _, _, _, _, _, _, _, _, _, _, ⟨k + m, by omega, hkm, ?_, HW.out.1, HW.out.2⟩, rfl⟩
        simp
      case measure => simp [intOf]; omega
    · have hkn : k = n := by omega
      subst hkn
      rw [show reps s k k = List.replicate k s by simp [reps]] at hr
      go_wp2
      go_ret
      exact ⟨⟨g, k, rfl, ⟨⟨_, hr, by simp [sv], by simp [sv]⟩, by simp, by unfold maxLen; omega⟩, by omega⟩, hg ▸ bk⟩
end Go.Proofs.YtfbakelpplpomaaGreatDoor.Disk
