/-
  The walk of sha.text: a state's bytes.
-/
import Derived.Test.YtfnjcobgbdioeaaDoorWalkShaB
import Derived.Test.YtfnjcobgbdioeaaDoorBytesRow
import Derived.OwnWalk
import Derived.Maps.AppendAt
import Derived.Lib.AppendStr
namespace Go.Proofs.YtfnjcobgbdioeaaDoor.WalkSha
open Go.RowKit Go.Proofs.YtfnjcobgbdioeaaDoor.BytesRow
set_option linter.unusedVariables false
set_option linter.unusedSimpArgs false
set_option maxRecDepth 100000

/-- the bytes of the first k words -/
def tk (s : Pl.Sha.St) (k : Nat) : List UInt8 := ((stL s).take k).flatMap Pl.Sha.bytes4
theorem tk_succ (s : Pl.Sha.St) (k : Nat) (h : k < 8) : tk s (k + 1) = tk s k ++ Pl.Sha.bytes4 ((stL s).getD k 0) := by
  unfold tk
  have hl : k < (stL s).length := h
  rw [List.take_succ_eq_append_getElem hl, List.flatMap_append, List.getD_eq_getElem?_getD, List.getElem?_eq_getElem hl]
  simp
theorem tk_all (s : Pl.Sha.St) : tk s 8 = Pl.Sha.text s := by simp [tk, stL, Pl.Sha.text]
theorem bytes4_length (n : Nat) : (Pl.Sha.bytes4 n).length = 4 := rfl
theorem tk_length (s : Pl.Sha.St) (k : Nat) (h : k ≤ 8) : (tk s k).length = 4 * k := by
  induction k with
  | zero => simp [tk]
  | succ k ih => rw [tk_succ s k h, List.length_append, ih (by omega), bytes4_length]; omega
theorem idx8 (C : Array Value) (k : Nat) (x : Nat) (h : C[k]? = some (.int .u32 (x : Nat))) (hk : k < 8) (w : World) :
    (Instr.index 36 (.agg C) (.int .i64 (k : Int))).run Tryd.prog w = .ok (.int .u32 (x : Nat)) w := by
  have h1 : (k : Int) < 8 := by omega
  have hl : k < C.size := (Array.getElem?_eq_some_iff.1 h).1
  have hv := (Array.getElem?_eq_some_iff.1 h).2
  go_simp
  simp [Instr.index, asIntOf, part, h1, h]
  intro hk2
  omega
theorem bc_bytes4 (x : Nat) : bc (Pl.Sha.bytes4 x) = [.int .u8 ((x : Int) / 16777216 % 256), .int .u8 ((x : Int) / 65536 % 256), .int .u8 ((x : Int) / 256 % 256), .int .u8 ((x : Int) % 256)] := by
  have h : ∀ n : Nat, ((UInt8.ofNat n).toNat : Int) = ((n % 256 : Nat) : Int) := fun n => by simp [UInt8.toNat_ofNat']
  simp only [bc, Pl.Sha.bytes4, List.map_cons, List.map_nil, h]
  have e1 : ((x / 2 ^ 24 % 256 : Nat) : Int) = (x : Int) / 16777216 % 256 := by omega
  have e2 : ((x / 2 ^ 16 % 256 : Nat) : Int) = (x : Int) / 65536 % 256 := by omega
  have e3 : ((x / 2 ^ 8 % 256 : Nat) : Int) = (x : Int) / 256 % 256 := by omega
  have e4 : ((x % 256 : Nat) : Int) = (x : Int) % 256 := by omega
  rw [e1, e2, e3, e4]
set_option maxHeartbeats 800000 in
theorem text_any (s : Pl.Sha.St) (w : World) (hs : Ok s) :
    Calls Tryd.prog 25 #[.agg (stV s)] w fun e w' => e = .returned (.string ⟨(Pl.Sha.text s).toArray⟩) ∧ Below w.heap.size w w' := by
  obtain ⟨i0, hi, hz0, hz1, hz2⟩ := info_parts info_u8
  unfold stV
  go_enter Tryd.func25, Tryd.ntmps25
  go_upto_region 3 with (first | (at_make; refine wpList_make_own _ rfl _ _ 37 rfl w.heap.size 5 i0 (.int .u8 0) 1 Tryd.underlying37 hi hz0 hz1 _ _ _ 32 rfl rfl (by omega) ?bytes ?maxLen ?base ?_) | go_in)
  case bytes => rw [hz2]; decide
  case maxLen => decide
  case base => simp
  rintro w1 hown hgr
  obtain ⟨w0, hw0⟩ : ∃ w0, w.alloc (.cells (stV s) 36) = w0 := ⟨_, rfl⟩
  have hst0 : StAt w.heap.size s w0 := by rw [← hw0]; exact heap_alloc_last _ _
  have z0 : w0.heap.size = w.heap.size + 1 := by rw [← hw0]; simp
  have b0 : Below w.heap.size w w0 := by rw [← hw0]; exact Joins.below_alloc1 _ _
  unfold stV at hw0
  rw [hw0] at hgr
  clear hw0
  have hst1 : w1.heap[w.heap.size]? = some (.cells (stV s) 36) := by rw [hgr.block _ (by omega) (by simp)]; exact hst0
  have b1 : Below w.heap.size w w1 := b0.grown hgr (by omega) (by simp)
  have n1 := hgr.size
  obtain ⟨C, hC⟩ : ∃ C, stV s = C := ⟨_, rfl⟩
  have hC8 : C.size = 8 := by rw [← hC]; rfl
  have hg : ∀ k, k < 8 → C[k]? = some (.int .u32 ((stL s).getD k 0 : Nat)) := fun k h => by rw [← hC]; exact stV_get s k h
  rw [hC] at hst1
  have hi8 : (Tryd.prog.info? 36).map (·.size) = some C.size := by rw [hC8]; kernel_rfl
  have hu : Tryd.prog.underlying 36 = some (.array 8 35) := Tryd.underlying36
  go_upto_region 2 with fail
  apply wp_region_lit
  refine wpList_load_row rfl 36 _ rfl w.heap.size rfl 36 C _ _ hst1 hu rfl hi8 ?_
  clear hst1 hi8 hu hst0 b0 hgr
  go_upto_region 3 with fail
  go_loopw [3, 8] (fun o i wr => ∃ k : Nat, k ≤ 8 ∧ i = .int .i64 k ∧ wr.ownsRow w.heap.size 5 1 o (4 * k) (bc (tk s k)) ∧ Below w.heap.size w wr) (fun _ i _ => 8 - (intOf i).toNat)
  case atStart => exact ⟨0, by omega, rfl, hown, b1⟩
  case round =>
    obtain ⟨k, hk, rfl, hown, hB⟩ := hrel
    by_cases hlt : k < 8
    · have hgk := hg k hlt
      obtain ⟨x, hx⟩ : ∃ x, (stL s).getD k 0 = x := ⟨_, rfl⟩
      rw [hx] at hgk
      have hidx := idx8 C k x hgk hlt
      clear hg hgk
      have HB4 := Lib.hid (bc_bytes4 x)
      go_wp2_with (at_builtin; go_must (refine wpList_append_own _ rfl _ _ 37 rfl w.heap.size 5 i0 (.int .u8 0) 1 1 Tryd.underlying37 hi hz0 hz1 hz2 rfl (by decide) _ _ _ rfl (hown.alloc _) ⟨wr.heap.size, 0, none⟩ 4 4 [.int .u8 ((x : Int) / 16777216 % 256), .int .u8 ((x : Int) / 65536 % 256), .int .u8 ((x : Int) / 256 % 256), .int .u8 ((x : Int) % 256)] rfl rfl (cells_new _ _ _) (by rw [← HB4.out]; exact bc_one _) (by unfold maxLen; omega) (by omega) (by simp; have := hB.size; omega) ?_); intro v' w2 hown3 hgrow _)
      go_roundw
      case rel => exact ⟨k + 1, by omega, by go_num, by rw [tk_succ s k hlt, hx, bc_append, HB4.out]; exact hown3, (hB.alloc hB.size _).grown hgrow (by simp; have := hB.size; omega) (fun k hk => (hown.lt k hk).1)⟩
      case measure => simp [intOf]; omega
    · have : k = 8 := by omega
      subst this
      rw [tk_all] at hown
      have hcv := conv_sl wr w.heap.size u3 (Pl.Sha.text s) (Sl.of_own hown)
      go_wp2
      go_ret
      exact ⟨rfl, hB⟩
end Go.Proofs.YtfnjcobgbdioeaaDoor.WalkSha
