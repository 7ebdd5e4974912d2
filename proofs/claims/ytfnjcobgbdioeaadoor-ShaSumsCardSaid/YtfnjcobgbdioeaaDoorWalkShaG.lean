/-
  The walks of sha.Sum, sha.Hex.
-/
import Derived.Test.YtfnjcobgbdioeaaDoorWalkShaF
import Derived.Test.YtfnjcobgbdioeaaDoorWalkBytes
namespace Go.Proofs.YtfnjcobgbdioeaaDoor.WalkSha
open Go.RowKit Go.Proofs.YtfnjcobgbdioeaaDoor.BytesRow Go.Proofs.YtfnjcobgbdioeaaDoor.WalkBytes
set_option linter.unusedVariables false
set_option linter.unusedSimpArgs false
set_option maxRecDepth 100000

/-- texts, one behind the other -/
def cat (l : List ByteArray) : List UInt8 := l.flatMap fun s => s.data.toList
theorem cat_take (l : List ByteArray) (k : Nat) (h : k < l.length) : cat (l.take (k + 1)) = cat (l.take k) ++ (l.getD k ByteArray.empty).data.toList := by
  unfold cat
  rw [List.take_succ_eq_append_getElem h, List.flatMap_append, List.getD_eq_getElem?_getD, List.getElem?_eq_getElem h]
  simp
theorem cat_length (l : List ByteArray) : (cat l).length = total l := by
  induction l with
  | nil => rfl
  | cons s l ih =>
    have : cat (s :: l) = s.data.toList ++ cat l := by simp [cat]
    rw [this, List.length_append, ih]
    simp [total]
theorem total_take (l : List ByteArray) : ∀ k, total (l.take k) ≤ total l := by
  induction l with
  | nil => intro k; simp [total]
  | cons s l ih =>
    intro k
    cases k with
    | zero => simp [total]
    | succ k => simp only [List.take_succ_cons, total]; have := ih k; omega
/-- bytes as a text -/
def bs (l : List UInt8) : ByteArray := ⟨l.toArray⟩
theorem bs_size (l : List UInt8) : (bs l).size = l.length := by show l.toArray.size = _; simp
theorem bs_list (l : List UInt8) : (bs l).data.toList = l := by simp [bs]
theorem bs_eta (s : ByteArray) : bs s.data.toList = s := by cases s; simp [bs]
theorem hsum_any (b : Nat) (l S : List UInt8) (w : World) (ht : Tab w) (h : HashAt b l w) (hb1 : 1 < b) (hn : (l.length : Int) ≤ 140737488355328) (hS : Pl.Sha.sum l = S) :
    Calls Tryd.prog 13 #[.pointer (some ⟨b, 0, none⟩)] w fun e w' => e = .returned (.string (bs S)) ∧ Below w.heap.size w w' := hS ▸ sum_any b l w ht h hb1 hn

set_option maxHeartbeats 1600000 in
theorem shaSum_any (A : Option Addr) (len c : Nat) (zs : List ByteArray) (S : List UInt8) (w : World) (ht : Tab w) (hA : Strs w A zs) (hold : ∀ g off, A = some ⟨g, off, none⟩ → zs ≠ [] → g < w.heap.size) (hlen : zs.length = len) (hb : total zs ≤ 1000000) (hl : zs.length ≤ 1000000) (hS : Pl.Sha.sum (cat zs) = S) :
    Calls Tryd.prog 7 #[.slice A len c] w fun e w' => e = .returned (.string (bs S)) ∧ Below w.heap.size w w' := by
  have HS := Lib.hid hS
  have HT := Lib.hid ht
  have hg1 := ht.lt
  subst hlen
  clear hS ht
  go_enter Tryd.func7, Tryd.ntmps7
  go_wp2_with fail
  refine (new_any w HT.out).mono ?_
  rintro e w1 ⟨rfl, h1, b1⟩
  go_upto_region 3 with fail
  go_loopw [9] (fun i wr => ∃ k : Nat, k ≤ zs.length ∧ i = .int .i64 k ∧ HashAt w.heap.size (cat (zs.take k)) wr ∧ Below w.heap.size w wr) (fun i _ => zs.length - (intOf i).toNat)
  case atStart => exact ⟨0, by omega, rfl, by simpa [cat] using h1, b1⟩
  case round =>
    obtain ⟨k, hk, rfl, hh, bk⟩ := hrel
    have htk := HT.out.below bk (by omega)
    by_cases hlt : k < zs.length
    · obtain ⟨g, off, rfl⟩ := hA.addr (by rintro rfl; simp at hlt)
      have hA2 := hA.below bk hold
      have hck := hA2.cell hlt
      have hct := cat_take zs k hlt
      have htt := total_take zs k
      have htt2 := total_take zs (k + 1)
      have hcl := cat_length (zs.take k)
      have hcl2 := cat_length (zs.take (k + 1))
      obtain ⟨s, hs⟩ : ∃ s, zs.getD k ByteArray.empty = s := ⟨_, rfl⟩
      obtain ⟨L, hL⟩ : ∃ L, cat (zs.take k) = L := ⟨_, rfl⟩
      rw [hs] at hck hct
      rw [hL] at hct hh hcl
      rw [hct, List.length_append] at hcl2
      have hss : s.data.toList.length = s.size := by simp
      have hp := fun W (h : HashAt w.heap.size L W) (t : Tab W) => put_any w.heap.size L s W t h hg1 (by omega)
      have HP := Lib.hid hp
      have HC := Lib.hid hct
      clear hp hct hs hL hcl hcl2 htt htt2 hA2 hss
      go_wp2_with fail
      refine (HP.out _ hh htk).mono ?_
      rintro e w2 ⟨rfl, h2, b2⟩
      go_wp2_with fail
      go_round
      case rel => exact ⟨k + 1, by omega, by go_num, by rw [HC.out]; exact h2, bk.trans b2⟩
      case measure => simp [intOf]; omega
    · have : k = zs.length := by omega
      subst this
      rw [List.take_length] at hh
      have hcl := cat_length zs
      have hp := hsum_any w.heap.size (cat zs) S wr htk hh hg1 (by omega) HS.out
      have HP := Lib.hid hp
      clear hp hcl
      go_wp2_with fail
      refine HP.out.mono ?_
      rintro e w2 ⟨rfl, b2⟩
      go_wp2
      go_ret
      exact ⟨rfl, bk.trans (b2.mono bk.size)⟩
end Go.Proofs.YtfnjcobgbdioeaaDoor.WalkSha
