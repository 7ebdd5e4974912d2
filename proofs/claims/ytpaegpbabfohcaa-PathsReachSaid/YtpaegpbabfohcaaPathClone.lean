/-
  slices.Clone of nodes, edges, texts, properties.
-/
import Derived.Test.YtpaegpbabfohcaaPathAt
import Derived.Maps.AppendAt
import Derived.Lib.SliceRun
import Derived.Deep.DeepMust
namespace Go.Proofs.Ytpaegpbabfohcaa.Paths
open Go.RowKit Go.Proofs.Ytpaegpbabfohcaa.WalkBytes
set_option linter.unusedVariables false
set_option linter.unusedSimpArgs false
set_option maxRecDepth 100000

/-- what stands in memory from an address on -/
def Cells (w : World) (A : Option Addr) (vals : List Value) : Prop := ∀ ad, A = some ad → ∀ j u, vals[j]? = some u → w.cell? (ad.add j) = some u

theorem info_node : (Try.prog.info? 59).map (fun i => (i.zero, i.size, i.bytes)) = some (some (.agg #[.string ⟨#[]⟩, .slice none 0 0, .slice none 0 0]), 3, 64) := by kernel_rfl
set_option maxHeartbeats 2000000 in
theorem clone_node (A : Option Addr) (n c : Nat) (vals : List Value) (w : World) (hA : A = none → n = 0) (hc : Cells w A vals) (hv : vals.length = n * 3) (h1 : ∀ u ∈ vals, u.oneCell' = true) (hn : n ≤ 1000000) :
    Calls Try.prog 100 #[.slice A n c] w fun e w' => (∃ v', e = .returned v' ∧ w'.ownsRow w.heap.size 59 3 v' n vals) ∧ Below w.heap.size w w' := by
  cases A with
  | none =>
    obtain rfl := hA rfl
    have hnil : vals = [] := List.eq_nil_of_length_eq_zero (by omega)
    subst hnil
    have q : ∀ W : World, (binOp .eql 42 (.slice none 0 c) (.slice none 0 0)).run Try.prog W = .ok (.bool true) W := fun W => Lib.run_eql_slice_nil W _ _ none 0 c 0 0 Try.underlying42
    go_enter Try.func100, Try.ntmps100
    go_wp2_with fail
    go_ret
    exact ⟨⟨_, rfl, World.ownsRow_nil w _ _ _⟩, Below.refl _ _⟩
  | some ad =>
    have q : ∀ W : World, (binOp .eql 42 (.slice (some ad) n c) (.slice none 0 0)).run Try.prog W = .ok (.bool false) W := fun W => Lib.run_eql_slice_nil W _ _ (some ad) n c 0 0 Try.underlying42
    have hnews : ∀ j u, vals[j]? = some u → w.cell? (ad.add j) = some u := hc ad rfl
    have HNEWS := Lib.hid hnews
    have HV := Lib.hid hv
    have H1 := Lib.hid h1
    clear hnews hc hA hv h1
    obtain ⟨i, hi, hz, hsz, hby⟩ := info_parts info_node
    go_enter Try.func100, Try.ntmps100
    go_wp2_with (at_builtin; refine wpList_append_own _ rfl _ _ 42 rfl w.heap.size 59 i (.agg #[.string ⟨#[]⟩, .slice none 0 0, .slice none 0 0]) 3 64 Try.underlying42 hi hz hsz hby rfl (by decide) _ _ _ rfl (World.ownsRow_made w #[] 0 (Nat.le_refl _) (Nat.zero_le _) rfl) ad n c vals rfl HV.out ?qc2 H1.out ?qc4 ?qc5 ?qc6 ?_)
    case qc2 =>
      intro j u hj
      exact Lib.cell?_alloc_some _ (HNEWS.out j u hj)
    case qc4 => unfold maxLen; omega
    case qc5 => omega
    case qc6 => simp
    intro v' w1 hown hgrow hnil
    go_wp2_with fail
    go_ret
    exact ⟨⟨v', rfl, by simpa using hown⟩, ((Below.refl _ w).alloc (Nat.le_refl _) _).grown hgrow (by simp) (by intro k hk; simp [Value.ownBlock] at hk; omega)⟩

theorem info_edge : (Try.prog.info? 74).map (fun i => (i.zero, i.size, i.bytes)) = some (some (.agg #[.string ⟨#[]⟩, .string ⟨#[]⟩, .string ⟨#[]⟩, .slice none 0 0, .slice none 0 0]), 5, 96) := by kernel_rfl
set_option maxHeartbeats 2000000 in
theorem clone_edge (A : Option Addr) (n c : Nat) (vals : List Value) (w : World) (hA : A = none → n = 0) (hc : Cells w A vals) (hv : vals.length = n * 5) (h1 : ∀ u ∈ vals, u.oneCell' = true) (hn : n ≤ 1000000) :
    Calls Try.prog 101 #[.slice A n c] w fun e w' => (∃ v', e = .returned v' ∧ w'.ownsRow w.heap.size 74 5 v' n vals) ∧ Below w.heap.size w w' := by
  cases A with
  | none =>
    obtain rfl := hA rfl
    have hnil : vals = [] := List.eq_nil_of_length_eq_zero (by omega)
    subst hnil
    have q : ∀ W : World, (binOp .eql 43 (.slice none 0 c) (.slice none 0 0)).run Try.prog W = .ok (.bool true) W := fun W => Lib.run_eql_slice_nil W _ _ none 0 c 0 0 Try.underlying43
    go_enter Try.func101, Try.ntmps101
    go_wp2_with fail
    go_ret
    exact ⟨⟨_, rfl, World.ownsRow_nil w _ _ _⟩, Below.refl _ _⟩
  | some ad =>
    have q : ∀ W : World, (binOp .eql 43 (.slice (some ad) n c) (.slice none 0 0)).run Try.prog W = .ok (.bool false) W := fun W => Lib.run_eql_slice_nil W _ _ (some ad) n c 0 0 Try.underlying43
    have hnews : ∀ j u, vals[j]? = some u → w.cell? (ad.add j) = some u := hc ad rfl
    have HNEWS := Lib.hid hnews
    have HV := Lib.hid hv
    have H1 := Lib.hid h1
    clear hnews hc hA hv h1
    obtain ⟨i, hi, hz, hsz, hby⟩ := info_parts info_edge
    go_enter Try.func101, Try.ntmps101
    go_wp2_with (at_builtin; refine wpList_append_own _ rfl _ _ 43 rfl w.heap.size 74 i (.agg #[.string ⟨#[]⟩, .string ⟨#[]⟩, .string ⟨#[]⟩, .slice none 0 0, .slice none 0 0]) 5 96 Try.underlying43 hi hz hsz hby rfl (by decide) _ _ _ rfl (World.ownsRow_made w #[] 0 (Nat.le_refl _) (Nat.zero_le _) rfl) ad n c vals rfl HV.out ?qc2 H1.out ?qc4 ?qc5 ?qc6 ?_)
    case qc2 =>
      intro j u hj
      exact Lib.cell?_alloc_some _ (HNEWS.out j u hj)
    case qc4 => unfold maxLen; omega
    case qc5 => omega
    case qc6 => simp
    intro v' w1 hown hgrow hnil
    go_wp2_with fail
    go_ret
    exact ⟨⟨v', rfl, by simpa using hown⟩, ((Below.refl _ w).alloc (Nat.le_refl _) _).grown hgrow (by simp) (by intro k hk; simp [Value.ownBlock] at hk; omega)⟩

theorem info_text : (Try.prog.info? 9).map (fun i => (i.zero, i.size, i.bytes)) = some (some (.string ⟨#[]⟩), 1, 16) := by kernel_rfl
set_option maxHeartbeats 2000000 in
theorem clone_text (A : Option Addr) (n c : Nat) (vals : List Value) (w : World) (hA : A = none → n = 0) (hc : Cells w A vals) (hv : vals.length = n * 1) (h1 : ∀ u ∈ vals, u.oneCell' = true) (hn : n ≤ 1000000) :
    Calls Try.prog 102 #[.slice A n c] w fun e w' => (∃ v', e = .returned v' ∧ w'.ownsRow w.heap.size 9 1 v' n vals) ∧ Below w.heap.size w w' := by
  cases A with
  | none =>
    obtain rfl := hA rfl
    have hnil : vals = [] := List.eq_nil_of_length_eq_zero (by omega)
    subst hnil
    have q : ∀ W : World, (binOp .eql 56 (.slice none 0 c) (.slice none 0 0)).run Try.prog W = .ok (.bool true) W := fun W => Lib.run_eql_slice_nil W _ _ none 0 c 0 0 Try.underlying56
    go_enter Try.func102, Try.ntmps102
    go_wp2_with fail
    go_ret
    exact ⟨⟨_, rfl, World.ownsRow_nil w _ _ _⟩, Below.refl _ _⟩
  | some ad =>
    have q : ∀ W : World, (binOp .eql 56 (.slice (some ad) n c) (.slice none 0 0)).run Try.prog W = .ok (.bool false) W := fun W => Lib.run_eql_slice_nil W _ _ (some ad) n c 0 0 Try.underlying56
    have hnews : ∀ j u, vals[j]? = some u → w.cell? (ad.add j) = some u := hc ad rfl
    have HNEWS := Lib.hid hnews
    have HV := Lib.hid hv
    have H1 := Lib.hid h1
    clear hnews hc hA hv h1
    obtain ⟨i, hi, hz, hsz, hby⟩ := info_parts info_text
    go_enter Try.func102, Try.ntmps102
    go_wp2_with (at_builtin; refine wpList_append_own _ rfl _ _ 56 rfl w.heap.size 9 i (.string ⟨#[]⟩) 1 16 Try.underlying56 hi hz hsz hby rfl (by decide) _ _ _ rfl (World.ownsRow_made w #[] 0 (Nat.le_refl _) (Nat.zero_le _) rfl) ad n c vals rfl HV.out ?qc2 H1.out ?qc4 ?qc5 ?qc6 ?_)
    case qc2 =>
      intro j u hj
      exact Lib.cell?_alloc_some _ (HNEWS.out j u hj)
    case qc4 => unfold maxLen; omega
    case qc5 => omega
    case qc6 => simp
    intro v' w1 hown hgrow hnil
    go_wp2_with fail
    go_ret
    exact ⟨⟨v', rfl, by simpa using hown⟩, ((Below.refl _ w).alloc (Nat.le_refl _) _).grown hgrow (by simp) (by intro k hk; simp [Value.ownBlock] at hk; omega)⟩

theorem info_prop : (Try.prog.info? 127).map (fun i => (i.zero, i.size, i.bytes)) = some (some (.agg #[.string ⟨#[]⟩, .int .i64 0, .int .i64 0, .string ⟨#[]⟩]), 4, 48) := by kernel_rfl
set_option maxHeartbeats 2000000 in
theorem clone_prop (A : Option Addr) (n c : Nat) (vals : List Value) (w : World) (hA : A = none → n = 0) (hc : Cells w A vals) (hv : vals.length = n * 4) (h1 : ∀ u ∈ vals, u.oneCell' = true) (hn : n ≤ 1000000) :
    Calls Try.prog 103 #[.slice A n c] w fun e w' => (∃ v', e = .returned v' ∧ w'.ownsRow w.heap.size 127 4 v' n vals) ∧ Below w.heap.size w w' := by
  cases A with
  | none =>
    obtain rfl := hA rfl
    have hnil : vals = [] := List.eq_nil_of_length_eq_zero (by omega)
    subst hnil
    have q : ∀ W : World, (binOp .eql 57 (.slice none 0 c) (.slice none 0 0)).run Try.prog W = .ok (.bool true) W := fun W => Lib.run_eql_slice_nil W _ _ none 0 c 0 0 Try.underlying57
    go_enter Try.func103, Try.ntmps103
    go_wp2_with fail
    go_ret
    exact ⟨⟨_, rfl, World.ownsRow_nil w _ _ _⟩, Below.refl _ _⟩
  | some ad =>
    have q : ∀ W : World, (binOp .eql 57 (.slice (some ad) n c) (.slice none 0 0)).run Try.prog W = .ok (.bool false) W := fun W => Lib.run_eql_slice_nil W _ _ (some ad) n c 0 0 Try.underlying57
    have hnews : ∀ j u, vals[j]? = some u → w.cell? (ad.add j) = some u := hc ad rfl
    have HNEWS := Lib.hid hnews
    have HV := Lib.hid hv
    have H1 := Lib.hid h1
    clear hnews hc hA hv h1
    obtain ⟨i, hi, hz, hsz, hby⟩ := info_parts info_prop
    go_enter Try.func103, Try.ntmps103
    go_wp2_with (at_builtin; refine wpList_append_own _ rfl _ _ 57 rfl w.heap.size 127 i (.agg #[.string ⟨#[]⟩, .int .i64 0, .int .i64 0, .string ⟨#[]⟩]) 4 48 Try.underlying57 hi hz hsz hby rfl (by decide) _ _ _ rfl (World.ownsRow_made w #[] 0 (Nat.le_refl _) (Nat.zero_le _) rfl) ad n c vals rfl HV.out ?qc2 H1.out ?qc4 ?qc5 ?qc6 ?_)
    case qc2 =>
      intro j u hj
      exact Lib.cell?_alloc_some _ (HNEWS.out j u hj)
    case qc4 => unfold maxLen; omega
    case qc5 => omega
    case qc6 => simp
    intro v' w1 hown hgrow hnil
    go_wp2_with fail
    go_ret
    exact ⟨⟨v', rfl, by simpa using hown⟩, ((Below.refl _ w).alloc (Nat.le_refl _) _).grown hgrow (by simp) (by intro k hk; simp [Value.ownBlock] at hk; omega)⟩
end Go.Proofs.Ytpaegpbabfohcaa.Paths
