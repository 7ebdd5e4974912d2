/-
  dag's queue behind container/heap's interface: what each method's name enters.
-/
import Derived.Test.YtpaegpbabfohcaaHeapB
namespace Go.Proofs.Ytpaegpbabfohcaa.HeapA
open Go.RowKit
set_option linter.unusedVariables false
set_option linter.unusedSimpArgs false

theorem name_len (a : Addr) (v : Value) (w : World) (k : Nat) (hk : k ≠ 0) (h : (loadVar 88 a).run Try.prog w = .ok v w) :
    (method k 122 (.pointer (some a)) "Len").run Try.prog w = .ok (54, v) w := by
  have hi : (Try.prog.info? 122).map (fun inf => (inf.methods.find? (·.name == "Len")).map (fun m => (m.path.toList, m.func))) = some (some ([], some (54, false))) := by kernel_rfl
  obtain ⟨inf, h0, h2⟩ := Option.map_eq_some_iff.1 hi
  have h1 : (typeInfo 122).run Try.prog w = .ok inf w := by unfold Go.typeInfo; simp [Sem.run_bind, Result.andThen, h0]
  obtain ⟨m, hm, hp⟩ := Option.map_eq_some_iff.1 h2
  simp at hp
  obtain ⟨hp1, hp2⟩ := hp
  obtain ⟨n, rfl⟩ : ∃ n, k = n + 1 := ⟨k - 1, by omega⟩
  have hs : ∀ s, (Builtin.ssaWrapNilChk_ #[122] 122 #[.pointer (some a), strVal "", strVal s]).run Try.prog w = .ok (.pointer (some a)) w := fun s => rfl
  simp [method, h1, hm, hp1, hp2, follow, receiverAt, Place.get, Result.andThen, hs, asAddr, h]

theorem name_less (a : Addr) (v : Value) (w : World) (k : Nat) (hk : k ≠ 0) (h : (loadVar 88 a).run Try.prog w = .ok v w) :
    (method k 122 (.pointer (some a)) "Less").run Try.prog w = .ok (126, v) w := by
  have hi : (Try.prog.info? 122).map (fun inf => (inf.methods.find? (·.name == "Less")).map (fun m => (m.path.toList, m.func))) = some (some ([], some (126, false))) := by kernel_rfl
  obtain ⟨inf, h0, h2⟩ := Option.map_eq_some_iff.1 hi
  have h1 : (typeInfo 122).run Try.prog w = .ok inf w := by unfold Go.typeInfo; simp [Sem.run_bind, Result.andThen, h0]
  obtain ⟨m, hm, hp⟩ := Option.map_eq_some_iff.1 h2
  simp at hp
  obtain ⟨hp1, hp2⟩ := hp
  obtain ⟨n, rfl⟩ : ∃ n, k = n + 1 := ⟨k - 1, by omega⟩
  have hs : ∀ s, (Builtin.ssaWrapNilChk_ #[122] 122 #[.pointer (some a), strVal "", strVal s]).run Try.prog w = .ok (.pointer (some a)) w := fun s => rfl
  simp [method, h1, hm, hp1, hp2, follow, receiverAt, Place.get, Result.andThen, hs, asAddr, h]

theorem name_swap (a : Addr) (v : Value) (w : World) (k : Nat) (hk : k ≠ 0) (h : (loadVar 88 a).run Try.prog w = .ok v w) :
    (method k 122 (.pointer (some a)) "Swap").run Try.prog w = .ok (127, v) w := by
  have hi : (Try.prog.info? 122).map (fun inf => (inf.methods.find? (·.name == "Swap")).map (fun m => (m.path.toList, m.func))) = some (some ([], some (127, false))) := by kernel_rfl
  obtain ⟨inf, h0, h2⟩ := Option.map_eq_some_iff.1 hi
  have h1 : (typeInfo 122).run Try.prog w = .ok inf w := by unfold Go.typeInfo; simp [Sem.run_bind, Result.andThen, h0]
  obtain ⟨m, hm, hp⟩ := Option.map_eq_some_iff.1 h2
  simp at hp
  obtain ⟨hp1, hp2⟩ := hp
  obtain ⟨n, rfl⟩ : ∃ n, k = n + 1 := ⟨k - 1, by omega⟩
  have hs : ∀ s, (Builtin.ssaWrapNilChk_ #[122] 122 #[.pointer (some a), strVal "", strVal s]).run Try.prog w = .ok (.pointer (some a)) w := fun s => rfl
  simp [method, h1, hm, hp1, hp2, follow, receiverAt, Place.get, Result.andThen, hs, asAddr, h]

theorem name_push (a : Addr) (v : Value) (w : World) (k : Nat) (hk : k ≠ 0) :
    (method k 122 (.pointer (some a)) "Push").run Try.prog w = .ok (129, (.pointer (some a))) w := by
  have hi : (Try.prog.info? 122).map (fun inf => (inf.methods.find? (·.name == "Push")).map (fun m => (m.path.toList, m.func))) = some (some ([], some (129, true))) := by kernel_rfl
  obtain ⟨inf, h0, h2⟩ := Option.map_eq_some_iff.1 hi
  have h1 : (typeInfo 122).run Try.prog w = .ok inf w := by unfold Go.typeInfo; simp [Sem.run_bind, Result.andThen, h0]
  obtain ⟨m, hm, hp⟩ := Option.map_eq_some_iff.1 h2
  simp at hp
  obtain ⟨hp1, hp2⟩ := hp
  obtain ⟨n, rfl⟩ : ∃ n, k = n + 1 := ⟨k - 1, by omega⟩
  have hs : ∀ s, (Builtin.ssaWrapNilChk_ #[122] 122 #[.pointer (some a), strVal "", strVal s]).run Try.prog w = .ok (.pointer (some a)) w := fun s => rfl
  simp [method, h1, hm, hp1, hp2, follow, receiverAt, Place.get, Result.andThen, hs, asAddr]

theorem name_pop (a : Addr) (v : Value) (w : World) (k : Nat) (hk : k ≠ 0) :
    (method k 122 (.pointer (some a)) "Pop").run Try.prog w = .ok (128, (.pointer (some a))) w := by
  have hi : (Try.prog.info? 122).map (fun inf => (inf.methods.find? (·.name == "Pop")).map (fun m => (m.path.toList, m.func))) = some (some ([], some (128, true))) := by kernel_rfl
  obtain ⟨inf, h0, h2⟩ := Option.map_eq_some_iff.1 hi
  have h1 : (typeInfo 122).run Try.prog w = .ok inf w := by unfold Go.typeInfo; simp [Sem.run_bind, Result.andThen, h0]
  obtain ⟨m, hm, hp⟩ := Option.map_eq_some_iff.1 h2
  simp at hp
  obtain ⟨hp1, hp2⟩ := hp
  obtain ⟨n, rfl⟩ : ∃ n, k = n + 1 := ⟨k - 1, by omega⟩
  have hs : ∀ s, (Builtin.ssaWrapNilChk_ #[122] 122 #[.pointer (some a), strVal "", strVal s]).run Try.prog w = .ok (.pointer (some a)) w := fun s => rfl
  simp [method, h1, hm, hp1, hp2, follow, receiverAt, Place.get, Result.andThen, hs, asAddr]

end Go.Proofs.Ytpaegpbabfohcaa.HeapA
