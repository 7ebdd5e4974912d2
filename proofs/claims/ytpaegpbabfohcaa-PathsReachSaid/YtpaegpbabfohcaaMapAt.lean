/-
  A map, as a function: what each key has.
-/
import Derived.MapKept
import Derived.Carry
import Derived.Below
import Derived.Deep.Draws
import Derived.WalkKit
namespace Go.Proofs.Ytpaegpbabfohcaa.MapAt
open Go.MapKept Go.RowKit
set_option linter.unusedVariables false
set_option linter.unusedSectionVars false

/-- keys of one plain type -/
structure Keys (P : Program) (kt : TypeId) (κ : Type) where
  d : TypeDesc
  hd : P.underlying kt = some d
  enc : κ → Value
  inj : ∀ a b, enc a = enc b → a = b
  is : ∀ a, IsKey d (enc a)

variable {P : Program} {kt et mt : TypeId} {κ : Type} [DecidableEq κ] {K : Keys P kt κ} {w w' : World} {b : Nat} {f : κ → Option Value}

/-- block b is a map in which each key k has f k -/
def MapAt (K : Keys P kt κ) (w : World) (b : Nat) (f : κ → Option Value) : Prop :=
  ∃ es clock, w.heap[b]? = some (.map es clock) ∧ (∀ x ∈ es.toList, ∃ k, x.key = K.enc k ∧ f k = some x.val) ∧ (∀ k v, f k = some v → ∃ x ∈ es.toList, x.key = K.enc k) ∧ (es.toList.map (·.key)).Nodup

theorem MapAt.lt (h : MapAt K w b f) : b < w.heap.size := by
  obtain ⟨es, clock, hb, _⟩ := h
  exact (Array.getElem?_eq_some_iff.1 hb).1
theorem MapAt.kept (h : MapAt K w b f) (e : w'.heap[b]? = w.heap[b]?) : MapAt K w' b f := by
  obtain ⟨es, clock, hb, h⟩ := h
  exact ⟨es, clock, e.trans hb, h⟩
theorem MapAt.below {B : Nat} (h : MapAt K w b f) (k : Below B w w') (hb : b < B) : MapAt K w' b f := h.kept (k.block b hb)
theorem MapAt.drew (h : MapAt K w b f) : MapAt K w.drew b f := h
theorem MapAt.drewN (h : MapAt K w b f) (n : Nat) : MapAt K (w.drewN n) b f := h
theorem MapAt.congr {g : κ → Option Value} (h : MapAt K w b f) (e : ∀ k, f k = g k) : MapAt K w b g := by
  rw [show g = f from funext fun k => (e k).symm]; exact h
theorem made (K : Keys P kt κ) (w : World) : MapAt K (w.alloc (.map #[] 0)) w.heap.size (fun _ => none) :=
  ⟨#[], 0, (MapKept.heap_alloc w _).1, by simp, by simp, by simp⟩

theorem keysAll {es : Array MapEntry} (h : ∀ x ∈ es.toList, ∃ k, x.key = K.enc k ∧ f k = some x.val) : ∀ x ∈ es.toList, IsKey K.d x.key := fun x hx => by
  obtain ⟨k, hk, -⟩ := h x hx
  rw [hk]; exact K.is k

/-- m[k] -/
theorem MapAt.look (h : MapAt K w b f) (hm : P.underlying mt = some (.map kt et)) {z : Value} (hz : (zeroValue et).run P w = .ok z w) (k : κ) :
    (Instr.lookup mt (.map (some b)) (K.enc k) false).run P w = .ok ((f k).getD z) w := by
  obtain ⟨es, clock, hb, h1, h2, h3⟩ := h
  rcases findNow_spec (K.is k) es.toList 0 (keysAll h1) with ⟨e1, e2⟩ | ⟨j, e, e1, e2, e3⟩
  · have hn : f k = none := by
      cases hf : f k with
      | none => rfl
      | some v =>
        obtain ⟨x, hx, hk⟩ := h2 k v hf
        exact absurd hk (e2 x hx)
    simp [Instr.lookup, run_underlying hm, Go.MapKept.run_getObj_map hb, run_checkKey K.hd (K.is k), run_findKey K.hd e1, hz, Result.andThen, hn]
  · obtain ⟨k', hk', hf⟩ := h1 e (List.mem_of_getElem? e2)
    obtain rfl := K.inj _ _ (hk'.symm.trans e3)
    simp [Instr.lookup, run_underlying hm, Go.MapKept.run_getObj_map hb, run_checkKey K.hd (K.is k'), run_findKey K.hd e1, Result.andThen, hf]
/-- m[k], and whether it is there -/
theorem MapAt.lookOk (h : MapAt K w b f) (hm : P.underlying mt = some (.map kt et)) {z : Value} (hz : (zeroValue et).run P w = .ok z w) (k : κ) :
    (Instr.lookup mt (.map (some b)) (K.enc k) true).run P w = .ok (.tuple #[(f k).getD z, .bool (f k).isSome]) w := by
  obtain ⟨es, clock, hb, h1, h2, h3⟩ := h
  rcases findNow_spec (K.is k) es.toList 0 (keysAll h1) with ⟨e1, e2⟩ | ⟨j, e, e1, e2, e3⟩
  · have hn : f k = none := by
      cases hf : f k with
      | none => rfl
      | some v =>
        obtain ⟨x, hx, hk⟩ := h2 k v hf
        exact absurd hk (e2 x hx)
    simp [Instr.lookup, run_underlying hm, Go.MapKept.run_getObj_map hb, run_checkKey K.hd (K.is k), run_findKey K.hd e1, hz, Result.andThen, hn]
  · obtain ⟨k', hk', hf⟩ := h1 e (List.mem_of_getElem? e2)
    obtain rfl := K.inj _ _ (hk'.symm.trans e3)
    simp [Instr.lookup, run_underlying hm, Go.MapKept.run_getObj_map hb, run_checkKey K.hd (K.is k'), run_findKey K.hd e1, Result.andThen, hf]
/-- m[k] = v -/
theorem MapAt.set (h : MapAt K w b f) (hm : P.underlying mt = some (.map kt et)) (k : κ) (v : Value) :
    ∃ w', (Instr.mapUpdate mt (.map (some b)) (K.enc k) v).run P w = .ok () w' ∧ MapAt K w' b (fun k' => if k' = k then some v else f k') ∧ w.grownBy w' (some b) ∧ w'.heap.size = w.heap.size := by
  obtain ⟨es, clock, hb, h1, h2, h3⟩ := h
  rcases findNow_spec (K.is k) es.toList 0 (keysAll h1) with ⟨e1, e2⟩ | ⟨j, e, e1, e2, e3⟩
  · refine ⟨{ w with heap := w.heap.setIfInBounds b (.map (es.push { key := K.enc k, val := v, born := clock }) (clock + 1)) }, ?_, ⟨_, _, (heap_set hb).1, ?_, ?_, ?_⟩, ⟨rfl, rfl, rfl, by simp, fun i _ hi => (heap_set hb).2 i (fun e => hi (by rw [e]))⟩, by simp⟩
    · simp [Instr.mapUpdate, run_underlying hm, Go.MapKept.run_getObj_map hb, run_checkKey K.hd (K.is k), run_findKey K.hd e1, Go.MapKept.run_setObj_map _ hb, Result.andThen]
    · intro x hx
      simp only [Array.toList_push, List.mem_append, List.mem_singleton] at hx
      rcases hx with hx | rfl
      · obtain ⟨k', hk', hf⟩ := h1 x hx
        have hne : k' ≠ k := fun q => e2 x hx (by rw [hk', q])
        exact ⟨k', hk', by show (if k' = k then _ else _) = _; rw [if_neg hne]; exact hf⟩
      · exact ⟨k, rfl, by show (if k = k then _ else _) = _; rw [if_pos rfl]⟩
    · intro k' v' hf
      by_cases q : k' = k
      · subst q
        exact ⟨⟨K.enc k', v, clock⟩, by simp, rfl⟩
      · replace hf : (if k' = k then some v else f k') = some v' := hf
        rw [if_neg q] at hf
        obtain ⟨x, hx, hk⟩ := h2 k' v' hf
        exact ⟨x, by simp [hx], hk⟩
    · rw [Array.toList_push, List.map_append, List.nodup_append]
      refine ⟨h3, by simp, fun a ha c hc => ?_⟩
      obtain ⟨x, hx, rfl⟩ := List.mem_map.1 ha
      simp at hc
      subst hc
      exact e2 x hx
  · have hj : es[j]? = some e := by simpa using e2
    obtain ⟨k0, hk0, hf0⟩ := h1 e (List.mem_of_getElem? e2)
    obtain rfl := K.inj _ _ (hk0.symm.trans e3)
    refine ⟨{ w with heap := w.heap.setIfInBounds b (.map (es.modify j fun e => { e with key := K.enc k0, val := v }) clock) }, ?_, ⟨_, _, (heap_set hb).1, ?_, ?_, ?_⟩, ⟨rfl, rfl, rfl, by simp, fun i _ hi => (heap_set hb).2 i (fun e => hi (by rw [e]))⟩, by simp⟩
    · simp [Instr.mapUpdate, run_underlying hm, Go.MapKept.run_getObj_map hb, run_checkKey K.hd (K.is k0), run_findKey K.hd e1, hj, hk0, run_keyThatStays (K.is k0), Go.MapKept.run_setObj_map _ hb, Result.andThen]
    · intro x hx
      obtain ⟨i, hi, rfl⟩ := List.getElem_of_mem hx
      have hi' : i < es.size := by simpa using hi
      have hex : (es.modify j fun e => { e with key := K.enc k0, val := v }).toList[i] = if j = i then { es[i] with key := K.enc k0, val := v } else es[i] := by
        rw [Array.getElem_toList, Array.getElem_modify]
      rw [hex]
      by_cases q : j = i
      · rw [if_pos q]; exact ⟨k0, rfl, by show (if k0 = k0 then _ else _) = _; rw [if_pos rfl]⟩
      · rw [if_neg q]
        obtain ⟨k', hk', hf⟩ := h1 es[i] (by simp)
        refine ⟨k', hk', ?_⟩
        have hne : k' ≠ k0 := fun e' => by
          subst e'
          have hjs : j < es.size := (Array.getElem?_eq_some_iff.1 hj).1
          have hje : es[j] = e := (Array.getElem?_eq_some_iff.1 hj).2
          have hkk : (es.toList.map (·.key))[j]'(by simpa using hjs) = (es.toList.map (·.key))[i]'(by simpa using hi') := by
            simp [hje, hk0, hk']
          have hp := List.pairwise_iff_getElem.1 h3
          rcases Nat.lt_or_gt_of_ne q with q | q
          · exact hp j i (by simpa using hjs) (by simpa using hi') q hkk
          · exact hp i j (by simpa using hi') (by simpa using hjs) q hkk.symm
        show (if k' = k0 then _ else _) = _
        rw [if_neg hne]; exact hf
    · intro k' v' hf
      have keys : (es.modify j fun e => { e with key := K.enc k0, val := v }).toList.map (·.key) = es.toList.map (·.key) := modify_keys j _ (fun e' he' => by rw [hj] at he'; cases he'; exact hk0.symm)
      have : K.enc k' ∈ es.toList.map (·.key) := by
        by_cases q : k' = k0
        · subst q
          exact List.mem_map.2 ⟨e, List.mem_of_getElem? e2, hk0⟩
        · replace hf : (if k' = k0 then some v else f k') = some v' := hf
          rw [if_neg q] at hf
          obtain ⟨x, hx, hk⟩ := h2 k' v' hf
          exact List.mem_map.2 ⟨x, hx, hk⟩
      rw [← keys] at this
      obtain ⟨x, hx, hk⟩ := List.mem_map.1 this
      exact ⟨x, hx, hk⟩
    · rw [modify_keys j _ (fun e' he' => by rw [hj] at he'; cases he'; exact hk0.symm)]
      exact h3
end Go.Proofs.Ytpaegpbabfohcaa.MapAt
