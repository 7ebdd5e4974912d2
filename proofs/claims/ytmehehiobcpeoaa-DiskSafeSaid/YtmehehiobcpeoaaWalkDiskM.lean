/-
  The walks of pleachlaw07's text and few.
-/
import Derived.Test.YtmehehiobcpeoaaWalkDiskL
namespace Go.Proofs.Ytmehehiobcpeoaa.Disk
open Go.RowKit Go.Proofs.Ytmehehiobcpeoaa.DiskRows
set_option linter.unusedVariables false
set_option linter.unusedSimpArgs false
set_option maxRecDepth 100000
theorem minTwo (ats : Array TypeId) (ty : TypeId) (a b : Value) : Builtin.min_ ats ty #[a, b] = (Builtin.min2 a b >>= fun s => pure s) := by simp only [Builtin.min_, List.foldlM_cons, List.foldlM_nil]
theorem minInt2 (k k' : IntKind) (x y : Int) : Builtin.min2 (.int k x) (.int k' y) = pure (.int k (if y < x then y else x)) := by simp only [Builtin.min2]
attribute [local go_sem] minTwo

/-- a call to do -/
structure Ac where
  kind : Int
  place : Int
  n : Int
  text : ByteArray
  raw : Bool
  ka : Option Addr
  kl : Nat
  kc : Nat
def Ac.cells (a : Ac) : List Value := [.int .i64 a.kind, .int .i64 a.place, .int .i64 a.n, .string a.text, .bool a.raw, .slice a.ka a.kl a.kc]
/-- what it writes -/
def Ac.txt (a : Ac) : ByteArray := if a.raw = true then a.text else full a.text
/-- a row of calls lies there -/
def Acs (w : World) (A : Option Addr) (l : List Ac) : Prop := l = [] ∨ ∃ g off, A = some ⟨g, off, none⟩ ∧ g < w.heap.size ∧ ∀ k (h : k < l.length) j u, (l[k].cells)[j]? = some u → w.cell? ⟨g, off + k * 6 + j, none⟩ = some u
theorem Acs.later {w w' : World} {A : Option Addr} {l : List Ac} (h : Acs w A l) (k : Below w.heap.size w w') : Acs w' A l := by
  rcases h with rfl | ⟨g, off, rfl, hg, hc⟩
  · exact .inl rfl
  · exact .inr ⟨g, off, rfl, Nat.lt_of_lt_of_le hg k.size, fun i hi j u hu => by rw [k.cell (p := ⟨g, off + i * 6 + j, none⟩) hg]; exact hc i hi j u hu⟩
/-- how much a call's text and numbers count -/
def Ac.load (a : Ac) : Nat := min a.text.size 10000 + min a.kl 10000
def loads (l : List Ac) : Nat := (l.map Ac.load).sum
theorem loads_take (l : List Ac) (k : Nat) (h : k < l.length) : loads (l.take (k + 1)) = loads (l.take k) + l[k].load := by
  unfold loads
  rw [List.take_succ_eq_append_getElem h, List.map_append, List.sum_append]
  simp
def fewB (l : List Ac) : Prop := l.length ≤ 60 ∧ loads l ≤ 10000
instance (l : List Ac) : Decidable (fewB l) := inferInstanceAs (Decidable (_ ∧ _))
theorem text_any (a : Ac) (w : World) (hs : a.text.size ≤ 140737488355328) :
    Calls Try.prog 20 #[.agg a.cells.toArray] w fun x w' => x = .returned (.string a.txt) ∧ Below w.heap.size w w' := by
  obtain ⟨k, p, n, t, raw, ka, kl, kc⟩ := a
  have kb := Joins.below_alloc1 w (.cells #[.int .i64 k, .int .i64 p, .int .i64 n, .string t, .bool raw, .slice ka kl kc] 39)
  have HK := Lib.hid kb
  have HF := Lib.hid (plainFull_any t (w.alloc (.cells #[.int .i64 k, .int .i64 p, .int .i64 n, .string t, .bool raw, .slice ka kl kc] 39)) hs)
  simp only [Ac.cells, Ac.txt]
  clear kb hs
  cases raw
  · go_enter Try.func20, Try.ntmps20
    go_wp2_with fail
    refine HF.out.mono ?_
    rintro x w1 ⟨rfl, b1⟩
    go_wp2
    go_ret
    exact ⟨rfl, HK.out.trans (b1.mono HK.out.size)⟩
  · go_enter Try.func20, Try.ntmps20
    go_wp2
    go_ret
    exact ⟨rfl, HK.out⟩
theorem few_any (A : Option Addr) (c : Nat) (l : List Ac) (w : World) (h : Acs w A l) (hl : (l.length : Int) ≤ 9223372036854775807) (hs : ∀ a ∈ l, (a.text.size : Int) ≤ 9223372036854775807 ∧ (a.kl : Int) ≤ 9223372036854775807) :
    Calls Try.prog 7 #[.slice A l.length c] w fun x w' => x = .returned (.bool (decide (fewB l))) ∧ Below w.heap.size w w' := by
  have H := Lib.hid h
  have HS := Lib.hid hs
  clear h hs
  go_enter Try.func7, Try.ntmps7
  go_upto_region 3 with fail
  go_loopw [3, 4] (fun v i wr => ∃ k : Nat, k ≤ l.length ∧ k ≤ 61 ∧ i = .int .i64 k ∧ v = .int .i64 (loads (l.take k) : Nat) ∧ loads (l.take k) ≤ k * 20000 ∧ Below w.heap.size w wr) (fun _ i _ => l.length - (intOf i).toNat)
  case atStart => exact ⟨0, by omega, by omega, rfl, rfl, by simp [loads], Below.refl _ _⟩
  case round =>
    obtain ⟨k, hk, hk61, rfl, rfl, hld, bk⟩ := hrel
    have hki : (k : Int) ≤ 61 := by omega
    by_cases hlt : k < l.length
    · have hkl : (k : Int) < (l.length : Int) := by omega
      by_cases h60 : k ≤ 60
      · have h60i : (k : Int) ≤ 60 := by omega
        obtain ⟨g, off, rfl, hg, hc⟩ : ∃ g off, A = some ⟨g, off, none⟩ ∧ g < w.heap.size ∧ ∀ k (h : k < l.length) j u, (l[k].cells)[j]? = some u → w.cell? ⟨g, off + k * 6 + j, none⟩ = some u := by
          rcases H.out with h0 | h0
          · rw [h0] at hlt; simp at hlt
          · exact h0
        have q3 := (bk.cell (p := ⟨g, off + k * 6 + 3, none⟩) hg).trans (hc k hlt 3 _ rfl)
        have q5 := (bk.cell (p := ⟨g, off + k * 6 + 5, none⟩) hg).trans (hc k hlt 5 _ rfl)
        have hlk := loads_take l k hlt
        have hsz := HS.out _ (List.getElem_mem hlt)
        generalize l[k] = a at q3 q5 hlk hsz
        obtain ⟨ak, ap, an, t, raw, ka, kl, kc⟩ := a
        obtain ⟨m1, hm1⟩ : ∃ m, min t.size 10000 = m := ⟨_, rfl⟩
        obtain ⟨m2, hm2⟩ : ∃ m, min kl 10000 = m := ⟨_, rfl⟩
        have n1 : Builtin.min2 (.int .i64 (t.size : Int)) (.int .i64 10000) = pure (.int .i64 (m1 : Nat)) := by
          rw [minInt2]; congr 2; split <;> omega
        have n2 : Builtin.min2 (.int .i64 (kl : Int)) (.int .i64 10000) = pure (.int .i64 (m2 : Nat)) := by
          rw [minInt2]; congr 2; split <;> omega
        simp only [Ac.load, hm1, hm2] at hlk
        have hmm : m1 ≤ 10000 ∧ m2 ≤ 10000 := by omega
        have HLK := Lib.hid (And.intro hlk (And.intro hmm hld))
        obtain ⟨v, hv⟩ : ∃ v, loads (l.take k) = v := ⟨_, rfl⟩
        rw [hv] at HLK ⊢
        have hb1 : (m1 : Int) + (m2 : Int) ≤ 20000 := by omega
        have hb2 : (v : Int) + ((m1 : Int) + (m2 : Int)) ≤ 2000000 := by omega
        have hw1 : IntKind.i64.wrap ((m1 : Int) + (m2 : Int)) = (m1 : Int) + (m2 : Int) := by rw [IntKind.wrap_i64]; omega
        have hw2 : IntKind.i64.wrap ((v : Int) + ((m1 : Int) + (m2 : Int))) = (v : Int) + ((m1 : Int) + (m2 : Int)) := by rw [IntKind.wrap_i64]; omega
        clear hc hsz hm1 hm2 hlk hmm hld hv
        go_upto_region 5 with fail
        go_region
        go_wp2
        refine ⟨⟨k + 1, by omega, by omega, by go_num, ?_, ?_, bk.drew⟩, by simp [intOf]; omega⟩
        · rw [HLK.out.1]; go_num
        · have := HLK.out; omega
      · have hk2 : k = 61 := by omega
        have h60i : ¬ (k : Int) ≤ 60 := by omega
        have h60j : ¬ (l.length : Int) ≤ 60 := by omega
        have e : decide (fewB l) = false := decide_eq_false (fun h => by have := h.1; omega)
        have E := Lib.hid e
        clear e
        obtain ⟨v, hv⟩ : ∃ v, loads (l.take k) = v := ⟨_, rfl⟩
        rw [hv]
        go_wp2
        go_ret
        exact ⟨by rw [E.out]; first | done | rfl, bk⟩
    · have hkl : k = l.length := by omega
      subst hkl
      rw [List.take_length] at hld ⊢
      obtain ⟨v, hv⟩ : ∃ v, loads l = v := ⟨_, rfl⟩
      rw [hv] at hld ⊢
      by_cases h60 : (l.length : Int) ≤ 60
      · by_cases hn : (v : Int) ≤ 10000
        · have e : decide (fewB l) = true := decide_eq_true ⟨by omega, by omega⟩
          have E := Lib.hid e
          clear e hld hv
          go_wp2
          go_ret
          exact ⟨by rw [E.out]; first | done | rfl | simp [hn], bk⟩
        · have e : decide (fewB l) = false := decide_eq_false (fun h => by have := h.2; omega)
          have E := Lib.hid e
          clear e hld hv
          go_wp2
          go_ret
          exact ⟨by rw [E.out]; first | done | rfl | simp [hn], bk⟩
      · have e : decide (fewB l) = false := decide_eq_false (fun h => by have := h.1; omega)
        have E := Lib.hid e
        clear e hld hv
        go_wp2
        go_ret
        exact ⟨by rw [E.out]; first | done | rfl, bk⟩
end Go.Proofs.Ytmehehiobcpeoaa.Disk
