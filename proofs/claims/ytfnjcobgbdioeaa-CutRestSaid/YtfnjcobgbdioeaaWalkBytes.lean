/-
  Slices of texts that came in, and pleachplain.Bytes: how many bytes texts have, as long as that is below a million.
-/
import Derived.Test.YtfnjcobgbdioeaaProg
import Derived.WalkKit
import Derived.KernelRfl
import Derived.Lib.Hide
import Derived.IntWalk
import Derived.DataReads
namespace Go.Proofs.Ytfnjcobgbdioeaa.WalkBytes
open Go.RowKit
set_option linter.unusedVariables false
set_option linter.unusedSimpArgs false

theorem minInt2 (k k' : IntKind) (x y : Int) : Builtin.min2 (.int k x) (.int k' y) = pure (.int k (if y < x then y else x)) := by simp only [Builtin.min2]
theorem minTwo (ats : Array TypeId) (ty : TypeId) (a b : Value) : Builtin.min_ ats ty #[a, b] = (Builtin.min2 a b >>= fun s => pure s) := by simp only [Builtin.min_, List.foldlM_cons, List.foldlM_nil]
attribute [local go_sem] minInt2 minTwo

/-- a slice of texts that reads as ss -/
def Strs (w : World) (A : Option Addr) (ss : List ByteArray) : Prop :=
  ss = [] ∨ ∃ b off, A = some ⟨b, off, none⟩ ∧ ∀ i, i < ss.length → w.cell? ⟨b, off + i, none⟩ = some (.string (ss.getD i ByteArray.empty))
/-- what the opening of an argument tells -/
def StrsArg (w : World) (A : Option Addr) (len : Nat) (zs : List ByteArray) : Prop :=
  (A = none ∧ len = 0 ∧ zs = []) ∨
  ∃ (x : Addr) (ss : List ByteArray), A = some x ∧ len ≤ ss.length ∧ (∀ i, i < ss.length → w.cell? (x.add i) = some (.string (ss.getD i ByteArray.empty))) ∧ (∀ s ∈ ss, s.size ≤ maxLen) ∧ zs = ss.take len
theorem StrsArg.out {w : World} {A : Option Addr} {len : Nat} {zs : List ByteArray} (h : StrsArg w A len zs) :
    Strs w A zs ∧ zs.length = len ∧ (∀ s ∈ zs, s.size ≤ 9223372036854775807) ∧ (∀ b off, A = some ⟨b, off, none⟩ → zs ≠ [] → b < w.heap.size) := by
  rcases h with ⟨rfl, rfl, rfl⟩ | ⟨x, ss, rfl, hl, hc, hs, rfl⟩
  · exact ⟨.inl rfl, rfl, by simp, by simp⟩
  · have hlen : (ss.take len).length = len := by simp; omega
    refine ⟨?_, hlen, fun s h => by have := hs s (List.mem_of_mem_take h); unfold maxLen at this; omega, ?_⟩
    · rcases Nat.eq_zero_or_pos len with rfl | hp
      · left; simp
      · right
        obtain ⟨b, off, spot⟩ := x
        have h0 := hc 0 (by omega)
        have hspot : spot = none := by simpa [Addr.add] using World.cell?_spot h0
        subst hspot
        refine ⟨b, off, rfl, fun i hi => ?_⟩
        rw [hlen] at hi
        have hi2 := hc i (by omega)
        have hadd : (⟨b, off, none⟩ : Addr).add i = ⟨b, off + i, none⟩ := by unfold Addr.add; split <;> simp_all
        rw [hadd] at hi2
        rw [hi2]
        simp [List.getD_eq_getElem?_getD, hi]
    · intro b off hx hne
      obtain rfl := Option.some.inj hx
      have hp : 0 < len := by
        rcases Nat.eq_zero_or_pos len with rfl | hp
        · simp at hne
        · exact hp
      have h0 := hc 0 (by omega)
      unfold World.cell? at h0
      rcases Nat.lt_or_ge b w.heap.size with g | g
      · exact g
      · simp [Addr.add, Array.getElem?_eq_none g] at h0
theorem Strs.below {w w' : World} {A : Option Addr} {ss : List ByteArray} (h : Strs w A ss) {B : Nat} (b : Below B w w') (hB : ∀ g off, A = some ⟨g, off, none⟩ → ss ≠ [] → g < B) : Strs w' A ss := by
  rcases h with rfl | ⟨g, off, rfl, hc⟩
  · exact .inl rfl
  · rcases List.eq_nil_or_concat ss with rfl | ⟨l, a, rfl⟩
    · exact .inl rfl
    · exact .inr ⟨g, off, rfl, fun i hi => by rw [b.cell (p := ⟨g, off + i, none⟩) (hB g off rfl (by simp))]; exact hc i hi⟩

theorem Strs.cell {w : World} {g off : Nat} {ss : List ByteArray} (h : Strs w (some ⟨g, off, none⟩) ss) {k : Nat} (hk : k < ss.length) : w.cell? ⟨g, off + k, none⟩ = some (.string (ss.getD k ByteArray.empty)) := by
  rcases h with rfl | ⟨b, o, e, hc⟩
  · simp at hk
  · simp at e
    obtain ⟨rfl, rfl⟩ := e
    exact hc k hk
theorem Strs.addr {w : World} {A : Option Addr} {ss : List ByteArray} (h : Strs w A ss) (hk : ss ≠ []) : ∃ g off, A = some ⟨g, off, none⟩ := by
  rcases h with rfl | ⟨b, o, e, hc⟩
  · exact absurd rfl hk
  · exact ⟨b, o, e⟩
theorem Strs.drop {w : World} {g off : Nat} {ss : List ByteArray} (h : Strs w (some ⟨g, off, none⟩) ss) (k : Nat) : Strs w (some ⟨g, off + k, none⟩) (ss.drop k) := by
  by_cases hk : k < ss.length
  · refine .inr ⟨_, _, rfl, fun i hi => ?_⟩
    rw [List.length_drop] at hi
    rw [Nat.add_assoc, h.cell (by omega)]
    simp [List.getD_eq_getElem?_getD]
  · left; simp; omega


def bys : List ByteArray → Nat → Nat
  | [], n => n
  | s :: l, n => if 1000000 ≤ n + min s.size 1000000 then n + min s.size 1000000 else bys l (n + min s.size 1000000)
/-- how many bytes texts have -/
def total : List ByteArray → Nat
  | [] => 0
  | s :: l => s.size + total l
theorem bys_total (l : List ByteArray) : ∀ n, bys l n < 1000000 → bys l n = n + total l := by
  induction l with
  | nil => intro n _; rfl
  | cons s l ih =>
    intro n h
    simp only [bys, total] at h ⊢
    by_cases g : 1000000 ≤ n + min s.size 1000000
    · rw [if_pos g] at h; omega
    · rw [if_neg g] at h ⊢
      rw [ih _ h]
      omega
theorem drop_getD (l : List ByteArray) (k : Nat) (h : k < l.length) : l.drop k = l.getD k ByteArray.empty :: l.drop (k + 1) := by
  rw [List.drop_eq_getElem_cons h]; simp [List.getD_eq_getElem?_getD, h]
theorem ret_int {k : IntKind} {a b : Int} (h : a = b) : Ending.returned (.int k a) = .returned (.int k b) := by rw [h]

set_option maxHeartbeats 800000 in
set_option maxRecDepth 100000 in
theorem bytes_any (A : Option Addr) (c : Nat) (ss : List ByteArray) (w : World) (hA : Strs w A ss) (hl : ss.length ≤ 9223372036854775807) (hs : ∀ s ∈ ss, s.size ≤ 9223372036854775807) :
    Calls Try.prog 18 #[.slice A ss.length c] w fun e w' => e = .returned (.int .i64 (bys ss 0 : Nat)) ∧ w = w' := by
  rcases hA with rfl | ⟨b, off, rfl, hc⟩
  · go_enter Try.func18, Try.ntmps18
    go_wp2
    go_loop [3, 8] (fun n i => i = .int .i64 0 ∧ n = .int .i64 0) (fun _ i => 0)
    case atStart => exact ⟨rfl, rfl⟩
    case round =>
      obtain ⟨rfl, rfl⟩ := hrel
      go_wp2
      go_ret
      exact ⟨rfl, rfl⟩
  · obtain ⟨R, hR⟩ : ∃ R, bys ss 0 = R := ⟨_, rfl⟩
    rw [hR]
    have HR0 := Lib.hid hR
    clear hR
    go_enter Try.func18, Try.ntmps18
    go_wp2
    go_loop [3, 8] (fun n i => ∃ k a : Nat, k ≤ ss.length ∧ i = .int .i64 k ∧ n = .int .i64 (a : Int) ∧ Hid (a < 1000000) ∧ Hid (bys (ss.drop k) a = R)) (fun _ i => ss.length - (intOf i).toNat)
    case atStart => exact ⟨0, 0, Nat.zero_le _, rfl, rfl, (by omega : 0 < 1000000), HR0.out⟩
    case round =>
      obtain ⟨k, a, hk, rfl, rfl, HA, HR⟩ := hrel
      have ha := HA.out
      by_cases hlt : k < ss.length
      · have hck := hc k hlt
        have hsz : (ss.getD k ByteArray.empty).size ≤ 9223372036854775807 := by
          rw [List.getD_eq_getElem?_getD, List.getElem?_eq_getElem hlt]; exact hs _ (List.getElem_mem hlt)
        have hst := HR.out
        rw [drop_getD ss k hlt] at hst
        simp only [bys] at hst
        clear hc hs
        generalize ss.getD k ByteArray.empty = t at hck hsz hst
        have ha0 : (a : Int) ≤ 999999 := by omega
        have hk0 : (k : Int) < (ss.length : Int) := by omega
        have hs0 : (t.size : Int) ≤ 9223372036854775807 := by omega
        have hl0 : (ss.length : Int) ≤ 9223372036854775807 := by omega
        have HST := Lib.hid hst
        clear hst HR ha hsz hlt hk hl
        have q1 : (1000000 : Int) ≤ (a : Int) + 1000000 := by omega
        have q2 : decide ((1000000 : Int) ≤ (a : Int) + 1000000) = true := by simpa using q1
        by_cases g : (1000000 : Int) < (t.size : Int)
        · have hf : (a : Int) + 1000000 = (R : Int) := by
            have h := HST.out
            rw [Nat.min_eq_right (by omega), if_pos (by omega)] at h
            omega
          have HF := Lib.hid hf
          clear hf
          go_wp2
          go_ret
          exact ⟨ret_int HF.out, rfl⟩
        · by_cases g2 : (1000000 : Int) ≤ (a : Int) + (t.size : Int)
          · have hf : (a : Int) + (t.size : Int) = (R : Int) := by
              have h := HST.out
              rw [Nat.min_eq_left (by omega), if_pos (by omega)] at h
              omega
            have HF := Lib.hid hf
            clear hf
            go_wp2
            go_ret
            exact ⟨ret_int HF.out, rfl⟩
          · have hf : bys (ss.drop (k + 1)) (a + t.size) = R := by
              have h := HST.out
              rw [Nat.min_eq_left (by omega), if_neg (by omega)] at h
              exact h
            have HF := Lib.hid hf
            have HX : Hid (a + t.size < 1000000) := (by omega : a + t.size < 1000000)
            have HK : Hid (k + 1 ≤ ss.length) := (by omega : k + 1 ≤ ss.length)
            clear hf
            go_wp2
            go_round
            case rel => exact ⟨k + 1, a + t.size, HK.out, by go_num, by go_num, HX, HF⟩
            case measure => simp [intOf]; omega
      · have hke : k = ss.length := by omega
        have hf : a = R := by
          have h := HR.out
          rw [hke, List.drop_length] at h
          exact h
        have hf2 : (a : Int) = (R : Int) := by omega
        have HF := Lib.hid hf2
        have hge : (ss.length : Int) ≤ (k : Int) := by omega
        clear hf hf2 hke hc hs HR HA ha
        go_wp2
        go_ret
        exact ⟨ret_int HF.out, rfl⟩
end Go.Proofs.Ytfnjcobgbdioeaa.WalkBytes
