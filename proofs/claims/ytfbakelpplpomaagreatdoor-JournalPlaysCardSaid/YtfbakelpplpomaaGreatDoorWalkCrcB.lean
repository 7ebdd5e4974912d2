/-
  The walks of crc.On, Of, tail, Seal, Open, and of the document's On, Tail, Open.
-/
import Derived.Test.YtfbakelpplpomaaGreatDoorProg
import Derived.Test.YtfbakelpplpomaaGreatDoorCrcPure
import Derived.Test.YtfbakelpplpomaaGreatDoorStrs
import Derived.WalkKit
import Derived.KernelRfl
import Derived.Lib.Hide
import Derived.Deep.QuietTactic
import Derived.BigQuiet
import Derived.IntWalk
import Derived.Deep.RegionWith
import Derived.Deep.DeepMust
import Derived.Maps.AppendAt
namespace Go.Proofs.YtfbakelpplpomaaGreatDoor.WalkCrc
open Go.RowKit Go.Proofs.YtfbakelpplpomaaGreatDoor.WalkBytes
set_option linter.unusedVariables false
set_option linter.unusedSimpArgs false
set_option maxRecDepth 100000

theorem ret_u32 {k : IntKind} {a b : Int} (h : a = b) : Ending.returned (.int k a) = .returned (.int k b) := by rw [h]

/-- the table reads as the program's text has it -/
def Tab (w : World) : Prop := ∀ i, i < 16 → w.cell? ⟨0, i, none⟩ = some (.int .u32 (Pl.Crc.tab.getD i 0 : Nat))
theorem Tab.lt {w : World} (h : Tab w) : 0 < w.heap.size := by
  have := h 0 (by omega)
  unfold World.cell? at this
  rcases Nat.lt_or_ge 0 w.heap.size with g | g
  · exact g
  · simp [Array.getElem?_eq_none g] at this
theorem Tab.below {w w' : World} (h : Tab w) {B : Nat} (b : Below B w w') (hB : 0 < B) : Tab w' :=
  fun i hi => by rw [b.cell (p := ⟨0, i, none⟩) hB]; exact h i hi

theorem not_u32 (n : Nat) (h : n < 4294967296) : bits .xor .u32 IntKind.u32.max (n : Int) = ((4294967295 - n : Nat) : Int) := by
  have e : IntKind.u32.max = ((4294967295 : Nat) : Int) := by decide
  rw [e, u32_xor_nat _ _ (by omega) h]
  congr 1
  have h1 := Pl.Crc.ones_xor n h
  have h2 : 4294967295 ^^^ n = n ^^^ (n ^^^ (4294967295 ^^^ n)) := by rw [← Nat.xor_assoc, Nat.xor_self, Nat.zero_xor]
  rw [h2, Nat.xor_comm 4294967295 n, ← Nat.xor_assoc, ← Nat.xor_assoc, Nat.xor_self, Nat.zero_xor]
  have h3 : n ^^^ (n ^^^ (4294967295 - n)) = n ^^^ 4294967295 := by rw [h1]
  rw [← Nat.xor_assoc, Nat.xor_self, Nat.zero_xor] at h3
  exact h3.symm

theorem tab_lt (i : Nat) : Pl.Crc.tab.getD i 0 < 4294967296 := by
  rcases Nat.lt_or_ge i 16 with h | h
  · exact (by decide : ∀ i : Fin 16, Pl.Crc.tab.getD i.val 0 < 4294967296) ⟨i, h⟩
  · rw [List.getD_eq_getElem?_getD, List.getElem?_eq_none (by simpa [Pl.Crc.tab] using h)]; decide

/-- what the walk is told of one byte -/
theorem step_facts (r c : Nat) (w : World) (ht : Tab w) (hr : r < 4294967296) (hc : c < 256) :
    ∃ a i1 t1 b i2 t2 : Nat, bits .xor .u32 (r : Int) (c : Int) = (a : Int) ∧ bits .and .u32 (a : Int) 15 = (i1 : Int) ∧ i1 < 16 ∧ w.cell? ⟨0, i1, none⟩ = some (.int .u32 (t1 : Int)) ∧
      bits .xor .u32 ((a : Int) / 16) (t1 : Int) = (b : Int) ∧ bits .and .u32 (b : Int) 15 = (i2 : Int) ∧ i2 < 16 ∧ w.cell? ⟨0, i2, none⟩ = some (.int .u32 (t2 : Int)) ∧
      bits .xor .u32 ((b : Int) / 16) (t2 : Int) = (Pl.Crc.byteStep r c : Nat) ∧ a < 4294967296 ∧ b < 4294967296 := by
  have key : ∀ x : Nat, x < 4294967296 → bits .and .u32 (x : Int) 15 = ((x % 16 : Nat) : Int) ∧ bits .xor .u32 ((x : Int) / 16) (Pl.Crc.tab.getD (x % 16) 0 : Nat) = (Pl.Crc.nib x : Nat) := by
    intro x hx
    constructor
    · rw [show (15 : Int) = ((15 : Nat) : Int) from rfl, u32_and_nat _ _ hx (by omega)]
      have := Nat.and_two_pow_sub_one_eq_mod x 4
      rw [show (15 : Nat) = 2 ^ 4 - 1 from rfl, this]
    · rw [show (x : Int) / 16 = ((x / 16 : Nat) : Int) by omega, u32_xor_nat _ _ (by omega) (tab_lt _)]; rfl
  have ha : r ^^^ c < 4294967296 := Nat.xor_lt_two_pow (n := 32) hr (by omega)
  have hb : Pl.Crc.nib (r ^^^ c) < 4294967296 := by rw [Pl.Crc.nib_T]; exact Pl.Crc.Tn_lt _ ha
  exact ⟨r ^^^ c, (r ^^^ c) % 16, Pl.Crc.tab.getD ((r ^^^ c) % 16) 0, Pl.Crc.nib (r ^^^ c), Pl.Crc.nib (r ^^^ c) % 16, Pl.Crc.tab.getD (Pl.Crc.nib (r ^^^ c) % 16) 0,
    u32_xor_nat _ _ hr (by omega), (key _ ha).1, by omega, ht _ (by omega), (key _ ha).2, (key _ hb).1, by omega, ht _ (by omega), (key _ hb).2, ha, hb⟩

theorem run_take (r : Nat) (s : ByteArray) (k : Nat) (h : k < s.size) : Pl.Crc.run r (s.data.toList.take (k + 1)) = Pl.Crc.byteStep (Pl.Crc.run r (s.data.toList.take k)) s[k].toNat := by
  rw [List.take_succ_eq_append_getElem (by simpa using h)]
  simp only [Pl.Crc.run, List.foldl_append]; rfl

set_option maxHeartbeats 800000 in
theorem on_any (s0 : Nat) (s : ByteArray) (w : World) (ht : Tab w) (h0 : s0 < 4294967296) (hs : s.size ≤ 9223372036854775806) :
    Calls Tryz.prog 121 #[.int .u32 s0, .string s] w fun e w' => e = .returned (.int .u32 (Pl.Crc.on s0 s.data.toList : Nat)) ∧ w = w' := by
  have hm := not_u32 s0 h0
  have hf : Pl.Crc.on s0 s.data.toList = 4294967295 - Pl.Crc.run (4294967295 - s0) s.data.toList := rfl
  have HF := Lib.hid hf
  have hml : 4294967295 - s0 < 4294967296 := by omega
  clear hf
  generalize 4294967295 - s0 = m at hm HF hml
  go_enter Tryz.func121, Tryz.ntmps121
  go_wp2
  go_loop [0, 10] (fun n i => ∃ k : Nat, k ≤ s.size ∧ i = .int .i64 k ∧ n = .int .u32 (Pl.Crc.run m (s.data.toList.take k) : Nat)) (fun _ i => s.size - (intOf i).toNat)
  case atStart => exact ⟨0, Nat.zero_le _, rfl, rfl⟩
  case round =>
    obtain ⟨k, hk, rfl, rfl⟩ := hrel
    have hr := Pl.Crc.run_lt (s.data.toList.take k) hml
    by_cases hlt : k < s.size
    · have hst := Lib.hid (run_take m s k hlt)
      have hc := s[k].toNat_lt
      have hc2 : (s[k].toNat : Int) ≤ 255 := by omega
      obtain ⟨a, i1, t1, b, i2, t2, e1, e2, b1, c1, e3, e4, b2, c2, e5, ba, bb⟩ := step_facts _ _ w ht hr hc
      generalize Pl.Crc.byteStep (Pl.Crc.run m (s.data.toList.take k)) s[k].toNat = d at hst e5
      go_wp2
      go_round
      case rel => exact ⟨k + 1, by omega, by go_num, by rw [hst.out]⟩
      case measure => simp [intOf]; omega
    · have : k = s.size := by omega
      subst this
      rw [List.take_of_length_le (by simp)] at hr ⊢
      have hn := not_u32 _ hr
      go_wp2
      go_ret
      exact ⟨ret_u32 (by rw [HF.out]), rfl⟩

/-- texts, one behind the other -/
def cat (ss : List ByteArray) : List UInt8 := (ss.map fun s => s.data.toList).flatten
theorem cat_take (ss : List ByteArray) (k : Nat) (h : k < ss.length) : cat (ss.take (k + 1)) = cat (ss.take k) ++ (ss.getD k ByteArray.empty).data.toList := by
  rw [List.take_succ_eq_append_getElem h]
  unfold cat
  rw [List.map_append, List.flatten_append]
  congr 1
  simp [List.getD_eq_getElem?_getD, h]
/-- the sum of the first texts, behind a name -/
theorem sums_of (ss : List ByteArray) : ∃ f : Nat → Nat, f 0 = 0 ∧ (∀ k, k < ss.length → Pl.Crc.on (f k) (ss.getD k ByteArray.empty).data.toList = f (k + 1)) ∧ f ss.length = Pl.Crc.on 0 (cat ss) ∧ ∀ k, f k < 4294967296 :=
  ⟨fun k => Pl.Crc.on 0 (cat (ss.take k)), by simp [cat, Pl.Crc.on, Pl.Crc.run], fun k h => by
    show Pl.Crc.on (Pl.Crc.on 0 (cat (ss.take k))) _ = Pl.Crc.on 0 (cat (ss.take (k + 1)))
    rw [Pl.Crc.on_append _ _ _ (by omega), cat_take _ _ h], by simp only [List.take_length], fun k => Pl.Crc.on_lt _ _⟩

set_option maxHeartbeats 800000 in
theorem ofs_any (A : Option Addr) (c : Nat) (ss : List ByteArray) (w : World) (ht : Tab w) (hA : Strs w A ss) (hl : ss.length ≤ 9223372036854775806) (hs : ∀ s ∈ ss, s.size ≤ 9223372036854775806) :
    Calls Tryz.prog 98 #[.slice A ss.length c] w fun e w' => e = .returned (.int .u32 (Pl.Crc.on 0 (cat ss) : Nat)) ∧ w = w' := by
  rcases hA with rfl | ⟨b, off, rfl, hc⟩
  · go_enter Tryz.func98, Tryz.ntmps98
    go_wp2
    go_loop [3, 8] (fun n i => i = .int .i64 0 ∧ n = .int .u32 0) (fun _ i => 0)
    case atStart => exact ⟨rfl, rfl⟩
    case round =>
      obtain ⟨rfl, rfl⟩ := hrel
      go_wp2
      go_ret
      exact ⟨ret_u32 (by decide), rfl⟩
  · obtain ⟨f, f0, fs, fl, fb⟩ := sums_of ss
    have FL := Lib.hid fl
    have F0 := Lib.hid f0
    clear fl f0
    go_enter Tryz.func98, Tryz.ntmps98
    go_wp2
    go_loop [3, 8] (fun n i => ∃ k : Nat, k ≤ ss.length ∧ i = .int .i64 k ∧ n = .int .u32 (f k : Nat)) (fun _ i => ss.length - (intOf i).toNat)
    case atStart => exact ⟨0, Nat.zero_le _, rfl, by rw [F0.out]; rfl⟩
    case round =>
      obtain ⟨k, hk, rfl, rfl⟩ := hrel
      have hr := fb k
      by_cases hlt : k < ss.length
      · have hck := hc k hlt
        have hsz : (ss.getD k ByteArray.empty).size ≤ 9223372036854775806 := by
          rw [List.getD_eq_getElem?_getD, List.getElem?_eq_getElem hlt]; exact hs _ (List.getElem_mem hlt)
        have HX := Lib.hid (fs k hlt)
        clear fs fb hc
        generalize ss.getD k ByteArray.empty = t at hck hsz HX
        go_wp2_with (go_at_call 121; refine (on_any _ _ _ ht hr hsz).mono ?_; rintro e w' ⟨rfl, rfl⟩)
        go_round
        case rel => exact ⟨k + 1, by omega, by go_num, by rw [HX.out]⟩
        case measure => simp [intOf]; omega
      · have : k = ss.length := by omega
        subst this
        clear fs fb hc
        go_wp2
        go_ret
        exact ⟨ret_u32 (by rw [FL.out]), rfl⟩

/-- the four bytes of a sum -/
def tailS (v : Nat) : ByteArray := strOfNums [(v : Int) % 256, (v : Int) / 256 % 256, (v : Int) / 65536 % 256, (v : Int) / 16777216]
theorem tailS_size (v : Nat) : (tailS v).size = 4 := rfl
theorem conv_four (w : World) (x y z u : Int) :
    (convert 107 9 (.slice (some ⟨w.heap.size, 0, none⟩) 4 4)).run Tryz.prog (w.alloc (.cells #[.int .u8 x, .int .u8 y, .int .u8 z, .int .u8 u] 5)) = .ok (.string (strOfNums [x, y, z, u])) (w.alloc (.cells #[.int .u8 x, .int .u8 y, .int .u8 z, .int .u8 u] 5)) :=
  run_convert_bytes_arg _ 107 5 Tryz.underlying107 Tryz.underlying5 _ 0 4 4 [x, y, z, u] rfl (fun i hi => by
    have : i = 0 ∨ i = 1 ∨ i = 2 ∨ i = 3 := by omega
    rcases this with rfl | rfl | rfl | rfl <;> go_simp) _ Tryz.underlying9
theorem tail_any (v : Nat) (w : World) (h : v < 4294967296) :
    Calls Tryz.prog 97 #[.int .u32 v] w fun e w' => e = .returned (.string (tailS v)) ∧ Below w.heap.size w w' := by
  have hcv := conv_four
  go_enter Tryz.func97, Tryz.ntmps97
  go_wp2
  go_ret
  exact ⟨rfl, (Below.refl _ _).alloc (Nat.le_refl _) _⟩

theorem of_one (s : ByteArray) (w : World) (ht : Tab w) (hs : s.size ≤ 9223372036854775806) :
    Calls Tryz.prog 98 #[.slice (some ⟨w.heap.size, 0, none⟩) 1 1] (w.alloc (.cells #[.string s] 9)) fun e w' => e = .returned (.int .u32 (Pl.Crc.on 0 s.data.toList : Nat)) ∧ w.alloc (.cells #[.string s] 9) = w' := by
  have hS : Strs (w.alloc (.cells #[.string s] 9)) (some ⟨w.heap.size, 0, none⟩) [s] := .inr ⟨_, _, rfl, fun i hi => by (obtain rfl : i = 0 := by simpa using hi); go_simp⟩
  have hT : Tab (w.alloc (.cells #[.string s] 9)) := ht.below ((Below.refl w.heap.size w).alloc (Nat.le_refl _) _) ht.lt
  have ho := ofs_any (some ⟨w.heap.size, 0, none⟩) 1 [s] _ hT hS (by simp) (by simp; omega)
  rwa [show cat [s] = s.data.toList from by simp [cat]] at ho
theorem of_one_at (s : ByteArray) (v : Nat) (w : World) (ht : Tab w) (hs : s.size ≤ 9223372036854775806) (hv : Pl.Crc.on 0 s.data.toList = v) :
    Calls Tryz.prog 98 #[.slice (some ⟨w.heap.size, 0, none⟩) 1 1] (w.alloc (.cells #[.string s] 9)) fun e w' => e = .returned (.int .u32 (v : Nat)) ∧ w.alloc (.cells #[.string s] 9) = w' := hv ▸ of_one s w ht hs
theorem Tab.drewN {w : World} (h : Tab w) (n : Nat) : Tab (w.drewN n) := h

theorem seal_any (s : ByteArray) (w : World) (ht : Tab w) (hs : s.size ≤ 140737488351232) :
    Calls Tryz.prog 65 #[.string s] w fun e w' => e = .returned (.string (s ++ tailS (Pl.Crc.on 0 s.data.toList))) ∧ Below w.heap.size w w' := by
  have hz : ¬ (9223372036854775807 < s.size + (tailS (Pl.Crc.on 0 s.data.toList)).size) := by rw [tailS_size]; omega
  have hr := Pl.Crc.on_lt 0 s.data.toList
  have g1 : s.size ≤ 9223372036854775806 := by omega
  obtain ⟨v, hv⟩ : ∃ v, Pl.Crc.on 0 s.data.toList = v := ⟨_, rfl⟩
  rw [hv] at hr hz ⊢
  have HV := Lib.hid hv
  clear hv
  go_enter Tryz.func65, Tryz.ntmps65
  go_wp2_with (first | (go_at_call 98; refine (of_one_at s v w ht g1 HV.out).mono ?_; rintro e w' ⟨rfl, rfl⟩) | (go_at_call 97; refine (tail_any v _ hr).mono ?_; rintro e w1 ⟨rfl, hB⟩))
  go_ret
  exact ⟨rfl, ((Below.refl _ _).alloc (Nat.le_refl _) _).trans (hB.mono (by simp))⟩

theorem toList_inj {a b : ByteArray} (h : a.toList = b.toList) : a = b := by
  rw [ByteArray.toList_eq, ByteArray.toList_eq] at h
  exact ByteArray.ext (Array.ext' h)
/-- what is opened, and whether it is -/
def opens (s : ByteArray) : Bool := decide (4 ≤ s.size) && ((tailS (Pl.Crc.on 0 (s.extract 0 (s.size - 4)).data.toList)).toList == (s.extract (s.size - 4) s.size).toList)
def opened (s : ByteArray) : ByteArray := if opens s = true then s.extract 0 (s.size - 4) else ByteArray.empty

set_option maxHeartbeats 800000 in
theorem open_any (s : ByteArray) (w : World) (ht : Tab w) (hs : s.size ≤ 140737488351232) :
    Calls Tryz.prog 87 #[.string s] w fun e w' => e = .returned (.tuple #[.string (opened s), .bool (opens s)]) ∧ Below w.heap.size w w' := by
  by_cases h4 : s.size < 4
  · have ho : opens s = false := by unfold opens; rw [decide_eq_false (by omega)]; rfl
    have hp : opened s = ByteArray.empty := by unfold opened; rw [ho]; rfl
    rw [ho, hp]
    have h4' : (s.size : Int) < 4 := by omega
    go_enter Tryz.func87, Tryz.ntmps87
    go_wp2
    go_ret2
    exact ⟨rfl, Below.refl _ _⟩
  · have h4' : ¬ (s.size : Int) < 4 := by omega
    have e1 : IntKind.i64.wrap ((s.size : Int) - 4) = (s.size : Int) - 4 := IntWalk.i64_in _ (by omega)
    have e2 : 0 ≤ (s.size : Int) - 4 := by omega
    have e3 : ((s.size : Int) - 4).toNat = s.size - 4 := by omega
    have hr := Pl.Crc.on_lt 0 (s.extract 0 (s.size - 4)).data.toList
    have g1 : (s.extract 0 (s.size - 4)).size ≤ 9223372036854775806 := by rw [ByteArray.size_extract]; omega
    obtain ⟨v, hv⟩ : ∃ v, Pl.Crc.on 0 (s.extract 0 (s.size - 4)).data.toList = v := ⟨_, rfl⟩
    have ho : opens s = ((tailS v).toList == (s.extract (s.size - 4) s.size).toList) := by unfold opens; rw [hv, decide_eq_true (by omega)]; rfl
    rw [hv] at hr
    have HV := Lib.hid hv
    have HO := Lib.hid ho
    clear hv ho
    go_enter Tryz.func87, Tryz.ntmps87
    go_wp2_with fail
    go_quiet (fail)
    clear e1 e2 e3
    go_wp2_with (first | (go_at_call 98; refine (of_one_at _ v (w.drewN nq) (ht.drewN nq) g1 HV.out).mono ?_; rintro e w' ⟨rfl, rfl⟩) | (go_at_call 97; refine (tail_any v _ hr).mono ?_; rintro e w1 ⟨rfl, hB⟩))
    all_goals go_ret2
    all_goals
      have hb : Below w.heap.size w w1 := (((Below.refl w.heap.size w).trans ⟨rfl, rfl, rfl, Nat.le_refl _, fun _ _ => rfl⟩ : Below w.heap.size w (w.drewN nq)).alloc (Nat.le_refl _) _).trans (hB.mono (by simp))
      refine ⟨?_, hb⟩
    · have h : (!(tailS v).toList == (s.extract (s.size - 4) s.size).toList) = true := by assumption
      have hf : opens s = false := by rw [HO.out]; simpa using h
      have hp : opened s = ByteArray.empty := by unfold opened; rw [hf]; rfl
      rw [hf, hp]; rfl
    · have h : (!(tailS v).toList == (s.extract (s.size - 4) s.size).toList) = false := by assumption
      have hf : opens s = true := by rw [HO.out]; simpa using h
      have hp : opened s = s.extract 0 (s.size - 4) := by unfold opened; rw [if_pos hf]
      rw [hf, hp]; rfl

/-! the document's own -/
/-- a row of bits, each byte's lowest first -/
def bitsL (l : List UInt8) : List Nat := (l.map fun c => Pl.Crc.bitsOf c.toNat 8).flatten
theorem brun_bitsL (l : List UInt8) : ∀ r, Pl.Crc.brun r (bitsL l) = Pl.Crc.run r l := by
  induction l with
  | nil => intro r; rfl
  | cons c l ih =>
    intro r
    have h1 : bitsL (c :: l) = Pl.Crc.bitsOf c.toNat 8 ++ bitsL l := by simp [bitsL]
    have h2 : Pl.Crc.brun r (Pl.Crc.bitsOf c.toNat 8 ++ bitsL l) = Pl.Crc.brun (Pl.Crc.brun r (Pl.Crc.bitsOf c.toNat 8)) (bitsL l) := by simp [Pl.Crc.brun, List.foldl_append]
    rw [h1, h2, ih, Pl.Crc.brun_bits _ _ _ (by have := c.toNat_lt; omega), ← Pl.Crc.byteStep_T]
    rfl
/-- the document's tail, byte by byte -/
def tq (v : Nat) : Nat → Int
  | 0 => v
  | 1 => (v : Int) / 256
  | 2 => (v : Int) / 65536
  | 3 => (v : Int) / 16777216
  | _ => 0
def tb (v : Nat) (k : Nat) : ByteArray := strOfNums ([(v : Int) % 256, (v : Int) / 256 % 256, (v : Int) / 65536 % 256, (v : Int) / 16777216].take k)
theorem tb_size (v k : Nat) (h : k ≤ 4) : (tb v k).size = k := by unfold tb; rw [strOfNums_size]; simp; omega
theorem conv_one (w : World) (x : Int) :
    (convert 107 9 (.slice (some ⟨w.heap.size, 0, none⟩) 1 1)).run Tryz.prog (w.alloc (.cells #[.int .u8 x] 5)) = .ok (.string (strOfNums [x])) (w.alloc (.cells #[.int .u8 x] 5)) :=
  run_convert_bytes_arg _ 107 5 Tryz.underlying107 Tryz.underlying5 _ 0 1 1 [x] rfl (fun i hi => by (obtain rfl : i = 0 := by omega); go_simp) _ Tryz.underlying9
theorem strOfNums_append (a b : List Int) : strOfNums a ++ strOfNums b = strOfNums (a ++ b) := by
  apply ByteArray.ext
  simp [strOfNums]
set_option maxHeartbeats 1600000 in
theorem refTail_any (v : Nat) (w : World) (h : v < 4294967296) :
    Calls Tryz.prog 124 #[.int .u32 v] w fun e w' => e = .returned (.string (tailS v)) ∧ Below w.heap.size w w' := by
  have hcv := conv_one
  have hq : ∀ k, k < 4 → 0 ≤ tq v k ∧ tq v k < 4294967296 := by
    intro k hk
    have : k = 0 ∨ k = 1 ∨ k = 2 ∨ k = 3 := by omega
    rcases this with rfl | rfl | rfl | rfl <;> simp only [tq] <;> omega
  have hqs : ∀ k, k < 4 → tq v k / 256 = tq v (k + 1) := by
    intro k hk
    have : k = 0 ∨ k = 1 ∨ k = 2 ∨ k = 3 := by omega
    rcases this with rfl | rfl | rfl | rfl <;> simp only [tq] <;> omega
  have hbs : ∀ k, k < 4 → tb v k ++ strOfNums [tq v k % 256] = tb v (k + 1) := by
    intro k hk
    unfold tb
    rw [strOfNums_append]
    congr 1
    have : k = 0 ∨ k = 1 ∨ k = 2 ∨ k = 3 := by omega
    rcases this with rfl | rfl | rfl | rfl <;> simp only [tq] <;> simp
    omega
  have HQS := Lib.hid hqs
  have HBS := Lib.hid hbs
  have h40 : tb v 4 = tailS v := rfl
  have H4 := Lib.hid h40
  clear hqs hbs h40
  go_enter Tryz.func124, Tryz.ntmps124
  go_wp2
  go_loopw [0, 3, 4] (fun n o i wr => ∃ k : Nat, k ≤ 4 ∧ i = .int .i64 k ∧ n = .int .u32 (tq v k) ∧ o = .string (tb v k) ∧ Below w.heap.size w wr) (fun _ _ i _ => 4 - (intOf i).toNat)
  case atStart => exact ⟨0, by omega, rfl, rfl, rfl, Below.refl _ _⟩
  case round =>
    obtain ⟨k, hk, rfl, rfl, rfl, hB⟩ := hrel
    by_cases hlt : k < 4
    · obtain ⟨q0, q1⟩ := hq k hlt
      have H1 := Lib.hid (HQS.out k hlt)
      have H2 := Lib.hid (HBS.out k hlt)
      have hz : ¬ (9223372036854775807 < (tb v k).size + (strOfNums [tq v k % 256]).size) := by rw [tb_size _ _ (by omega), strOfNums_size]; simp; omega
      clear hq
      generalize tq v k = q at *
      go_wp2
      go_roundw
      case rel => exact ⟨k + 1, by omega, by go_num, by rw [H1.out], by rw [H2.out], hB.alloc hB.size _⟩
      case measure => simp [intOf]; omega
    · have : k = 4 := by omega
      subst this
      go_wp2
      go_ret
      exact ⟨by rw [← H4.out]; rfl, hB⟩

theorem bitsOf_take (n : Nat) : ∀ (c j : Nat), j < n → (Pl.Crc.bitsOf c n).take (j + 1) = (Pl.Crc.bitsOf c n).take j ++ [c / 2 ^ j % 2] := by
  induction n with
  | zero => intro c j h; omega
  | succ n ih =>
    intro c j h
    cases j with
    | zero => simp [Pl.Crc.bitsOf]
    | succ j =>
      show (c % 2 :: Pl.Crc.bitsOf (c / 2) n).take (j + 1 + 1) = (c % 2 :: Pl.Crc.bitsOf (c / 2) n).take (j + 1) ++ _
      rw [List.take_succ_cons, List.take_succ_cons, ih (c / 2) j (by omega), Nat.div_div_eq_div_mul, ← Nat.pow_succ']
      rfl
theorem bitsOf_length (n : Nat) : ∀ c, (Pl.Crc.bitsOf c n).length = n := by
  induction n with
  | zero => intro c; rfl
  | succ n ih => intro c; simp [Pl.Crc.bitsOf, ih]
theorem bitsL_take (s : ByteArray) (k : Nat) (h : k < s.size) : bitsL (s.data.toList.take (k + 1)) = bitsL (s.data.toList.take k) ++ Pl.Crc.bitsOf s[k].toNat 8 := by
  rw [List.take_succ_eq_append_getElem (by simpa using h)]
  simp [bitsL]; rfl
theorem bitsL_length (l : List UInt8) : (bitsL l).length = 8 * l.length := by
  induction l with
  | nil => rfl
  | cons c l ih =>
    have h1 : bitsL (c :: l) = Pl.Crc.bitsOf c.toNat 8 ++ bitsL l := by simp [bitsL]
    rw [h1, List.length_append, bitsOf_length, ih, List.length_cons]; omega
def u32s (l : List Nat) : List Value := l.map fun (n : Nat) => Value.int .u32 (n : Int)
theorem info_u32 : (Tryz.prog.info? 132).map (fun i => (i.zero, i.size, i.bytes)) = some (some (.int .u32 0), 1, 4) := by kernel_rfl

set_option maxHeartbeats 1600000 in
theorem bits_any (s : ByteArray) (w : World) (hs : s.size ≤ 100000) :
    Calls Tryz.prog 136 #[.string s] w fun e w' => ∃ sv, e = .returned sv ∧ w'.ownsRow w.heap.size 132 1 sv (8 * s.size) (u32s (bitsL s.data.toList)) ∧ Below w.heap.size w w' := by
  obtain ⟨i0, hi, hz0, hz1, hz2⟩ := info_parts info_u32
  go_enter Tryz.func136, Tryz.ntmps136
  go_wp2
  go_loopw [3, 4] (fun o i wr => ∃ k : Nat, k ≤ s.size ∧ i = .int .i64 k ∧ wr.ownsRow w.heap.size 132 1 o (8 * k) (u32s (bitsL (s.data.toList.take k))) ∧ Below w.heap.size w wr) (fun _ i _ => s.size - (intOf i).toNat)
  case atStart => exact ⟨0, by omega, rfl, World.ownsRow_nil _ _ _ _, Below.refl _ _⟩
  case round =>
    obtain ⟨k, hk, rfl, hown, hB⟩ := hrel
    by_cases hlt : k < s.size
    · have hbt := Lib.hid (bitsL_take s k hlt)
      have hc := s[k].toNat_lt
      have hc2 : (s[k].toNat : Int) ≤ 255 := by omega
      generalize hC : s[k].toNat = C at hc hc2 hbt
      go_wp2
      obtain ⟨wo, rfl⟩ : ∃ wo : World, wo = wr := ⟨_, rfl⟩
      clear hC
      go_loopw [3, 5, 6] (fun o c j wr => ∃ n q : Nat, n ≤ 8 ∧ j = .int .i64 n ∧ c = .int .u32 (q : Int) ∧ q < 256 ∧ Hid (q = C / 2 ^ n) ∧ wr.ownsRow w.heap.size 132 1 o (8 * k + n) (u32s (bitsL (s.data.toList.take k) ++ (Pl.Crc.bitsOf C 8).take n)) ∧ Below w.heap.size w wr) (fun _ _ j _ => 8 - (intOf j).toNat)
      case atStart =>
        exact ⟨0, C, by omega, rfl, rfl, by omega, by show C = C / 2 ^ 0; simp, by simpa using hown, hB⟩
      case round =>
        obtain ⟨n, q, hn, rfl, rfl, hq, HQ, hown2, hB2⟩ := hrel
        clear hown hB
        by_cases hlt8 : n < 8
        · have hrow : u32s (bitsL (s.data.toList.take k) ++ (Pl.Crc.bitsOf C 8).take n) ++ [.int .u32 ((q : Int) % 2)] = u32s (bitsL (s.data.toList.take k) ++ (Pl.Crc.bitsOf C 8).take (n + 1)) := by
            rw [bitsOf_take 8 C n hlt8, ← List.append_assoc]
            have : ((q : Int) % 2) = ((C / 2 ^ n % 2 : Nat) : Int) := by rw [HQ.out]; omega
            rw [this]
            simp [u32s]
          have HR := Lib.hid hrow
          clear hrow
          go_wp2_with (at_builtin; go_must (refine wpList_append_own _ rfl _ _ 177 rfl w.heap.size 132 i0 (.int .u32 0) 1 4 Tryz.underlying177 hi hz0 hz1 hz2 rfl (by decide) _ _ _ rfl (hown2.alloc _) ⟨wr.heap.size, 0, none⟩ 1 1 [.int .u32 ((q : Int) % 2)] rfl rfl (cell_one_new _ _ _) (fun x hx => by simp at hx; subst hx; rfl) (by unfold maxLen; omega) (by omega) (by simp; have := hB2.size; omega) ?_); intro v' w1 hown3 hgrow _)
          go_roundw
          case rel => exact ⟨n + 1, q / 2, by omega, by go_num, by go_num, by omega, by show q / 2 = C / 2 ^ (n + 1); rw [HQ.out, Nat.div_div_eq_div_mul, Nat.pow_succ], by rw [HR.out] at hown3; exact hown3, (hB2.alloc hB2.size _).grown hgrow (by simp; have := hB2.size; omega) (fun k hk => (hown2.lt k hk).1)⟩
          case measure => simp [intOf]; omega
        · have h8 : n = 8 := by omega
          subst h8
          rw [List.take_of_length_le (l := Pl.Crc.bitsOf C 8) (by rw [bitsOf_length]; exact Nat.le_refl _), ← hbt.out] at hown2
          go_wp2
          go_roundw
          case rel => exact ⟨k + 1, by omega, by go_num, by exact hown2, hB2⟩
          case measure => simp [intOf]; omega
    · have : k = s.size := by omega
      subst this
      rw [List.take_of_length_le (by simp)] at hown
      go_wp2
      go_ret
      exact ⟨_, rfl, hown, hB⟩

theorem brun_take (m : Nat) (l : List Nat) (k : Nat) (h : k < l.length) : Pl.Crc.brun m (l.take (k + 1)) = Pl.Crc.bitStep (Pl.Crc.brun m (l.take k)) (l.getD k 0) := by
  rw [List.take_succ_eq_append_getElem h]
  unfold Pl.Crc.brun
  rw [List.foldl_append]
  simp [List.getD_eq_getElem?_getD, h]
theorem bitStep_lt {r l : Nat} (h : r < 4294967296) : Pl.Crc.bitStep r l < 4294967296 := by
  unfold Pl.Crc.bitStep
  split
  · exact Nat.xor_lt_two_pow (n := 32) (by omega) (by decide)
  · simpa using by omega
theorem brun_lt (m : Nat) (h : m < 4294967296) (l : List Nat) : Pl.Crc.brun m l < 4294967296 := by
  induction l generalizing m with
  | nil => exact h
  | cons c l ih => exact ih _ (bitStep_lt h)

set_option maxHeartbeats 1600000 in
theorem refOn_any (s0 : Nat) (s : ByteArray) (w : World) (h0 : s0 < 4294967296) (hs : s.size ≤ 100000) :
    Calls Tryz.prog 125 #[.int .u32 s0, .string s] w fun e w' => e = .returned (.int .u32 (Pl.Crc.on s0 s.data.toList : Nat)) ∧ Below w.heap.size w w' := by
  have hf : Pl.Crc.on s0 s.data.toList = 4294967295 - Pl.Crc.brun (4294967295 - s0) (bitsL s.data.toList) := by rw [brun_bitsL]; rfl
  have hL : (bitsL s.data.toList).length = 8 * s.size := by rw [bitsL_length]; simp
  have HF := Lib.hid hf
  have hml : 4294967295 - s0 < 4294967296 := by omega
  have hmi : (4294967295 : Int) - (s0 : Int) = ((4294967295 - s0 : Nat) : Int) := by omega
  have HBits := Lib.hid (bits_any s w hs)
  clear hf
  generalize bitsL s.data.toList = L at *
  generalize 4294967295 - s0 = m at *
  have hLl : L.length ≤ 800000 := by omega
  have HL := Lib.hid hL
  clear hL
  go_enter Tryz.func125, Tryz.ntmps125
  go_wp2_with fail
  refine HBits.out.mono ?_
  rintro e w1 ⟨sv, rfl, hown, hB⟩
  rw [← HL.out] at hown
  obtain ⟨hx, hown'⟩ := hown
  clear hx
  have fin : ∀ r : Nat, r < 4294967296 → (4294967295 : Int) - (r : Int) = ((4294967295 - r : Nat) : Int) := fun r h => by omega
  rcases hown' with ⟨rfl, hl0⟩ | ⟨g, cap, cur, rfl, hg, hh, hcap, hm, hsz, hcur⟩
  · have hLe : L = [] := List.eq_nil_of_length_eq_zero hl0
    subst hLe
    go_wp2
    go_loop [5, 7] (fun n i => i = .int .i64 0 ∧ n = .int .u32 (m : Int)) (fun _ i => 0)
    case atStart => exact ⟨rfl, rfl⟩
    case round =>
      obtain ⟨rfl, rfl⟩ := hrel
      go_wp2
      go_ret
      exact ⟨ret_u32 (by rw [HF.out]; rfl), hB⟩
  · have hcell : ∀ k, k < L.length → w1.cell? ⟨g, k, none⟩ = some (.int .u32 (L.getD k 0 : Nat)) := by
      intro k hk
      have h1 : cur.toList[k]? = (u32s L)[k]? := by
        rw [← hcur, List.getElem?_take, if_pos (by omega)]
      have h2 : (u32s L)[k]? = some (.int .u32 (L.getD k 0 : Nat)) := by simp [u32s, List.getD_eq_getElem?_getD, hk]
      rw [h2] at h1
      simp [World.cell?, hh]
      simpa using h1
    clear hcur hsz
    go_wp2
    go_loop [5, 7] (fun n i => ∃ k r : Nat, k ≤ L.length ∧ i = .int .i64 k ∧ n = .int .u32 (r : Int) ∧ r < 4294967296 ∧ Hid (r = Pl.Crc.brun m (L.take k))) (fun _ i => L.length - (intOf i).toNat)
    case atStart => exact ⟨0, m, by omega, rfl, rfl, hml, rfl⟩
    case round =>
      obtain ⟨k, r, hk, rfl, rfl, hr, HR⟩ := hrel
      by_cases hlt : k < L.length
      · have hc := hcell k hlt
        have hb2 := brun_take m L k hlt
        rw [← HR.out] at hb2
        have hst := bitStep_lt (l := L.getD k 0) hr
        have HB2 := Lib.hid hb2
        clear hcell hb2
        generalize L.getD k 0 = l at hc HB2 hst
        by_cases hbit : r % 2 = l
        · have t1 : ((r : Int) % 2 != (l : Int)) = false := by simp; omega
          have hv : Pl.Crc.bitStep r l = r / 2 := by unfold Pl.Crc.bitStep; simp [hbit]
          have HV := Lib.hid hv
          clear hbit hv
          go_wp2
          go_round
          case rel => exact ⟨k + 1, r / 2, by omega, by go_num, by go_num, by omega, by show r / 2 = _; rw [HB2.out, HV.out]⟩
          case measure => simp [intOf]; omega
        · have t1 : ((r : Int) % 2 != (l : Int)) = true := by simp; omega
          have hv : bits .xor .u32 ((r : Int) / 2) 3988292384 = (Pl.Crc.bitStep r l : Nat) := by
            unfold Pl.Crc.bitStep
            rw [if_pos hbit, show (r : Int) / 2 = ((r / 2 : Nat) : Int) by omega, show (3988292384 : Int) = ((3988292384 : Nat) : Int) from rfl, u32_xor_nat _ _ (by omega) (by omega)]
          clear hbit
          generalize Pl.Crc.bitStep r l = q at hv hst HB2
          go_wp2
          go_round
          case rel => exact ⟨k + 1, q, by omega, by go_num, rfl, hst, HB2.out.symm⟩
          case measure => simp [intOf]; omega
      · have : k = L.length := by omega
        subst this
        clear hcell
        go_wp2
        go_ret
        have hrr := HR.out
        rw [List.take_length] at hrr
        exact ⟨ret_u32 (by rw [HF.out, hrr]), hB⟩

theorem refOn_at (s0 v : Nat) (s : ByteArray) (w : World) (h0 : s0 < 4294967296) (hs : s.size ≤ 100000) (hv : Pl.Crc.on s0 s.data.toList = v) :
    Calls Tryz.prog 125 #[.int .u32 s0, .string s] w fun e w' => e = .returned (.int .u32 (v : Nat)) ∧ Below w.heap.size w w' := hv ▸ refOn_any s0 s w h0 hs

theorem refOn_zero (v : Nat) (s : ByteArray) (w : World) (hs : s.size ≤ 100000) (hv : Pl.Crc.on 0 s.data.toList = v) :
    Calls Tryz.prog 125 #[.int .u32 0, .string s] w fun e w' => e = .returned (.int .u32 (v : Nat)) ∧ Below w.heap.size w w' := refOn_at 0 v s w (by omega) hs hv
end Go.Proofs.YtfbakelpplpomaaGreatDoor.WalkCrc
/-
  The walk of the document's Open.
-/
namespace Go.Proofs.YtfbakelpplpomaaGreatDoor.WalkCrc
open Go.RowKit
set_option linter.unusedVariables false
set_option linter.unusedSimpArgs false

set_option maxHeartbeats 4000000 in
theorem refOpen_any (s : ByteArray) (w : World) (hs : s.size ≤ 100000) :
    Calls Tryz.prog 104 #[.string s] w fun e w' => e = .returned (.tuple #[.string (opened s), .bool (opens s)]) ∧ Below w.heap.size w w' := by
  by_cases h4 : s.size < 4
  · have ho : opens s = false := by unfold opens; rw [decide_eq_false (by omega)]; rfl
    have hp : opened s = ByteArray.empty := by unfold opened; rw [ho]; rfl
    rw [ho, hp]
    have h4' : (s.size : Int) - 4 < 0 := by omega
    have h5 : decide ((s.size : Int) - 4 < 0) = true := by simpa using h4'
    go_enter Tryz.func104, Tryz.ntmps104
    go_wp2_with fail
    go_quiet (fail)
    go_wp2
    go_ret2
    exact ⟨rfl, (Below.refl _ _).trans ⟨rfl, rfl, rfl, Nat.le_refl _, fun _ _ => rfl⟩⟩
  · have h4' : ¬ (s.size : Int) - 4 < 0 := by omega
    have h5 : decide ((s.size : Int) - 4 < 0) = false := by simpa using h4'
    have e1 : IntKind.i64.wrap ((s.size : Int) - 4) = (s.size : Int) - 4 := IntWalk.i64_in _ (by omega)
    have e2 : 0 ≤ (s.size : Int) - 4 := by omega
    have e3 : ((s.size : Int) - 4).toNat = s.size - 4 := by omega
    have hr := Pl.Crc.on_lt 0 (s.extract 0 (s.size - 4)).data.toList
    have g1 : (s.extract 0 (s.size - 4)).size ≤ 100000 := by rw [ByteArray.size_extract]; omega
    obtain ⟨v, hv⟩ : ∃ v, Pl.Crc.on 0 (s.extract 0 (s.size - 4)).data.toList = v := ⟨_, rfl⟩
    have ho : opens s = ((tailS v).toList == (s.extract (s.size - 4) s.size).toList) := by unfold opens; rw [hv, decide_eq_true (by omega)]; rfl
    rw [hv] at hr
    have HV := Lib.hid hv
    have HO := Lib.hid ho
    clear hv ho
    go_enter Tryz.func104, Tryz.ntmps104
    go_wp2_with fail
    go_region_with (first | (go_at_call 125; refine (refOn_zero v _ _ g1 HV.out).mono ?_; rintro e w1 ⟨rfl, hB1⟩) | (go_at_call 124; refine (refTail_any v _ hr).mono ?_; rintro e w2 ⟨rfl, hB2⟩))
    all_goals go_wp2
    all_goals go_ret2
    all_goals
      have hb := hB1.trans (hB2.mono hB1.size)
      refine ⟨?_, ⟨hb.os, hb.tape, hb.output, hb.size, hb.block⟩⟩
    all_goals first
      | (have h : (!(tailS v).toList == (s.extract (s.size - 4) s.size).toList) = true := by assumption
         have hf : opens s = false := by rw [HO.out]; simpa using h
         have hp : opened s = ByteArray.empty := by unfold opened; rw [hf]; rfl
         rw [hf, hp]; rfl)
      | (have h : (!(tailS v).toList == (s.extract (s.size - 4) s.size).toList) = false := by assumption
         have hf : opens s = true := by rw [HO.out]; simpa using h
         have hp : opened s = s.extract 0 (s.size - 4) := by unfold opened; rw [if_pos hf]
         rw [hf, hp]; rfl)
end Go.Proofs.YtfbakelpplpomaaGreatDoor.WalkCrc
