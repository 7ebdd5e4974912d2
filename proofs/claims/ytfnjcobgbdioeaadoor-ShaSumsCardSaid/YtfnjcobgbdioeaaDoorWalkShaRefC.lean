/-
  Rows of words (slices of uint32 that a call owns), and the walk of the document's schedule.
-/
import Derived.Test.YtfnjcobgbdioeaaDoorWalkShaRefB
import Derived.Test.YtfnjcobgbdioeaaDoorWalkShaI
namespace Go.Proofs.YtfnjcobgbdioeaaDoor.WalkSha
open Go.RowKit Go.Proofs.YtfnjcobgbdioeaaDoor.BytesRow Go.Proofs.YtfnjcobgbdioeaaDoor.WalkBytes
set_option linter.unusedVariables false
set_option linter.unusedSimpArgs false
set_option maxRecDepth 100000

/-- words as cells -/
def uc (l : List Nat) : List Value := l.map fun n => Value.int .u32 (n : Nat)
theorem uc_length (l : List Nat) : (uc l).length = l.length := by simp [uc]
theorem uc_append (a b : List Nat) : uc (a ++ b) = uc a ++ uc b := by simp [uc]
theorem uc_get (l : List Nat) (i : Nat) (h : i < l.length) : (uc l)[i]? = some (.int .u32 (l.getD i 0 : Nat)) := by
  simp [uc, List.getD_eq_getElem?_getD, List.getElem?_eq_getElem h]
theorem uc_one (l : List Nat) : ∀ u ∈ uc l, u.oneCell' = true := by
  intro u hu
  simp only [uc, List.mem_map] at hu
  obtain ⟨b, _, rfl⟩ := hu
  rfl
theorem info_u32 : (Tryd.prog.info? 35).map (fun i => (i.zero, i.size, i.bytes)) = some (some (.int .u32 0), 1, 4) := by kernel_rfl
/-- the call owns a row of words -/
def OwnU (w : World) (base : Nat) (v : Value) (l : List Nat) : Prop := w.ownsRow base 35 1 v l.length (uc l)
theorem OwnU.nil (w : World) (base : Nat) : OwnU w base (.slice none 0 0) [] := World.ownsRow_nil _ _ _ _
theorem OwnU.form {w : World} {base : Nat} {v : Value} {l : List Nat} (h : OwnU w base v l) (hl : 0 < l.length) : ∃ g cap, v = .slice (some ⟨g, 0, none⟩) l.length cap ∧ base ≤ g ∧ g < w.heap.size ∧ ∀ i, i < l.length → w.cell? ⟨g, i, none⟩ = some (.int .u32 (l.getD i 0 : Nat)) := by
  rcases h.2 with ⟨rfl, h0⟩ | ⟨g, cap, cur, rfl, hb, hg, hn, hm, hs, ht⟩
  · omega
  · refine ⟨g, cap, rfl, hb, (Array.getElem?_eq_some_iff.1 hg).1, fun i hi => ?_⟩
    rw [cell_of_row w g i cur _ _ hg, ← uc_get l i hi, ← ht, List.getElem?_take, if_pos (by omega)]
    simp
theorem OwnU.shape {w : World} {base : Nat} {v : Value} {l : List Nat} (h : OwnU w base v l) : ∃ a c, v = .slice a l.length c := by
  rcases h.2 with ⟨rfl, h0⟩ | ⟨g, cap, cur, rfl, _⟩
  · rw [h0]; exact ⟨_, _, rfl⟩
  · exact ⟨_, _, rfl⟩
theorem OwnU.below {w w' : World} {base B : Nat} {v : Value} {l : List Nat} (h : OwnU w base v l) (b : Below B w w') (hB : ∀ g off n c, v = .slice (some ⟨g, off, none⟩) n c → g < B) : OwnU w' base v l := by
  refine ⟨h.1, ?_⟩
  rcases h.2 with h | ⟨g, cap, cur, rfl, hb, hg, hn, hm, hs, ht⟩
  · exact .inl h
  · exact .inr ⟨g, cap, cur, rfl, hb, by rw [b.block g (hB _ _ _ _ rfl)]; exact hg, hn, hm, hs, ht⟩
theorem OwnU.lt {w : World} {base : Nat} {v : Value} {l : List Nat} (h : OwnU w base v l) (g off n c : Nat) (e : v = .slice (some ⟨g, off, none⟩) n c) : g < w.heap.size := by
  rcases h.2 with ⟨rfl, h0⟩ | ⟨g', cap, cur, rfl, hb, hg, _⟩
  · simp at e
  · simp at e
    obtain ⟨⟨rfl, rfl⟩, _⟩ := e
    exact (Array.getElem?_eq_some_iff.1 hg).1
theorem OwnU.later {w w' : World} {base : Nat} {v : Value} {l : List Nat} (h : OwnU w base v l) (b : Below w.heap.size w w') : OwnU w' base v l := h.below b (fun g off n c e => h.lt g off n c e)
/-- append(x, n) for a row of words that the call owns -/
theorem run_append_ownU (w : World) (base : Nat) (t : TypeId) (v y : Value) (c : List Nat) (n : Nat) (hown : OwnU w base v c) (g m : Nat) (hy : y = .slice (some ⟨g, 0, none⟩) 1 m) (hc : w.cell? ⟨g, 0, none⟩ = some (.int .u32 (n : Nat)))
    (hb : c.length ≤ 1000000) (hbase : base ≤ w.heap.size) :
    ∃ v' w', (Builtin.append_ #[44, 44] t #[v, y]).run Tryd.prog w = .ok v' w' ∧ OwnU w' base v' (c ++ [n]) ∧ w.grownBy w' v.ownBlock := by
  subst hy
  obtain ⟨i0, hi, hz0, hz1, hz2⟩ := info_parts info_u32
  obtain ⟨v', w', h1, h2, h3, _⟩ := run_append_own_at (P := Tryd.prog) w base 44 t 35 i0 (.int .u32 0) 1 4 Tryd.underlying44 hi hz0 hz1 hz2 rfl (by decide) v c.length (uc c) hown
    ⟨g, 0, none⟩ 1 m [.int .u32 (n : Nat)] rfl (fun j u hj => by
      have : j = 0 := by
        have := (List.getElem?_eq_some_iff.1 hj).1
        simpa using this
      subst this
      simp at hj
      subst hj
      rw [Addr.add_zero']
      exact hc) (by intro u hu; simp at hu; subst hu; rfl) (by unfold maxLen; omega) (by omega) hbase
  refine ⟨v', w', h1, ?_, h3⟩
  unfold OwnU
  rw [uc_append, List.length_append]
  exact h2
section
variable {ops : Array Oper} {rest : List Oper} {o : Oper} {a : Act} {w : World} {Q : Exit → Act → World → Prop}
theorem wp_append_ownU {K : Act → World → Prop} (sl x : Operand) (ho : o.op = .call { callee := .builtin .append, args := #[sl, x], argTypes := #[44, 44] })
    (base : Nat) (v y : Value) (c : List Nat) (n : Nat) (hs : a.eval sl = v) (hx : a.eval x = y) (hown : OwnU w base v c) (g m : Nat) (hy : y = .slice (some ⟨g, 0, none⟩) 1 m) (hc : w.cell? ⟨g, 0, none⟩ = some (.int .u32 (n : Nat))) (hb : c.length ≤ 1000000) (hbase : base ≤ w.heap.size)
    (h : ∀ v' w', OwnU w' base v' (c ++ [n]) → w.grownBy w' v.ownBlock → K (a.put o.dst v') w') : o.wp Tryd.prog a w K Q := by
  obtain ⟨v', w', hr, h2, h3⟩ := run_append_ownU w base o.type v y c n hown g m hy hc hb hbase
  unfold Oper.wp execOp
  simp only [ho, resolve, invoke, builtin, Sem.run_bind, Sem.run_pure, Result.andThen_ok, List.map_toArray, List.map_cons, List.map_nil, hs, hx, hr]
  exact h v' w' h2 h3
theorem wpList_append_ownU (hgd : o.guard = none) (sl x : Operand) (ho : o.op = .call { callee := .builtin .append, args := #[sl, x], argTypes := #[44, 44] })
    (base : Nat) (v y : Value) (c : List Nat) (n : Nat) (hs : a.eval sl = v) (hx : a.eval x = y) (hown : OwnU w base v c) (g m : Nat) (hy : y = .slice (some ⟨g, 0, none⟩) 1 m) (hc : w.cell? ⟨g, 0, none⟩ = some (.int .u32 (n : Nat))) (hb : c.length ≤ 1000000) (hbase : base ≤ w.heap.size)
    (h : ∀ v' w', OwnU w' base v' (c ++ [n]) → w.grownBy w' v.ownBlock → wpList Tryd.prog ops Q rest (a.put o.dst v') w') : wpList Tryd.prog ops Q (o :: rest) a w :=
  wpList_plain hgd fun K hK => wp_append_ownU sl x ho base v y c n hs hx hown g m hy hc hb hbase fun v' w' h2 h3 => hK _ _ (h v' w' h2 h3)
theorem step_append_ownU {K : Act → World → Prop} {E : Prop} (hg : o.guard = none) (sl x : Operand) (ho : o.op = .call { callee := .builtin .append, args := #[sl, x], argTypes := #[44, 44] })
    (base : Nat) (v y : Value) (c : List Nat) (n : Nat) (hs : a.eval sl = v) (hx : a.eval x = y) (hown : OwnU w base v c) (g m : Nat) (hy : y = .slice (some ⟨g, 0, none⟩) 1 m) (hc : w.cell? ⟨g, 0, none⟩ = some (.int .u32 (n : Nat))) (hb : c.length ≤ 1000000) (hbase : base ≤ w.heap.size)
    (h : ∀ v' w', OwnU w' base v' (c ++ [n]) → w.grownBy w' v.ownBlock → K (a.put o.dst v') w') : if Region.wanted o (yielded ops a.tmps) = true then Oper.wp Tryd.prog o a w K Q else E := by
  have hw : Region.wanted o (yielded ops a.tmps) = true := by simp [Region.wanted, hg]
  rw [if_pos hw]
  exact wp_append_ownU sl x ho base v y c n hs hx hown g m hy hc hb hbase h
end
theorem belowU {B : Nat} {v : Value} {w w' : World} {l : List Nat} (h : w.grownBy w' v.ownBlock) (hs : OwnU w B v l) (hB : B ≤ w.heap.size) : Below B w w' :=
  (Below.refl B w).grown h hB (fun k hk => by
    rcases hs.2 with ⟨rfl, _⟩ | ⟨g, cap, cur, rfl, hg, _⟩
    · simp [Value.ownBlock] at hk
    · simp [Value.ownBlock] at hk; omega)
theorem OwnU.alloc {w : World} {base : Nat} {v : Value} {l : List Nat} (h : OwnU w base v l) (o : Obj) : OwnU (w.alloc o) base v l := h.later (Joins.below_alloc1 w o)

theorem OwnU.drewN {w : World} {base : Nat} {v : Value} {l : List Nat} (h : OwnU w base v l) (n : Nat) : OwnU (w.drewN n) base v l := h
theorem OwnU.drew {w : World} {base : Nat} {v : Value} {l : List Nat} (h : OwnU w base v l) : OwnU w.drew base v l := h
theorem cell_new1 (w : World) (z : Int) (v : Nat) (h : z = (v : Nat)) : (w.alloc (.cells #[.int .u32 z] 35)).cell? ⟨w.heap.size, 0, none⟩ = some (.int .u32 (v : Nat)) := by
  subst h
  rw [cell_of_row _ _ 0 _ _ _ (heap_alloc_last _ _)]
  rfl
/-- a word's first k bytes -/
def wpart (b : List UInt8) (i : Nat) : Nat → Nat
  | 0 => 0
  | k + 1 => wpart b i k * 256 + (b.getD (4 * i + k) 0).toNat
theorem wpart_lt (b : List UInt8) (i : Nat) : ∀ k, wpart b i k < 256 ^ k
  | 0 => by simp [wpart]
  | k + 1 => by
    have := wpart_lt b i k
    have hc := UInt8.toNat_lt (b.getD (4 * i + k) 0)
    rw [wpart, Nat.pow_succ]
    omega
theorem wpart_all (b : List UInt8) (i : Nat) : wpart b i 4 = Pl.Sha.word b i := by
  simp only [wpart, Pl.Sha.word, Nat.add_zero]
  omega
set_option maxHeartbeats 4000000 in
theorem schedule_n (b : ByteArray) (n64 : Nat) (w : World) (hb : b.size = 64) (h64 : n64 = 64) :
    Calls Tryd.prog 21 #[.string b] w fun e w' => (∃ v, e = .returned v ∧ OwnU w' w.heap.size v (Pl.Sha.sched b.data.toList n64)) ∧ Below w.heap.size w w' := by
  have HN := Lib.hid h64
  have HB := Lib.hid hb
  clear h64 hb
  go_enter Tryd.func21, Tryd.ntmps21
  go_upto_region 3 with fail
  go_loopw [3, 4] (fun o i wr => ∃ k : Nat, k ≤ 16 ∧ i = .int .i64 k ∧ OwnU wr w.heap.size o (Pl.Sha.sched b.data.toList k) ∧ Below w.heap.size w wr) (fun _ i _ => 16 - (intOf i).toNat)
  case atStart => exact ⟨0, by omega, rfl, OwnU.nil _ _, Below.refl _ _⟩
  case round =>
    obtain ⟨k, hk, rfl, own, bk⟩ := hrel
    obtain ⟨ao, co, rfl⟩ := own.shape
    by_cases hlt : k < 16
    · have hsl := Pl.Sha.sched_length b.data.toList k
      have hsn : Pl.Sha.sched b.data.toList (k + 1) = Pl.Sha.sched b.data.toList k ++ [Pl.Sha.word b.data.toList k] := by rw [Pl.Sha.sched, if_pos hlt]
      have HSN := Lib.hid hsn
      have hbs := bk.size
      obtain ⟨L, hL⟩ : ∃ L, Pl.Sha.sched b.data.toList k = L := ⟨_, rfl⟩
      rw [hL] at own hsl HSN ⊢
      have OWN := Lib.hid own
      clear hL hsn own
      rw [hsl]
      have HSL := Lib.hid hsl
      clear hsl
      go_upto_region 7 with fail
      go_loop [5, 6] (fun x q => ∃ n : Nat, n ≤ 4 ∧ q = .int .i64 n ∧ x = .int .u32 (wpart b.data.toList k n : Nat)) (fun _ q => 4 - (intOf q).toNat)
      case atStart => exact ⟨0, by omega, rfl, rfl⟩
      case round =>
        obtain ⟨n, hn, rfl, rfl⟩ := hrel
        by_cases hlt4 : n < 4
        · have hb := HB.out
          have hpl := wpart_lt b.data.toList k n
          have hp4 : wpart b.data.toList k n < 16777216 := by
            have : n = 0 ∨ n = 1 ∨ n = 2 ∨ n = 3 := by omega
            rcases this with rfl | rfl | rfl | rfl <;> omega
          have hnx : wpart b.data.toList k (n + 1) = wpart b.data.toList k n * 256 + (b.data.toList.getD (4 * k + n) 0).toNat := rfl
          have hix := idxS b .i64 (4 * k + n) (b.data.toList.getD (4 * k + n) 0) (by omega) (get_idx b (4 * k + n) (by omega))
          have hc := UInt8.toNat_lt (b.data.toList.getD (4 * k + n) 0)
          obtain ⟨c, hcc⟩ : ∃ c, (b.data.toList.getD (4 * k + n) 0).toNat = c := ⟨_, rfl⟩
          rw [hcc] at hix hc hnx
          obtain ⟨p, hp⟩ : ∃ p, wpart b.data.toList k n = p := ⟨_, rfl⟩
          rw [hp] at hp4 hnx ⊢
          simp only [Int.natCast_add, Int.natCast_mul, show ((4 : Nat) : Int) = 4 from rfl] at hix
          have HNX := Lib.hid hnx
          clear hcc hp hnx hpl hb
          go_wp2
          go_round
          case rel => exact ⟨n + 1, by omega, by go_num, by rw [HNX.out]; go_num⟩
          case measure => simp [intOf]; omega
        · have : n = 4 := by omega
          subst this
          obtain ⟨x, hx⟩ : ∃ x, wpart b.data.toList k 4 = x := ⟨_, rfl⟩
          have hxw : Pl.Sha.word b.data.toList k = x := by rw [← hx, wpart_all]
          rw [hx]
          rw [hxw] at HSN
          have HL := HSL.out
          have OWN2 : OwnU (wr.alloc (.cells #[.int .u32 (x : Nat)] 35)) w.heap.size (.slice ao k co) L := by
            have := OWN.out
            rw [HL] at this
            exact this.alloc _
          have HO2 := Lib.hid OWN2
          have hll : L.length ≤ 1000000 := by omega
          have hcell : (wr.alloc (.cells #[.int .u32 (x : Nat)] 35)).cell? ⟨wr.heap.size, 0, none⟩ = some (.int .u32 (x : Nat)) := by rw [cell_of_row _ _ 0 _ _ _ (heap_alloc_last _ _)]; rfl
          have HCell := Lib.hid hcell
          clear hx hxw OWN2 HL hcell
          go_wp2_with (at_builtin; go_must (refine wpList_append_ownU rfl _ _ rfl w.heap.size (.slice ao k co) (.slice (some ⟨wr.heap.size, 0, none⟩) 1 1) L x rfl rfl HO2.out wr.heap.size 1 rfl HCell.out hll (by simp; omega) ?_); intro v3 w3 o3 g3; have b3 := (bk.alloc hbs (.cells #[.int .u32 (x : Nat)] 35)).trans (belowU g3 HO2.out (by simp; omega)))
          go_round
          case rel => exact ⟨k + 1, by omega, by go_num, by rw [HSN.out]; exact o3, b3⟩
          case measure => simp [intOf]; omega
    · have hk16 : k = 16 := by omega
      have HK16 := Lib.hid hk16
      clear hk16
      rw [Pl.Sha.sched_length]
      have HOwn := Lib.hid own
      clear own
      go_upto_region 12 with fail
      go_loopw [3, 7] (fun o i wr => ∃ m : Nat, 16 ≤ m ∧ m ≤ 64 ∧ i = .int .i64 m ∧ OwnU wr w.heap.size o (Pl.Sha.sched b.data.toList m) ∧ Below w.heap.size w wr) (fun _ i _ => 64 - (intOf i).toNat)
      case atStart => exact ⟨k, by have := HK16.out; omega, by omega, by rw [HK16.out]; rfl, by have := HOwn.out; rwa [Pl.Sha.sched_length] at this, bk⟩
      case round =>
        obtain ⟨m, hm1, hm2, rfl, own, bm⟩ := hrel
        have hbs := bm.size
        have hsl := Pl.Sha.sched_length b.data.toList m
        by_cases hlt : m < 64
        · have hsn : Pl.Sha.sched b.data.toList (m + 1) = Pl.Sha.sched b.data.toList m ++ [Pl.Sha.wnext (Pl.Sha.sched b.data.toList m)] := by rw [Pl.Sha.sched, if_neg (by omega)]
          have hbd := sched_lt b.data.toList m
          obtain ⟨L, hL⟩ : ∃ L, Pl.Sha.sched b.data.toList m = L := ⟨_, rfl⟩
          rw [hL] at own hsl hsn hbd
          clear hL
          obtain ⟨g, cap, rfl, hg1, hg2, hcell⟩ := own.form (by omega)
          have cell : ∀ j, j < m → ∃ x, L.getD j 0 = x ∧ x < 4294967296 ∧ wr.cell? ⟨g, j, none⟩ = some (.int .u32 (x : Nat)) := fun j hj => ⟨_, rfl, getD_lt _ hbd j, hcell j (by omega)⟩
          obtain ⟨x16, hx16, l16, q16⟩ := cell (m - 16) (by omega)
          obtain ⟨x15, hx15, l15, q15⟩ := cell (m - 15) (by omega)
          obtain ⟨x7, hx7, l7, q7⟩ := cell (m - 7) (by omega)
          obtain ⟨x2, hx2, l2, q2⟩ := cell (m - 2) (by omega)
          obtain ⟨a, b', y, s, ha, hb', hs, a1, a2, a3⟩ := s0_steps x15 l15
          obtain ⟨c', d', n, t, hc', hd', ht, a4, a5, a6⟩ := s1_steps x2 l2
          have C7 := Lib.hid (fun w n => quiet_at (turn7 x15 (World.drewN w n) l15))
          have C18 := Lib.hid (fun w n => quiet_at (turn18 x15 (World.drewN w n) l15))
          have C17 := Lib.hid (fun w m n => quiet_at2 (turn17 x2 (World.drewN w (m + n)) l2))
          have C19 := Lib.hid (fun w m n => quiet_at2 (turn19 x2 (World.drewN w (m + n)) l2))
          have C17' := Lib.hid (fun w n => quiet_at (turn17 x2 (World.drewN w n) l2))
          have C19' := Lib.hid (fun w n => quiet_at (turn19 x2 (World.drewN w n) l2))
          rw [ha] at C7
          rw [hb'] at C18
          rw [hc'] at C17 C17'
          rw [hd'] at C19 C19'
          have e16 : (m : Int) - 16 = ((m - 16 : Nat) : Int) := by omega
          have e15 : (m : Int) - 15 = ((m - 15 : Nat) : Int) := by omega
          have e7 : (m : Int) - 7 = ((m - 7 : Nat) : Int) := by omega
          have e2 : (m : Int) - 2 = ((m - 2 : Nat) : Int) := by omega
          have w16 : IntKind.i64.wrap (((m - 16 : Nat) : Int)) = ((m - 16 : Nat) : Int) := by rw [IntKind.wrap_i64]; omega
          have w15 : IntKind.i64.wrap (((m - 15 : Nat) : Int)) = ((m - 15 : Nat) : Int) := by rw [IntKind.wrap_i64]; omega
          have w7 : IntKind.i64.wrap (((m - 7 : Nat) : Int)) = ((m - 7 : Nat) : Int) := by rw [IntKind.wrap_i64]; omega
          have w2 : IntKind.i64.wrap (((m - 2 : Nat) : Int)) = ((m - 2 : Nat) : Int) := by rw [IntKind.wrap_i64]; omega
          have g16 : ((m - 16 : Nat) : Int) < (m : Int) := by omega
          have g15 : ((m - 15 : Nat) : Int) < (m : Int) := by omega
          have g7 : ((m - 7 : Nat) : Int) < (m : Int) := by omega
          have g2 : ((m - 2 : Nat) : Int) < (m : Int) := by omega
          obtain ⟨v, hv⟩ : ∃ v, (x16 + s + x7 + t) % 4294967296 = v := ⟨_, rfl⟩
          have hvw : Pl.Sha.wnext L = v := by
            unfold Pl.Sha.wnext
            rw [hsl, hx16, hx15, hx7, hx2, hs, ht, hv]
          rw [hvw] at hsn
          have HSN := Lib.hid hsn
          have HV := Lib.hid (show IntKind.u32.wrap (IntKind.u32.wrap (IntKind.u32.wrap ((t : Int) + x7) + s) + x16) = (v : Int) by rw [IntKind.wrap_u32', IntKind.wrap_u32', IntKind.wrap_u32']; omega)
          have HOwn2 := Lib.hid own
          have hll : L.length ≤ 1000000 := by omega
          have own3 : OwnU wr w.heap.size (.slice (some ⟨g, 0, none⟩) m cap) L := by rw [← hsl]; exact own
          have HOwn3 := Lib.hid own3
          rw [hsl]
          clear own3
          clear hsn hbd hcell cell hx16 hx15 hx7 hx2 ha hb' hs hc' hd' ht hv hvw own hsl
          go_upto_region 14 with fail
          go_quiet ((first | with_reducible exact C7.out _ _ | with_reducible exact C18.out _ _))
          go_upto_region 15 with fail
          go_quiet ((first | with_reducible exact C17.out _ _ _ | with_reducible exact C19.out _ _ _ | with_reducible exact C17'.out _ _ | with_reducible exact C19'.out _ _))
          go_upto_region 16 with fail
          go_region_law (refine step_append_ownU rfl _ _ rfl w.heap.size (.slice (some ⟨g, 0, none⟩) m cap) (.slice (some ⟨wr.heap.size, 0, none⟩) 1 1) L v rfl rfl ((OwnU.drew (OwnU.drewN HOwn3.out _)).alloc _) wr.heap.size 1 rfl (cell_new1 _ _ _ HV.out) hll (by simp; omega) ?_; intro v3 w3 o3 g3; have b3 := (Below.alloc (Below.drew (bm.drewN _)) (by simpa using hbs) _).trans (belowU g3 ((OwnU.drew (OwnU.drewN HOwn3.out _)).alloc _) (by simp; omega)))
          all_goals
            go_wp2
            go_round
            case rel => exact ⟨m + 1, by omega, by omega, by go_num, by rw [HSN.out]; exact o3, b3⟩
            case measure => simp [intOf]; omega
        · have h64 : m = n64 := by have := HN.out; omega
          subst h64
          go_wp2
          go_ret
          exact ⟨⟨_, rfl, own⟩, bm⟩
end Go.Proofs.YtfnjcobgbdioeaaDoor.WalkSha
