/-
  JournalPlays: a call, whatever it is; how a play begins.
-/
import Derived.Test.YtfbakelpplpomaaGreatDoorJplK
import Derived.Test.YtfbakelpplpomaaGreatDoorJplM
import Derived.Test.YtfbakelpplpomaaGreatDoorJplN
import Derived.Test.YtfbakelpplpomaaGreatDoorJournJ
import Derived.Deep.RegionHeld3
namespace Go.Proofs.YtfbakelpplpomaaGreatDoor.Disk
open Go.RowKit Go.Proofs.YtfbakelpplpomaaGreatDoor.DiskRows Go.Proofs.YtfbakelpplpomaaGreatDoor.WalkCrc
set_option linter.unusedVariables false
set_option linter.unusedSimpArgs false
set_option maxRecDepth 100000

theorem jdoes_any (w0 : World) (b gw n K : Nat) (w : World) (h : PS w0 b gw n K w) (hn40 : n ≤ 40) (hK : K ≤ 1000) (a : Jc) (ha : JcOk w0 a) (hN : a.r.N.size ≤ 8000) (ht : a.text.size ≤ 8000) :
    Calls Tryz.prog 21 #[.pointer (some ⟨gw, 0, none⟩), .agg a.cells.toArray] w fun x w' => x = .returned (.bool true) ∧ PS w0 b gw n (K + 1) w' := by
  obtain ⟨F, Q, d, A1, A2, c1, c2, bj, half, epoch, count, h⟩ := h
  by_cases h1 : a.kind = 1
  · exact does1_any w0 b gw n K w h hK a ha h1 (by omega)
  by_cases h2 : a.kind = 2
  · exact does2_any w0 b gw n K w h hK a ha h2
  by_cases h3 : a.kind = 3
  · exact does3_any w0 b gw n K w h hK a ha hn40 h3
  by_cases h4 : a.kind = 4
  · exact does4_any w0 b gw n K w h hK a ha h4 ht
  by_cases h5 : a.kind = 5
  · exact does5_any w0 b gw n K w h hK a ha hn40 h5
  exact does6_any w0 b gw n K w h hK a ha (fun z z1 z5 e => by
    have : z = 1 ∨ z = 2 ∨ z = 3 ∨ z = 4 ∨ z = 5 := by omega
    rcases this with rfl | rfl | rfl | rfl | rfl
    · exact h1 e
    · exact h2 e
    · exact h3 e
    · exact h4 e
    · exact h5 e)
theorem inv_fresh (N : Nat) : Inv (fresh N) := by
  have hz : ∀ x ∈ List.replicate N Z, x.size = 128 := fun x hx => by
    obtain ⟨-, rfl⟩ := List.mem_replicate.1 hx
    show (bs (zeros 128)).size = 128
    rw [bs_size]; simp [zeros]
  exact ⟨rfl, hz, hz, fun c hc => by simp [fresh] at hc⟩
/-- the object of a play, new -/
theorem jx_new {b g cg c6 N : Nat} {A6 : Option Addr} {w w2 w3 : World} (ht : Tab w) (b2 : Below w.heap.size w w2) (hD : DiskAt (lo w.heap.size) b (fresh N) w2) (b3 : Below w2.heap.size w2 w3) (hr : RowS w3 g cg (List.replicate N Z)) (hg : w2.heap.size ≤ g) (hw6 : Wrs w3 A6 (ints [])) :
    ∃ F Q, JX F Q b w3.heap.size (fresh N) (fresh N) (some ⟨g, 0, none⟩) A6 cg c6 (.pointer none) 0 0 0 (w3.alloc (.cells #[.pointer (some ⟨b, 0, none⟩), .pointer none, .slice (some ⟨g, 0, none⟩) N cg, .slice A6 0 c6, .int .i64 0, .bool false, .int .i64 0, .int .i64 0, .int .i64 0, .int .i64 0] 56)) ∧ (∀ j, j < w.heap.size → F j) ∧ ∀ j, Q j → w.heap.size ≤ j := by
  have k := Joins.below_alloc1 w3 (.cells #[.pointer (some ⟨b, 0, none⟩), .pointer none, .slice (some ⟨g, 0, none⟩) N cg, .slice A6 0 c6, .int .i64 0, .bool false, .int .i64 0, .int .i64 0, .int .i64 0, .int .i64 0] 56)
  have hz : (w3.alloc (.cells #[.pointer (some ⟨b, 0, none⟩), .pointer none, .slice (some ⟨g, 0, none⟩) N cg, .slice A6 0 c6, .int .i64 0, .bool false, .int .i64 0, .int .i64 0, .int .i64 0, .int .i64 0] 56)).heap.size = w3.heap.size + 1 := by simp
  have hl := heap_alloc_last w3 (.cells #[.pointer (some ⟨b, 0, none⟩), .pointer none, .slice (some ⟨g, 0, none⟩) N cg, .slice A6 0 c6, .int .i64 0, .bool false, .int .i64 0, .int .i64 0, .int .i64 0, .int .i64 0] 56)
  generalize w3.alloc _ = w4 at k hz hl ⊢
  have hs2 := b2.size
  have hs3 := b3.size
  have k24 := b3.trans (k.mono b3.size)
  have hd := hD.grow k24
  have hgl := hr.lt
  have htl := ht.lt
  have hls : (fresh N).S.length = N := by simp [fresh]
  refine ⟨Plus (lo w.heap.size) w2.heap.size w4.heap.size, fun j => w2.heap.size ≤ j ∧ j < w3.heap.size, ⟨hd, ⟨⟨hr.txs.later k, hw6.later k⟩, .inr ⟨g, 0, rfl, hg, hgl⟩, .inl rfl⟩, fun j hj => .inr ⟨hj.1, by omega⟩, Plus.top ((lo_top _).trans hs2) k24.size, .inr ⟨by omega, by omega⟩, fun q => by omega, by omega, ?_, ?_, .inl htl⟩, fun j hj => .inl hj, fun j hj => by omega⟩
  · rw [hl]
    unfold jwV
    rw [hls]
    rfl
  · exact (ht.below b2 htl).below k24 (by omega)
/-- the play, begun -/
theorem ps_new {F Q : Nat → Prop} {b gw N : Nat} {w w4 w5 : World} {d' : Dk} (hF : ∀ j, j < w.heap.size → F j) (hgw : w.heap.size ≤ gw) (hlt : gw < w4.heap.size) (hb : Below w.heap.size w w4) (hl : w.heap.size ≤ w4.heap.size) (ht : 0 < w.heap.size) (q : WN F Q b gw d' 0 1 0 w4 w5) (hI : Inv d') (hn : d'.S.length = N) (ho : d'.ops ≤ 25) (hC : d'.C.length ≤ 4) : PS w b gw N 1 w5 := by
  obtain ⟨F', Q', A3, A4, c3, c4, hx, hF', hQ, hk, hF2, hQ2, hj⟩ := q
  exact ⟨F', Q', d', A3, A4, c3, c4, w4.heap.size, 0, 1, 0, ⟨hx, ⟨hj, hF2, hQ2, by omega, by omega⟩, hI, hn, by omega, by omega, by omega, Nat.zero_le _, by omega, by omega, kp_low hb hk (fun j hj => ⟨hF j hj, by omega⟩), fun j hj => ⟨hF' _ (hF j hj), by omega, by omega⟩⟩⟩
theorem jcs_at {w : World} {A : Option Addr} {l : List Jc} (h : Jcs w A l) {k : Nat} (hk : k < l.length) : ∃ g off, A = some ⟨g, off, none⟩ ∧ g < w.heap.size ∧ ∀ j u, (l[k].cells)[j]? = some u → w.cell? ⟨g, off + k * 14 + j, none⟩ = some u := by
  rcases h with rfl | ⟨g, off, rfl, hg, hc⟩
  · simp at hk
  · exact ⟨g, off, rfl, hg, hc k hk⟩
theorem jcs_few {w : World} {l : List Jc} (ok : ∀ a ∈ l, JcOk w a) : ∀ a ∈ l, (a.text.size : Int) ≤ 9223372036854775807 ∧ (a.kl : Int) ≤ 9223372036854775807 ∧ (a.r.N.size : Int) ≤ 9223372036854775807 ∧ (a.r.O.size : Int) ≤ 9223372036854775807 ∧ (a.r.M.size : Int) ≤ 9223372036854775807 := fun a ha => by
  have h := ok a ha
  have h1 := h.text
  have h2 := h.kl
  have h3 := h.r.N
  have h4 := h.r.O
  have h5 := h.r.M
  unfold maxLen at h1 h2 h3 h4 h5
  omega
end Go.Proofs.YtfbakelpplpomaaGreatDoor.Disk
/-
  JournalPlays: whatever is done with a journal, and however its disk crashes: the walk.
-/
namespace Go.Proofs.YtfbakelpplpomaaGreatDoor.Disk
open Go.RowKit Go.Proofs.YtfbakelpplpomaaGreatDoor.DiskRows Go.Proofs.YtfbakelpplpomaaGreatDoor.WalkCrc
set_option linter.unusedVariables false
set_option linter.unusedSimpArgs false
set_option maxRecDepth 100000

theorem jplays_early (n : Int) (A0 : Option Addr) (c0 : Nat) (l : List Jc) (w : World) (ht : Tab w) (hl : Jcs w A0 l) (hm : (l.length : Int) ≤ 9223372036854775807) (ok : ∀ a ∈ l, JcOk w a) (h : n < 16 ∨ 40 < n ∨ ¬ fewJ l) :
    Calls Tryz.prog 4 #[.int .i64 n, .slice A0 l.length c0] w fun x w' => x = .returned (.bool true) ∧ Below w.heap.size w w' := by
  have hfew := jfew_any A0 c0 l w hl hm (jcs_few ok)
  have HT := Lib.hid ht
  by_cases h16 : n < 16
  · have d1 : decide (n < 16) = true := decide_eq_true h16
    clear hfew hl hm ok h h16 ht
    go_enter Tryz.func4, Tryz.ntmps4
    go_wp2_with fail
    refine (awake38_any _ HT.out).mono ?_
    rintro x w1 ⟨rfl, b1⟩
    go_wp2
    go_ret
    exact ⟨rfl, b1⟩
  · have d1 : decide (n < 16) = false := decide_eq_false h16
    by_cases h40 : 40 < n
    · have d2 : decide ((40 : Int) < n) = true := decide_eq_true h40
      clear hfew hl hm ok h h16 h40 ht
      go_enter Tryz.func4, Tryz.ntmps4
      go_wp2_with fail
      refine (awake38_any _ HT.out).mono ?_
      rintro x w1 ⟨rfl, b1⟩
      go_wp2
      go_ret
      exact ⟨rfl, b1⟩
    · have d2 : decide ((40 : Int) < n) = false := decide_eq_false h40
      have hf : ¬ fewJ l := by
        rcases h with h | h | h
        · exact absurd h h16
        · exact absurd h h40
        · exact h
      rw [decide_eq_false hf] at hfew
      have HF := Lib.hid hfew
      clear hfew hl hm ok h h16 h40 hf ht
      go_enter Tryz.func4, Tryz.ntmps4
      go_wp2_with fail
      refine HF.out.mono ?_
      rintro x w1 ⟨rfl, b1⟩
      go_wp2_with fail
      refine (awake38_any _ (HT.out.below b1 HT.out.lt)).mono ?_
      rintro x w2 ⟨rfl, b2⟩
      go_wp2
      go_ret
      exact ⟨rfl, b1.trans (b2.mono b1.size)⟩
theorem below_dr {w w' : World} (h : Below w.drew.heap.size w.drew w') : Below w.heap.size w w' := (Below.refl _ w).drew.trans h
/-- loads under a name of their own: a drawn region is not to take them first -/
def qM (T : TypeId) (n : Nat) : Op := Op.load T (Operand.tmp n)
attribute [go_sem] qM
set_option maxHeartbeats 16000000 in
theorem jplays_main (N : Nat) (A0 : Option Addr) (c0 : Nat) (l : List Jc) (w : World) (ht : Tab w) (h16 : 16 ≤ N) (h40 : N ≤ 40) (hl : Jcs w A0 l) (hm : (l.length : Int) ≤ 9223372036854775807) (ok : ∀ a ∈ l, JcOk w a) (hf : fewJ l) :
    Calls Tryz.prog 4 #[.int .i64 N, .slice A0 l.length c0] w fun x w' => x = .returned (.bool true) ∧ Below w.heap.size w w' := by
  have hfew := jfew_any A0 c0 l w hl hm (jcs_few ok)
  rw [decide_eq_true hf] at hfew
  have HF := Lib.hid hfew
  have hll : (l.length : Int) ≤ 30 := by have := hf.1; omega
  have HL := Lib.hid (And.intro hl (And.intro ok hf))
  have HN := Lib.hid (And.intro h16 h40)
  have HT := Lib.hid ht
  have d1 : decide ((N : Int) < 16) = false := decide_eq_false (by omega)
  have d2 : decide ((40 : Int) < (N : Int)) = false := decide_eq_false (by omega)
  have hNi : (N : Int) ≤ 40 := by omega
  clear hfew hl hm ok hf h16 h40 ht
  go_enter Tryz.func4, Tryz.ntmps4
  go_wp2_with fail
  refine HF.out.mono ?_
  rintro x w1 ⟨rfl, b1⟩
  go_wp2_with fail
  refine (new_ok N w1 HN.out.1 (by have := HN.out.2; omega)).mono ?_
  rintro x w2 ⟨⟨b, rfl, hd⟩, b2⟩
  have B2 := Lib.hid (b1.trans (b2.mono b1.size))
  have HD := Lib.hid (hd.base (base0 := lo w.heap.size) (fun k hk => Nat.lt_of_lt_of_le hk b1.size))
  clear b1 b2 hd d1 d2
  go_wp2_with fail
  have hsz := seize_any (lo w.heap.size) b (fresh N) w2 HD.out ((lo_top _).trans B2.out.size)
  rw [show (fresh N).S.length = N by simp [fresh], show (fresh N).S = List.replicate N Z from rfl, show (fresh N).C = [] from rfl] at hsz
  refine hsz.mono ?_
  rintro x w3 ⟨⟨g, cg, A6, c6, rfl, hr, hg, hw6⟩, b3⟩
  obtain ⟨F, Q, hx, hF, hQ⟩ := jx_new (c6 := c6) HT.out B2.out HD.out b3 hr hg hw6
  have HX := Lib.hid hx
  have HFQ := Lib.hid (And.intro hF hQ)
  have k4 := Joins.below_alloc1 w3 (.cells #[.pointer (some ⟨b, 0, none⟩), .pointer none, .slice (some ⟨g, 0, none⟩) N cg, .slice A6 0 c6, .int .i64 0, .bool false, .int .i64 0, .int .i64 0, .int .i64 0, .int .i64 0] 56)
  have hz4 : w3.heap.size ≤ w3.heap.size := Nat.le_refl _
  have B4 := Lib.hid ((B2.out.trans (b3.mono B2.out.size)).trans (k4.mono (Nat.le_trans B2.out.size b3.size)))
  have HB3 := Lib.hid (Nat.le_trans B2.out.size b3.size)
  clear hsz hr hg hw6 b3 hx hF hQ k4 hz4
  go_upto_region 7 with fail
  obtain ⟨gw, hgw⟩ : ∃ g, w3.heap.size = g := ⟨_, rfl⟩
  rw [hgw] at HX HB3 ⊢
  clear hgw
  generalize World.alloc w3 _ = w4 at *
  have hL := fresh_recs N 0 1
  have hls : (fresh N).S.length = N := by simp [fresh]
  have hr : jreads (fresh N) 0 1 = 1 := by
    unfold jreads
    rw [hL, hls, if_pos]
    · rfl
    · have := HN.out.1
      show 0 < halfV N
      unfold halfV
      omega
  have hop := wopen_ok F Q b gw (fresh N) _ _ _ _ _ 0 0 0 w4 HX.out ⟨_, rfl⟩ (inv_fresh N) rfl 0 1 (by omega) (by omega) (by omega) (by show 0 ≤ 1000000; omega) [] hL 1 hr (by simp)
  have HOp := Lib.hid hop
  clear hop hL hr hls
  go_wp2_with fail
  refine HOp.out.mono ?_
  rintro x w5 ⟨rfl, hwn⟩
  have HP := Lib.hid (ps_new (N := N) HFQ.out.1 HB3.out HX.out.lt B4.out B4.out.size HT.out.lt hwn ((inv_fresh N).ops _) (by simp [fresh]) (by simp [fresh]) (by simp [fresh]))
  clear hwn
  clear HX HFQ HOp HD B4 B2 HF
  go_upto_region 10 with fail
  go_loopw [40] (fun i wr => ∃ k : Nat, k ≤ l.length ∧ i = .int .i64 k ∧ PS w b gw N (k + 1) wr) (fun i _ => l.length - (intOf i).toNat)
  case atStart => exact ⟨0, Nat.zero_le _, rfl, HP.out⟩
  case round =>
    obtain ⟨k, hk, rfl, hst⟩ := hrel
    have HST := Lib.hid hst
    obtain ⟨F, Q, d, A1, A2, c1, c2, bj, half, epoch, count, hpj⟩ := hst
    have HPJ := Lib.hid hpj
    clear hpj
    have hbw := HPJ.out.kp
    have HBw := Lib.hid hbw
    by_cases hlt : k < l.length
    · obtain ⟨g0, off, rfl, hg0, hc0⟩ := jcs_at HL.out.1 hlt
      have hq := fun j u (hu : (l[k].cells)[j]? = some u) => (hbw.cell (p := ⟨g0, off + k * 14 + j, none⟩) hg0).trans (hc0 j u hu)
      have hok := HL.out.2.1 _ (List.getElem_mem hlt)
      have hsm := jc_small HL.out.2.2 (List.getElem_mem hlt)
      generalize l[k] = a at hq hok hsm
      have q0 : wr.cell? ⟨g0, off + k * 14, none⟩ = some (.int .i64 a.kind) := hq 0 _ rfl
      obtain ⟨q1, q2, q3, q4, q5, q6, q7⟩ := And.intro (hq 1 _ rfl) (And.intro (hq 2 _ rfl) (And.intro (hq 3 _ rfl) (And.intro (hq 4 _ rfl) (And.intro (hq 5 _ rfl) (And.intro (hq 6 _ rfl) (hq 7 _ rfl))))))
      obtain ⟨q8, q9, q10, q11, q12, q13⟩ := And.intro (hq 8 _ rfl) (And.intro (hq 9 _ rfl) (And.intro (hq 10 _ rfl) (And.intro (hq 11 _ rfl) (And.intro (hq 12 _ rfl) (hq 13 _ rfl)))))
      have hki : (k : Int) < (l.length : Int) := by omega
      have ba := Joins.below_alloc1 wr (.cells a.cells.toArray 59)
      have hst5 : PS w b gw N (k + 1) (wr.alloc (.cells a.cells.toArray 59)).drew := ⟨F, Q, d, A1, A2, c1, c2, bj, half, epoch, count, (HPJ.out.later ba).later (Below.refl _ _).drew⟩
      have HST5 := Lib.hid hst5
      have HDo := Lib.hid (jdoes_any w b gw N (k + 1) _ hst5 HN.out.2 (by omega) a hok hsm.1 hsm.2)
      have hga := heap_alloc_last wr (.cells a.cells.toArray 59)
      have hcell := fun j => cell_of_row _ wr.heap.size j _ _ _ hga
      obtain ⟨kd, nn, hf, ep, ⟨re, rq, rk, rN, rO, rM, rt, ru⟩, txt, ka, kl, kc⟩ := a
      simp only [Jc.cells] at *
      have y0 := (hcell 0).trans rfl
      have y1 := (hcell 1).trans rfl
      have y2 := (hcell 2).trans rfl
      have y3 := (hcell 3).trans rfl
      have y4 := (hcell 4).trans rfl
      have y5 := (hcell 5).trans rfl
      have y6 := (hcell 6).trans rfl
      have y7 := (hcell 7).trans rfl
      have y8 := (hcell 8).trans rfl
      have y9 := (hcell 9).trans rfl
      have y10 := (hcell 10).trans rfl
      have y11 := (hcell 11).trans rfl
      have y12 := (hcell 12).trans rfl
      have y13 := (hcell 13).trans rfl
      clear hst5 hq hok hsm hc0 ba hga hcell hbw
      go_upto_region 12 with fail
      obtain ⟨ga, hgae⟩ : ∃ ga, wr.heap.size = ga := ⟨_, rfl⟩
      rw [hgae] at y0 y1 y2 y3 y4 y5 y6 y7 y8 y9 y10 y11 y12 y13 ⊢
      clear hgae q0 q1 q2 q3 q4 q5 q6 q7 q8 q9 q10 q11 q12 q13
      generalize World.alloc wr _ = w6 at *
      rw [show Op.load 59 (Operand.tmp 9) = qM 59 9 from rfl, show Op.load 33 (Operand.tmp 51) = qM 33 51 from rfl, show Op.load 3 (Operand.tmp 56) = qM 3 56 from rfl]
      go_region_held (fun _ => True) (trivial) (first
        | (go_at_call 21; refine HDo.out.mono ?_; rintro x w7 ⟨rfl, hps⟩; have HS7 := Lib.hid hps; obtain ⟨F7, Q7, d7, B1, B2, e1, e2, bj7, half7, epoch7, count7, hp7⟩ := hps; have HC7 := Lib.hid (count_any bj7 b half7 epoch7 count7 w7 hp7.jj.jn); clear y0 y1 y2 y3 y4 y5 y6 y7 y8 y9 y10 y11 y12 y13; obtain ⟨⟨-, x1, -, -, -, -, -, -, -, x9⟩, -⟩ := hp7.jx.cells; clear hp7)
        | (go_at_call 22; refine HC7.out.mono ?_; rintro x w8 ⟨rfl, rfl⟩))
      all_goals (go_wp2; go_round)
      all_goals first | exact ⟨k + 1, by omega, by go_num, HS7.out⟩ | (simp [intOf]; omega)
    · obtain rfl : k = l.length := by omega
      obtain ⟨⟨-, -, x2, x3, -, -, x6, -⟩, -⟩ := HPJ.out.jx.cells
      have hgl := HPJ.out.jx.lt
      have hkeep : ∀ W', Below wr.heap.size wr W' → W'.cell? ⟨gw, 2, none⟩ = some (.slice A1 d.S.length c1) ∧ W'.cell? ⟨gw, 3, none⟩ = some (.slice A2 d.C.length c2) ∧ W'.cell? ⟨gw, 6, none⟩ = some (.int .i64 (d.ops : Nat)) := fun W' q => ⟨(q.cell (p := ⟨gw, 2, none⟩) hgl).trans x2, (q.cell (p := ⟨gw, 3, none⟩) hgl).trans x3, (q.cell (p := ⟨gw, 6, none⟩) hgl).trans x6⟩
      have hk0 := hkeep wr.drew (Below.refl _ _).drew
      have HKp := Lib.hid hkeep
      have hos := HPJ.out.jx.disk.ok
      have hl1 : (d.S.length : Int) ≤ 1000000 := by have := hos.most; omega
      have hl2 : ((ints d.C).length : Int) ≤ 1000000 := by have := hos.few; rw [ints_length]; omega
      have hSz := fun W' (q : Below wr.heap.size wr W') => seize_any F b d W' (HPJ.out.jx.disk.later q) (HPJ.out.jx.top.trans q.size)
      have hSame := fun W' (q : Below wr.heap.size wr W') B B' k k' (h1 : Txs W' B d.S) (h2 : Wrs W' B' (ints d.C)) => same_any B B' A1 A2 k k' c1 c2 d.S (ints d.C) W' h1 h2 (HPJ.out.jx.rows.rows.1.later q) (HPJ.out.jx.rows.rows.2.later q) hl1 hl2
      rw [ints_length] at hSame
      have HSz := Lib.hid hSz
      have HSame := Lib.hid hSame
      have HOps := Lib.hid (fun W' (q : Below wr.heap.size wr W') => ops_any F b d W' (HPJ.out.jx.disk.later q))
      have HAw := Lib.hid (fun W' (q : Below wr.heap.size wr W') => awake38_any W' (HPJ.out.jx.tab.below q HPJ.out.jx.tab.lt))
      clear hkeep x2 x3 x6 hos hl1 hl2 hSz hSame hbw hgl HPJ HST
      go_upto_region 15 with fail
      go_region_held (fun W' => W'.cell? ⟨gw, 2, none⟩ = some (.slice A1 d.S.length c1) ∧ W'.cell? ⟨gw, 3, none⟩ = some (.slice A2 d.C.length c2) ∧ W'.cell? ⟨gw, 6, none⟩ = some (.int .i64 (d.ops : Nat))) (first | with_reducible exact hk0 | with_reducible assumption | with_reducible exact HKp.out _ B8.out | with_reducible exact HKp.out _ B7.out | with_reducible exact HKp.out _ B6.out) (first
        | (go_at_call 19; refine (HSz.out _ (Below.refl _ _).drew).mono ?_; rintro x w6 ⟨⟨g6, cg6, A6', c6', rfl, hr6, -, hw6⟩, b6⟩; have B6 := Lib.hid (below_dr b6))
        | (go_at_call 23; refine (HSame.out w6 B6.out (some ⟨g6, 0, none⟩) A6' cg6 c6' hr6.txs hw6).mono ?_; rintro x w7 ⟨rfl, b7⟩; have B7 := Lib.hid (B6.out.trans (b7.mono B6.out.size)))
        | (go_at_call 24; refine (HOps.out w7 B7.out).mono ?_; rintro x w9 ⟨rfl, rfl⟩)
        | (go_at_call 6; refine (HAw.out w7 B7.out).mono ?_; rintro x w8 ⟨rfl, b8⟩; have B8 := Lib.hid (B7.out.trans (b8.mono B7.out.size))))
      all_goals (go_wp2; go_ret)
      all_goals exact ⟨by first | rfl | simp, HBw.out.trans (B8.out.mono HBw.out.size)⟩
theorem jplays_walk (n : Int) (A0 : Option Addr) (c0 : Nat) (l : List Jc) (w : World) (ht : Tab w) (hl : Jcs w A0 l) (hm : l.length ≤ maxLen) (ok : ∀ a ∈ l, JcOk w a) :
    Calls Tryz.prog 4 #[.int .i64 n, .slice A0 l.length c0] w fun x w' => x = .returned (.bool true) ∧ Below w.heap.size w w' := by
  have hm' : (l.length : Int) ≤ 9223372036854775807 := by unfold maxLen at hm; omega
  by_cases h : n < 16 ∨ 40 < n ∨ ¬ fewJ l
  · exact jplays_early n A0 c0 l w ht hl hm' ok h
  · obtain ⟨N, rfl⟩ : ∃ N : Nat, n = N := ⟨n.toNat, by omega⟩
    exact jplays_main N A0 c0 l w ht (by omega) (by omega) hl hm' ok (by
      by_cases hf : fewJ l
      · exact hf
      · exact absurd (.inr (.inr hf)) h)
end Go.Proofs.YtfbakelpplpomaaGreatDoor.Disk
