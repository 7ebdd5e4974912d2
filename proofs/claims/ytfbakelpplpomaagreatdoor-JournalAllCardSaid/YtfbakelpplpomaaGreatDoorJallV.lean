/-
  The walk of JournalAll: the inputs that are tried.
-/
import Derived.Test.YtfbakelpplpomaaGreatDoorJallP
import Derived.Test.YtfbakelpplpomaaGreatDoorJournI
import Derived.Test.YtfbakelpplpomaaGreatDoorRecs
namespace Go.Proofs.YtfbakelpplpomaaGreatDoor.Disk
open Go.RowKit Go.Proofs.YtfbakelpplpomaaGreatDoor.DiskRows Go.Proofs.YtfbakelpplpomaaGreatDoor.WalkCrc
open Go.Proofs.YtfbakelpplpomaaGreatDoor.WalkSeat (rc RecAt)
open Pl.Seat (Rec isR)
set_option linter.unusedVariables false
set_option linter.unusedSimpArgs false
set_option maxRecDepth 100000

/-- a block of last's and of a record's -/
theorem recAt_put2 {b : Nat} {e q k : Int} {N O M : ByteArray} {t u : Int} {w : World} (h : RecAt b e q k N O M t u w) (e' q' : Int) : RecAt b e' q' k N O M t u ((w.setCell ⟨b, 0, none⟩ (.int .i64 e')).setCell ⟨b, 1, none⟩ (.int .i64 q')) := by
  obtain ⟨c0, c1, c2, c3, c4, c5, c6, c7, c8⟩ := h
  exact ⟨by go_simp, by go_simp, by go_simp, by go_simp, by go_simp, by go_simp, by go_simp, by go_simp, fun o => by go_simp⟩
theorem kp_put2 (G : Nat → Prop) (w : World) (g : Nat) (hG : ¬ G g) (x y : Value) : Kp G w ((w.setCell ⟨g, 0, none⟩ x).setCell ⟨g, 1, none⟩ y) :=
  Kp.setCell (p := ⟨g, 1, none⟩) (Kp.setCell (p := ⟨g, 0, none⟩) (Kp.refl G w) hG x) hG y
/-- a record that comes in, as the journal sees it -/
def Rx.rcd (r : Rx) : Rec := rc r.e r.q r.k r.N r.O r.M r.t r.u
set_option maxHeartbeats 12800000 in
theorem journalAll_in (ep : Nat) (A : Option Addr) (c : Nat) (l : List Rx) (x : Rx) (B : Option Addr) (cj : Nat) (J : List ByteArray) (step : Nat) (D : Option Addr) (ck : Nat) (K : List Int) (w : World) (ht : Tab w) (h1 : 1 ≤ ep) (h2 : ep ≤ 4294967295) (hA : Rxs w A l) (hl : l.length ≤ 10) (hB : Txs w B J) (hJ : J.length ≤ 40) (hb : byV 0 J ≤ 6000) (hK : Nums w D K) (hk : K.length ≤ 100) (hkw : ∀ z ∈ K, (Lit.int .i64 z).wf = true) (hst : step ≤ 4) (hjs : ∀ s ∈ J, (s.size : Int) ≤ 9223372036854775807) :
    Calls Tryz.prog 3 #[.int .i64 (ep : Nat), .slice A l.length c, .agg x.cells.toArray, .slice B J.length cj, .int .i64 (step : Nat), .slice D K.length ck] w fun z w' => z = .returned (.bool true) ∧ Below w.heap.size w w' := by
  obtain ⟨xe, xq, xk, xN, xO, xM, xt, xu⟩ := x
  simp only [Rx.cells]
  obtain ⟨N, hN⟩ : ∃ N : Nat, 40 = N := ⟨_, rfl⟩
  have hnew : ∀ W, Calls Tryz.prog 7 #[.int .i64 40] W fun x w' => (∃ b, x = .returned (.tuple #[.pointer (some ⟨b, 0, none⟩), .int .i64 0]) ∧ DiskAt (lo W.heap.size) b (fresh N) w') ∧ Below W.heap.size W w' := fun W => by
    rw [← hN]; exact new_ok 40 W (by omega) (by omega)
  have hl0 : (fresh N).S.length = N := by simp [fresh]
  have hl1 : (fresh N).H.length = N := by simp [fresh]
  have hz0 : ∀ x ∈ (fresh N).H, x.size = 128 := by
    intro x hx
    obtain ⟨-, rfl⟩ := List.mem_replicate.1 hx
    exact z128
  have hL := fresh_recs N 1 ep
  have hr : jreads (fresh N) 1 ep = 1 := by
    unfold jreads
    rw [hL, hl0, ← hN]
    rfl
  obtain ⟨d2, hd2⟩ : ∃ d2 : Dk, { fresh N with ops := (fresh N).ops + 1 } = d2 := ⟨_, rfl⟩
  have hok2 : Jok d2 ep [] := by
    rw [← hd2]
    exact jok_fresh ep _ (by rw [← hN]; rfl) rfl rfl rfl rfl
  have ho2 : d2.ops = 1 := by rw [← hd2]; rfl
  obtain ⟨n, hn⟩ : ∃ n, l.length = n := ⟨_, rfl⟩
  obtain ⟨nj, hnj⟩ : ∃ n, J.length = n := ⟨_, rfl⟩
  obtain ⟨nk, hnk⟩ : ∃ n, K.length = n := ⟨_, rfl⟩
  obtain ⟨r, hrb⟩ : ∃ r, byV 0 J = r := ⟨_, rfl⟩
  have wa0 := RecAt.new w xe xq xk xN xO xM xt xu 24
  have ba := Joins.below_alloc1 w (.cells #[.int .i64 xe, .int .i64 xq, .int .i64 xk, .string xN, .string xO, .string xM, .int .i64 xt, .int .i64 xu] 24)
  have hza : (w.alloc (.cells #[.int .i64 xe, .int .i64 xq, .int .i64 xk, .string xN, .string xO, .string xM, .int .i64 xt, .int .i64 xu] 24)).heap.size = w.heap.size + 1 := by simp
  have hby := bytes_any B cj J _ (hB.later ba) (by omega) hjs r hrb
  rw [hnj] at hby
  have HBy := Lib.hid hby
  have HIn := Lib.hid (And.intro hA (And.intro hB (And.intro hK (And.intro hkw (And.intro hn (And.intro hnj (And.intro hnk (And.intro hrb hb))))))))
  have HNew := Lib.hid hnew
  have HN := Lib.hid (And.intro hN (And.intro hl0 (And.intro hl1 (And.intro hz0 (And.intro hL (And.intro hr (And.intro hd2 (And.intro hok2 ho2))))))))
  have HT := Lib.hid ht
  have HW := Lib.hid (And.intro wa0 (And.intro ba hza))
  have e1 : (1 : Int) ≤ (ep : Int) := by omega
  have e2 : (ep : Int) ≤ 4294967295 := by omega
  have e3 : (n : Int) ≤ 10 := by omega
  have e4 : (nj : Int) ≤ 40 := by omega
  have e5 : (nk : Int) ≤ 100 := by omega
  have e6 : (step : Int) ≤ 4 := by omega
  have e7 : (r : Int) ≤ 6000 := by omega
  rw [hn, hnj, hnk]
  have HE := Lib.hid (And.intro h1 (And.intro h2 (And.intro hst (And.intro hl hJ))))
  clear hnew hl0 hl1 hz0 hL hr hok2 ho2 hd2 hN wa0 ba hby hjs hA hB hK hkw hn hnj hnk hrb hb ht h1 h2 hst hl hJ hk hza
  go_enter Tryz.func3, Tryz.ntmps3
  go_wp2_with fail
  generalize w.alloc (.cells #[.int .i64 xe, .int .i64 xq, .int .i64 xk, .string xN, .string xO, .string xM, .int .i64 xt, .int .i64 xu] 24) = wa at *
  refine HBy.out.mono ?_
  rintro z w0 ⟨rfl, b0⟩
  go_wp2_with fail
  refine (HNew.out w0).mono ?_
  rintro z w1 ⟨⟨b, rfl, hd⟩, k1⟩
  have hwa0 : Below w.heap.size w w0 := HW.out.2.1.trans (b0.mono HW.out.2.1.size)
  have hw01 : Below w.heap.size w w1 := hwa0.trans (k1.mono hwa0.size)
  have hjo := jopen_ok (lo w0.heap.size) b (fresh N) 1 ep w1 hd ((lo_top _).trans k1.size) rfl (by omega) HE.out.1 HE.out.2.1 (by simp [fresh]) (by rw [HN.out.2.1, HN.out.2.2.1]) HN.out.2.2.2.1 (HT.out.below hw01 HT.out.lt) (Nat.lt_of_lt_of_le HT.out.lt hwa0.size) [] HN.out.2.2.2.2.1 1 HN.out.2.2.2.2.2.1
  rw [HN.out.2.2.2.2.2.2.1] at hjo
  have HJo := Lib.hid hjo
  have HK1 := Lib.hid (And.intro k1 (And.intro hwa0 (And.intro hw01 (And.intro ((HW.out.1.after b0).after k1) b0.size))))
  clear hd k1 hjo b0 hwa0 hw01 HBy
  go_wp2_with fail
  refine HJo.out.mono ?_
  rintro z w2 ⟨⟨v, rfl, hj2, ho2, hd2⟩, k2⟩
  obtain ⟨hlv, av, cv, rfl⟩ := own_lenOf ho2
  have hlt1 : w.heap.size < w0.heap.size := by have := HW.out.2.2; have := HK1.out.2.2.2.2; omega
  have hbel2 := k2.bel0 HK1.out.2.2.1 (fun k hk => (by unfold lo; omega))
  have hja : JA w b w1.heap.size ep (fun j => j = w.heap.size) d2 [] (.slice none 0 0) w2 := ⟨⟨Plus (lo w0.heap.size) w1.heap.size w2.heap.size, hd2, Plus.top ((lo_top _).trans HK1.out.1.size) k2.size, .inr ⟨Nat.le_refl _, hj2.lt⟩, fun j hj => .inl (by rw [hj]; exact hlt1), fun j hj => .inl (by unfold lo; omega), fun j hj => by simp [Value.ownBlock] at hj⟩, hj2, World.ownsRow_nil _ _ _ _, ⟨by have := HK1.out.1.size; omega, fun j hj => by simp [Value.ownBlock] at hj⟩, by have := HK1.out.1.size; omega, hbel2, HT.out.below hbel2 HT.out.lt⟩
  have hbx : RecAt w.heap.size xe xq xk xN xO xM xt xu w2 := HK1.out.2.2.2.1.kept (k2.block _ HK1.out.2.2.2.1.lt hlt1)
  have HJ2 := Lib.hid (And.intro hja hbx)
  clear hj2 ho2 hd2 k2 hlv hlt1 hbel2 hja hbx
  obtain ⟨bj, hbj⟩ : ∃ bj, w1.heap.size = bj := ⟨_, rfl⟩
  rw [hbj] at HJ2 ⊢
  clear hbj
  go_upto_region 9 with fail
  go_loopw [18, 82] (fun v i wr => ∃ k : Nat, k ≤ n ∧ i = .int .i64 k ∧ Hid (∃ d L, JA w b bj ep (fun j => j = w.heap.size) d L v wr ∧ Jok d ep L ∧ L.length ≤ k ∧ d.ops ≤ 10 + 4 * k ∧ RecAt w.heap.size xe xq xk xN xO xM xt xu wr)) (fun _ i _ => n - (intOf i).toNat)
  case atStart => exact ⟨0, by omega, rfl, Lib.hid ⟨d2, [], HJ2.out.1, HN.out.2.2.2.2.2.2.2.1, by simp, by have := HN.out.2.2.2.2.2.2.2.2; omega, HJ2.out.2⟩⟩
  case round =>
    obtain ⟨k, hk, rfl, HR⟩ := hrel
    obtain ⟨d, L, hja, hok, hLk, hops, hbx⟩ := HR.out
    clear HR
    have HJ := Lib.hid (And.intro hja (And.intro hok (And.intro hLk (And.intro hops hbx))))
    have HV := Lib.hid (own_lenOf hja.own)
    by_cases hlt : k < n
    · have hql : k < l.length := by have := HIn.out.2.2.2.2.1; omega
      have hRx := HIn.out.1.later hja.bel
      obtain ⟨g, off, rfl, hg, hc⟩ : ∃ g off, A = some ⟨g, off, none⟩ ∧ g < wr.heap.size ∧ ∀ k (h : k < l.length) j u, (l[k].cells)[j]? = some u → wr.cell? ⟨g, off + k * 8 + j, none⟩ = some u := by
        rcases hRx with h | h
        · rw [h] at hql; simp at hql
        · exact h
      have q0 := hc k hql 0 _ rfl
      have q1 := hc k hql 1 _ rfl
      have q2 := hc k hql 2 _ rfl
      have q3 := hc k hql 3 _ rfl
      have q4 := hc k hql 4 _ rfl
      have q5 := hc k hql 5 _ rfl
      have q6 := hc k hql 6 _ rfl
      have q7 := hc k hql 7 _ rfl
      rw [Nat.add_zero] at q0
      generalize l[k] = rr at q0 q1 q2 q3 q4 q5 q6 q7
      obtain ⟨re, rq, rk, rN, rO, rM, rt, ru⟩ := rr
      dsimp only at q0 q1 q2 q3 q4 q5 q6 q7
      have hkn : (k : Int) < (n : Int) := by omega
      have hw2 : IntKind.i64.wrap ((k : Int) + 1) = ((k + 1 : Nat) : Int) := by rw [IntKind.wrap_i64]; omega
      have hb3 := Joins.below_alloc1 wr (.cells #[.int .i64 re, .int .i64 rq, .int .i64 rk, .string rN, .string rO, .string rM, .int .i64 rt, .int .i64 ru] 24)
      have hR3 := RecAt.new wr re rq rk rN rO rM rt ru 24
      have hja3 := hja.grow hb3
      have hbx3 := hbx.after hb3
      have HK := Lib.hid (And.intro hlt hk)
      clear hja hok hLk hops hbx hRx hc hg hql hlt hk
      go_upto_region 11 with fail
      generalize wr.alloc (.cells #[.int .i64 re, .int .i64 rq, .int .i64 rk, .string rN, .string rO, .string rM, .int .i64 rt, .int .i64 ru] 24) = w3 at *
      generalize hgr : wr.heap.size = gr at *
      clear q0 q1 q2 q3 q4 q5 q6 q7
      have H3 := Lib.hid (And.intro hja3 (And.intro hR3 (And.intro hbx3 (And.intro hb3 hgr))))
      obtain ⟨c0, c1, c2, c3, c4, c5, c6, c7, c8⟩ := id hR3
      clear hja3 hR3 hbx3 hb3 hgr c8
      obtain ⟨Q, hQ⟩ : ∃ Q, appV d 1 ep L.length (rc re rq rk rN rO rM rt ru) = Q := ⟨_, rfl⟩
      have hcs := HJ.out.2.1.append (by have := HJ.out.2.2.1; have := HK.out; have := HE.out.2.2.2.1; have := HIn.out.2.2.2.2.1; omega) (rc re rq rk rN rO rM rt ru)
      rw [hQ] at hcs
      have hLb : L.length ≤ 17 := by have := HJ.out.2.2.1; have := HK.out; omega
      have hob : d.ops ≤ 800000 := by have := HJ.out.2.2.2.1; have := HK.out; omega
      have hCb : d.C.length ≤ 30000 := by rw [HJ.out.2.1.C]; simp
      have hS40 : d.S.length = 40 := HJ.out.2.1.S.len
      rcases hcs with ⟨hi, hq⟩ | ⟨hi, hq, hok', hops'⟩
      · have hcall := H3.out.1.refused HT.out.lt re rq rk rN rO rM rt ru hS40 hLb hob hCb Q hQ (by rw [hq]; show (2 : Int) ≠ 0; decide)
        rw [hq] at hcall
        have HC := Lib.hid hcall
        clear hcall hi hq hQ hLb hob hCb hS40
        go_wp2_with fail
        refine HC.out.mono ?_
        rintro z w4 ⟨rfl, hja4, k4⟩
        have hbx4 := H3.out.2.2.1.kept (k4.block _ H3.out.2.2.1.lt (.inl rfl))
        have H4 := Lib.hid (And.intro (hja4.sub (fun j hj => Or.inl hj) : JA w b bj ep (fun j => j = w.heap.size) d L u18 w4) hbx4)
        clear hja4 k4 hbx4 c0 c1 c2 c3 c4 c5 c6 c7
        go_wp2
        go_round
        case rel => exact ⟨k + 1, by have := HK.out; omega, rfl, Lib.hid ⟨d, L, H4.out.1, HJ.out.2.1, by have := HJ.out.2.2.1; omega, by have := HJ.out.2.2.2.1; omega, H4.out.2⟩⟩
        case measure => have := HK.out; simp [intOf]; omega
      · have hcall := H3.out.1.answered HT.out.lt re rq rk rN rO rM rt ru hS40 hLb hob hCb Q hQ hq
        have HC := Lib.hid hcall
        have HOk := Lib.hid (And.intro hok' hops')
        clear hcall hi hq hQ hob hCb hS40 hok' hops'
        go_wp2_with fail
        refine HC.out.mono ?_
        rintro z w4 ⟨rfl, hjb4, k4⟩
        have hgG : Plus (fun j => j = w.heap.size) gr w3.heap.size gr := .inr ⟨Nat.le_refl _, H3.out.2.1.lt⟩
        have hG0 : ∀ j, Plus (fun j => j = w.heap.size) gr w3.heap.size j → w.heap.size ≤ j := fun j hj => by
          rcases hj with q | q
          · exact Nat.le_of_eq q.symm
          · have := HJ.out.1.bel.size; have := H3.out.2.2.2.2; omega
        have hbx4 := H3.out.2.2.1.kept (k4.block _ H3.out.2.2.1.lt (.inl rfl))
        have hR4 := H3.out.2.1.kept (k4.block _ H3.out.2.1.lt hgG)
        have hne : w.heap.size ≠ gr := by have := HJ.out.2.2.2.2.lt; have := H3.out.2.2.2.2; omega
        have hR5 := recAt_put2 hR4 (ep : Nat) (L.length : Nat)
        have hjb5 := hjb4.mv HT.out.lt (kp_put2 (fun j => ¬ Plus (fun j => j = w.heap.size) gr w3.heap.size j) w4 gr (fun h => h hgG) (.int .i64 (ep : Nat)) (.int .i64 (L.length : Nat))) hG0
        have hbx5 := hbx4.kept ((kp_put2 (fun j => j = w.heap.size) w4 gr (fun h => hne h.symm) (.int .i64 (ep : Nat)) (.int .i64 (L.length : Nat))).block _ hbx4.lt rfl)
        obtain ⟨av', cv', hv⟩ := HV.out.2
        subst hv
        clear c0 c1 c2 c3 c4 c5 c6 c7
        obtain ⟨c0, c1, c2, c3, c4, c5, c6, c7, c8⟩ := id hR4
        clear k4 hbx4 hjb4 hR4 hgG hG0 hne
        go_upto_region 13 with fail
        obtain ⟨w5, hw5⟩ : ∃ w5, (w4.setCell ⟨gr, 0, none⟩ (.int .i64 (ep : Nat))).setCell ⟨gr, 1, none⟩ (.int .i64 (L.length : Nat)) = w5 := ⟨_, rfl⟩
        rw [hw5] at hR5 hjb5 hbx5 ⊢
        clear hw5 c0 c1 c2 c3 c4 c5 c6 c7 c8
        have hb6 := Joins.below_alloc1 w5 (.cells #[.int .i64 (ep : Nat), .int .i64 (L.length : Nat), .int .i64 rk, .string rN, .string rO, .string rM, .int .i64 rt, .int .i64 ru] 24)
        have hjb6 := hjb5.later hb6
        have hbx6 := hbx5.after hb6
        have hcell : ∀ j u, (rcells (jrec (rc re rq rk rN rO rM rt ru) ep L.length))[j]? = some u → (w5.alloc (.cells #[.int .i64 (ep : Nat), .int .i64 (L.length : Nat), .int .i64 rk, .string rN, .string rO, .string rM, .int .i64 rt, .int .i64 ru] 24)).cell? ⟨w5.heap.size, j, none⟩ = some u := fun j u hj => by
          rw [rcells_rc] at hj
          rw [cell_of_row _ _ j _ _ _ (heap_alloc_last _ _), ← hj]
          simp
        have H6 := Lib.hid (And.intro hjb6 (And.intro hbx6 (And.intro hcell hb6)))
        obtain ⟨c0, c1, c2, c3, c4, c5, c6, c7, c8⟩ := id hR5
        clear hjb5 hbx5 hjb6 hbx6 hcell hb6 hR5 c8
        go_upto_region 14 with (at_builtin; go_must (refine wpList_append_r rfl _ _ rfl w.heap.size (.slice av' L.length cv') L (jrec (rc re rq rk rN rO rM rt ru) ep L.length) rfl H6.out.1.own w5.heap.size 1 rfl H6.out.2.2.1 (by omega) H6.out.1.bel.size ?_); intro v7 w7 o7 g7 l7)
        obtain ⟨hja7, k7⟩ := H6.out.1.push HT.out.lt _ o7 g7 l7
        have hbx7 := H6.out.2.1.kept (k7.block _ H6.out.2.1.lt (.inl rfl))
        have H7 := Lib.hid (And.intro (hja7.sub (fun j hj => Or.inl hj) : JA w b bj ep (fun j => j = w.heap.size) Q.1 (L ++ [jrec (rc re rq rk rN rO rM rt ru) ep L.length]) v7 w7) hbx7)
        clear hja7 k7 hbx7 c0 c1 c2 c3 c4 c5 c6 c7 o7 g7 l7
        go_wp2
        go_round
        case rel => exact ⟨k + 1, by have := HK.out; omega, rfl, Lib.hid ⟨Q.1, _, H7.out.1, HOk.out.1, by have := HJ.out.2.2.1; simp; omega, by have := HJ.out.2.2.2.1; have := HOk.out.2; omega, H7.out.2⟩⟩
        case measure => have := HK.out; simp [intOf]; omega
    · obtain rfl : k = n := by omega
      have hLn : L.length ≤ 10 := by have := HJ.out.2.2.1; have := HE.out.2.2.2.1; have := HIn.out.2.2.2.2.1; omega
      have hLi : (L.length : Int) ≤ 10 := by omega
      have HLn := Lib.hid hLn
      obtain ⟨av', cv', hv⟩ := HV.out.2
      subst hv
      obtain ⟨wo, hwo⟩ : ∃ wo : World, wo = wr := ⟨_, rfl⟩
      rw [← hwo] at HJ ⊢
      have hho : d.ops ≤ 60 := by have := HJ.out.2.2.2.1; omega
      have HHo := Lib.hid hho
      have hkn : ¬ (k : Int) < (k : Int) := by omega
      have HHalf := Lib.hid (fun W => refHalf_ok 40 19 W (by omega) rfl)
      clear hja hok hLk hops hbx hwo hho hlt hk hLn
      go_upto_region 16 with fail
      go_loopw [102] (fun i wr => ∃ k2 : Nat, k2 ≤ nj ∧ i = .int .i64 k2 ∧ Hid (∃ d', JA w b bj ep (fun j => j = w.heap.size) d' L (.slice av' L.length cv') wr ∧ Jok d' ep L ∧ d'.ops ≤ 60 ∧ RecAt w.heap.size xe xq xk xN xO xM xt xu wr)) (fun i _ => nj - (intOf i).toNat)
      case atStart => exact ⟨0, by omega, rfl, Lib.hid ⟨d, HJ.out.1, HJ.out.2.1, HHo.out, HJ.out.2.2.2.2⟩⟩
      case round =>
        obtain ⟨k2, hk2, rfl, HR2⟩ := hrel
        obtain ⟨d', hja, hok, hops, hbx⟩ := HR2.out
        clear HR2
        have HJ2 := Lib.hid (And.intro hja (And.intro hok (And.intro hops hbx)))
        by_cases hlt2 : k2 < nj
        · have hql : k2 < J.length := by have := HIn.out.2.2.2.2.2.1; omega
          obtain ⟨g, off, rfl, hg, hc⟩ : ∃ g off, B = some ⟨g, off, none⟩ ∧ g < wr.heap.size ∧ ∀ i, i < J.length → wr.cell? ⟨g, off + i, none⟩ = some (.string (J.getD i ByteArray.empty)) := by
            rcases HIn.out.2.1.later hja.bel with h | h
            · rw [h] at hql; simp at hql
            · exact h
          have q0 := hc k2 hql
          have hsz : (J.getD k2 ByteArray.empty).size ≤ 6000 := by
            have e : J.getD k2 ByteArray.empty = J[k2] := by simp [List.getD_eq_getElem?_getD, List.getElem?_eq_getElem hql]
            rw [e]
            exact byV_small J 0 HIn.out.2.2.2.2.2.2.2.2 _ (List.getElem_mem hql)
          generalize J.getD k2 ByteArray.empty = s at q0 hsz
          have hk2n : (k2 : Int) < (nj : Int) := by omega
          have hw1 : IntKind.i64.wrap ((L.length : Int) + 1) = (L.length : Int) + 1 := by rw [IntKind.wrap_i64]; omega
          have hw2 : IntKind.i64.wrap ((L.length : Int) + 1 + (k2 : Int)) = (L.length : Int) + 1 + (k2 : Int) := by rw [IntKind.wrap_i64]; omega
          have hw3 : IntKind.i64.wrap ((k2 : Int) + 1) = ((k2 + 1 : Nat) : Int) := by rw [IntKind.wrap_i64]; omega
          have HK2 := Lib.hid (And.intro hlt2 (And.intro hk2 hsz))
          clear hja hok hops hbx hc hg hql hlt2 hk2 hsz
          by_cases h19 : L.length + 1 + k2 < 19
          · have h19i : decide ((L.length : Int) + 1 + (k2 : Int) < 19) = true := decide_eq_true (by omega)
            have h19j : (L.length : Int) + 1 + (k2 : Int) < 19 := by omega
            obtain ⟨p, hp⟩ : ∃ p, 39 - (L.length + 1 + k2) = p := ⟨_, rfl⟩
            have hpl := fun W => refPlace_ok 40 1 (L.length + 1 + k2) p W (by omega) (by omega) h19 (by rw [placeV_40]; exact hp)
            rw [show ((L.length + 1 + k2 : Nat) : Int) = (L.length : Int) + 1 + (k2 : Int) by omega] at hpl
            have HPl := Lib.hid hpl
            have hov := HJ2.out.2.1.over (by have := HLn.out; omega) (L.length + 1 + k2) (by omega) h19 (full s) (full_size s)
            rw [hp] at hov
            have HOv := Lib.hid hov
            have HFu := Lib.hid (fun W => plainFull_any s W (by have := HK2.out.2.2; omega))
            obtain ⟨fs, hfs⟩ : ∃ fs, full s = fs := ⟨_, rfl⟩
            rw [hfs] at HOv HFu
            clear h19 hp hpl hov hfs
            go_wp2_with fail
            refine (HHalf.out _).mono ?_
            rintro z w8 ⟨rfl, rfl⟩
            go_wp2_with fail
            refine (HPl.out _).mono ?_
            rintro z w8 ⟨rfl, rfl⟩
            go_wp2_with fail
            refine (HFu.out _).mono ?_
            rintro z w8 ⟨rfl, k8⟩
            have hja8 := HJ2.out.1.later k8
            have hbx8 := HJ2.out.2.2.2.after k8
            have hcall := hja8.on HT.out.lt (fun F h1 h2 => over_any F b d' w8 h1 (p : Nat) fs h2)
            have HC := Lib.hid hcall
            have HB8 := Lib.hid hbx8
            clear hja8 hbx8 hcall k8
            go_wp2_with fail
            refine HC.out.mono ?_
            rintro z w9 ⟨rfl, hja9, k9⟩
            have hbx9 := HB8.out.kept (k9.block _ HB8.out.lt rfl)
            have H9 := Lib.hid (And.intro hja9 hbx9)
            clear hja9 hbx9 k9
            go_wp2
            go_round
            case rel => exact ⟨k2 + 1, by have := HK2.out; omega, rfl, Lib.hid ⟨_, H9.out.1, HOv.out.1, by rw [HOv.out.2]; exact HJ2.out.2.2.1, H9.out.2⟩⟩
            case measure => have := HK2.out; simp [intOf]; omega
          · have h19i : decide ((L.length : Int) + 1 + (k2 : Int) < 19) = false := decide_eq_false (by omega)
            have h19j : ¬ (L.length : Int) + 1 + (k2 : Int) < 19 := by omega
            clear h19
            go_wp2_with fail
            refine (HHalf.out _).mono ?_
            rintro z w8 ⟨rfl, rfl⟩
            go_wp2
            go_round
            case rel => exact ⟨k2 + 1, by have := HK2.out; omega, rfl, Lib.hid ⟨d', HJ2.out.1, HJ2.out.2.1, HJ2.out.2.2.1, HJ2.out.2.2.2⟩⟩
            case measure => have := HK2.out; simp [intOf]; omega
        · obtain rfl : k2 = nj := by omega
          have hkn2 : ¬ (k2 : Int) < (k2 : Int) := by omega
          obtain ⟨d1, hd1⟩ : ∃ d1, (d'.arm (step : Int)).1 = d1 := ⟨_, rfl⟩
          obtain ⟨ea, hea⟩ : ∃ ea, (d'.arm (step : Int)).2 = ea := ⟨_, rfl⟩
          have hcall := hja.on HT.out.lt (fun F h1 h2 => arm_any F b d' wr h1 (step : Int) (by omega))
          rw [hd1, hea] at hcall
          obtain ⟨Q, hQ⟩ : ∃ Q, appV d1 1 ep L.length (rc xe xq xk xN xO xM xt xu) = Q := ⟨_, rfl⟩
          have hsame := jarm_same d' (step : Int)
          rw [hd1] at hsame
          have hend := hok.last (by have := HLn.out; omega) step (rc xe xq xk xN xO xM xt xu) K (by omega) d1 hd1 Q hQ
          obtain ⟨R, hR⟩ : ∃ R, jrecs ((Q.1.crash K).boot) 1 ep = R := ⟨_, rfl⟩
          have hd1f : d1.S.length = 40 ∧ d1.ops ≤ 800000 ∧ d1.C.length ≤ 30000 := ⟨by rw [hsame.1]; exact hok.S.len, by rw [hsame.2.2]; omega, by rw [hsame.2.1, hok.C]; simp⟩
          have HCa := Lib.hid hcall
          have HX := Lib.hid (And.intro hQ (And.intro hend (And.intro hR (And.intro hd1f hbx))))
          clear hcall hd1 hea hQ hsame hend hR hd1f hja hok hops hbx hlt2 hk2
          go_wp2_with fail
          refine HCa.out.mono ?_
          rintro z w9 ⟨rfl, hja9, k9⟩
          have hbx9 := HX.out.2.2.2.2.kept (k9.block _ HX.out.2.2.2.2.lt rfl)
          have hcall := hja9.last HT.out.lt xe xq xk xN xO xM xt xu HX.out.2.2.2.1.1 (by have := HLn.out; omega) HX.out.2.2.2.1.2.1 HX.out.2.2.2.1.2.2 Q HX.out.1
          have HCa2 := Lib.hid hcall
          have HB9 := Lib.hid hbx9
          obtain ⟨c0, c1, c2, c3, c4, c5, c6, c7, c8⟩ := id hbx9
          clear hcall hja9 k9 hbx9 c8
          go_wp2_with fail
          refine HCa2.out.mono ?_
          rintro z w10 ⟨rfl, hjc, k10⟩
          have hbx10 := HB9.out.kept (k10.block _ HB9.out.lt rfl)
          have hcall := hjc.on HT.out.lt (fun F h1 h2 => crash_ok F b Q.1 w10 h1 h2 D ck K (HIn.out.2.2.1.later hjc.bel) (by have := HIn.out.2.2.2.2.2.2.1; omega) HIn.out.2.2.2.1)
          rw [HIn.out.2.2.2.2.2.2.1] at hcall
          have HCa3 := Lib.hid hcall
          have HB10 := Lib.hid hbx10
          obtain ⟨f, hf⟩ : ∃ f, Q.2 = f := ⟨_, rfl⟩
          have HF := Lib.hid hf
          rw [hf]
          clear hcall hjc k10 hbx10 c0 c1 c2 c3 c4 c5 c6 c7 hf
          go_wp2_with fail
          refine HCa3.out.mono ?_
          rintro z w11 ⟨rfl, hjc, k11⟩
          have hbx11 := HB10.out.kept (k11.block _ HB10.out.lt rfl)
          have hcall := hjc.on HT.out.lt (fun F h1 h2 => boot_ok F b (Q.1.crash K) w11 h1 h2)
          have HCa4 := Lib.hid hcall
          have HB11 := Lib.hid hbx11
          clear hcall hjc k11 hbx11
          go_wp2_with fail
          refine HCa4.out.mono ?_
          rintro z w12 ⟨rfl, hjc, k12⟩
          have hbx12 := HB11.out.kept (k12.block _ HB11.out.lt rfl)
          obtain ⟨d5, hd5⟩ : ∃ d5, (Q.1.crash K).boot = d5 := ⟨_, rfl⟩
          have hjc5 : JC w b (fun j => j = w.heap.size) d5 L (.slice av' L.length cv') w12 := by rw [← hd5]; exact hjc
          have hend : JEnd d5 ep L (rc xe xq xk xN xO xM xt xu) f := by rw [← hd5, ← HF.out]; exact HX.out.2.1
          have hR : jrecs d5 1 ep = R := by rw [← hd5]; exact HX.out.2.2.1
          have HNe := Lib.hid hjc5.ne
          have hcall := hjc5.open HT.out.lt HE.out.1 HE.out.2.1 hend.down (by have := hend.ops; omega) (by rw [hend.len.1, hend.len.2]) hend.sz R hR
          have HCa5 := Lib.hid hcall
          have HB12 := Lib.hid (And.intro hbx12 (And.intro hend hR))
          clear hcall hjc hjc5 hend hR hd5 k12 hbx12
          go_wp2_with fail
          refine HCa5.out.mono ?_
          rintro z w13 ⟨⟨pj, vg, rfl, hog⟩, hown, hbel, htab, k13⟩
          have hbx13 := HB12.out.1.kept (k13.block _ HB12.out.1.lt rfl)
          obtain ⟨ag, cg, hvg⟩ := (own_lenOf hog).2
          subst hvg
          have hR14 := recAt_put2 hbx13 (ep : Nat) (L.length : Nat)
          have hown14 := own_other (own_other hown ⟨w.heap.size, 0, none⟩ (.int .i64 (ep : Nat)) (fun j hj => HNe.out j hj)) ⟨w.heap.size, 1, none⟩ (.int .i64 (L.length : Nat)) (fun j hj => HNe.out j hj)
          have hng : ∀ j, (Value.slice ag R.length cg).ownBlock = some j → j ≠ w.heap.size := fun j hj => by have := (hog.lt j hj).1; have := HB12.out.1.lt; omega
          have hog14 := own_other (own_other hog ⟨w.heap.size, 0, none⟩ (.int .i64 (ep : Nat)) hng) ⟨w.heap.size, 1, none⟩ (.int .i64 (L.length : Nat)) hng
          have hs14 : Below w.heap.size w13 ((w13.setCell ⟨w.heap.size, 0, none⟩ (.int .i64 (ep : Nat))).setCell ⟨w.heap.size, 1, none⟩ (.int .i64 (L.length : Nat))) := ((Below.refl _ w13).setCell (p := ⟨w.heap.size, 0, none⟩) (Nat.le_refl _) _).setCell (p := ⟨w.heap.size, 1, none⟩) (Nat.le_refl _) _
          have hbel14 := hbel.trans hs14
          have htab14 := htab.below hs14 HT.out.lt
          obtain ⟨c0, c1, c2, c3, c4, c5, c6, c7, c8⟩ := id hbx13
          clear hog hown hbel htab k13 hng hs14
          go_upto_region 27 with fail
          obtain ⟨w14, hw14⟩ : ∃ w14, (w13.setCell ⟨w.heap.size, 0, none⟩ (.int .i64 (ep : Nat))).setCell ⟨w.heap.size, 1, none⟩ (.int .i64 (L.length : Nat)) = w14 := ⟨_, rfl⟩
          rw [hw14] at hR14 hown14 hog14 hbel14 htab14 ⊢
          clear hw14 c0 c1 c2 c3 c4 c5 c6 c7 c8 hbx13
          have H14 := Lib.hid (And.intro hown14 (And.intro hog14 (And.intro hbel14 htab14)))
          have HRc := Lib.hid hR14
          obtain ⟨c0, c1, c2, c3, c4, c5, c6, c7, c8⟩ := id hR14
          clear hown14 hog14 hbel14 htab14 c8 hR14
          generalize hgl : w.heap.size = gl at *
          have HGl := Lib.hid hgl
          clear hgl
          have hz14 : ∀ o, (w14.alloc o).heap.size = w14.heap.size + 1 := fun o => by simp
          have hd14 : Below w14.heap.size w14 w14.drew := (Below.refl _ w14).drew
          have b1 : ∀ o, Below w14.heap.size w14 (w14.alloc o).drew := fun o => ((Below.refl _ w14).alloc (Nat.le_refl _) o).drew
          have b2 : ∀ o o', Below w14.heap.size w14 ((w14.alloc o).alloc o').drew := fun o o' => ((((Below.refl _ w14).alloc (Nat.le_refl _) o)).alloc (by rw [hz14]; omega) o').drew
          have hwant : ∀ W, Below w14.heap.size w14 W → W.ownsRow gl 24 8 (.slice av' L.length cv') L.length (rvs L) := fun W hB => own_below H14.out.1 hB (fun g hg => (H14.out.1.lt g hg).2)
          have hlen1 : ([] : List Rec).length + L.length ≤ 100000 := by simp; omega
          have hcs : (#[.int .i64 (ep : Nat), .int .i64 (L.length : Nat), .int .i64 xk, .string xN, .string xO, .string xM, .int .i64 xt, .int .i64 xu] : Array Value).toList = rcells (jrec (rc xe xq xk xN xO xM xt xu) ep L.length) := by rw [rcells_rc]
          have hC2 : ((w14.alloc (.cells #[] 24)).alloc (.cells #[.int .i64 (ep : Nat), .int .i64 (L.length : Nat), .int .i64 xk, .string xN, .string xO, .string xM, .int .i64 xt, .int .i64 xu] 24)).drew.heap[w14.heap.size + 1]? = some (.cells #[.int .i64 (ep : Nat), .int .i64 (L.length : Nat), .int .i64 xk, .string xN, .string xO, .string xM, .int .i64 xt, .int .i64 xu] 24 (0, 0)) := by rw [← hz14 (.cells #[] 24)]; exact heap_alloc_last _ _
          have hC3 : ((w14.alloc (.cells #[.int .i64 (ep : Nat), .int .i64 (L.length : Nat), .int .i64 xk, .string xN, .string xO, .string xM, .int .i64 xt, .int .i64 xu] 24)).alloc (.cells #[] 24)).drew.heap[w14.heap.size]? = some (.cells #[.int .i64 (ep : Nat), .int .i64 (L.length : Nat), .int .i64 xk, .string xN, .string xO, .string xM, .int .i64 xt, .int .i64 xu] 24 (0, 0)) := by
            show ((w14.alloc (.cells #[.int .i64 (ep : Nat), .int .i64 (L.length : Nat), .int .i64 xk, .string xN, .string xO, .string xM, .int .i64 xt, .int .i64 xu] 24)).alloc (.cells #[] 24)).heap[w14.heap.size]? = _
            rw [(Joins.below_alloc1 (w14.alloc (.cells #[.int .i64 (ep : Nat), .int .i64 (L.length : Nat), .int .i64 xk, .string xN, .string xO, .string xM, .int .i64 xt, .int .i64 xu] 24)) (.cells #[] 24)).block _ (by rw [hz14]; omega)]
            exact heap_alloc_last _ _
          have hE1 : (w14.alloc (.cells #[] 24)).drew.ownsRow w14.heap.size 24 8 (.slice (some ⟨w14.heap.size, 0, none⟩) 0 0) ([] : List Rec).length (rvs []) := own_e w14 w14.heap.size (Nat.le_refl _)
          have hE2 : ((w14.alloc (.cells #[] 24)).alloc (.cells #[.int .i64 (ep : Nat), .int .i64 (L.length : Nat), .int .i64 xk, .string xN, .string xO, .string xM, .int .i64 xt, .int .i64 xu] 24)).drew.ownsRow w14.heap.size 24 8 (.slice (some ⟨w14.heap.size, 0, none⟩) 0 0) ([] : List Rec).length (rvs []) := (own_e w14 w14.heap.size (Nat.le_refl _)).alloc (.cells #[.int .i64 (ep : Nat), .int .i64 (L.length : Nat), .int .i64 xk, .string xN, .string xO, .string xM, .int .i64 xt, .int .i64 xu] 24)
          have hE3 : ((w14.alloc (.cells #[.int .i64 (ep : Nat), .int .i64 (L.length : Nat), .int .i64 xk, .string xN, .string xO, .string xM, .int .i64 xt, .int .i64 xu] 24)).alloc (.cells #[] 24)).drew.ownsRow w14.heap.size 24 8 (.slice (some ⟨w14.heap.size + 1, 0, none⟩) 0 0) ([] : List Rec).length (rvs []) := by
            have h := own_e (w14.alloc (.cells #[.int .i64 (ep : Nat), .int .i64 (L.length : Nat), .int .i64 xk, .string xN, .string xO, .string xM, .int .i64 xt, .int .i64 xu] 24)) w14.heap.size (by rw [hz14]; omega)
            rw [hz14] at h
            exact h
          have HE1 := Lib.hid hE1
          clear hE1
          have HR := Lib.hid (And.intro hd14 (And.intro b1 (And.intro b2 (And.intro hwant (And.intro hlen1 (And.intro hcs (And.intro hC2 (And.intro hC3 (And.intro hE2 (And.intro hE3 hz14))))))))))
          clear hd14 b1 b2 hwant hlen1 hcs hC2 hC3 hE2 hE3 hz14
          have hglt : gl < w14.heap.size := HRc.out.lt
          have hcA : ∀ o, RecAt gl (ep : Nat) (L.length : Nat) xk xN xO xM xt xu (w14.alloc o) := fun o => HRc.out.after (Joins.below_alloc1 w14 o)
          have dd0 := fun o => (hcA o).c0
          have dd1 := fun o => (hcA o).c1
          have dd2 := fun o => (hcA o).c2
          have dd3 := fun o => (hcA o).c3
          have dd4 := fun o => (hcA o).c4
          have dd5 := fun o => (hcA o).c5
          have dd6 := fun o => (hcA o).c6
          have dd7 := fun o => (hcA o).c7
          have HcA := Lib.hid hcA
          clear hcA
          have HG := Lib.hid hglt
          have hlen2 : ([] ++ L).length + [jrec (rc xe xq xk xN xO xM xt xu) ep L.length].length ≤ 100000 := by simp; omega
          clear hglt
          go_region_law (first
            | (refine step_append_recs rfl (.tmp 148) (.tmp 149) rfl w14.heap.size gl (.slice (some ⟨w14.heap.size, 0, none⟩) 0 0) (.slice av' L.length cv') [] L rfl rfl HE1.out (HR.out.2.2.2.1 _ (HR.out.2.1 _)) HR.out.2.2.2.2.1 (HR.out.2.1 _).size ?_; intro v8 w8 o8 g8 l8; have hB8 := (HR.out.2.1 (.cells #[] 24)).grown g8 (HR.out.2.1 _).size (fun j hj => Nat.le_of_eq (Option.some.inj hj)); have r8 := HRc.out.after hB8; obtain ⟨f0, f1, f2, f3, f4, f5, f6, f7, f8⟩ := id r8; clear r8 f8)
            | (refine step_append_recs rfl (.tmp 148) (.tmp 149) rfl w14.heap.size gl (.slice (some ⟨w14.heap.size, 0, none⟩) 0 0) (.slice av' L.length cv') [] L rfl rfl HR.out.2.2.2.2.2.2.2.2.1 (HR.out.2.2.2.1 _ (HR.out.2.2.1 _ _)) HR.out.2.2.2.2.1 (HR.out.2.2.1 _ _).size ?_; intro v8 w8 o8 g8 l8; have hB8 := (HR.out.2.2.1 (.cells #[] 24) (.cells #[.int .i64 (ep : Nat), .int .i64 (L.length : Nat), .int .i64 xk, .string xN, .string xO, .string xM, .int .i64 xt, .int .i64 xu] 24)).grown g8 (HR.out.2.2.1 _ _).size (fun j hj => Nat.le_of_eq (Option.some.inj hj)); have hC8 := (g8.block (w14.heap.size + 1) (World.heap_lt_of HR.out.2.2.2.2.2.2.1) (fun e => Nat.succ_ne_self _ (Option.some.inj e))).trans HR.out.2.2.2.2.2.2.1; have hy8 := own_c w8 w14.heap.size (w14.heap.size + 1) _ _ HR.out.2.2.2.2.2.1 hC8 (Nat.le_succ _); clear hC8)
            | (refine step_append_recs rfl (.tmp 148) (.tmp 149) rfl w14.heap.size gl (.slice (some ⟨w14.heap.size + 1, 0, none⟩) 0 0) (.slice av' L.length cv') [] L rfl rfl HR.out.2.2.2.2.2.2.2.2.2.1 (HR.out.2.2.2.1 _ (HR.out.2.2.1 _ _)) HR.out.2.2.2.2.1 (HR.out.2.2.1 _ _).size ?_; intro v8 w8 o8 g8 l8; have hB8 := (HR.out.2.2.1 (.cells #[.int .i64 (ep : Nat), .int .i64 (L.length : Nat), .int .i64 xk, .string xN, .string xO, .string xM, .int .i64 xt, .int .i64 xu] 24) (.cells #[] 24)).grown g8 (HR.out.2.2.1 _ _).size (fun j hj => Nat.le_trans (Nat.le_succ _) (Nat.le_of_eq (Option.some.inj hj))); have hC8 := (g8.block w14.heap.size (World.heap_lt_of HR.out.2.2.2.2.2.2.2.1) (fun e => Nat.succ_ne_self _ (Option.some.inj e).symm)).trans HR.out.2.2.2.2.2.2.2.1; have hy8 := own_c w8 w14.heap.size w14.heap.size _ _ HR.out.2.2.2.2.2.1 hC8 (Nat.le_refl _); clear hC8)
            | (refine step_append_recs rfl (.tmp 150) (.tmp 152) rfl w14.heap.size w14.heap.size v8 (.slice (some ⟨w14.heap.size + 1, 0, none⟩) 1 1) ([] ++ L) [jrec (rc xe xq xk xN xO xM xt xu) ep L.length] rfl rfl o8 hy8 hlen2 hB8.size ?_; intro v9 w9 o9 g9 l9; have hB9 := hB8.grown g9 hB8.size (fun j hj => (o8.lt j hj).1))
            | (refine step_append_recs rfl (.tmp 150) (.tmp 152) rfl w14.heap.size w14.heap.size v8 (.slice (some ⟨w14.heap.size, 0, none⟩) 1 1) ([] ++ L) [jrec (rc xe xq xk xN xO xM xt xu) ep L.length] rfl rfl o8 hy8 hlen2 hB8.size ?_; intro v9 w9 o9 g9 l9; have hB9 := hB8.grown g9 hB8.size (fun j hj => (o8.lt j hj).1))
            | (refine step_append_recs rfl (.tmp 150) (.tmp 152) rfl w14.heap.size w14.heap.size v8 (.slice (some ⟨w8.heap.size, 0, none⟩) 1 1) ([] ++ L) [jrec (rc xe xq xk xN xO xM xt xu) ep L.length] rfl rfl (o8.alloc (.cells #[.int .i64 (ep : Nat), .int .i64 (L.length : Nat), .int .i64 xk, .string xN, .string xO, .string xM, .int .i64 xt, .int .i64 xu] 24)) (own_c (w8.alloc (.cells #[.int .i64 (ep : Nat), .int .i64 (L.length : Nat), .int .i64 xk, .string xN, .string xO, .string xM, .int .i64 xt, .int .i64 xu] 24)) w14.heap.size w8.heap.size _ _ HR.out.2.2.2.2.2.1 (heap_alloc_last _ _) hB8.size) hlen2 (hB8.alloc hB8.size (.cells #[.int .i64 (ep : Nat), .int .i64 (L.length : Nat), .int .i64 xk, .string xN, .string xO, .string xM, .int .i64 xt, .int .i64 xu] 24)).size ?_; intro v9 w9 o9 g9 l9; have hB9 := (hB8.alloc hB8.size (.cells #[.int .i64 (ep : Nat), .int .i64 (L.length : Nat), .int .i64 xk, .string xN, .string xO, .string xM, .int .i64 xt, .int .i64 xu] 24)).grown g9 (hB8.alloc hB8.size (.cells #[.int .i64 (ep : Nat), .int .i64 (L.length : Nat), .int .i64 xk, .string xN, .string xO, .string xM, .int .i64 xt, .int .i64 xu] 24)).size (fun j hj => (o8.lt j hj).1)))
          all_goals
            obtain ⟨a9, c9, hv9⟩ := (own_lenOf o9).2
            obtain ⟨m9, hm9⟩ : ∃ m, (([] ++ L) ++ [jrec (rc xe xq xk xN xO xM xt xu) ep L.length]).length = m := ⟨_, rfl⟩
            rw [hm9] at hv9
            subst hv9
            have hown9 := HR.out.2.2.2.1 w9 hB9
            have hog9 := own_below H14.out.2.1 hB9 (fun g hg => (H14.out.2.1.lt g hg).2)
            have hbel9 := H14.out.2.2.1.trans (hB9.mono (by have := H14.out.2.2.1.size; have := HGl.out; omega))
            have htab9 := H14.out.2.2.2.below hB9 H14.out.2.2.2.lt
            have hlR : (R.length : Int) ≤ 1000000 := by have := jscan_le (shown d5 1) ep (halfV d5.S.length) 0; rw [show jscan (shown d5 1) ep (halfV d5.S.length) 0 = R from HB12.out.2.2, HB12.out.2.1.len.1] at this; have e : halfV 40 = 19 := rfl; omega
            have hs1 := fun (r1 : Bool) (h : decide (R = L) = r1) => refSame_any ag av' cg cv' R L w9 (recRow_own hog9) (recRow_own hown9) hlR (by omega) r1 h
            have hs2 := fun (W : World) (hW : Below w9.heap.size w9 W) (h : R = ([] ++ L) ++ [jrec (rc xe xq xk xN xO xM xt xu) ep L.length]) => refSame_any ag a9 cg c9 R _ W ((recRow_own hog9).later hW) ((recRow_own o9).later hW) hlR (by simp; omega) true (decide_eq_true h)
            simp only [hm9] at hs2
            have HS1 := Lib.hid hs1
            have HS2 := Lib.hid hs2
            have H9 := Lib.hid (And.intro hbel9 htab9)
            have hall := HB12.out.2.1.all
            rw [HB12.out.2.2] at hall
            clear hown9 hog9 hbel9 htab9 hlR hs1 hs2 c0 c1 c2 c3 c4 c5 c6 c7 dd0 dd1 dd2 dd3 dd4 dd5 dd6 dd7 HcA o8 o9 g8 g9 l8 l9 hB8 hB9 hlen2 hm9
            have hbelw : ∀ {W : World}, Below gl w W → Below w.heap.size w W := fun h => by rw [HGl.out]; exact h
            rcases hall with ⟨hf0, hRL⟩ | ⟨hf2, hRL⟩
            · have HC1 := Lib.hid (HS1.out true (decide_eq_true hRL))
              have hfb : (f == 0) = false := by simpa using hf0
              have hfb2 : (f != 0) = true := by simpa using hf0
              clear hf0 hRL
              go_wp2_with fail
              refine HC1.out.mono ?_
              rintro z wa9 ⟨rfl, k9⟩
              go_wp2_with fail
              refine (awake38_any wa9 (H9.out.2.below k9 H9.out.2.lt)).mono ?_
              rintro z wb9 ⟨rfl, k10⟩
              have HFin := Lib.hid (hbelw (H9.out.1.trans ((k9.trans (k10.mono k9.size)).mono (by have := H9.out.1.size; have := HGl.out; omega))))
              clear k9 k10 hfb hfb2
              go_wp2
              go_ret
              exact ⟨rfl, HFin.out⟩
            · have hRL2 : R = ([] ++ L) ++ [jrec (rc xe xq xk xN xO xM xt xu) ep L.length] := by rw [List.nil_append]; exact hRL
              have hfb : (f == 2) = false := by simpa using hf2
              have hfb2 : (f != 2) = true := by simpa using hf2
              by_cases hf0 : f = 0
              · subst hf0
                have HC2 := Lib.hid (HS2.out w9 (Below.refl _ _) hRL2)
                clear hfb hfb2 hf2 hRL hRL2
                go_wp2_with fail
                refine HC2.out.mono ?_
                rintro z wa9 ⟨rfl, k9⟩
                go_wp2_with fail
                refine (awake38_any wa9 (H9.out.2.below k9 H9.out.2.lt)).mono ?_
                rintro z wb9 ⟨rfl, k10⟩
                have HFin := Lib.hid (hbelw (H9.out.1.trans ((k9.trans (k10.mono k9.size)).mono (by have := H9.out.1.size; have := HGl.out; omega))))
                clear k9 k10
                go_wp2
                go_ret
                exact ⟨rfl, HFin.out⟩
              · have hne : ¬ R = L := fun e => by
                  have h1 := congrArg List.length e
                  rw [hRL] at h1
                  simp at h1
                have HC1 := Lib.hid (HS1.out false (decide_eq_false hne))
                have HC2 := Lib.hid (fun W hW => HS2.out W hW hRL2)
                have hfc : (f == 0) = false := by simpa using hf0
                have hfc2 : (f != 0) = true := by simpa using hf0
                clear hf0 hne hf2 hRL hRL2
                go_wp2_with fail
                refine HC1.out.mono ?_
                rintro z wa9 ⟨rfl, k9⟩
                go_wp2_with fail
                refine (HC2.out wa9 k9).mono ?_
                rintro z wb9 ⟨rfl, k10⟩
                have hk := k9.trans (k10.mono k9.size)
                go_wp2_with fail
                refine (awake38_any wb9 (H9.out.2.below hk H9.out.2.lt)).mono ?_
                rintro z wc9 ⟨rfl, k11⟩
                have HFin := Lib.hid (hbelw (H9.out.1.trans ((hk.trans (k11.mono hk.size)).mono (by have := H9.out.1.size; have := HGl.out; omega))))
                clear k9 k10 k11 hk hfb hfb2 hfc hfc2
                go_wp2
                go_ret
                exact ⟨rfl, HFin.out⟩
end Go.Proofs.YtfbakelpplpomaaGreatDoor.Disk
/-
  The walk of JournalAll, whatever comes in.
-/
namespace Go.Proofs.YtfbakelpplpomaaGreatDoor.Disk
open Go.RowKit Go.Proofs.YtfbakelpplpomaaGreatDoor.DiskRows Go.Proofs.YtfbakelpplpomaaGreatDoor.WalkCrc
open Go.Proofs.YtfbakelpplpomaaGreatDoor.WalkSeat (rc RecAt)
open Pl.Seat (Rec isR)
set_option linter.unusedVariables false
set_option linter.unusedSimpArgs false
set_option maxRecDepth 100000

set_option maxHeartbeats 6400000 in
theorem journalAll_early (ep : Int) (A : Option Addr) (c n : Nat) (xe xq xk : Int) (xN xO xM : ByteArray) (xt xu : Int) (B : Option Addr) (cj : Nat) (J : List ByteArray) (step : Int) (D : Option Addr) (ck nk : Nat) (w : World) (ht : Tab w) (hB : Txs w B J) (hnn : (n : Int) ≤ 9223372036854775807) (hJ : (J.length : Int) ≤ 9223372036854775807) (hkk : (nk : Int) ≤ 9223372036854775807) (hjs : ∀ s ∈ J, (s.size : Int) ≤ 9223372036854775807) (h : ep < 1 ∨ 4294967295 < ep ∨ 10 < n ∨ 40 < J.length) :
    Calls Tryz.prog 3 #[.int .i64 ep, .slice A n c, .agg #[.int .i64 xe, .int .i64 xq, .int .i64 xk, .string xN, .string xO, .string xM, .int .i64 xt, .int .i64 xu], .slice B J.length cj, .int .i64 step, .slice D nk ck] w fun z w' => z = .returned (.bool true) ∧ Below w.heap.size w w' := by
  obtain ⟨nj, hnj⟩ : ∃ n, J.length = n := ⟨_, rfl⟩
  have ba := Joins.below_alloc1 w (.cells #[.int .i64 xe, .int .i64 xq, .int .i64 xk, .string xN, .string xO, .string xM, .int .i64 xt, .int .i64 xu] 24)
  rw [hnj] at hJ h ⊢
  have HT := Lib.hid ht
  have HB := Lib.hid ba
  clear hnj ht ba hB hjs
  by_cases h1 : ep < 1
  · clear h
    go_enter Tryz.func3, Tryz.ntmps3
    go_wp2_with fail
    refine (awake38_any _ (HT.out.below HB.out HT.out.lt)).mono ?_
    rintro z w2 ⟨rfl, b2⟩
    have HF := Lib.hid (HB.out.trans (b2.mono HB.out.size))
    clear b2
    go_wp2
    go_ret
    exact ⟨rfl, HF.out⟩
  · by_cases h2 : 4294967295 < ep
    · clear h
      go_enter Tryz.func3, Tryz.ntmps3
      go_wp2_with fail
      refine (awake38_any _ (HT.out.below HB.out HT.out.lt)).mono ?_
      rintro z w2 ⟨rfl, b2⟩
      have HF := Lib.hid (HB.out.trans (b2.mono HB.out.size))
      clear b2
      go_wp2
      go_ret
      exact ⟨rfl, HF.out⟩
    · by_cases h3 : 10 < n
      · have h3i : (10 : Int) < (n : Int) := by omega
        clear h h3
        go_enter Tryz.func3, Tryz.ntmps3
        go_wp2_with fail
        refine (awake38_any _ (HT.out.below HB.out HT.out.lt)).mono ?_
        rintro z w2 ⟨rfl, b2⟩
        have HF := Lib.hid (HB.out.trans (b2.mono HB.out.size))
        clear b2
        go_wp2
        go_ret
        exact ⟨rfl, HF.out⟩
      · have h4i : (40 : Int) < (nj : Int) := by omega
        have h3i : ¬ (10 : Int) < (n : Int) := by omega
        clear h h3
        go_enter Tryz.func3, Tryz.ntmps3
        go_wp2_with fail
        refine (awake38_any _ (HT.out.below HB.out HT.out.lt)).mono ?_
        rintro z w2 ⟨rfl, b2⟩
        have HF := Lib.hid (HB.out.trans (b2.mono HB.out.size))
        clear b2
        go_wp2
        go_ret
        exact ⟨rfl, HF.out⟩
set_option maxHeartbeats 6400000 in
theorem journalAll_late (ep : Int) (A : Option Addr) (c n : Nat) (xe xq xk : Int) (xN xO xM : ByteArray) (xt xu : Int) (B : Option Addr) (cj : Nat) (J : List ByteArray) (step : Int) (D : Option Addr) (ck nk : Nat) (w : World) (ht : Tab w) (hB : Txs w B J) (hnn : (n : Int) ≤ 9223372036854775807) (hJ : (J.length : Int) ≤ 9223372036854775807) (hkk : (nk : Int) ≤ 9223372036854775807) (hjs : ∀ s ∈ J, (s.size : Int) ≤ 9223372036854775807) (h1 : 1 ≤ ep) (h2 : ep ≤ 4294967295) (h3 : n ≤ 10) (h4 : J.length ≤ 40) (h : 6000 < byV 0 J ∨ 100 < nk ∨ step < 0 ∨ 4 < step) :
    Calls Tryz.prog 3 #[.int .i64 ep, .slice A n c, .agg #[.int .i64 xe, .int .i64 xq, .int .i64 xk, .string xN, .string xO, .string xM, .int .i64 xt, .int .i64 xu], .slice B J.length cj, .int .i64 step, .slice D nk ck] w fun z w' => z = .returned (.bool true) ∧ Below w.heap.size w w' := by
  obtain ⟨nj, hnj⟩ : ∃ n, J.length = n := ⟨_, rfl⟩
  have ba := Joins.below_alloc1 w (.cells #[.int .i64 xe, .int .i64 xq, .int .i64 xk, .string xN, .string xO, .string xM, .int .i64 xt, .int .i64 xu] 24)
  obtain ⟨r, hr⟩ : ∃ r, byV 0 J = r := ⟨_, rfl⟩
  have hby := bytes_any B cj J _ (hB.later ba) hJ hjs r hr
  rw [hr] at h
  have hrb : r ≤ 2000000 := by rw [← hr]; exact byV_bound J 0 (by omega)
  rw [hnj] at hby hJ h4 ⊢
  have HT := Lib.hid ht
  have HBa := Lib.hid ba
  have HBy := Lib.hid hby
  have h3i : (n : Int) ≤ 10 := by omega
  have h4i : (nj : Int) ≤ 40 := by omega
  clear hnj ht ba hB hjs hby hr h3 h4
  by_cases g1 : 6000 < r
  · have g1i : (6000 : Int) < (r : Int) := by omega
    clear h g1
    go_enter Tryz.func3, Tryz.ntmps3
    go_wp2_with fail
    refine HBy.out.mono ?_
    rintro z w1 ⟨rfl, b1⟩
    have HB := Lib.hid (HBa.out.trans (b1.mono HBa.out.size))
    clear b1
    go_wp2_with fail
    refine (awake38_any _ (HT.out.below HB.out HT.out.lt)).mono ?_
    rintro z w2 ⟨rfl, b2⟩
    have HF := Lib.hid (HB.out.trans (b2.mono HB.out.size))
    clear b2
    go_wp2
    go_ret
    exact ⟨rfl, HF.out⟩
  · have g1i : ¬ (6000 : Int) < (r : Int) := by omega
    by_cases g2 : 100 < nk
    · have g2i : (100 : Int) < (nk : Int) := by omega
      clear h g1 g2
      go_enter Tryz.func3, Tryz.ntmps3
      go_wp2_with fail
      refine HBy.out.mono ?_
      rintro z w1 ⟨rfl, b1⟩
      have HB := Lib.hid (HBa.out.trans (b1.mono HBa.out.size))
      clear b1
      go_wp2_with fail
      refine (awake38_any _ (HT.out.below HB.out HT.out.lt)).mono ?_
      rintro z w2 ⟨rfl, b2⟩
      have HF := Lib.hid (HB.out.trans (b2.mono HB.out.size))
      clear b2
      go_wp2
      go_ret
      exact ⟨rfl, HF.out⟩
    · have g2i : ¬ (100 : Int) < (nk : Int) := by omega
      by_cases g3 : step < 0
      · clear h g1 g2
        go_enter Tryz.func3, Tryz.ntmps3
        go_wp2_with fail
        refine HBy.out.mono ?_
        rintro z w1 ⟨rfl, b1⟩
        have HB := Lib.hid (HBa.out.trans (b1.mono HBa.out.size))
        clear b1
        go_wp2_with fail
        refine (awake38_any _ (HT.out.below HB.out HT.out.lt)).mono ?_
        rintro z w2 ⟨rfl, b2⟩
        have HF := Lib.hid (HB.out.trans (b2.mono HB.out.size))
        clear b2
        go_wp2
        go_ret
        exact ⟨rfl, HF.out⟩
      · have g4 : 4 < step := by omega
        clear h g1 g2
        go_enter Tryz.func3, Tryz.ntmps3
        go_wp2_with fail
        refine HBy.out.mono ?_
        rintro z w1 ⟨rfl, b1⟩
        have HB := Lib.hid (HBa.out.trans (b1.mono HBa.out.size))
        clear b1
        go_wp2_with fail
        refine (awake38_any _ (HT.out.below HB.out HT.out.lt)).mono ?_
        rintro z w2 ⟨rfl, b2⟩
        have HF := Lib.hid (HB.out.trans (b2.mono HB.out.size))
        clear b2
        go_wp2
        go_ret
        exact ⟨rfl, HF.out⟩
theorem journalAll_walk (ep : Int) (A : Option Addr) (c : Nat) (l : List Rx) (xe xq xk : Int) (xN xO xM : ByteArray) (xt xu : Int) (B : Option Addr) (cj : Nat) (J : List ByteArray) (step : Int) (D : Option Addr) (ck : Nat) (K : List Int) (w : World) (ht : Tab w) (hA : Rxs w A l) (hB : Txs w B J) (hK : Nums w D K) (hnn : (l.length : Int) ≤ 9223372036854775807) (hJ : (J.length : Int) ≤ 9223372036854775807) (hkk : (K.length : Int) ≤ 9223372036854775807) (hjs : ∀ s ∈ J, (s.size : Int) ≤ 9223372036854775807) (hkw : ∀ z ∈ K, (Lit.int .i64 z).wf = true) :
    Calls Tryz.prog 3 #[.int .i64 ep, .slice A l.length c, .agg #[.int .i64 xe, .int .i64 xq, .int .i64 xk, .string xN, .string xO, .string xM, .int .i64 xt, .int .i64 xu], .slice B J.length cj, .int .i64 step, .slice D K.length ck] w fun z w' => z = .returned (.bool true) ∧ Below w.heap.size w w' := by
  by_cases h : ep < 1 ∨ 4294967295 < ep ∨ 10 < l.length ∨ 40 < J.length
  · exact journalAll_early ep A c l.length xe xq xk xN xO xM xt xu B cj J step D ck K.length w ht hB hnn hJ hkk hjs h
  · by_cases h' : 6000 < byV 0 J ∨ 100 < K.length ∨ step < 0 ∨ 4 < step
    · exact journalAll_late ep A c l.length xe xq xk xN xO xM xt xu B cj J step D ck K.length w ht hB hnn hJ hkk hjs (by omega) (by omega) (by omega) (by omega) h'
    · obtain ⟨e, rfl⟩ : ∃ e : Nat, ep = e := ⟨ep.toNat, by omega⟩
      obtain ⟨s, rfl⟩ : ∃ s : Nat, step = s := ⟨step.toNat, by omega⟩
      exact journalAll_in e A c l ⟨xe, xq, xk, xN, xO, xM, xt, xu⟩ B cj J s D ck K w ht (by omega) (by omega) hA (by omega) hB (by omega) (by omega) hK (by omega) hkw (by omega) hjs
end Go.Proofs.YtfbakelpplpomaaGreatDoor.Disk
