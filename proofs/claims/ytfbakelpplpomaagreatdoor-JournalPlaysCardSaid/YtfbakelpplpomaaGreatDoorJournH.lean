/-
  The walk of Append, where there is room.
-/
import Derived.Test.YtfbakelpplpomaaGreatDoorJournG
import Derived.BigRegion
import Derived.Deep.RegionWith
import Derived.Deep.RegionHeld
namespace Go.Proofs.YtfbakelpplpomaaGreatDoor.Disk
open Go.RowKit Go.Proofs.YtfbakelpplpomaaGreatDoor.DiskRows Go.Proofs.YtfbakelpplpomaaGreatDoor.WalkCrc
open Go.Proofs.YtfbakelpplpomaaGreatDoor.WalkSeat (rc entryPut_free putRV RecAt arg)
open Pl.Seat (Rec isR)
set_option linter.unusedVariables false
set_option linter.unusedSimpArgs false
set_option maxRecDepth 100000

set_option maxHeartbeats 12800000 in
theorem append_go (F : Nat → Prop) (bj b half epoch count : Nat) (d : Dk) (e q k : Int) (N O M : ByteArray) (t u : Int) (w : World) (hD : DiskAt F b d w) (hj : JnAt bj b half epoch count w) (htab : Tab w) (hT : Top F w.heap.size) (hb : isR (rc epoch count k N O M t u) = true) (hh : half ≤ 1) (hlt : count + 1 < halfV d.S.length) (ho : d.ops ≤ 800000) (hC : d.C.length ≤ 30000) (hFj : F bj) (Q : Dk × Int) (hQ : jput d (placeV d.S.length half (count + 1)) (placeV d.S.length half count) (bs (zeros 128)) (WalkVar.bs (putRV (rc epoch count k N O M t u))) = Q) (c' : Nat) (hc' : (if Q.2 = 0 then count + 1 else count) = c') :
    Calls Tryz.prog 9 #[.pointer (some ⟨bj, 0, none⟩), .agg #[.int .i64 e, .int .i64 q, .int .i64 k, .string N, .string O, .string M, .int .i64 t, .int .i64 u]] w fun x w' => x = .returned (.int .i64 Q.2) ∧ DiskAt F b Q.1 w' ∧ JnAt bj b half epoch c' w' ∧ Kp (fun j => F j ∧ j ≠ bj) w w' := by
  have b1 : Below w.heap.size w ((w.alloc (.cells #[.pointer (some ⟨bj, 0, none⟩)] 33)).alloc (.cells #[.int .i64 e, .int .i64 q, .int .i64 k, .string N, .string O, .string M, .int .i64 t, .int .i64 u] 24)) := ((Below.refl _ w).alloc (Nat.le_refl _) _).alloc (by simp) _
  have hj1 := hj.later b1
  have hd1 := hD.later b1
  have hsz := size_any F b d _ hd1
  obtain ⟨n, hn⟩ : ∃ n, d.S.length = n := ⟨_, rfl⟩
  have hn16 : 16 ≤ n ∧ n ≤ 4096 := by
    obtain ⟨gS, cS, gH, cH, vC, h⟩ := hD
    exact ⟨hn ▸ h.pos, hn ▸ h.most⟩
  rw [hn] at hsz
  have hni : (n : Int) ≤ 4096 := by omega
  have hz1 : (w.alloc (.cells #[.pointer (some ⟨bj, 0, none⟩)] 33)).heap.size = w.heap.size + 1 := by simp
  have hR1 := RecAt.new (w.alloc (.cells #[.pointer (some ⟨bj, 0, none⟩)] 33)) e q k N O M t u 24
  rw [hz1] at hR1
  have hp1 : ((w.alloc (.cells #[.pointer (some ⟨bj, 0, none⟩)] 33)).alloc (.cells #[.int .i64 e, .int .i64 q, .int .i64 k, .string N, .string O, .string M, .int .i64 t, .int .i64 u] 24)).cell? ⟨w.heap.size, 0, none⟩ = some (.pointer (some ⟨bj, 0, none⟩)) := by go_simp
  have HS := Lib.hid hsz
  have hjl := hj.lt
  have HJ := Lib.hid (And.intro hj1 (And.intro hR1 (And.intro hp1 (And.intro b1 htab))))
  have hsz1 : ((w.alloc (.cells #[.pointer (some ⟨bj, 0, none⟩)] 33)).alloc (.cells #[.int .i64 e, .int .i64 q, .int .i64 k, .string N, .string O, .string M, .int .i64 t, .int .i64 u] 24)).heap.size = w.heap.size + 2 := by simp
  have HA := Lib.hid (And.intro hD (And.intro hn (And.intro hn16 hsz1)))
  obtain ⟨P, hP⟩ : ∃ P, WalkVar.bs (putRV (rc epoch count k N O M t u)) = P := ⟨_, rfl⟩
  have HP := Lib.hid (fun W hT => jPut_at epoch count k N O M t u P 0 W hT hP (by rw [hb]; rfl))
  have hP128 : P.size ≤ 1000000 := by
    rw [← hP]
    unfold putRV
    rw [if_pos hb, WalkVar.bs_size]
    have := Pl.Seat.putR_len WalkSeat.tailU WalkSeat.tailU_len _ hb
    omega
  obtain ⟨p1, hp1'⟩ : ∃ p, placeV n half count = p := ⟨_, rfl⟩
  obtain ⟨p2, hp2'⟩ : ∃ p, placeV n half (count + 1) = p := ⟨_, rfl⟩
  rw [hn] at hlt hQ
  rw [hp1', hp2', hP] at hQ
  have hhb : halfV n ≤ 4096 := by unfold halfV; omega
  have hq1 := fun W m => place_q n half count p1 W hn16 hh (by omega) hp1' m
  have hq2 := fun W m => place_q n half (count + 1) p2 W hn16 hh hlt hp2' m
  have HQ1 := Lib.hid hq1
  have HQ2 := Lib.hid hq2
  have hcb : (count : Int) ≤ 4096 := by omega
  have hw9 : IntKind.i64.wrap ((count : Int) + 1) = ((count + 1 : Nat) : Int) := by rw [IntKind.wrap_i64]; omega
  have HX := Lib.hid (And.intro hT (And.intro ho (And.intro hC (And.intro hFj (And.intro hQ (And.intro hP128 hc'))))))
  clear hc' hb hP hlt hhb hq1 hq2 hh hT ho hC hFj hQ hP128 hp1' hp2'
  have x0 := hj1.cells.1.1
  clear hD hj htab hj1 b1 hsz hR1 hz1 hd1 hn hn16 hsz1
  go_enter Tryz.func9, Tryz.ntmps9
  go_wp2_with fail
  refine HS.out.mono ?_
  rintro x w2 ⟨rfl, rfl⟩
  obtain ⟨w1, hw1⟩ : ∃ w1, (w.alloc (.cells #[.pointer (some ⟨bj, 0, none⟩)] 33)).alloc (.cells #[.int .i64 e, .int .i64 q, .int .i64 k, .string N, .string O, .string M, .int .i64 t, .int .i64 u] 24) = w1 := ⟨_, rfl⟩
  rw [hw1] at HJ hp1 x0 HS HA ⊢
  clear hw1
  obtain ⟨gp, hgp⟩ : ∃ gp, w.heap.size = gp := ⟨_, rfl⟩
  obtain ⟨gr, hgr⟩ : ∃ gr, w.heap.size + 1 = gr := ⟨_, rfl⟩
  rw [hgr] at HJ ⊢
  rw [hgp] at hp1 hjl ⊢
  have n1 : bj ≠ gr := by omega
  have n2 : gp ≠ gr := by omega
  have HG := Lib.hid (And.intro hgp (And.intro hgr hjl))
  clear hgp hgr hjl HS
  obtain ⟨c0, c1, c2, c3, c4, c5, c6, c7, c8⟩ := id HJ.out.2.1
  obtain ⟨⟨-, x1, x2, x3⟩, f⟩ := HJ.out.1.cells
  clear x1
  go_upto_region 4 with fail
  go_region
  go_upto_region 5 with fail
  have hR3 := recAt_put01 HJ.out.2.1 epoch count
  have b3 : Below w.heap.size w1 ((w1.setCell ⟨gr, 0, none⟩ (.int .i64 (epoch : Nat))).setCell ⟨gr, 1, none⟩ (.int .i64 (count : Nat))).drew := (((Below.refl _ w1).setCell (p := ⟨gr, 0, none⟩) (by have := HG.out; show w.heap.size ≤ gr; omega) _).setCell (p := ⟨gr, 1, none⟩) (by have := HG.out; show w.heap.size ≤ gr; omega) _).drew
  have hj3 : JnAt bj b half epoch count ((w1.setCell ⟨gr, 0, none⟩ (.int .i64 (epoch : Nat))).setCell ⟨gr, 1, none⟩ (.int .i64 (count : Nat))).drew := ⟨by rw [b3.block _ (by have := HG.out; omega)]; exact HJ.out.1.box⟩
  have hp3 : ((w1.setCell ⟨gr, 0, none⟩ (.int .i64 (epoch : Nat))).setCell ⟨gr, 1, none⟩ (.int .i64 (count : Nat))).drew.cell? ⟨gp, 0, none⟩ = some (.pointer (some ⟨bj, 0, none⟩)) := by go_simp
  have hs3 : ((w1.setCell ⟨gr, 0, none⟩ (.int .i64 (epoch : Nat))).setCell ⟨gr, 1, none⟩ (.int .i64 (count : Nat))).drew.heap.size = w.heap.size + 2 := by rw [← HA.out.2.2.2]; simp [World.setCell, World.drew]
  obtain ⟨w3, hw3⟩ : ∃ w3, ((w1.setCell ⟨gr, 0, none⟩ (.int .i64 (epoch : Nat))).setCell ⟨gr, 1, none⟩ (.int .i64 (count : Nat))).drew = w3 := ⟨_, rfl⟩
  rw [hw3] at hR3 b3 hj3 hp3 hs3 ⊢
  clear hw3 c0 c1 c2 c3 c4 c5 c6 c7 c8 x0 x2 x3 f hp1 n1 n2
  have b03 := HJ.out.2.2.2.1.trans b3
  have H3 := Lib.hid (And.intro hj3 (And.intro hp3 (And.intro b03 (And.intro (HJ.out.2.2.2.2.below b03 HJ.out.2.2.2.2.lt) (And.intro (HA.out.1.later b03) hs3)))))
  clear b3 b03 hj3 hp3 HJ hs3
  obtain ⟨c0, c1, c2, c3, c4, c5, c6, c7, c8⟩ := id hR3
  clear hR3 c8
  go_wp2_with fail
  refine (HP.out _ H3.out.2.2.2.1).mono ?_
  rintro x w4 ⟨rfl, k4⟩
  have hj4 := H3.out.1.later k4
  have hp4 : w4.cell? ⟨gp, 0, none⟩ = some (.pointer (some ⟨bj, 0, none⟩)) := (k4.cell (p := ⟨gp, 0, none⟩) (World.block_lt_of_cell? w3 _ H3.out.2.1)).trans H3.out.2.1
  have hs4 := k4.size
  rw [H3.out.2.2.2.2.2] at hs4
  have H4 := Lib.hid (And.intro hj4 (And.intro (H3.out.2.2.1.trans (k4.mono H3.out.2.2.1.size)) (And.intro (H3.out.2.2.2.1.below k4 H3.out.2.2.2.1.lt) (And.intro (H3.out.2.2.2.2.1.later k4) hs4))))
  obtain ⟨⟨x0, x1, x2, x3⟩, f⟩ := hj4.cells
  clear hj4 k4 c0 c1 c2 c3 c4 c5 c6 c7 f hs4
  go_upto_region 8 with fail
  go_quiet ((go_at_call 32; exact HQ1.out _ _))
  go_upto_region 9 with fail
  obtain ⟨w5, hw5⟩ : ∃ w5, w4.drewN nq = w5 := ⟨_, rfl⟩
  have y0 : w5.cell? ⟨gp, 0, none⟩ = some (.pointer (some ⟨bj, 0, none⟩)) := by rw [← hw5]; exact hp4
  have y1 : w5.cell? ⟨bj, 1, none⟩ = some (.int .i64 (half : Nat)) := by rw [← hw5]; exact x1
  have y3 : w5.cell? ⟨bj, 3, none⟩ = some (.int .i64 (count : Nat)) := by rw [← hw5]; exact x3
  have H5 := Lib.hid (show JnAt bj b half epoch count w5 ∧ Below w.heap.size w w5 ∧ DiskAt F b d w5 ∧ w.heap.size + 2 ≤ w5.heap.size by rw [← hw5]; exact ⟨⟨H4.out.1.box⟩, below_drewN H4.out.2.1 _, H4.out.2.2.2.1.later (below_drewN (Below.refl _ w4) _), H4.out.2.2.2.2⟩)
  rw [hw5]
  clear hw5 x0 x1 x2 x3 hp4
  go_quiet ((go_at_call 32; exact HQ2.out _ _))
  go_upto_region 12 with fail
  obtain ⟨w6, hw6⟩ : ∃ w6, w5.drewN nq = w6 := ⟨_, rfl⟩
  have z0 : w6.cell? ⟨gp, 0, none⟩ = some (.pointer (some ⟨bj, 0, none⟩)) := by rw [← hw6]; exact y0
  have H6 := Lib.hid (show JnAt bj b half epoch count w6 ∧ Below w.heap.size w w6 ∧ DiskAt F b d w6 ∧ w.heap.size + 2 ≤ w6.heap.size by rw [← hw6]; exact ⟨⟨H5.out.1.box⟩, below_drewN H5.out.2.1 _, H5.out.2.2.1.later (below_drewN (Below.refl _ w5) _), H5.out.2.2.2⟩)
  rw [hw6]
  clear hw6 y0 y1 y3
  obtain ⟨Z, hZ⟩ : ∃ Z, bs (zeros 128) = Z := ⟨_, rfl⟩
  have HZ := Lib.hid (And.intro hZ (show Z.size = 128 by rw [← hZ, bs_size]; simp [zeros]))
  have hrp := fun W => repeat_any 128 W (by omega)
  rw [hZ] at hrp
  have hQZ := HX.out.2.2.2.2.1
  rw [hZ] at hQZ
  have HQZ := Lib.hid hQZ
  have HRp := Lib.hid hrp
  clear hrp hZ hQZ
  have hmf := mkFn
  go_wp2_with fail
  refine (HRp.out _).mono ?_
  rintro x w7 ⟨rfl, k7⟩
  have z7 : w7.cell? ⟨gp, 0, none⟩ = some (.pointer (some ⟨bj, 0, none⟩)) := (k7.cell (p := ⟨gp, 0, none⟩) (World.block_lt_of_cell? w6 _ z0)).trans z0
  have hs7 := Nat.le_trans H6.out.2.2.2 k7.size
  have H7 := Lib.hid (And.intro (H6.out.1.later k7) (And.intro (H6.out.2.1.trans (k7.mono H6.out.2.1.size)) (And.intro (H6.out.2.2.1.later k7) hs7)))
  have x0 := H7.out.1.cells.1.1
  clear k7 z0 hs7
  go_upto_region 14 with fail
  have hd7 : DiskAt (Plus F w.heap.size w7.heap.size) b d w7 := HA.out.1.grow H7.out.2.1
  have hT7 : Top (Plus F w.heap.size w7.heap.size) w7.heap.size := Plus.top HX.out.1 H7.out.2.1.size
  have hgp7 : Plus F w.heap.size w7.heap.size gp := .inr ⟨by have := HG.out; omega, World.block_lt_of_cell? w7 _ z7⟩
  have hA := fun (wa wb : World) (a0 s0 a2 s2 : Nat) (T : TypeId) => steps_A (Plus F w.heap.size w7.heap.size) bj b half epoch count gp d p2 p1 Z P Q HQZ.out w7 hd7 hT7 H7.out.1 z7 (.inl HX.out.2.2.2.1) hgp7 (by have := HX.out.2.1; omega) (by have := HX.out.2.2.1; omega) (by have := HZ.out.2; omega) HX.out.2.2.2.2.2.1 wa wb a0 s0 a2 s2 T
  have hB := fun (wa wb : World) (a0 s0 a2 s2 : Nat) (T : TypeId) => steps_B (Plus F w.heap.size w7.heap.size) bj b half epoch count gp d p2 p1 Z P Q HQZ.out w7 hd7 hT7 H7.out.1 z7 (.inl HX.out.2.2.2.1) hgp7 (by have := HX.out.2.1; omega) (by have := HX.out.2.2.1; omega) (by have := HZ.out.2; omega) HX.out.2.2.2.2.2.1 wa wb a0 s0 a2 s2 T
  have HSA := Lib.hid hA
  have HSB := Lib.hid hB
  have HGP := Lib.hid (And.intro hgp7 z7)
  have hS0 : w7.drew.cell? ⟨gp, 0, none⟩ = some (.pointer (some ⟨bj, 0, none⟩)) ∧ w7.drew.cell? ⟨bj, 0, none⟩ = some (.pointer (some ⟨b, 0, none⟩)) := ⟨z7, x0⟩
  clear hd7 hT7 hgp7 hA hB x0 z7
  go_region_held (fun W' => W'.cell? ⟨gp, 0, none⟩ = some (.pointer (some ⟨bj, 0, none⟩)) ∧ W'.cell? ⟨bj, 0, none⟩ = some (.pointer (some ⟨b, 0, none⟩))) (first | with_reducible exact hS0 | with_reducible exact hSa | with_reducible exact hSb | with_reducible exact keepS (Joins.below_alloc1 _ _) hSa | with_reducible exact keepS (Joins.below_alloc1 _ _) hSb | with_reducible exact hSd) (first
    | (go_at_call_of 36 (Value.string Z); refine (write1_ok _ Z _ _).mono ?_; rintro x wa ⟨a0, s0, rfl, hca, ba⟩; (first | (have hSa := keepS ba hSb) | (have hSa := keepS ba hS0)))
    | (go_at_call_of 36 (Value.string P); refine (write1_ok _ P _ _).mono ?_; rintro x wb ⟨a2, s2, rfl, hcb, bb⟩; (first | (have hSb := keepS bb hSa) | (have hSb := keepS bb hS0)))
    | (go_at_call 40; (first | (with_reducible refine (HSA.out _ _ _ _ _ _ _ hca ba hcb bb).mono ?_) | (with_reducible refine (HSB.out _ _ _ _ _ _ _ hca ba hcb bb).mono ?_)); rintro x w9 ⟨rfl, hd9, hj9, k9⟩; have hSd := And.intro (cell_kp k9 HGP.out.1 HGP.out.2) hj9.cells.1.1))
  all_goals
    clear hSd hS0 hSa hSb hca ba hcb bb
    have g9 := cell_kp k9 HGP.out.1 HGP.out.2
    have hd9' := hd9.sub (fun j hj => Or.inl hj)
    have k9' : Kp F w w9 := (H7.out.2.1.kp).trans (k9.sub (fun j hj => Or.inl hj))
    obtain ⟨⟨y0, y1, y2, y3⟩, f⟩ := hj9.cells
    have f3 := f 3
    have H9 := Lib.hid (And.intro hd9' (And.intro hj9 k9'))
    clear hd9 hd9' k9 k9' hj9 f y1 y2
    by_cases hq : Q.2 = 0
    · have hcc : count + 1 = c' := by rw [← HX.out.2.2.2.2.2.2, if_pos hq]
      have hput : JnAt bj b half epoch c' (w9.setCell ⟨bj, 3, none⟩ (.int .i64 ((count : Int) + 1))) := by
        rw [← hcc, show (count : Int) + 1 = ((count + 1 : Nat) : Int) by omega]
        exact H9.out.2.1.put (count + 1)
      have HE := Lib.hid (And.intro hq (And.intro (H9.out.1.put ⟨bj, 3, none⟩ (.int .i64 ((count : Int) + 1)) HX.out.2.2.2.1) (And.intro hput (Kp.setCell (p := ⟨bj, 3, none⟩) (H9.out.2.2.sub (fun j hj => hj.1) : Kp (fun j => F j ∧ j ≠ bj) w w9) (fun h => h.2 rfl) (.int .i64 ((count : Int) + 1))))))
      rw [hq]
      clear hq hput hcc
      go_wp2
      go_ret
      exact ⟨by show Ending.returned (Value.int .i64 0) = _; rw [HE.out.1], HE.out.2.1, HE.out.2.2.1, HE.out.2.2.2⟩
    · have hcc : count = c' := by rw [← HX.out.2.2.2.2.2.2, if_neg hq]
      have hj9 := H9.out.2.1
      rw [hcc] at hj9
      have HE := Lib.hid hj9
      obtain ⟨e', he'⟩ : ∃ e', Q.2 = e' := ⟨_, rfl⟩
      have HEE := Lib.hid he'
      rw [he'] at hq ⊢
      have hqb : (e' == 0) = false := by simpa using hq
      clear he' hq hcc hj9 y0 y3 g9 f3
      go_wp2
      go_ret
      exact ⟨by show Ending.returned (Value.int .i64 e') = _; rw [HEE.out], H9.out.1, HE.out, H9.out.2.2.sub (fun j hj => hj.1)⟩
end Go.Proofs.YtfbakelpplpomaaGreatDoor.Disk
