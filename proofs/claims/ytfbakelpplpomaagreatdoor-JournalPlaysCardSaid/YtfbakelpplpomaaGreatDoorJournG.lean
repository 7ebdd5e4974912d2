/-
  The walk of Append.
-/
import Derived.Test.YtfbakelpplpomaaGreatDoorJournF
import Derived.BigRegion
import Derived.Deep.RegionWith
import Derived.Deep.RegionHeld
namespace Go.Proofs.YtfbakelpplpomaaGreatDoor.Disk
open Go.RowKit Go.Proofs.YtfbakelpplpomaaGreatDoor.DiskRows Go.Proofs.YtfbakelpplpomaaGreatDoor.WalkCrc
open Go.Proofs.YtfbakelpplpomaaGreatDoor.WalkSeat (rc entryPut_free putRV RecAt arg)
open Pl.Seat (Rec isR)
set_option linter.unusedVariables false
set_option linter.unusedSimpArgs false
set_option maxRecDepth 100000

theorem place_q (n half seq p : Nat) (w : World) (h : 16 ≤ n ∧ n ≤ 4096) (hh : half ≤ 1) (hs : seq < halfV n) (hp : placeV n half seq = p) (m : Nat) :
    Calls Tryz.prog 32 #[.int .i64 n, .int .i64 half, .int .i64 seq] (w.drewN m) fun x w' => x = .returned (.tuple #[.int .i64 (p : Nat), .int .i64 0]) ∧ ∃ k, w' = w.drewN k :=
  Calls.quiet_of_same ((place_ok n half seq p (w.drewN m) h hh hs hp).mono fun x w' ⟨h1, h2⟩ => ⟨h1, h2.symm⟩)
theorem place_nq (n half seq : Nat) (w : World) (h : 16 ≤ n ∧ n ≤ 4096) (hs : halfV n ≤ seq) (hb : seq ≤ 1000000) (m : Nat) :
    Calls Tryz.prog 32 #[.int .i64 n, .int .i64 half, .int .i64 seq] (w.drewN m) fun x w' => x = .returned (.tuple #[.int .i64 (0 : Nat), .int .i64 8]) ∧ ∃ k, w' = w.drewN k :=
  Calls.quiet_of_same ((place_no n half seq (w.drewN m) h hs hb).mono fun x w' ⟨h1, h2⟩ => ⟨h1, h2.symm⟩)
theorem jPut_at (e q k : Int) (N O M : ByteArray) (t u : Int) (P : ByteArray) (n : Int) (w : World) (ht : Tab w) (hP : WalkVar.bs (putRV (rc e q k N O M t u)) = P) (hn : arg (isR (rc e q k N O M t u)) = n) :
    Calls Tryz.prog 35 #[.agg #[.int .i64 e, .int .i64 q, .int .i64 k, .string N, .string O, .string M, .int .i64 t, .int .i64 u]] w fun x w' => x = .returned (.tuple #[.string P, .int .i64 n]) ∧ Below w.heap.size w w' := by
  have h := entryPut_free e q k N O M t u w ht
  rw [hn, hP] at h
  exact h
theorem recAt_put01 {b : Nat} {e q k : Int} {N O M : ByteArray} {t u : Int} {w : World} (h : RecAt b e q k N O M t u w) (e' q' : Int) : RecAt b e' q' k N O M t u ((w.setCell ⟨b, 0, none⟩ (.int .i64 e')).setCell ⟨b, 1, none⟩ (.int .i64 q')).drew := by
  obtain ⟨c0, c1, c2, c3, c4, c5, c6, c7, c8⟩ := h
  exact ⟨by go_simp, by go_simp, by go_simp, by go_simp, by go_simp, by go_simp, by go_simp, by go_simp, fun o => by go_simp⟩
set_option maxHeartbeats 12800000 in
theorem append_bad (F : Nat → Prop) (bj b half epoch count : Nat) (d : Dk) (e q k : Int) (N O M : ByteArray) (t u : Int) (w : World) (hD : DiskAt F b d w) (hj : JnAt bj b half epoch count w) (htab : Tab w) (hb : isR (rc epoch count k N O M t u) = false) :
    Calls Tryz.prog 9 #[.pointer (some ⟨bj, 0, none⟩), .agg #[.int .i64 e, .int .i64 q, .int .i64 k, .string N, .string O, .string M, .int .i64 t, .int .i64 u]] w fun x w' => x = .returned (.int .i64 2) ∧ Below w.heap.size w w' := by
  have b1 : Below w.heap.size w ((w.alloc (.cells #[.pointer (some ⟨bj, 0, none⟩)] 33)).alloc (.cells #[.int .i64 e, .int .i64 q, .int .i64 k, .string N, .string O, .string M, .int .i64 t, .int .i64 u] 24)) := ((Below.refl _ w).alloc (Nat.le_refl _) _).alloc (by simp) _
  have hj1 := hj.later b1
  have hd1 := hD.later b1
  have hsz := size_any F b d _ hd1
  obtain ⟨n, hn⟩ : ∃ n, d.S.length = n := ⟨_, rfl⟩
  have hn16 : 16 ≤ n ∧ n ≤ 4096 := by
    obtain ⟨gS, cS, gH, cH, vC, h⟩ := hD
    exact ⟨hn ▸ h.pos, hn ▸ h.most⟩
  rw [hn] at hsz
  have hni : (n : Int) ≤ 4096 := by omega
  have hz1 : (w.alloc (.cells #[.pointer (some ⟨bj, 0, none⟩)] 33)).heap.size = w.heap.size + 1 := by simp
  have hR1 := RecAt.new (w.alloc (.cells #[.pointer (some ⟨bj, 0, none⟩)] 33)) e q k N O M t u 24
  rw [hz1] at hR1
  have hp1 : ((w.alloc (.cells #[.pointer (some ⟨bj, 0, none⟩)] 33)).alloc (.cells #[.int .i64 e, .int .i64 q, .int .i64 k, .string N, .string O, .string M, .int .i64 t, .int .i64 u] 24)).cell? ⟨w.heap.size, 0, none⟩ = some (.pointer (some ⟨bj, 0, none⟩)) := by go_simp
  have HS := Lib.hid hsz
  have hjl := hj.lt
  have HJ := Lib.hid (And.intro hj1 (And.intro hR1 (And.intro hp1 (And.intro b1 htab))))
  have hsz1 : ((w.alloc (.cells #[.pointer (some ⟨bj, 0, none⟩)] 33)).alloc (.cells #[.int .i64 e, .int .i64 q, .int .i64 k, .string N, .string O, .string M, .int .i64 t, .int .i64 u] 24)).heap.size = w.heap.size + 2 := by simp
  have HA := Lib.hid (And.intro hD (And.intro hn (And.intro hn16 hsz1)))
  obtain ⟨P, hP⟩ : ∃ P, WalkVar.bs (putRV (rc epoch count k N O M t u)) = P := ⟨_, rfl⟩
  have HP := Lib.hid (fun W hT => jPut_at epoch count k N O M t u P 2 W hT hP (by rw [hb]; rfl))
  clear hb hP
  have x0 := hj1.cells.1.1
  clear hD hj htab hj1 b1 hsz hR1 hz1 hd1 hn hn16 hsz1
  go_enter Tryz.func9, Tryz.ntmps9
  go_wp2_with fail
  refine HS.out.mono ?_
  rintro x w2 ⟨rfl, rfl⟩
  obtain ⟨w1, hw1⟩ : ∃ w1, (w.alloc (.cells #[.pointer (some ⟨bj, 0, none⟩)] 33)).alloc (.cells #[.int .i64 e, .int .i64 q, .int .i64 k, .string N, .string O, .string M, .int .i64 t, .int .i64 u] 24) = w1 := ⟨_, rfl⟩
  rw [hw1] at HJ hp1 x0 HS HA ⊢
  clear hw1
  obtain ⟨gp, hgp⟩ : ∃ gp, w.heap.size = gp := ⟨_, rfl⟩
  obtain ⟨gr, hgr⟩ : ∃ gr, w.heap.size + 1 = gr := ⟨_, rfl⟩
  rw [hgr] at HJ ⊢
  rw [hgp] at hp1 hjl ⊢
  have n1 : bj ≠ gr := by omega
  have n2 : gp ≠ gr := by omega
  have HG := Lib.hid (And.intro hgp (And.intro hgr hjl))
  clear hgp hgr hjl HS
  obtain ⟨c0, c1, c2, c3, c4, c5, c6, c7, c8⟩ := id HJ.out.2.1
  obtain ⟨⟨-, x1, x2, x3⟩, f⟩ := HJ.out.1.cells
  clear x1
  go_upto_region 4 with fail
  go_region
  go_upto_region 5 with fail
  have hR3 := recAt_put01 HJ.out.2.1 epoch count
  have b3 : Below w.heap.size w1 ((w1.setCell ⟨gr, 0, none⟩ (.int .i64 (epoch : Nat))).setCell ⟨gr, 1, none⟩ (.int .i64 (count : Nat))).drew := (((Below.refl _ w1).setCell (p := ⟨gr, 0, none⟩) (by have := HG.out; show w.heap.size ≤ gr; omega) _).setCell (p := ⟨gr, 1, none⟩) (by have := HG.out; show w.heap.size ≤ gr; omega) _).drew
  have hj3 : JnAt bj b half epoch count ((w1.setCell ⟨gr, 0, none⟩ (.int .i64 (epoch : Nat))).setCell ⟨gr, 1, none⟩ (.int .i64 (count : Nat))).drew := ⟨by rw [b3.block _ (by have := HG.out; omega)]; exact HJ.out.1.box⟩
  have hp3 : ((w1.setCell ⟨gr, 0, none⟩ (.int .i64 (epoch : Nat))).setCell ⟨gr, 1, none⟩ (.int .i64 (count : Nat))).drew.cell? ⟨gp, 0, none⟩ = some (.pointer (some ⟨bj, 0, none⟩)) := by go_simp
  have hs3 : ((w1.setCell ⟨gr, 0, none⟩ (.int .i64 (epoch : Nat))).setCell ⟨gr, 1, none⟩ (.int .i64 (count : Nat))).drew.heap.size = w.heap.size + 2 := by rw [← HA.out.2.2.2]; simp [World.setCell, World.drew]
  obtain ⟨w3, hw3⟩ : ∃ w3, ((w1.setCell ⟨gr, 0, none⟩ (.int .i64 (epoch : Nat))).setCell ⟨gr, 1, none⟩ (.int .i64 (count : Nat))).drew = w3 := ⟨_, rfl⟩
  rw [hw3] at hR3 b3 hj3 hp3 hs3 ⊢
  clear hw3 c0 c1 c2 c3 c4 c5 c6 c7 c8 x0 x2 x3 f hp1 n1 n2
  have b03 := HJ.out.2.2.2.1.trans b3
  have H3 := Lib.hid (And.intro hj3 (And.intro hp3 (And.intro b03 (And.intro (HJ.out.2.2.2.2.below b03 HJ.out.2.2.2.2.lt) (And.intro (HA.out.1.later b03) hs3)))))
  clear b3 b03 hj3 hp3 HJ hs3
  obtain ⟨c0, c1, c2, c3, c4, c5, c6, c7, c8⟩ := id hR3
  clear hR3 c8
  go_wp2_with fail
  refine (HP.out _ H3.out.2.2.2.1).mono ?_
  rintro x w4 ⟨rfl, k4⟩
  have hj4 := H3.out.1.later k4
  have hp4 : w4.cell? ⟨gp, 0, none⟩ = some (.pointer (some ⟨bj, 0, none⟩)) := (k4.cell (p := ⟨gp, 0, none⟩) (World.block_lt_of_cell? w3 _ H3.out.2.1)).trans H3.out.2.1
  have hs4 := k4.size
  rw [H3.out.2.2.2.2.2] at hs4
  have H4 := Lib.hid (And.intro hj4 (And.intro (H3.out.2.2.1.trans (k4.mono H3.out.2.2.1.size)) (And.intro (H3.out.2.2.2.1.below k4 H3.out.2.2.2.1.lt) (And.intro (H3.out.2.2.2.2.1.later k4) hs4))))
  obtain ⟨⟨x0, x1, x2, x3⟩, f⟩ := hj4.cells
  clear hj4 k4 c0 c1 c2 c3 c4 c5 c6 c7 f hs4
  go_wp2
  go_ret
  exact ⟨rfl, H4.out.2.1⟩
set_option maxHeartbeats 12800000 in
theorem append_full (F : Nat → Prop) (bj b half epoch count : Nat) (d : Dk) (e q k : Int) (N O M : ByteArray) (t u : Int) (w : World) (hD : DiskAt F b d w) (hj : JnAt bj b half epoch count w) (htab : Tab w) (hb : isR (rc epoch count k N O M t u) = true) (hh : half ≤ 1) (hc : count ≤ halfV d.S.length) (hfu : halfV d.S.length ≤ count + 1) :
    Calls Tryz.prog 9 #[.pointer (some ⟨bj, 0, none⟩), .agg #[.int .i64 e, .int .i64 q, .int .i64 k, .string N, .string O, .string M, .int .i64 t, .int .i64 u]] w fun x w' => x = .returned (.int .i64 6) ∧ Below w.heap.size w w' := by
  have b1 : Below w.heap.size w ((w.alloc (.cells #[.pointer (some ⟨bj, 0, none⟩)] 33)).alloc (.cells #[.int .i64 e, .int .i64 q, .int .i64 k, .string N, .string O, .string M, .int .i64 t, .int .i64 u] 24)) := ((Below.refl _ w).alloc (Nat.le_refl _) _).alloc (by simp) _
  have hj1 := hj.later b1
  have hd1 := hD.later b1
  have hsz := size_any F b d _ hd1
  obtain ⟨n, hn⟩ : ∃ n, d.S.length = n := ⟨_, rfl⟩
  have hn16 : 16 ≤ n ∧ n ≤ 4096 := by
    obtain ⟨gS, cS, gH, cH, vC, h⟩ := hD
    exact ⟨hn ▸ h.pos, hn ▸ h.most⟩
  rw [hn] at hsz
  have hni : (n : Int) ≤ 4096 := by omega
  have hz1 : (w.alloc (.cells #[.pointer (some ⟨bj, 0, none⟩)] 33)).heap.size = w.heap.size + 1 := by simp
  have hR1 := RecAt.new (w.alloc (.cells #[.pointer (some ⟨bj, 0, none⟩)] 33)) e q k N O M t u 24
  rw [hz1] at hR1
  have hp1 : ((w.alloc (.cells #[.pointer (some ⟨bj, 0, none⟩)] 33)).alloc (.cells #[.int .i64 e, .int .i64 q, .int .i64 k, .string N, .string O, .string M, .int .i64 t, .int .i64 u] 24)).cell? ⟨w.heap.size, 0, none⟩ = some (.pointer (some ⟨bj, 0, none⟩)) := by go_simp
  have HS := Lib.hid hsz
  have hjl := hj.lt
  have HJ := Lib.hid (And.intro hj1 (And.intro hR1 (And.intro hp1 (And.intro b1 htab))))
  have hsz1 : ((w.alloc (.cells #[.pointer (some ⟨bj, 0, none⟩)] 33)).alloc (.cells #[.int .i64 e, .int .i64 q, .int .i64 k, .string N, .string O, .string M, .int .i64 t, .int .i64 u] 24)).heap.size = w.heap.size + 2 := by simp
  have HA := Lib.hid (And.intro hD (And.intro hn (And.intro hn16 hsz1)))
  obtain ⟨P, hP⟩ : ∃ P, WalkVar.bs (putRV (rc epoch count k N O M t u)) = P := ⟨_, rfl⟩
  have HP := Lib.hid (fun W hT => jPut_at epoch count k N O M t u P 0 W hT hP (by rw [hb]; rfl))
  rw [hn] at hc hfu
  have hhb : halfV n ≤ 4096 := by unfold halfV; omega
  have hq1 : ∃ (p1 : Nat) (e1 : Int), ∀ W m, Calls Tryz.prog 32 #[.int .i64 n, .int .i64 half, .int .i64 count] (World.drewN W m) fun x w' => x = .returned (.tuple #[.int .i64 (p1 : Nat), .int .i64 e1]) ∧ ∃ k, w' = World.drewN W k := by
    rcases Nat.lt_or_ge count (halfV n) with g | g
    · exact ⟨_, _, fun W m => place_q n half count _ W hn16 hh g rfl m⟩
    · exact ⟨0, 8, fun W m => place_nq n half count W hn16 g (by omega) m⟩
  obtain ⟨p1, e1, hq1⟩ := hq1
  have hq2 := fun W m => place_nq n half (count + 1) W hn16 hfu (by omega) m
  have HQ1 := Lib.hid hq1
  have HQ2 := Lib.hid hq2
  have hcb : (count : Int) ≤ 4096 := by omega
  have hw9 : IntKind.i64.wrap ((count : Int) + 1) = ((count + 1 : Nat) : Int) := by rw [IntKind.wrap_i64]; omega
  clear hb hP hc hfu hhb hq1 hq2 hh
  have x0 := hj1.cells.1.1
  clear hD hj htab hj1 b1 hsz hR1 hz1 hd1 hn hn16 hsz1
  go_enter Tryz.func9, Tryz.ntmps9
  go_wp2_with fail
  refine HS.out.mono ?_
  rintro x w2 ⟨rfl, rfl⟩
  obtain ⟨w1, hw1⟩ : ∃ w1, (w.alloc (.cells #[.pointer (some ⟨bj, 0, none⟩)] 33)).alloc (.cells #[.int .i64 e, .int .i64 q, .int .i64 k, .string N, .string O, .string M, .int .i64 t, .int .i64 u] 24) = w1 := ⟨_, rfl⟩
  rw [hw1] at HJ hp1 x0 HS HA ⊢
  clear hw1
  obtain ⟨gp, hgp⟩ : ∃ gp, w.heap.size = gp := ⟨_, rfl⟩
  obtain ⟨gr, hgr⟩ : ∃ gr, w.heap.size + 1 = gr := ⟨_, rfl⟩
  rw [hgr] at HJ ⊢
  rw [hgp] at hp1 hjl ⊢
  have n1 : bj ≠ gr := by omega
  have n2 : gp ≠ gr := by omega
  have HG := Lib.hid (And.intro hgp (And.intro hgr hjl))
  clear hgp hgr hjl HS
  obtain ⟨c0, c1, c2, c3, c4, c5, c6, c7, c8⟩ := id HJ.out.2.1
  obtain ⟨⟨-, x1, x2, x3⟩, f⟩ := HJ.out.1.cells
  clear x1
  go_upto_region 4 with fail
  go_region
  go_upto_region 5 with fail
  have hR3 := recAt_put01 HJ.out.2.1 epoch count
  have b3 : Below w.heap.size w1 ((w1.setCell ⟨gr, 0, none⟩ (.int .i64 (epoch : Nat))).setCell ⟨gr, 1, none⟩ (.int .i64 (count : Nat))).drew := (((Below.refl _ w1).setCell (p := ⟨gr, 0, none⟩) (by have := HG.out; show w.heap.size ≤ gr; omega) _).setCell (p := ⟨gr, 1, none⟩) (by have := HG.out; show w.heap.size ≤ gr; omega) _).drew
  have hj3 : JnAt bj b half epoch count ((w1.setCell ⟨gr, 0, none⟩ (.int .i64 (epoch : Nat))).setCell ⟨gr, 1, none⟩ (.int .i64 (count : Nat))).drew := ⟨by rw [b3.block _ (by have := HG.out; omega)]; exact HJ.out.1.box⟩
  have hp3 : ((w1.setCell ⟨gr, 0, none⟩ (.int .i64 (epoch : Nat))).setCell ⟨gr, 1, none⟩ (.int .i64 (count : Nat))).drew.cell? ⟨gp, 0, none⟩ = some (.pointer (some ⟨bj, 0, none⟩)) := by go_simp
  have hs3 : ((w1.setCell ⟨gr, 0, none⟩ (.int .i64 (epoch : Nat))).setCell ⟨gr, 1, none⟩ (.int .i64 (count : Nat))).drew.heap.size = w.heap.size + 2 := by rw [← HA.out.2.2.2]; simp [World.setCell, World.drew]
  obtain ⟨w3, hw3⟩ : ∃ w3, ((w1.setCell ⟨gr, 0, none⟩ (.int .i64 (epoch : Nat))).setCell ⟨gr, 1, none⟩ (.int .i64 (count : Nat))).drew = w3 := ⟨_, rfl⟩
  rw [hw3] at hR3 b3 hj3 hp3 hs3 ⊢
  clear hw3 c0 c1 c2 c3 c4 c5 c6 c7 c8 x0 x2 x3 f hp1 n1 n2
  have b03 := HJ.out.2.2.2.1.trans b3
  have H3 := Lib.hid (And.intro hj3 (And.intro hp3 (And.intro b03 (And.intro (HJ.out.2.2.2.2.below b03 HJ.out.2.2.2.2.lt) (And.intro (HA.out.1.later b03) hs3)))))
  clear b3 b03 hj3 hp3 HJ hs3
  obtain ⟨c0, c1, c2, c3, c4, c5, c6, c7, c8⟩ := id hR3
  clear hR3 c8
  go_wp2_with fail
  refine (HP.out _ H3.out.2.2.2.1).mono ?_
  rintro x w4 ⟨rfl, k4⟩
  have hj4 := H3.out.1.later k4
  have hp4 : w4.cell? ⟨gp, 0, none⟩ = some (.pointer (some ⟨bj, 0, none⟩)) := (k4.cell (p := ⟨gp, 0, none⟩) (World.block_lt_of_cell? w3 _ H3.out.2.1)).trans H3.out.2.1
  have hs4 := k4.size
  rw [H3.out.2.2.2.2.2] at hs4
  have H4 := Lib.hid (And.intro hj4 (And.intro (H3.out.2.2.1.trans (k4.mono H3.out.2.2.1.size)) (And.intro (H3.out.2.2.2.1.below k4 H3.out.2.2.2.1.lt) (And.intro (H3.out.2.2.2.2.1.later k4) hs4))))
  obtain ⟨⟨x0, x1, x2, x3⟩, f⟩ := hj4.cells
  clear hj4 k4 c0 c1 c2 c3 c4 c5 c6 c7 f hs4
  go_upto_region 8 with fail
  go_quiet ((go_at_call 32; exact HQ1.out _ _))
  go_upto_region 9 with fail
  obtain ⟨w5, hw5⟩ : ∃ w5, w4.drewN nq = w5 := ⟨_, rfl⟩
  have y0 : w5.cell? ⟨gp, 0, none⟩ = some (.pointer (some ⟨bj, 0, none⟩)) := by rw [← hw5]; exact hp4
  have y1 : w5.cell? ⟨bj, 1, none⟩ = some (.int .i64 (half : Nat)) := by rw [← hw5]; exact x1
  have y3 : w5.cell? ⟨bj, 3, none⟩ = some (.int .i64 (count : Nat)) := by rw [← hw5]; exact x3
  have HB5 := Lib.hid (show Below w.heap.size w w5 by rw [← hw5]; exact below_drewN H4.out.2.1 _)
  rw [hw5]
  clear hw5 x0 x1 x2 x3 hp4
  go_quiet ((go_at_call 32; exact HQ2.out _ _))
  go_wp2
  go_ret
  exact ⟨rfl, below_drewN HB5.out _⟩
end Go.Proofs.YtfbakelpplpomaaGreatDoor.Disk
