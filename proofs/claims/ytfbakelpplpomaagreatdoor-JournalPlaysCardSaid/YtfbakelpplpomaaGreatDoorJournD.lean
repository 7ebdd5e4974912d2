/-
  The walk of the journal's Open.
-/
import Derived.Test.YtfbakelpplpomaaGreatDoorJournC
import Derived.Deep.RegionHeld
import Derived.Deep.QuietTactic
namespace Go.Proofs.YtfbakelpplpomaaGreatDoor.Disk
open Go.RowKit Go.Proofs.YtfbakelpplpomaaGreatDoor.DiskRows Go.Proofs.YtfbakelpplpomaaGreatDoor.WalkCrc
open Go.Proofs.YtfbakelpplpomaaGreatDoor.WalkSeat (isRB isRV entryIs_at)
open Pl.Seat (Rec)
set_option linter.unusedVariables false
set_option linter.unusedSimpArgs false
set_option maxRecDepth 100000

theorem half_q (n v : Nat) (w : World) (h : 16 ≤ n ∧ n ≤ 4096) (hv : halfV n = v) (m : Nat) :
    Calls Tryz.prog 31 #[.int .i64 n] (w.drewN m) fun x w' => x = .returned (.int .i64 (v : Nat)) ∧ ∃ k, w' = w.drewN k :=
  Calls.quiet_of_same ((half_ok n v (w.drewN m) h hv).mono fun x w' ⟨h1, h2⟩ => ⟨h1, h2.symm⟩)
theorem below_drewN {B : Nat} {w w' : World} (h : Below B w w') (n : Nat) : Below B w (w'.drewN n) := ⟨h.os, h.tape, h.output, h.size, h.block⟩
set_option maxHeartbeats 3200000 in
theorem jopen_down (F : Nat → Prop) (b : Nat) (d : Dk) (half epoch : Nat) (w : World) (hD : DiskAt F b d w) (hdn : d.down = true) (h1 : half ≤ 1) (h2 : 1 ≤ epoch) (h3 : epoch ≤ 4294967295) (ho : d.ops ≤ 1000000) :
    Calls Tryz.prog 8 #[.pointer (some ⟨b, 0, none⟩), .int .i64 half, .int .i64 epoch] w fun x w' => x = .returned (.tuple #[.pointer none, .slice none 0 0, .int .i64 7]) ∧ DiskAt F b d w' ∧ Kp F w w' := by
  have hat := at_ok F b d half epoch 0 w hD h1 h2 h3 (Nat.zero_le _)
  obtain ⟨n, hn⟩ : ∃ n, d.S.length = n := ⟨_, rfl⟩
  have hn16 : 16 ≤ n ∧ n ≤ 4096 := by
    obtain ⟨gS, cS, gH, cH, vC, h⟩ := hD
    exact ⟨hn ▸ h.pos, hn ▸ h.most⟩
  obtain ⟨h, hh⟩ : ∃ h, halfV n = h := ⟨_, rfl⟩
  have hhb : h ≤ 4096 ∧ 7 ≤ h := by rw [← hh]; unfold halfV; omega
  have HAt := Lib.hid hat
  have HA := Lib.hid (And.intro hD (And.intro hdn (And.intro ho (And.intro hn (And.intro hh (And.intro hn16 (And.intro hhb h1)))))))
  have hhi : (h : Int) ≤ 4096 := by omega
  have hh7 : 7 ≤ (h : Int) := by omega
  have hni : (n : Int) ≤ 4096 := by omega
  clear hat hD hdn ho hn hh hn16 hhb h1 h2 h3
  go_enter Tryz.func8, Tryz.ntmps8
  go_wp2_with fail
  refine HAt.out.mono ?_
  rintro x w1 ⟨rfl, hj, hbj, k1⟩
  have HJ := Lib.hid (And.intro hj k1)
  have hD1 := HA.out.1.later k1
  have HD1 := Lib.hid hD1
  have hsz := size_any _ b d w1 hD1
  rw [HA.out.2.2.2.1] at hsz
  have HS := Lib.hid hsz
  obtain ⟨⟨x0, x1, x2, x3⟩, f⟩ := hj.cells
  clear hj hbj k1 hsz hD1 f
  go_wp2_with fail
  refine HS.out.mono ?_
  rintro x w2 ⟨rfl, rfl⟩
  go_upto_region 6 with fail
  go_loopw [12] (fun v wr => wr = w1) (fun _ _ => 0)
  case atStart => rfl
  case round =>
    subst hrel
    have HHq := Lib.hid (fun m => half_q n h wr HA.out.2.2.2.2.2.1 HA.out.2.2.2.2.1 m)
    obtain ⟨p, hp⟩ : ∃ p, placeV n half 0 = p := ⟨_, rfl⟩
    have hPl := fun m => place_ok n half 0 p (wr.drewN m) HA.out.2.2.2.2.2.1 HA.out.2.2.2.2.2.2.2 (by have := HA.out.2.2.2.2; omega) hp
    have hRd := fun m => read_any F b d (wr.drewN m) (HD1.out.later (below_drewN (Below.refl _ wr) m)) (p : Nat) (by have := HA.out; omega)
    have hrd : d.read (p : Nat) = (d, ByteArray.empty, 7) := by unfold Dk.read; rw [if_pos HA.out.2.1]
    rw [hrd] at hRd
    have HPl := Lib.hid hPl
    have HRd := Lib.hid hRd
    clear hp hPl hRd hrd
    go_upto_region 6 with fail
    go_quiet ((go_at_call 31; exact HHq.out _))
    go_wp2_with fail
    refine (HPl.out _).mono ?_
    rintro x w3 ⟨rfl, rfl⟩
    go_wp2_with fail
    refine (HRd.out _).mono ?_
    rintro x w4 ⟨rfl, hd4, k4⟩
    go_wp2
    go_ret3
    exact ⟨rfl, hd4, (HJ.out.2.kp.drewN _).trans k4⟩
/-- how many elements a slice has -/
def lenOf : Value → Nat
  | .slice _ n _ => n
  | _ => 0
theorem own_lenOf {w : World} {base e size n : Nat} {v : Value} {xs : List Value} (h : w.ownsRow base e size v n xs) : lenOf v = n ∧ ∃ a c, v = .slice a n c := by
  rcases h.2 with ⟨rfl, hx⟩ | ⟨g, cap, cur, rfl, _⟩
  · have : n = 0 := by omega
    subst this
    exact ⟨rfl, _, _, rfl⟩
  · exact ⟨rfl, _, _, rfl⟩
/-- how it stands behind k records -/
structure JoSt (F : Nat → Prop) (b half epoch n : Nat) (d : Dk) (L : List Rec) (w : World) (k : Nat) (v : Value) (wr : World) : Prop where
  disk : DiskAt (Plus F w.heap.size wr.heap.size) b { d with ops := d.ops + k } wr
  jn : JnAt w.heap.size b half epoch k wr
  row : ∃ acc, acc.length = k ∧ wr.ownsRow (w.heap.size + 1) 24 8 v acc.length (rvs acc) ∧ acc ++ jscan (shown d half) epoch (halfV n - k) k = L
  kp : Kp F w wr
  sz : w.heap.size + 1 ≤ wr.heap.size
  tab : Tab wr
set_option maxHeartbeats 6400000 in
theorem jopen_ok (F : Nat → Prop) (b : Nat) (d : Dk) (half epoch : Nat) (w : World) (hD : DiskAt F b d w) (hT : Top F w.heap.size) (hdn : d.down = false) (h1 : half ≤ 1) (h2 : 1 ≤ epoch) (h3 : epoch ≤ 4294967295) (ho : d.ops ≤ 1000000) (hl : d.H.length = d.S.length) (hz : ∀ x ∈ d.H, x.size = 128) (htab : Tab w) (hG : F 0) (L : List Rec) (hL : jrecs d half epoch = L) (r : Nat) (hr : jreads d half epoch = r) :
    Calls Tryz.prog 8 #[.pointer (some ⟨b, 0, none⟩), .int .i64 half, .int .i64 epoch] w fun x w' => (∃ v, x = .returned (.tuple #[.pointer (some ⟨w.heap.size, 0, none⟩), v, .int .i64 0]) ∧ JnAt w.heap.size b half epoch L.length w' ∧ w'.ownsRow (w.heap.size + 1) 24 8 v L.length (rvs L) ∧ DiskAt (Plus F w.heap.size w'.heap.size) b { d with ops := d.ops + r } w') ∧ Kp F w w' := by
  have hat := at_ok F b d half epoch 0 w hD h1 h2 h3 (Nat.zero_le _)
  have hat0 := at_ok F b d half epoch 0 w hD h1 h2 h3 (Nat.zero_le _)
  obtain ⟨n, hn⟩ : ∃ n, d.S.length = n := ⟨_, rfl⟩
  have hn16 : 16 ≤ n ∧ n ≤ 4096 := by
    obtain ⟨gS, cS, gH, cH, vC, h⟩ := hD
    exact ⟨hn ▸ h.pos, hn ▸ h.most⟩
  obtain ⟨h, hh⟩ : ∃ h, halfV n = h := ⟨_, rfl⟩
  have hhb : h ≤ 4096 ∧ 7 ≤ h := by rw [← hh]; unfold halfV; omega
  have HAt := Lib.hid hat
  have HA := Lib.hid (And.intro hD (And.intro hT (And.intro hdn (And.intro hl (And.intro hz (And.intro htab (And.intro hG (And.intro hL (And.intro hr (And.intro ho (And.intro hn (And.intro hh (And.intro hn16 (And.intro hhb (And.intro h1 (And.intro h2 h3))))))))))))))))
  have hhi : (h : Int) ≤ 4096 := by omega
  have hni : (n : Int) ≤ 4096 := by omega
  clear hat hat0 hD hT hdn hl hz htab hG hL hr ho hn hh hn16 hhb h1 h2 h3
  go_enter Tryz.func8, Tryz.ntmps8
  go_wp2_with fail
  refine HAt.out.mono ?_
  rintro x w1 ⟨rfl, hj, hbj, k1⟩
  have HJ := Lib.hid (And.intro hj (And.intro hbj k1))
  have HD1 := Lib.hid (HA.out.1.grow k1)
  have hsz := size_any _ b d w1 HD1.out
  rw [HA.out.2.2.2.2.2.2.2.2.2.2.1] at hsz
  have HS := Lib.hid hsz
  clear hj hbj k1 hsz
  go_wp2_with fail
  refine HS.out.mono ?_
  rintro x w2 ⟨rfl, rfl⟩
  go_upto_region 6 with fail
  go_loopw [12] (fun v wr => ∃ k : Nat, k ≤ h ∧ JoSt F b half epoch n d L w k v wr) (fun v _ => h - lenOf v)
  case atStart =>
    have hsz1 := HJ.out.2.1
    exact ⟨0, by omega, ⟨HD1.out, HJ.out.1, ⟨[], rfl, World.ownsRow_nil _ _ _ _, by rw [List.nil_append, ← HA.out.2.2.2.2.2.2.2.1]; unfold jrecs; rw [HA.out.2.2.2.2.2.2.2.2.2.2.1]; rfl⟩, HJ.out.2.2.kp, by omega, HA.out.2.2.2.2.2.1.below HJ.out.2.2 HA.out.2.2.2.2.2.1.lt⟩⟩
  case round =>
    obtain ⟨k, hk, hst⟩ := hrel
    have HSt := Lib.hid hst
    clear hst
    obtain ⟨⟨x0, x1, x2, x3⟩, f⟩ := HSt.out.jn.cells
    have HHq := Lib.hid (fun m => half_q n h wr HA.out.2.2.2.2.2.2.2.2.2.2.2.2.1 HA.out.2.2.2.2.2.2.2.2.2.2.2.1 m)
    have hkb : (k : Int) ≤ 4096 := by omega
    obtain ⟨acc, hac, hrow, hscan⟩ := HSt.out.row
    have HRow := Lib.hid (And.intro hac (And.intro hrow hscan))
    have HLv := Lib.hid (own_lenOf hrow)
    clear hac hrow hscan
    by_cases hlt : k < h
    · have hki : (k : Int) < (h : Int) := by omega
      obtain ⟨p, hp⟩ : ∃ p, placeV n half k = p := ⟨_, rfl⟩
      have hpb : p < n ∧ p ≤ 4096 := by
        have := HA.out.2.2.2.2.2.2.2.2.2.2.2.2
        have e := HA.out.2.2.2.2.2.2.2.2.2.2.2.1
        rw [← hp]
        unfold placeV firstV halfV at *
        split <;> omega
      obtain ⟨s, hs⟩ : ∃ s, d.H.getD p ByteArray.empty = s := ⟨_, rfl⟩
      have hs128 : s.size = 128 := by
        have := HA.out
        rw [← hs, List.getD_eq_getElem?_getD, List.getElem?_eq_getElem (show p < d.H.length by omega)]
        exact this.2.2.2.2.1 _ (List.getElem_mem _)
      have hPl := fun m => place_ok n half k p (wr.drewN m) HA.out.2.2.2.2.2.2.2.2.2.2.2.2.1 HA.out.2.2.2.2.2.2.2.2.2.2.2.2.2.2.1 (by rw [HA.out.2.2.2.2.2.2.2.2.2.2.2.1]; exact hlt) hp
      have hRd := fun m => read_sz (Plus F w.heap.size wr.heap.size) b { d with ops := d.ops + k } (wr.drewN m) (HSt.out.disk.later (below_drewN (Below.refl _ wr) m)) HA.out.2.2.1 p (by have := HA.out; dsimp only; omega) (by have := HA.out; dsimp only; omega) s hs
      have hsh : shown d half k = s.data.toList := by
        unfold shown
        rw [HA.out.2.2.2.2.2.2.2.2.2.2.1, hp, hs]
      obtain ⟨X, hX⟩ : ∃ X, isRV s.data.toList epoch k = X := ⟨_, rfl⟩
      obtain ⟨ok, hok⟩ : ∃ ok, isRB s.data.toList epoch k = ok := ⟨_, rfl⟩
      have HPl := Lib.hid hPl
      have HRd := Lib.hid hRd
      have HX := Lib.hid (And.intro hX (And.intro hok (And.intro hsh hs128)))
      have hp0 : (p : Int) ≤ 4096 := by omega
      clear hp hpb hs hs128 hPl hRd hsh hX hok
      go_upto_region 6 with fail
      go_quiet ((go_at_call 31; exact HHq.out _))
      go_wp2_with fail
      refine (HPl.out _).mono ?_
      rintro x w3 ⟨rfl, rfl⟩
      go_wp2_with fail
      refine (HRd.out _).mono ?_
      rintro x w4 ⟨rfl, hd4, k4, z4⟩
      have hj4 := (HSt.out.jn.later (below_drewN (Below.refl _ wr) _)).kp k4 (.inr ⟨Nat.le_refl _, HSt.out.jn.lt⟩)
      have hr4 := own_kp (w := wr.drewN _) HRow.out.2.1 k4 (fun j hj hl => .inr ⟨by omega, hl⟩)
      have ht4 := tab_kp (HSt.out.tab.drewN _) k4 (.inl HA.out.2.2.2.2.2.2.1)
      have kp4 : Kp F wr w4 := ((Kp.refl F wr).drewN _).trans (k4.sub (fun j hj => Or.inl hj))
      have z4' : w4.heap.size = wr.heap.size := z4
      rw [← z4'] at hd4
      have H4 := Lib.hid (And.intro hd4 (And.intro hj4 (And.intro hr4 (And.intro ht4 (And.intro kp4 z4')))))
      obtain ⟨⟨y0, y1, y2, y3⟩, f4⟩ := hj4.cells
      clear hd4 hj4 hr4 ht4 kp4 z4' z4 k4 x0 x1 x2 x3 f f4 y0 y1 y2
      go_wp2_with fail
      refine (entryIs_at s epoch k X ok w4 H4.out.2.2.2.1 (by have := HX.out; omega) HX.out.1 HX.out.2.1).mono ?_
      rintro x w5 ⟨rfl, k5⟩
      go_upto_region 12 with fail
      have hj5 := H4.out.2.1.later k5
      have hr5 := own_below H4.out.2.2.1 k5 (fun g hg => (H4.out.2.2.1.lt g hg).2)
      have ht5 := H4.out.2.2.2.1.below k5 H4.out.2.2.2.1.lt
      have hd5 := H4.out.1.on k5 (by have := H4.out.2.2.2.2.2; have := HSt.out.sz; omega)
      have hb6 := Joins.below_alloc1 w5 (.cells #[.int .i64 X.epoch, .int .i64 X.seq, .int .i64 X.kind, .string (WalkVar.bs X.name), .string (WalkVar.bs X.old), .string (WalkVar.bs X.new), .int .i64 X.tail, .int .i64 X.num] 24)
      have hj6 := hj5.later hb6
      have hr6 := own_below hr5 hb6 (fun g hg => (hr5.lt g hg).2)
      have ht6 := ht5.below hb6 ht5.lt
      have hd6 := hd5.on hb6 (by have := H4.out.2.2.2.2.2; have := HSt.out.sz; have := k5.size; omega)
      have kp6 := (H4.out.2.2.2.2.1.trans k5.kp).trans (hb6.kp (F := F))
      have hs6 : w.heap.size + 1 ≤ (w5.alloc (.cells #[.int .i64 X.epoch, .int .i64 X.seq, .int .i64 X.kind, .string (WalkVar.bs X.name), .string (WalkVar.bs X.old), .string (WalkVar.bs X.new), .int .i64 X.tail, .int .i64 X.num] 24)).heap.size := by have := H4.out.2.2.2.2.2; have := HSt.out.sz; have := k5.size; have := hb6.size; omega
      have hR6 := WalkSeat.RecAt.new w5 X.epoch X.seq X.kind (WalkVar.bs X.name) (WalkVar.bs X.old) (WalkVar.bs X.new) X.tail X.num 24
      obtain ⟨w6, hw6⟩ : ∃ w6, w5.alloc (.cells #[.int .i64 X.epoch, .int .i64 X.seq, .int .i64 X.kind, .string (WalkVar.bs X.name), .string (WalkVar.bs X.old), .string (WalkVar.bs X.new), .int .i64 X.tail, .int .i64 X.num] 24) = w6 := ⟨_, rfl⟩
      rw [hw6] at hb6 hj6 hr6 ht6 hd6 kp6 hs6 hR6 ⊢
      have H6 := Lib.hid (And.intro hj6 (And.intro hr6 (And.intro ht6 (And.intro hd6 (And.intro kp6 hs6)))))
      clear hj5 hr5 ht5 hd5 hb6 hj6 hr6 ht6 hd6 kp6 hs6 hw6 k5 y3
      generalize w5.heap.size = g5 at *
      cases ok
      · have HaL := Lib.hid (jscan_stop HRow.out.2.2 (by rw [HX.out.2.2.1]; exact HX.out.2.1))
        obtain ⟨av, cv, hv⟩ := HLv.out.2
        subst hv
        clear hR6
        go_wp2
        go_ret3
        have hlen : L.length = k := by rw [← HaL.out]; exact HRow.out.1
        have hrr : r = k + 1 := by
          rw [← HA.out.2.2.2.2.2.2.2.2.1]
          unfold jreads
          rw [HA.out.2.2.2.2.2.2.2.1, HA.out.2.2.2.2.2.2.2.2.2.2.1, HA.out.2.2.2.2.2.2.2.2.2.2.2.1, hlen, if_pos hlt]
        refine ⟨⟨_, rfl, by rw [hlen]; exact H6.out.1, by rw [← HaL.out]; exact H6.out.2.1, ?_⟩, HSt.out.kp.trans H6.out.2.2.2.2.1⟩
        rw [hrr]
        exact H6.out.2.2.2.1
      · have HaL := Lib.hid (jscan_step HRow.out.2.2 (by rw [HA.out.2.2.2.2.2.2.2.2.2.2.2.1]; exact hlt) (by rw [HX.out.2.2.1]; exact HX.out.2.1))
        have hb7 := Joins.below_alloc1 w6 (.cells #[.int .i64 X.epoch, .int .i64 X.seq, .int .i64 X.kind, .string (WalkVar.bs X.name), .string (WalkVar.bs X.old), .string (WalkVar.bs X.new), .int .i64 X.tail, .int .i64 X.num] 24)
        have hown := own_below H6.out.2.1 hb7 (fun g hg => (H6.out.2.1.lt g hg).2)
        have HOwn := Lib.hid hown
        obtain ⟨c0, c1, c2, c3, c4, c5, c6, c7, -⟩ := id hR6
        clear hb7 hown hR6
        go_upto_region 14 with (at_builtin; go_must (refine wpList_append_r rfl _ _ rfl (w.heap.size + 1) u12 acc X rfl HOwn.out w6.heap.size 1 rfl (rcells_cell X _ w6) (by have := HRow.out.1; omega) (by have := H6.out.2.2.2.2.2; simp; omega) ?_); intro v7 w7 o7 g7 l7)
        have hk7 : Below (w.heap.size + 1) w6 w7 := ((Below.refl _ w6).alloc H6.out.2.2.2.2.2 _).grown g7 (by have := H6.out.2.2.2.2.2; simp; omega) (fun j hj => (HOwn.out.lt j hj).1)
        have hj7 : JnAt w.heap.size b half epoch k w7 := ⟨by rw [hk7.block _ (Nat.lt_succ_self _)]; exact H6.out.1.box⟩
        have ht7 := H6.out.2.2.1.below hk7 (by have := HA.out.2.1 _ HA.out.2.2.2.2.2.2.1; omega)
        have hd7 := H6.out.2.2.2.1.on hk7 (Nat.le_succ _)
        have hkpF : ∀ {a c : World}, Below w.heap.size a c → Kp F a c := fun hB => ⟨hB.os, hB.tape, hB.output, hB.size, fun j _ hF => hB.block j (HA.out.2.1 j hF)⟩
        have kp7 := H6.out.2.2.2.2.1.trans (hkpF ⟨hk7.os, hk7.tape, hk7.output, hk7.size, fun j hj => hk7.block j (Nat.lt_succ_of_lt hj)⟩)
        have hb8 : Below w.heap.size w7 (w7.setCell ⟨w.heap.size, 3, none⟩ (.int .i64 ((k : Int) + 1))) := (Below.refl _ w7).setCell (p := ⟨w.heap.size, 3, none⟩) (Nat.le_refl _) _
        have hj8 : JnAt w.heap.size b half epoch (k + 1) (w7.setCell ⟨w.heap.size, 3, none⟩ (.int .i64 ((k : Int) + 1))) := by rw [show (k : Int) + 1 = ((k + 1 : Nat) : Int) by omega]; exact hj7.put (k + 1)
        have ho8 := own_other o7 ⟨w.heap.size, 3, none⟩ (.int .i64 ((k : Int) + 1)) (fun j hj => by have := (o7.lt j hj).1; show j ≠ w.heap.size; omega)
        have ht8 := ht7.below hb8 (HA.out.2.1 _ HA.out.2.2.2.2.2.2.1)
        have hd8 := hd7.on hb8 (Nat.le_refl _)
        have kp8 := kp7.trans (hkpF hb8)
        have hs8 : w.heap.size + 1 ≤ (w7.setCell ⟨w.heap.size, 3, none⟩ (.int .i64 ((k : Int) + 1))).heap.size := by have := H6.out.2.2.2.2.2; have := hk7.size; have := hb8.size; omega
        have hal : (acc ++ [X]).length = k + 1 := by have := HRow.out.1; simp; omega
        have H8 := Lib.hid (JoSt.mk (F := F) (b := b) (half := half) (epoch := epoch) (n := n) (d := d) (L := L) (w := w) (k := k + 1) (v := v7) (by rw [show d.ops + (k + 1) = d.ops + k + 1 by omega]; exact hd8) hj8 ⟨acc ++ [X], hal, ho8, by rw [← HX.out.1, ← HX.out.2.2.1, show halfV n = h from HA.out.2.2.2.2.2.2.2.2.2.2.2.1, ← HA.out.2.2.2.2.2.2.2.2.2.2.2.1]; exact HaL.out⟩ (HSt.out.kp.trans kp8) hs8 ht8)
        have HLv7 := Lib.hid (own_lenOf o7).1
        obtain ⟨⟨x0, x1, x2, x3⟩, f⟩ := hj7.cells
        have f3 := f 3
        clear hk7 hj7 ht7 hd7 kp7 hb8 hj8 ho8 ht8 hd8 kp8 hs8 o7 g7 l7 f x0 x1 x2 hkpF c0 c1 c2 c3 c4 c5 c6 c7
        have HAl := Lib.hid hal
        clear hal
        go_wp2
        go_round
        case rel => exact ⟨k + 1, by omega, H8.out⟩
        case measure =>
          have e1 := HLv.out.1
          have e2 := HLv7.out
          have e3 := HAl.out
          have e4 := HRow.out.1
          omega
    · obtain rfl : k = h := by omega
      go_upto_region 6 with fail
      go_quiet ((go_at_call 31; exact HHq.out _))
      obtain ⟨av, cv, hv⟩ := HLv.out.2
      subst hv
      go_wp2
      go_ret3
      have hLa : acc = L := by
        have := HRow.out.2.2
        rw [HA.out.2.2.2.2.2.2.2.2.2.2.2.1, Nat.sub_self, jscan, List.append_nil] at this
        exact this
      have hlen : L.length = k := by rw [← hLa]; exact HRow.out.1
      have hrr : r = k := by
        rw [← HA.out.2.2.2.2.2.2.2.2.1]
        unfold jreads
        rw [HA.out.2.2.2.2.2.2.2.1, HA.out.2.2.2.2.2.2.2.2.2.2.1, HA.out.2.2.2.2.2.2.2.2.2.2.2.1, hlen, if_neg (by omega)]
      refine ⟨⟨_, rfl, by rw [hlen]; exact ⟨HSt.out.jn.box⟩, by rw [← hLa]; exact HRow.out.2.1, ?_⟩, HSt.out.kp.drewN _⟩
      rw [hrr]
      exact HSt.out.disk.later (below_drewN (Below.refl _ wr) _)
end Go.Proofs.YtfbakelpplpomaaGreatDoor.Disk
