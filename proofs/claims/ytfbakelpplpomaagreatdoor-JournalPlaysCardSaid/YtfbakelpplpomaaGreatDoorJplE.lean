/-
  JournalPlays: the document's Open, where the disk is down, and where its records are read.
-/
import Derived.Test.YtfbakelpplpomaaGreatDoorJplD
import Derived.Deep.CutRange
import Derived.Deep.RegionHeld3
namespace Go.Proofs.YtfbakelpplpomaaGreatDoor.Disk
open Go.RowKit Go.Proofs.YtfbakelpplpomaaGreatDoor.DiskRows Go.Proofs.YtfbakelpplpomaaGreatDoor.WalkCrc
open Go.Proofs.YtfbakelpplpomaaGreatDoor.WalkSeat (putRV isRB isRV takeRB takeRV)
open Pl.Seat (Rec isR)
set_option linter.unusedVariables false
set_option linter.unusedSimpArgs false
set_option maxRecDepth 100000

theorem box5 {Y : World} {g : Nat} {z0 z1 z2 z3 z4 : Value} {T : TypeId} (h : Y.heap[g]? = some (.cells #[z0, z1, z2, z3, z4] T (0, 0))) (u0 u1 u2 u3 u4 : Value) :
    (((((Y.setCell ⟨g, 0, none⟩ u0).setCell ⟨g, 1, none⟩ u1).setCell ⟨g, 2, none⟩ u2).setCell ⟨g, 3, none⟩ u3).setCell ⟨g, 4, none⟩ u4).heap[g]? = some (.cells #[u0, u1, u2, u3, u4] T (0, 0)) := by
  rw [Joins.block_setCell (i := 4) (Joins.block_setCell (i := 3) (Joins.block_setCell (i := 2) (Joins.block_setCell (i := 1) (Joins.block_setCell (i := 0) h _) _) _) _) _]; rfl
theorem below5 {B : Nat} {X Y : World} {g : Nat} (h : Below B X Y) (hg : B ≤ g) (u0 u1 u2 u3 u4 : Value) :
    Below B X (((((Y.setCell ⟨g, 0, none⟩ u0).setCell ⟨g, 1, none⟩ u1).setCell ⟨g, 2, none⟩ u2).setCell ⟨g, 3, none⟩ u3).setCell ⟨g, 4, none⟩ u4) :=
  ((((h.setCell (p := ⟨g, 0, none⟩) hg _).setCell (p := ⟨g, 1, none⟩) hg _).setCell (p := ⟨g, 2, none⟩) hg _).setCell (p := ⟨g, 3, none⟩) hg _).setCell (p := ⟨g, 4, none⟩) hg _
theorem ba {X Y : World} (h : Below X.heap.size X Y) (o : Obj) : Below X.heap.size X (Y.alloc o) := h.alloc h.size o
theorem bd (X : World) (o : Obj) : Below X.heap.size X ((X.alloc o).drew) := ((Below.refl _ X).alloc (Nat.le_refl _) o).drew
theorem bt {X Y Z : World} (h : Below X.heap.size X Y) (k : Below Y.heap.size Y Z) : Below X.heap.size X Z := h.trans (k.mono h.size)
theorem b5a {X Y : World} (h : Below X.heap.size X Y) (o : Obj) (u0 u1 u2 u3 u4 : Value) : Below X.heap.size X ((((((Y.alloc o).setCell ⟨Y.heap.size, 0, none⟩ u0).setCell ⟨Y.heap.size, 1, none⟩ u1).setCell ⟨Y.heap.size, 2, none⟩ u2).setCell ⟨Y.heap.size, 3, none⟩ u3).setCell ⟨Y.heap.size, 4, none⟩ u4) := below5 (ba h o) h.size _ _ _ _ _
theorem kept_n {X Y : World} {v0 v1 v2 v3 v4 : Value} {T : TypeId} (b : Below ((X.alloc (.cells #[v0, v1, v2, v3, v4] T)).drew).heap.size ((X.alloc (.cells #[v0, v1, v2, v3, v4] T)).drew) Y) :
    Y.cell? ⟨X.heap.size, 0, none⟩ = some v0 ∧ Y.cell? ⟨X.heap.size, 1, none⟩ = some v1 ∧ Y.cell? ⟨X.heap.size, 2, none⟩ = some v2 ∧ Y.cell? ⟨X.heap.size, 3, none⟩ = some v3 ∧ Y.cell? ⟨X.heap.size, 4, none⟩ = some v4 ∧ Y.frozen? ⟨X.heap.size, 0, none⟩ = false ∧ Y.frozen? ⟨X.heap.size, 1, none⟩ = false ∧ Y.frozen? ⟨X.heap.size, 2, none⟩ = false ∧ Y.frozen? ⟨X.heap.size, 3, none⟩ = false ∧ Y.frozen? ⟨X.heap.size, 4, none⟩ = false ∧ Y.heap[X.heap.size]? = some (.cells #[v0, v1, v2, v3, v4] T (0, 0)) := by
  have h : Y.heap[X.heap.size]? = some (.cells #[v0, v1, v2, v3, v4] T (0, 0)) := (b.block X.heap.size (by simp)).trans (heap_alloc_last X _)
  exact ⟨(cell_of_row _ _ 0 _ _ _ h).trans rfl, (cell_of_row _ _ 1 _ _ _ h).trans rfl, (cell_of_row _ _ 2 _ _ _ h).trans rfl, (cell_of_row _ _ 3 _ _ _ h).trans rfl, (cell_of_row _ _ 4 _ _ _ h).trans rfl, frozen_of_row _ _ 0 _ _ h, frozen_of_row _ _ 1 _ _ h, frozen_of_row _ _ 2 _ _ h, frozen_of_row _ _ 3 _ _ h, frozen_of_row _ _ 4 _ _ h, h⟩
theorem own_put5 {Y : World} {n : Nat} {T : TypeId} {size m : Nat} {v : Value} {xs : List Value} (h : Y.ownsRow (n + 2) T size v m xs) (u0 u1 u2 u3 u4 : Value) :
    (((((Y.setCell ⟨n, 0, none⟩ u0).setCell ⟨n, 1, none⟩ u1).setCell ⟨n, 2, none⟩ u2).setCell ⟨n, 3, none⟩ u3).setCell ⟨n, 4, none⟩ u4).ownsRow (n + 2) T size v m xs := by
  have hk : ∀ k, v.ownBlock = some k → k ≠ n := fun k hk => by have := (h.lt k hk).1; omega
  exact own_other (own_other (own_other (own_other (own_other h _ _ hk) _ _ hk) _ _ hk) _ _ hk) _ _ hk
theorem own_put5' {Y : World} {n : Nat} {T : TypeId} {size m : Nat} {v : Value} {xs : List Value} (h : Y.ownsRow (n + 2) T size v m xs) (u0 u1 u2 u3 u4 : Value) :
    (((((Y.setCell ⟨n + 1, 0, none⟩ u0).setCell ⟨n + 1, 1, none⟩ u1).setCell ⟨n + 1, 2, none⟩ u2).setCell ⟨n + 1, 3, none⟩ u3).setCell ⟨n + 1, 4, none⟩ u4).ownsRow (n + 2) T size v m xs := by
  have hk : ∀ k, v.ownBlock = some k → k ≠ n + 1 := fun k hk => by have := (h.lt k hk).1; omega
  exact own_other (own_other (own_other (own_other (own_other h _ _ hk) _ _ hk) _ _ hk) _ _ hk) _ _ hk
theorem Bx.put {w W : World} {b0 b1 b2 b3 b4 : Value} (h : Bx w b0 b1 b2 b3 b4 W) (u0 u1 u2 u3 u4 : Value) : Bx w u0 u1 u2 u3 u4 (((((W.setCell ⟨w.heap.size, 0, none⟩ u0).setCell ⟨w.heap.size, 1, none⟩ u1).setCell ⟨w.heap.size, 2, none⟩ u2).setCell ⟨w.heap.size, 3, none⟩ u3).setCell ⟨w.heap.size, 4, none⟩ u4) :=
  ((((h.put0 u0).put1 u1).put2 u2).put3 u3).put4 u4
/-- how it stands behind k records -/
structure ROst (w : World) (b0 b1 b2 b3 : Value) (d : Dk) (half epoch h : Nat) (L : List Rec) (k : Nat) (v : Value) (wr : World) : Prop where
  bx : Bx w b0 b1 b2 b3 (.int .i64 ((d.ops + k : Nat) : Int)) wr
  row : ∃ acc, acc.length = k ∧ wr.ownsRow (w.heap.size + 2) 24 8 v acc.length (rvs acc) ∧ acc ++ jscan (shown d half) epoch (h - k) k = L
theorem Dk.Ok.ops {d : Dk} (h : d.Ok) (n : Nat) (hn : n ≤ 1000000000000) : Dk.Ok { d with ops := n } := ⟨h.pos, h.most, h.few, h.ats, h.low.1, hn⟩
theorem read_at {d : Dk} (k p : Nat) (hd : d.down = false) (hp : p < d.S.length) (s : ByteArray) (hs : d.H.getD p ByteArray.empty = s) : Dk.read { d with ops := d.ops + k } (p : Nat) = ({ d with ops := d.ops + k + 1 }, s, 0) := by
  unfold Dk.read
  rw [if_neg (by simp [hd]), if_pos (show Dk.has { d with ops := d.ops + k } (p : Nat) from ⟨by omega, by show (p : Int) < (d.S.length : Int); omega⟩)]
  show (_, d.H.getD p ByteArray.empty, _) = _
  rw [hs]
set_option maxHeartbeats 6400000 in
theorem refOpen_ok (A A' : Option Addr) (c c' : Nat) (d : Dk) (half epoch : Nat) (w : World) (hA : RAt w A A' d) (hk : d.Ok) (hI : Inv d) (hdn : d.down = false) (h1 : half ≤ 1) (h2 : 1 ≤ epoch) (h3 : epoch ≤ 4294967295) (ho : d.ops ≤ 1000000) (L : List Rec) (hL : jrecs d half epoch = L) (r : Nat) (hr : jreads d half epoch = r) :
    Calls Tryz.prog 49 #[.agg (rc (.slice A d.S.length c) (.slice A' d.C.length c') d).toArray, .int .i64 half, .int .i64 epoch] w fun x w' =>
      (∃ v, x = .returned (.tuple #[.agg (rc (.slice A d.S.length c) (.slice A' d.C.length c') { d with ops := d.ops + r }).toArray, v, .int .i64 0]) ∧ w'.ownsRow w.heap.size 24 8 v L.length (rvs L)) ∧ Below w.heap.size w w' := by
  have hB := Bx.start w (.slice A d.S.length c) (.slice A' d.C.length c') (.int .i64 (d.armed : Nat)) (.bool d.down) (.int .i64 (d.ops : Nat))
  have HB := Lib.hid hB
  obtain ⟨n, hn⟩ : ∃ n, d.S.length = n := ⟨_, rfl⟩
  have hn16 : 16 ≤ n ∧ n ≤ 4096 := ⟨hn ▸ hk.pos, hn ▸ hk.most⟩
  obtain ⟨h, hh⟩ : ∃ h, halfV n = h := ⟨_, rfl⟩
  have hhb : h ≤ 4096 ∧ 7 ≤ h := by rw [← hh]; unfold halfV; omega
  have hhi : (h : Int) ≤ 4096 := by omega
  have hni : (n : Int) ≤ 4096 := by omega
  have HW := Lib.hid (fun W => refWrong_ok n half epoch 0 W hn16 h1 h2 h3 (Nat.zero_le _))
  have HH := Lib.hid (fun W => refHalf_ok n h W hn16 hh)
  unfold jrecs at hL
  rw [hn, hh] at hL
  unfold jreads jrecs at hr
  rw [hn, hh, hL] at hr
  have HA := Lib.hid (And.intro hA (And.intro hk (And.intro hI (And.intro hdn (And.intro hL (And.intro hr (And.intro ho (And.intro hn (And.intro hh (And.intro hn16 (And.intro hhb h1)))))))))))
  dsimp only [rc]
  obtain ⟨n', hn'⟩ : ∃ n', d.C.length = n' := ⟨_, rfl⟩
  obtain ⟨a2, hb2⟩ : ∃ v : Int, (d.armed : Int) = v := ⟨_, rfl⟩
  obtain ⟨a3, hb3⟩ : ∃ v, d.down = v := ⟨_, rfl⟩
  rw [hn, hn', hb2, hb3] at hB HB ⊢
  have HV := Lib.hid (And.intro hn' (And.intro hb2 hb3))
  clear hn' hb2 hb3 hA hk hI hdn h1 h2 h3 ho hL hr hn hh hn16 hhb
  go_enter Tryz.func49, Tryz.ntmps49
  go_upto_region 1 with fail
  obtain ⟨x0, x1, x2, x3, x4, z0, z1, z2, z3, z4, f, f'⟩ := hB.cells
  have f0 := f 0
  have f1 := f 1
  have f2 := f 2
  have f3 := f 3
  have f4 := f 4
  have g0 := f' 0
  have g1 := f' 1
  have g2 := f' 2
  have g3 := f' 3
  have g4 := f' 4
  clear f f'
  clear hB
  generalize World.alloc (World.alloc w _) _ = W at *
  go_wp2_with fail
  refine (HW.out _).mono ?_
  rintro x w3 ⟨rfl, rfl⟩
  go_upto_region 6 with fail
  clear x0 x1 x2 x3 x4 z0 z1 z2 z3 z4 f0 f1 f2 f3 f4 g0 g1 g2 g3 g4
  go_loopw [11] (fun v wr => ∃ k : Nat, k ≤ h ∧ ROst w (.slice A n c) (.slice A' n' c') (.int .i64 a2) (.bool a3) d half epoch h L k v wr) (fun v _ => h - lenOf v)
  case atStart =>
    exact ⟨0, Nat.zero_le _, ⟨HB.out, ⟨[], rfl, World.ownsRow_nil _ _ _ _, by rw [List.nil_append]; exact HA.out.2.2.2.2.1⟩⟩⟩
  case round =>
    obtain ⟨k, hk, hst⟩ := hrel
    have HSt := Lib.hid hst
    clear hst
    have hkb : (k : Int) ≤ 4096 := by have := HA.out.2.2.2.2.2.2.2.2.2.2.1.1; omega
    obtain ⟨acc, hac, hrow, hscan⟩ := HSt.out.row
    have HRow := Lib.hid (And.intro hac (And.intro hrow hscan))
    have HLv := Lib.hid (own_lenOf hrow)
    obtain ⟨av, cv, hv⟩ := (own_lenOf hrow).2
    rw [hac] at hv
    subst hv
    clear hac hrow hscan
    by_cases hlt : k < h
    · have hki : (k : Int) < (h : Int) := by omega
      obtain ⟨p, hp⟩ : ∃ p, placeV n half k = p := ⟨_, rfl⟩
      have hpb : p < n ∧ p ≤ 4096 := by
        have := HA.out.2.2.2.2.2.2.2.2.2
        have e := HA.out.2.2.2.2.2.2.2.2.1
        rw [← hp]
        unfold placeV firstV halfV at *
        split <;> omega
      obtain ⟨s, hs⟩ : ∃ s, d.H.getD p ByteArray.empty = s := ⟨_, rfl⟩
      have hnn := HA.out.2.2.2.2.2.2.2.1
      have hs128 : s.size = 128 := by
        have := HA.out.2.2.1
        rw [← hs, List.getD_eq_getElem?_getD, List.getElem?_eq_getElem (show p < d.H.length by rw [this.len, hnn]; exact hpb.1)]
        exact this.sz.H _ (List.getElem_mem _)
      have hPl := fun W => refPlace_ok n half k p W HA.out.2.2.2.2.2.2.2.2.2.1 HA.out.2.2.2.2.2.2.2.2.2.2.2 (by rw [HA.out.2.2.2.2.2.2.2.2.1]; exact hlt) hp
      have hob := HA.out.2.2.2.2.2.2.1
      have hRd := fun W (q : Below w.heap.size w W) => refRead_any A A' c c' { d with ops := d.ops + k } (p : Nat) W (HA.out.1.later q) (HA.out.2.1.ops _ (by omega)) (HA.out.2.2.1.ops _).shown (by dsimp only; omega)
      rw [read_at k p HA.out.2.2.2.1 (by rw [hnn]; exact hpb.1) s hs] at hRd
      dsimp only [rc] at hRd
      simp only [hnn, HV.out.1, HV.out.2.1, HV.out.2.2, show ((d.ops + k : Nat) : Int) = (d.ops : Int) + (k : Int) from by omega, show ((d.ops + k + 1 : Nat) : Int) = (d.ops : Int) + (k : Int) + 1 from by omega] at hRd
      have hsh : shown d half k = s.data.toList := by
        unfold shown
        rw [hnn, hp, hs]
      obtain ⟨X, hX⟩ : ∃ X, takeRV s.data.toList = X := ⟨_, rfl⟩
      obtain ⟨ok, hok⟩ : ∃ ok, takeRB s.data.toList = ok := ⟨_, rfl⟩
      have HTk := Lib.hid (fun W => WalkSeat.refTakeR_at s X ok W (by omega) hX hok)
      have hXB : isRB (shown d half k) epoch k = (ok && decide (X.epoch = epoch) && decide (X.seq = k)) := by rw [hsh]; unfold isRB; rw [hX, hok]
      have hXV : isRB (shown d half k) epoch k = true → isRV (shown d half k) epoch k = X := fun q => by rw [hsh] at q ⊢; unfold isRV; rw [if_pos q, hX]
      have HPl := Lib.hid hPl
      have HRd := Lib.hid hRd
      have HX := Lib.hid (And.intro hXB hXV)
      have hp0 : (p : Int) ≤ 4096 := by omega
      clear hp hpb hs hs128 hPl hRd hsh hX hok hXB hXV hnn hob
      go_wp2_with fail
      refine (HH.out _).mono ?_
      rintro x w4 ⟨rfl, rfl⟩
      go_upto_region 7 with fail
      go_cut [12, 13, 14] from 29 to 73 (fun s12 s13 s14 wx => s13 = .string s ∧ s14 = .int .i64 0 ∧ ∃ g12, s12 = .pointer (some ⟨g12, 0, none⟩) ∧ wx.heap[g12]? = some (.cells #[.slice A n c, .slice A' n' c', (.int .i64 a2), (.bool a3), .int .i64 ((d.ops : Int) + (k : Int) + 1)] 54 (0, 0)) ∧ Below wr.heap.size wr wx)
      case first =>
        have hS : ∀ W', Below wr.heap.size wr W' → (W'.cell? ⟨w.heap.size, 0, none⟩ = some (.slice A n c) ∧ W'.cell? ⟨w.heap.size, 1, none⟩ = some (.slice A' n' c') ∧ W'.cell? ⟨w.heap.size, 2, none⟩ = some (.int .i64 a2) ∧ W'.cell? ⟨w.heap.size, 3, none⟩ = some (.bool a3) ∧ W'.cell? ⟨w.heap.size, 4, none⟩ = some (.int .i64 ((d.ops : Int) + (k : Int)))) := fun W' q => by
          obtain ⟨x0, x1, x2, x3, x4, -⟩ := (HSt.out.bx.later q).cells
          exact ⟨x0, x1, x2, x3, x4⟩
        have HS := Lib.hid hS
        have hS0 := hS wr.drew (Below.refl _ _).drew
        have hbw := HSt.out.bx.bel
        have HR1 := Lib.hid (HRd.out wr.drew hbw.drew)
        have HR2 := Lib.hid (fun o => HRd.out ((wr.alloc o).drew) ((hbw.alloc hbw.size o).drew))
        clear hS hbw HW HH HA HX HTk HRow HLv hhi hni hkb hki hp0 HSt HRd HV
        go_region_held3 (fun W' => W'.cell? ⟨w.heap.size, 0, none⟩ = some (.slice A n c) ∧ W'.cell? ⟨w.heap.size, 1, none⟩ = some (.slice A' n' c') ∧ W'.cell? ⟨w.heap.size, 2, none⟩ = some (.int .i64 a2) ∧ W'.cell? ⟨w.heap.size, 3, none⟩ = some (.bool a3) ∧ W'.cell? ⟨w.heap.size, 4, none⟩ = some (.int .i64 ((d.ops : Int) + (k : Int))))
          (first | with_reducible exact hS0 | with_reducible assumption | with_reducible exact HS.out _ (bd _ _) | with_reducible exact HS.out _ B5.out | with_reducible exact HS.out _ (ba B5.out _) | with_reducible exact HS.out _ (below5 B5.out (Nat.le_refl _) _ _ _ _ _))
          (first
            | (go_at_call 12; refine (HPl.out _).mono ?_; rintro x w5 ⟨rfl, rfl⟩)
            | (go_at_call 73; (with_reducible show Calls _ _ _ (World.drew wr) _); refine HR1.out.mono ?_; rintro x w5 ⟨rfl, b5⟩; have B5 := Lib.hid (Below.trans (Below.refl wr.heap.size wr).drew b5))
            | (go_at_call 73; (with_reducible show Calls _ _ _ (World.drew (World.alloc wr _)) _); refine (HR2.out _).mono ?_; rintro x w5 ⟨rfl, b5⟩; have B5 := Lib.hid (bt (bd wr _) b5); have q5 := kept_n b5; obtain ⟨y0, y1, y2, y3, y4, yf0, yf1, yf2, yf3, yf4, qb⟩ := q5; have QB := Lib.hid qb; clear qb))
        all_goals go_wp2_with fail
        all_goals go_meet
        all_goals (first
          | with_reducible exact ⟨rfl, rfl, _, rfl, heap_alloc_last _ _, ba B5.out _⟩
          | with_reducible exact ⟨rfl, rfl, _, rfl, box5 QB.out _ _ _ _ _, below5 B5.out (Nat.le_refl _) _ _ _ _ _⟩)
      case rest =>
        obtain ⟨rfl, rfl, g12, rfl, hb12, kx⟩ := hcut
        have HB12 := Lib.hid (HSt.out.bx.later kx)
        have hr12 := own_below HRow.out.2.1 kx (fun g hg => (HRow.out.2.1.lt g hg).2)
        have v0 := (cell_of_row _ _ 0 _ _ _ hb12).trans rfl
        have v1 := (cell_of_row _ _ 1 _ _ _ hb12).trans rfl
        have v2 := (cell_of_row _ _ 2 _ _ _ hb12).trans rfl
        have v3 := (cell_of_row _ _ 3 _ _ _ hb12).trans rfl
        have v4 := (cell_of_row _ _ 4 _ _ _ hb12).trans rfl
        obtain ⟨x0, x1, x2, x3, x4, z0, z1, z2, z3, z4, f, f'⟩ := HB12.out.cells
        have f0 := f 0
        have f1 := f 1
        have f2 := f 2
        have f3 := f 3
        have f4 := f 4
        have g0 := f' 0
        have g1 := f' 1
        have g2 := f' 2
        have g3 := f' 3
        have g4 := f' 4
        clear f f'
        have h9 := HB12.out.put (.slice A n c) (.slice A' n' c') (.int .i64 a2) (.bool a3) (.int .i64 ((d.ops : Int) + (k : Int) + 1))
        have hr9 := own_put5 hr12 (.slice A n c) (.slice A' n' c') (.int .i64 a2) (.bool a3) (.int .i64 ((d.ops : Int) + (k : Int) + 1))
        clear hr12 hb12 kx
        go_upto_region 9 with fail
        clear x0 x1 x2 x3 x4 z0 z1 z2 z3 z4 f0 f1 f2 f3 f4 g0 g1 g2 g3 g4
        clear v0 v1 v2 v3 v4
        generalize World.setCell _ _ _ = w9 at *
        have H9 := Lib.hid (And.intro h9 hr9)
        clear h9 hr9
        go_wp2_with fail
        refine (HTk.out _).mono ?_
        rintro x w10 ⟨rfl, b10⟩
        go_upto_region 12 with fail
        have hb11 := Joins.below_alloc1 w10 (.cells #[.int .i64 X.epoch, .int .i64 X.seq, .int .i64 X.kind, .string (WalkVar.bs X.name), .string (WalkVar.bs X.old), .string (WalkVar.bs X.new), .int .i64 X.tail, .int .i64 X.num] 24)
        have hx11 := (H9.out.1.later b10).later hb11
        have hr10 := own_below H9.out.2 b10 (fun g hg => (H9.out.2.lt g hg).2)
        have hr11 := own_below hr10 hb11 (fun g hg => (hr10.lt g hg).2)
        have hR := WalkSeat.RecAt.new w10 X.epoch X.seq X.kind (WalkVar.bs X.name) (WalkVar.bs X.old) (WalkVar.bs X.new) X.tail X.num 24
        obtain ⟨w11, hw11⟩ : ∃ w11, w10.alloc (.cells #[.int .i64 X.epoch, .int .i64 X.seq, .int .i64 X.kind, .string (WalkVar.bs X.name), .string (WalkVar.bs X.old), .string (WalkVar.bs X.new), .int .i64 X.tail, .int .i64 X.num] 24) = w11 := ⟨_, rfl⟩
        rw [hw11] at hb11 hx11 hr11 hR ⊢
        have H11 := Lib.hid (And.intro hx11 hr11)
        clear hb11 hx11 hr10 hr11 hw11 b10
        generalize w10.heap.size = g10 at *
        obtain ⟨c0, c1, c2, c3, c4, c5, c6, c7, -⟩ := id hR
        by_cases hb : isRB (shown d half k) epoch k = true
        · have hq := HX.out.1
          rw [hb] at hq
          have hq' : ok = true ∧ X.epoch = (epoch : Int) ∧ X.seq = (k : Int) := by
            have := hq.symm
            simpa [and_assoc] using this
          obtain ⟨rfl, he1, he2⟩ := hq'
          have n1 : (X.epoch != (epoch : Int)) = false := by simp [he1]
          have n2 : (X.seq != (k : Int)) = false := by simp [he2]
          have n3 : (X.epoch == (epoch : Int)) = true := by simp [he1]
          have n4 : (X.seq == (k : Int)) = true := by simp [he2]
          have HaL := Lib.hid (show (acc ++ [X]) ++ jscan (shown d half) epoch (h - (k + 1)) (k + 1) = L by
            have := jscan_step (S := shown d half) (ep := epoch) (h := h) (k := k) HRow.out.2.2 hlt hb
            rw [HX.out.2 hb] at this
            exact this)
          clear hb hq he1 he2
          have hb13 := Joins.below_alloc1 w11 (.cells #[.int .i64 X.epoch, .int .i64 X.seq, .int .i64 X.kind, .string (WalkVar.bs X.name), .string (WalkVar.bs X.old), .string (WalkVar.bs X.new), .int .i64 X.tail, .int .i64 X.num] 24)
          have hown := own_below H11.out.2 hb13 (fun g hg => (H11.out.2.lt g hg).2)
          have HOwn := Lib.hid hown
          clear hb13 hown hR
          go_upto_region 13 with fail
          have hac := HRow.out.1
          have HBs := Lib.hid H11.out.1.lt
          go_wp2_with (at_builtin; go_must (refine wpList_append_r rfl _ _ rfl (w.heap.size + 2) (.slice av k cv) acc X rfl HOwn.out w11.heap.size 1 rfl (rcells_cell X _ w11) (by have := HRow.out.1; omega) (by have := HBs.out; simp; omega) ?_); intro v7 w7 o7 g7 l7)
          have hk7 : Below (w.heap.size + 2) w11 w7 := ((Below.refl _ w11).alloc HBs.out _).grown g7 (by have := HBs.out; simp; omega) (fun j hj => (HOwn.out.lt j hj).1)
          have hx7 := H11.out.1.keep (fun j hj => hk7.block j hj) (hk7.mono (by omega))
          have hlv7 := (own_lenOf o7).1
          rw [List.length_append, List.length_singleton, hac] at hlv7
          have H7 := Lib.hid (And.intro hx7 (And.intro o7 hlv7))
          clear hk7 hx7 hlv7 o7 g7 l7 c0 c1 c2 c3 c4 c5 c6 c7
          go_wp2
          go_round
          case rel => exact ⟨k + 1, by omega, ⟨by rw [show ((d.ops + (k + 1) : Nat) : Int) = (d.ops : Int) + (k : Int) + 1 by omega]; exact H7.out.1, ⟨acc ++ [X], by rw [List.length_append, List.length_singleton, hac], H7.out.2.1, HaL.out⟩⟩⟩
          case measure =>
            have e1 := H7.out.2.2
            show h - lenOf v7 < h - k
            omega
        · have hbf : isRB (shown d half k) epoch k = false := by simpa using hb
          have hq := HX.out.1
          rw [hbf] at hq
          have hLa : acc = L := jscan_stop (S := shown d half) (ep := epoch) (h := h) (k := k) HRow.out.2.2 hbf
          have hlen : L.length = k := by rw [← hLa]; exact HRow.out.1
          have HLA := Lib.hid (And.intro hLa hlen)
          clear hLa hlen hbf
          by_cases h1 : ok = true
          · subst h1
            by_cases h2 : X.epoch = (epoch : Int)
            · have n1 : (X.epoch != (epoch : Int)) = false := by simp [h2]
              have n3 : (X.epoch == (epoch : Int)) = true := by simp [h2]
              have h3 : ¬ X.seq = (k : Int) := fun h3 => by simp [h2, h3] at hq
              have n2 : (X.seq != (k : Int)) = true := by simp [h3]
              have n4 : (X.seq == (k : Int)) = false := by simp [h3]
              clear h2 h3 hq hb
              obtain ⟨x0, x1, x2, x3, x4, z0, z1, z2, z3, z4, f, f'⟩ := H11.out.1.cells
              have g0 := f' 0
              have g1 := f' 1
              have g2 := f' 2
              have g3 := f' 3
              have g4 := f' 4
              clear f f'
              go_wp2
              obtain ⟨⟨e0, e1, e2, e3, e4⟩, b9, -⟩ := H11.out.1.fin (.slice A n c) (.slice A' n' c') (.int .i64 a2) (.bool a3) (.int .i64 ((d.ops : Int) + (k : Int) + 1))
              have ho9 := own_base (own_put5' H11.out.2 (.slice A n c) (.slice A' n' c') (.int .i64 a2) (.bool a3) (.int .i64 ((d.ops : Int) + (k : Int) + 1))) (show w.heap.size ≤ w.heap.size + 2 by omega)
              refine bodyPost_ret (by simp [results, Tryz.results49, go_sem, e0, e1, e2, e3, e4]; try rfl) rfl ?_
              obtain ⟨hLa, hlen⟩ := HLA.out
              have hrr : ((d.ops + r : Nat) : Int) = (d.ops : Int) + (k : Int) + 1 := by
                have := HA.out.2.2.2.2.2.1
                rw [hlen] at this
                rw [if_pos hlt] at this
                omega
              refine ⟨⟨.slice av k cv, by rw [hrr], ?_⟩, b9⟩
              rw [← hLa]
              exact ho9
            · have n1 : (X.epoch != (epoch : Int)) = true := by simp [h2]
              have n3 : (X.epoch == (epoch : Int)) = false := by simp [h2]
              clear h2 hq hb
              obtain ⟨x0, x1, x2, x3, x4, z0, z1, z2, z3, z4, f, f'⟩ := H11.out.1.cells
              have g0 := f' 0
              have g1 := f' 1
              have g2 := f' 2
              have g3 := f' 3
              have g4 := f' 4
              clear f f'
              go_wp2
              obtain ⟨⟨e0, e1, e2, e3, e4⟩, b9, -⟩ := H11.out.1.fin (.slice A n c) (.slice A' n' c') (.int .i64 a2) (.bool a3) (.int .i64 ((d.ops : Int) + (k : Int) + 1))
              have ho9 := own_base (own_put5' H11.out.2 (.slice A n c) (.slice A' n' c') (.int .i64 a2) (.bool a3) (.int .i64 ((d.ops : Int) + (k : Int) + 1))) (show w.heap.size ≤ w.heap.size + 2 by omega)
              refine bodyPost_ret (by simp [results, Tryz.results49, go_sem, e0, e1, e2, e3, e4]; try rfl) rfl ?_
              obtain ⟨hLa, hlen⟩ := HLA.out
              have hrr : ((d.ops + r : Nat) : Int) = (d.ops : Int) + (k : Int) + 1 := by
                have := HA.out.2.2.2.2.2.1
                rw [hlen] at this
                rw [if_pos hlt] at this
                omega
              refine ⟨⟨.slice av k cv, by rw [hrr], ?_⟩, b9⟩
              rw [← hLa]
              exact ho9
          · obtain rfl : ok = false := by simpa using h1
            clear h1 hq hb
            obtain ⟨x0, x1, x2, x3, x4, z0, z1, z2, z3, z4, f, f'⟩ := H11.out.1.cells
            have g0 := f' 0
            have g1 := f' 1
            have g2 := f' 2
            have g3 := f' 3
            have g4 := f' 4
            clear f f'
            go_wp2
            obtain ⟨⟨e0, e1, e2, e3, e4⟩, b9, -⟩ := H11.out.1.fin (.slice A n c) (.slice A' n' c') (.int .i64 a2) (.bool a3) (.int .i64 ((d.ops : Int) + (k : Int) + 1))
            have ho9 := own_base (own_put5' H11.out.2 (.slice A n c) (.slice A' n' c') (.int .i64 a2) (.bool a3) (.int .i64 ((d.ops : Int) + (k : Int) + 1))) (show w.heap.size ≤ w.heap.size + 2 by omega)
            refine bodyPost_ret (by simp [results, Tryz.results49, go_sem, e0, e1, e2, e3, e4]; try rfl) rfl ?_
            obtain ⟨hLa, hlen⟩ := HLA.out
            have hrr : ((d.ops + r : Nat) : Int) = (d.ops : Int) + (k : Int) + 1 := by
              have := HA.out.2.2.2.2.2.1
              rw [hlen] at this
              rw [if_pos hlt] at this
              omega
            refine ⟨⟨.slice av k cv, by rw [hrr], ?_⟩, b9⟩
            rw [← hLa]
            exact ho9
    · obtain rfl : k = h := by omega
      go_wp2_with fail
      refine (HH.out _).mono ?_
      rintro x w4 ⟨rfl, rfl⟩
      have hLa : acc = L := by
        have := HRow.out.2.2
        rw [Nat.sub_self, jscan, List.append_nil] at this
        exact this
      have hlen : L.length = k := by rw [← hLa]; exact HRow.out.1
      have HLA := Lib.hid (And.intro hLa hlen)
      clear hLa hlen
      obtain ⟨x0, x1, x2, x3, x4, z0, z1, z2, z3, z4, f, f'⟩ := HSt.out.bx.cells
      have g0 := f' 0
      have g1 := f' 1
      have g2 := f' 2
      have g3 := f' 3
      have g4 := f' 4
      clear f f'
      go_wp2
      obtain ⟨⟨e0, e1, e2, e3, e4⟩, b9, -⟩ := HSt.out.bx.fin (.slice A n c) (.slice A' n' c') (.int .i64 a2) (.bool a3) (.int .i64 ((d.ops : Int) + (k : Int)))
      have ho9 := own_base (own_put5' HRow.out.2.1 (.slice A n c) (.slice A' n' c') (.int .i64 a2) (.bool a3) (.int .i64 ((d.ops : Int) + (k : Int)))) (show w.heap.size ≤ w.heap.size + 2 by omega)
      refine bodyPost_ret (by simp [results, Tryz.results49, go_sem, e0, e1, e2, e3, e4]; try rfl) rfl ?_
      obtain ⟨hLa, hlen⟩ := HLA.out
      have hrr : ((d.ops + r : Nat) : Int) = (d.ops : Int) + (k : Int) := by
        have := HA.out.2.2.2.2.2.1
        rw [hlen] at this
        rw [if_neg (by omega)] at this
        omega
      refine ⟨⟨.slice av k cv, by rw [hrr], ?_⟩, b9⟩
      rw [← hLa]
      exact ho9
end Go.Proofs.YtfbakelpplpomaaGreatDoor.Disk
