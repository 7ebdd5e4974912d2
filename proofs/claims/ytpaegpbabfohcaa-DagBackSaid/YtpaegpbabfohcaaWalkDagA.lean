/-
  dag: a walk's mark.
-/
import Derived.Test.YtpaegpbabfohcaaHeapH
import Derived.Test.YtpaegpbabfohcaaMapAt
import Derived.Test.YtpaegpbabfohcaaDagPure
namespace Go.Proofs.Ytpaegpbabfohcaa.WalkDag
open Go.RowKit Go.Proofs.Ytpaegpbabfohcaa.HeapPure Go.Proofs.Ytpaegpbabfohcaa.HeapA Go.Proofs.Ytpaegpbabfohcaa.MapAt Go.Proofs.Ytpaegpbabfohcaa.DagPure
set_option linter.unusedVariables false
set_option linter.unusedSimpArgs false
set_option maxRecDepth 100000

/-- keys that are whole numbers -/
def KI : Keys Try.prog 3 Int where
  d := .int .i64
  hd := Try.underlying3
  enc := .int .i64
  inj := fun a b h => by injection h
  is := fun a => rfl
theorem zero_int (w : World) : (zeroValue 3).run Try.prog w = .ok (.int .i64 0) w := by kernel_rfl
theorem zero_ints (w : World) : (zeroValue 25).run Try.prog w = .ok (.slice none 0 0) w := by kernel_rfl

/-- these blocks are as they were -/
structure Kp (F : Nat → Prop) (w w' : World) : Prop where
  os : w'.os = w.os
  tape : w'.tape = w.tape
  output : w'.output = w.output
  size : w.heap.size ≤ w'.heap.size
  block : ∀ k, k < w.heap.size → F k → w'.heap[k]? = w.heap[k]?
theorem Kp.refl (F : Nat → Prop) (w : World) : Kp F w w := ⟨rfl, rfl, rfl, Nat.le_refl _, fun _ _ _ => rfl⟩
theorem Kp.trans {F : Nat → Prop} {a b c : World} (h : Kp F a b) (k : Kp F b c) : Kp F a c :=
  ⟨k.os.trans h.os, k.tape.trans h.tape, k.output.trans h.output, Nat.le_trans h.size k.size, fun j hj hF => (k.block j (Nat.lt_of_lt_of_le hj h.size) hF).trans (h.block j hj hF)⟩
theorem Kp.sub {F G : Nat → Prop} {w w' : World} (h : Kp F w w') (hs : ∀ k, G k → F k) : Kp G w w' := ⟨h.os, h.tape, h.output, h.size, fun j hj hG => h.block j hj (hs j hG)⟩
theorem Kp.below {F : Nat → Prop} {B : Nat} {w w' : World} (h : Kp F w w') (hs : ∀ k, k < B → F k) (hB : B ≤ w.heap.size) : Below B w w' := ⟨h.os, h.tape, h.output, h.size, fun k hk => h.block k (by omega) (hs k hk)⟩
theorem Kp.drewN {F : Nat → Prop} {a w : World} (h : Kp F a w) (n : Nat) : Kp F a (w.drewN n) := ⟨h.os, h.tape, h.output, h.size, h.block⟩
theorem Kp.grown {F : Nat → Prop} {a w w' : World} {row : Option Nat} (h : Kp F a w) (hg : w.grownBy w' row) (hr : ∀ k, row = some k → ¬ F k) : Kp F a w' :=
  h.trans ⟨hg.os, hg.tape, hg.output, hg.size, fun k hk hF => hg.block k hk (fun e => hr k e.symm hF)⟩
theorem _root_.Go.RowKit.Below.kp {F : Nat → Prop} {w w' : World} (h : Below w.heap.size w w') : Kp F w w' := ⟨h.os, h.tape, h.output, h.size, fun j hj _ => h.block j hj⟩

theorem _root_.Go.RowKit.Below.kp' {B : Nat} {w w' : World} (h : Below B w w') (hB : B = w.heap.size) : Kp (fun k => k < B) w w' := ⟨h.os, h.tape, h.output, h.size, fun j _ hj => h.block j hj⟩

/-- a walk: what it knows, what is marked, what is to come; what is in F is none of its own -/
structure WAt (F : Nat → Prop) (b bk bm : Nat) (kf : Int → Option Value) (f : Int → M) (q : List Int) (w : World) : Prop where
  c0 : w.cell? ⟨b, 0, none⟩ = some (.map (some bk))
  c1 : w.cell? ⟨b, 1, none⟩ = some (.map (some bm))
  k : MapAt KI w bk kf
  m : ∃ mf, MapAt KI w bm mf ∧ ∀ x, (mf x).getD (.int .i64 0) = .int .i64 (f x).code
  qa : QAt (fun k => F k ∨ k = bk ∨ k = bm) b q w
  ne : bk ≠ bm
  nm : ¬ F bm
  nk : ¬ F bk
  hp : HeapL q q.length
theorem WAt.nb {F : Nat → Prop} {b bk bm : Nat} {kf : Int → Option Value} {f : Int → M} {q : List Int} {w : World} (h : WAt F b bk bm kf f q w) : ¬ F b ∧ bk ≠ b ∧ bm ≠ b :=
  ⟨fun k => h.qa.nf (.inl k), fun k => h.qa.nf (.inr (.inl k.symm)), fun k => h.qa.nf (.inr (.inr k.symm))⟩
theorem WAt.drewN {F : Nat → Prop} {b bk bm : Nat} {kf : Int → Option Value} {f : Int → M} {q : List Int} {w : World} (h : WAt F b bk bm kf f q w) (n : Nat) : WAt F b bk bm kf f q (w.drewN n) :=
  ⟨h.c0, h.c1, h.k.drewN n, by obtain ⟨mf, h1, h2⟩ := h.m; exact ⟨mf, h1.drewN n, h2⟩, h.qa.drewN n, h.ne, h.nm, h.nk, h.hp⟩
/-- the queue has changed -/
theorem WAt.ps {F : Nat → Prop} {b bk bm : Nat} {kf : Int → Option Value} {f : Int → M} {q q' : List Int} {w w' : World} (h : WAt F b bk bm kf f q w) (p : Ps (fun k => F k ∨ k = bk ∨ k = bm) b w w') (hq : QAt (fun k => F k ∨ k = bk ∨ k = bm) b q' w') (hh : HeapL q' q'.length) : WAt F b bk bm kf f q' w' := by
  exact ⟨(p.cell 0 (by omega)).trans h.c0, (p.cell 1 (by omega)).trans h.c1, h.k.kept (p.block _ h.k.lt (.inr (.inl rfl))), by obtain ⟨mf, h1, h2⟩ := h.m; exact ⟨mf, h1.kept (p.block _ h1.lt (.inr (.inr rfl))), h2⟩, hq, h.ne, h.nm, h.nk, hh⟩
theorem Ps.kp {F : Nat → Prop} {b bk bm : Nat} {w w' : World} (p : Ps (fun k => F k ∨ k = bk ∨ k = bm) b w w') : Kp F w w' :=
  ⟨p.os, p.tape, p.output, p.size, fun k hk hF => p.block k hk (.inl hF)⟩
/-- blocks that are none of the walk's own have changed, or were made -/
theorem WAt.other {F G : Nat → Prop} {b bk bm : Nat} {kf : Int → Option Value} {f : Int → M} {q : List Int} {w w' : World} (h : WAt F b bk bm kf f q w) (hs : w.heap.size ≤ w'.heap.size) (hk : ∀ k, k < w.heap.size → ¬ F k → w'.heap[k]? = w.heap[k]?) (hG : ∀ k, k < w.heap.size → G k → F k) (hT : ∀ k, G k → k < w'.heap.size) : WAt G b bk bm kf f q w' := by
  obtain ⟨n1, n2, n3⟩ := h.nb
  have bb := hk b h.qa.lt n1
  obtain ⟨mf, m1, m2⟩ := h.m
  obtain ⟨V, hV, hown, hsep⟩ := h.qa.val
  refine ⟨(World.cell?_of_block (a := ⟨b, 0, none⟩) bb).trans h.c0, (World.cell?_of_block (a := ⟨b, 1, none⟩) bb).trans h.c1, h.k.kept (hk _ h.k.lt h.nk), ⟨mf, m1.kept (hk _ m1.lt h.nm), m2⟩, ⟨⟨V, (World.cell?_of_block (a := ⟨b, 2, none⟩) bb).trans hV, ?_, ?_⟩, (World.frozen?_of_block (a := ⟨b, 2, none⟩) bb).trans h.qa.fz, ?_, ?_, Nat.lt_of_lt_of_le h.qa.lt hs⟩, h.ne, fun hg => h.nm (hG _ m1.lt hg), fun hg => h.nk (hG _ h.k.lt hg), h.hp⟩
  · refine ⟨hown.1, ?_⟩
    rcases hown.2 with h | ⟨g, cap, cur, rfl, hb, hg, hn, hmx, hs, ht⟩
    · exact .inl h
    · exact .inr ⟨g, cap, cur, rfl, hb, by rw [hk g (Array.getElem?_eq_some_iff.1 hg).1 (fun k => (hsep g rfl).1 (.inl k))]; exact hg, hn, hmx, hs, ht⟩
  · intro g hg
    have hlt := (hown.lt g hg).2
    obtain ⟨s1, s2⟩ := hsep g hg
    exact ⟨fun k => s1 (k.imp (fun k => hG g hlt k) id), s2⟩
  · rintro (k | k | k)
    · exact n1 (hG b h.qa.lt k)
    · exact n2 k.symm
    · exact n3 k.symm
  · rintro k (hk' | rfl | rfl)
    · exact hT k hk'
    · exact Nat.lt_of_lt_of_le h.k.lt hs
    · exact Nat.lt_of_lt_of_le m1.lt hs
theorem or_code (a o : M) : bits .or .i64 a.code o.code = (a.or o).code := by
  cases a with | mk a b c => cases o with | mk d e g => cases a <;> cases b <;> cases c <;> cases d <;> cases e <;> cases g <;> decide
theorem set_marks {mf : Int → Option Value} {f : Int → M} {n : Int} {o : M} (h : ∀ x, (mf x).getD (.int .i64 0) = .int .i64 (f x).code) : ∀ x, ((fun k' => if k' = n then some (.int .i64 ((f n).or o).code) else mf k') x).getD (.int .i64 0) = .int .i64 (mark1 f n o x).code := by
  intro x
  show (if x = n then some (.int .i64 ((f n).or o).code) else mf x).getD (.int .i64 0) = _
  unfold mark1
  by_cases e : x = n
  · rw [if_pos e, if_pos e, e]; rfl
  · rw [if_neg e, if_neg e]; exact h x
/-- a mark is set -/
theorem WAt.marked {F : Nat → Prop} {b bk bm : Nat} {kf : Int → Option Value} {f : Int → M} {q : List Int} {w : World} (h : WAt F b bk bm kf f q w) (n : Int) (o : M) :
    ∃ w', (Instr.mapUpdate 87 (.map (some bm)) (.int .i64 n) (.int .i64 ((f n).or o).code)).run Try.prog w = .ok () w' ∧ WAt F b bk bm kf (mark1 f n o) q w' ∧ Kp F w w' := by
  obtain ⟨mf, hm, hf⟩ := h.m
  obtain ⟨l1, l3, l4⟩ := h.nb
  obtain ⟨w', h1, h2, h3, h4⟩ := hm.set Try.underlying87 n (.int .i64 ((f n).or o).code)
  have blk : ∀ k, k ≠ bm → w'.heap[k]? = w.heap[k]? := fun k hk => by
    rcases Nat.lt_or_ge k w.heap.size with g | g
    · exact h3.block k g (by simp; exact hk)
    · rw [Array.getElem?_eq_none g, Array.getElem?_eq_none (by omega)]
  refine ⟨w', h1, ⟨(World.cell?_of_block (a := ⟨b, 0, none⟩) (blk b (Ne.symm l4))).trans h.c0, (World.cell?_of_block (a := ⟨b, 1, none⟩) (blk b (Ne.symm l4))).trans h.c1, h.k.kept (blk _ h.ne), ⟨_, h2, set_marks hf⟩, ?_, h.ne, h.nm, h.nk, h.hp⟩, ⟨h3.os, h3.tape, h3.output, h3.size, fun k hk hF => blk k (fun e => h.nm (e ▸ hF))⟩⟩
  obtain ⟨V, hV, hown, hsep⟩ := h.qa.val
  refine ⟨⟨V, (World.cell?_of_block (a := ⟨b, 2, none⟩) (blk b (Ne.symm l4))).trans hV, ?_, hsep⟩, (World.frozen?_of_block (a := ⟨b, 2, none⟩) (blk b (Ne.symm l4))).trans h.qa.fz, h.qa.nf, fun k hk => by rw [h4]; exact h.qa.top k hk, by rw [h4]; exact h.qa.lt⟩
  refine ⟨hown.1, ?_⟩
  rcases hown.2 with h | ⟨g, cap, cur, rfl, hb, hg, hn, hmx, hs, ht⟩
  · exact .inl h
  · exact .inr ⟨g, cap, cur, rfl, hb, by rw [blk g (fun e => (hsep g rfl).1 (.inr (.inr e)))]; exact hg, hn, hmx, hs, ht⟩
theorem WAt.look {F : Nat → Prop} {b bk bm : Nat} {kf : Int → Option Value} {f : Int → M} {q : List Int} {w : World} (h : WAt F b bk bm kf f q w) (n : Int) :
    (Instr.lookup 87 (.map (some bm)) (.int .i64 n) false).run Try.prog w = .ok (.int .i64 (f n).code) w := by
  obtain ⟨mf, hm, hf⟩ := h.m
  have := hm.look Try.underlying87 (zero_int w) n
  rw [hf n] at this
  exact this
theorem WAt.knot {F : Nat → Prop} {b bk bm : Nat} {kf : Int → Option Value} {f : Int → M} {q : List Int} {w : World} (h : WAt F b bk bm kf f q w) (n : Int) :
    (Instr.lookup 86 (.map (some bk)) (.int .i64 n) false).run Try.prog w = .ok ((kf n).getD (.slice none 0 0)) w :=
  h.k.look Try.underlying86 (zero_ints w) n

set_option maxHeartbeats 1600000 in
theorem mark_any (F : Nat → Prop) (b bk bm : Nat) (kf : Int → Option Value) (f : Int → M) (q : List Int) (n : Int) (o : M) (w : World) (h : WAt F b bk bm kf f q w) (hl : q.length ≤ 1000000) (c : Int) (hc : c = o.code) :
    Calls Try.prog 53 #[.pointer (some ⟨b, 0, none⟩), .int .i64 n, .int .i64 c] w fun e w' => e = .returned (.tuple #[]) ∧ (∃ q', WAt F b bk bm kf (mark1 f n o) q' w' ∧ (((f n).z = true ∧ q'.Perm (n :: q)) ∨ ((f n).z = false ∧ q' = q))) ∧ Kp F w w' := by
  have hb1 := h.c1
  have hk1 := h.look n
  have hor := or_code (f n) o
  rw [← hc] at hor
  clear hc
  obtain ⟨w2, s1, s2, s3⟩ := h.marked n o
  have hz := code_z (f n)
  obtain ⟨y, hy⟩ : ∃ y, y = (f n).code := ⟨_, rfl⟩
  obtain ⟨z, hz'⟩ : ∃ z, z = ((f n).or o).code := ⟨_, rfl⟩
  rw [← hy, ← hz'] at hor
  rw [← hz'] at s1
  rw [← hy] at hk1 hz
  have HY := Lib.hid hy
  have HZ := Lib.hid hz'
  clear hy hz'
  by_cases hq : y = 0
  · have hzt := Lib.hid (hz.1 hq)
    subst hq
    clear hz s1 s2 s3 w2
    go_enter Try.func53, Try.ntmps53
    go_wp2_with fail
    refine (hpush_any _ b q n w h.qa h.hp hl).mono ?_
    rintro e w1 ⟨rfl, ⟨q', k1, k2, k3⟩, p⟩
    have h' := h.ps p k1 k3
    have hb1' := h'.c1
    have hk1' := h'.look n
    rw [← HY.out] at hk1'
    obtain ⟨w2, s1, s2, s3⟩ := h'.marked n o
    rw [← HZ.out] at s1
    clear hb1 hk1
    go_wp2_with fail
    go_end0
    exact ⟨rfl, ⟨q', s2, .inl ⟨hzt.out, k2⟩⟩, (Ps.kp p).trans s3⟩
  · have hzf := Lib.hid (show (f n).z = false by cases e : (f n).z with | false => rfl | true => exact absurd (hz.2 e) hq)
    clear hz
    go_enter Try.func53, Try.ntmps53
    go_wp2_with fail
    go_end0
    exact ⟨rfl, ⟨q, s2, .inr ⟨hzf.out, rfl⟩⟩, s3⟩
end Go.Proofs.Ytpaegpbabfohcaa.WalkDag
