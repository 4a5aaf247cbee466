/- PerformanceExactly: a relation that is not weaker than another one parts two performances. -/
import Derived.Test.YthblehinmbgbdaaG39
import Derived.Test.YthblehinmbgbdaaG10
import Derived.Deep.CutBlock
namespace Go.Proofs.Ythblehinmbgbdaa
open Go.RowKit
set_option maxRecDepth 100000

theorem valid_b {k s : Int} {o b : Bool} (w : World) (hb : validR ⟨k, s, o⟩ = b) :
    Calls Try.prog 18 #[.agg #[.int .i64 k, .int .i64 s, .bool o]] w fun e w' => e = .returned (.bool b) ∧ Below w.heap.size w w' := by
  have := valid_any ⟨k, s, o⟩ w
  rw [hb] at this
  exact this
theorem valid_nil : validP [] = true := by decide
theorem valid_one {k : Nat} {t x : Int} (hk : 1 ≤ k ∧ k ≤ 5) (ht : 0 ≤ t ∧ t ≤ 20000) (hx : 0 ≤ x ∧ x ≤ 2) : validP [⟨t, k, x, 0⟩] = true := by
  rw [validP_iff]
  refine ⟨by simp, by rfl, fun e he => ?_⟩
  rw [List.mem_singleton.1 he, okE_iff]
  simp only
  omega
theorem valid_two {k : Nat} {x y : Int} (hk : 1 ≤ k ∧ k ≤ 5) (hx : 0 ≤ x ∧ x ≤ 2) (hy : 0 ≤ y ∧ y ≤ 2) : validP [⟨0, k, x, 0⟩, ⟨0, k, y, 0⟩] = true := by
  rw [validP_iff]
  refine ⟨by simp, ascB_iff.2 (fun i hi => ?_), fun e he => ?_⟩
  · simp at hi
    obtain rfl : i = 0 := by omega
    simp [tmAt]
  simp only [List.mem_cons, List.not_mem_nil, or_false] at he
  rcases he with rfl | rfl <;> (rw [okE_iff]; simp only; omega)
theorem evI_one {k : Nat} {t x : Int} (hk : 1 ≤ k ∧ k ≤ 5) (ht : 0 ≤ t ∧ t ≤ 20000) (hx : 0 ≤ x ∧ x ≤ 2) : EvI [⟨t, k, x, 0⟩] := fun e he => by
  rw [List.mem_singleton.1 he]
  unfold I64
  simp only
  omega
theorem evI_two {k : Nat} {x y : Int} (hk : 1 ≤ k ∧ k ≤ 5) (hx : 0 ≤ x ∧ x ≤ 2) (hy : 0 ≤ y ∧ y ≤ 2) : EvI [⟨0, k, x, 0⟩, ⟨0, k, y, 0⟩] := fun e he => by
  simp only [List.mem_cons, List.not_mem_nil, or_false] at he
  unfold I64
  rcases he with rfl | rfl <;> (simp only; omega)
theorem encode_valid2 {X : List Ev} (h : validP X = true) : ∀ (a : Option Addr) (n c : Nat) {w : World}, Pf w a n X → Calls Try.prog 25 #[.slice a n c] w fun e w' => e = .returned (.tuple #[.string ⟨(encE X).toArray⟩, .int .i64 0]) ∧ Below w.heap.size w w' := by
  intro a n c w hX
  have := encode_b (c := c) hX
  rw [encodeR, if_pos h] at this
  exact this
theorem pf_nil (W : World) : Pf W none 0 [] := ⟨EvS.nil W none, rfl, by omega, fun e he => by cases he⟩
theorem Rl.put {W : World} {g : Nat} {r : Rel} {k s : Int} {o : Bool} (h : Rl W g r) : Rl (((W.setCell ⟨g, 0, none⟩ (.int .i64 k)).setCell ⟨g, 1, none⟩ (.int .i64 s)).setCell ⟨g, 2, none⟩ (.bool o)) g ⟨k, s, o⟩ := by
  have h1 : Rl (W.setCell ⟨g, 0, none⟩ (.int .i64 k)) g ⟨k, r.slack, r.ord⟩ := Go.Joins.block_setCell h _
  have h2 : Rl ((W.setCell ⟨g, 0, none⟩ (.int .i64 k)).setCell ⟨g, 1, none⟩ (.int .i64 s)) g ⟨k, s, r.ord⟩ := Go.Joins.block_setCell h1 _
  exact Go.Joins.block_setCell h2 _
theorem Rl.putO {W : World} {g g' : Nat} {r : Rel} {k s o : Value} (h : Rl W g' r) (hne : g' ≠ g) : Rl (((W.setCell ⟨g, 0, none⟩ k).setCell ⟨g, 1, none⟩ s).setCell ⟨g, 2, none⟩ o) g' r := ((h.set hne).set hne).set hne
theorem below_put {B : Nat} {w W : World} {g : Nat} {k s o : Value} (h : Below B w W) (hg : B ≤ g) : Below B w (((W.setCell ⟨g, 0, none⟩ k).setCell ⟨g, 1, none⟩ s).setCell ⟨g, 2, none⟩ o) := ((h.setCell (p := ⟨g, 0, none⟩) hg _).setCell (p := ⟨g, 1, none⟩) hg _).setCell (p := ⟨g, 2, none⟩) hg _
/-- What the loop over the kinds has found. -/
def KindI (r s : Rel) (j : Nat) (K : Int) : Prop := (K = 0 ∧ ∀ i, 1 ≤ i → i < j → sbit s i = true → sbit r i = true) ∨ ∃ m : Nat, K = m ∧ 1 ≤ m ∧ m ≤ 5 ∧ sbit s m = true ∧ sbit r m = false
def BothI (r s : Rel) (j : Nat) (B : Int) : Prop := (B = 0 ∧ ∀ i, 1 ≤ i → i < j → sbit s i = true → sbit r i = false) ∨ ∃ m : Nat, B = m ∧ 1 ≤ m ∧ m ≤ 5 ∧ sbit s m = true ∧ sbit r m = true
theorem KindI.hit {r s : Rel} {j : Nat} (hj : 1 ≤ j ∧ j ≤ 5) (h1 : sbit s j = true) (h2 : sbit r j = false) : KindI r s (j + 1) (j : Int) := .inr ⟨j, rfl, hj.1, hj.2, h1, h2⟩
theorem KindI.go {r s : Rel} {j : Nat} {K : Int} (h : KindI r s j K) (hn : sbit s j = true → sbit r j = true) : KindI r s (j + 1) K := by
  rcases h with ⟨h1, h2⟩ | h
  · refine .inl ⟨h1, fun i hi hi2 hs => ?_⟩
    by_cases he : i = j
    · subst he; exact hn hs
    · exact h2 i hi (by omega) hs
  · exact .inr h
theorem BothI.hit {r s : Rel} {j : Nat} (hj : 1 ≤ j ∧ j ≤ 5) (h1 : sbit s j = true) (h2 : sbit r j = true) : BothI r s (j + 1) (j : Int) := .inr ⟨j, rfl, hj.1, hj.2, h1, h2⟩
theorem BothI.go {r s : Rel} {j : Nat} {K : Int} (h : BothI r s j K) (hn : sbit s j = true → sbit r j = false) : BothI r s (j + 1) K := by
  rcases h with ⟨h1, h2⟩ | h
  · refine .inl ⟨h1, fun i hi hi2 hs => ?_⟩
    by_cases he : i = j
    · subst he; exact hn hs
    · exact h2 i hi (by omega) hs
  · exact .inr h
theorem both_some {r s : Rel} {B : Int} (hr : validR r = true) (hs : validR s = true) (hw : weaker r s = false) (hsub : ∀ i, 1 ≤ i → i < 6 → sbit s i = true → sbit r i = true) (hB : BothI r s 6 B) : (∃ m : Nat, B = m ∧ 1 ≤ m ∧ m ≤ 5 ∧ sbit s m = true ∧ sbit r m = true) ∧ (s.slack < r.slack ∨ (r.ord = false ∧ s.ord = true)) := by
  obtain ⟨⟨k, k1, k2, k3, k4⟩, h2⟩ := not_weaker hr hs hw (fun k h1 h2 h3 => hsub k h1 (by omega) h3)
  refine ⟨?_, h2⟩
  rcases hB with ⟨-, h3⟩ | h3
  · have := h3 k k1 (by omega) k3
    rw [k4] at this
    cases this
  · exact h3
theorem bit_eq {r : Rel} (hr : validR r = true) (j : Nat) (b : Bool) (hb : sbit r j = b) : ((r.kinds / 2 ^ j).tmod 2 == 1) = b ∧ ((r.kinds / 2 ^ j).tmod 2 == 0) = !b := by
  have h0 := ((validR_iff r).1 hr).1
  have h1 := tmod_two r.kinds h0 j
  refine ⟨by rw [h1, ← hb]; rfl, ?_⟩
  have h2 : (r.kinds / 2 ^ j).tmod 2 = r.kinds / 2 ^ j % 2 := Int.tmod_eq_emod_of_nonneg (Int.ediv_nonneg h0 (Int.pow_nonneg (by omega)))
  rw [h2, ← hb, sbit]
  have h3 := Int.emod_two_eq (r.kinds / 2 ^ j)
  rcases h3 with h3 | h3 <;> rw [h3] <;> decide
attribute [local irreducible] agr relOf weaker validR
set_option maxHeartbeats 8000000 in
theorem exact_any (q t : Rel) (x y z x' y' z' : Int) (raw : Bool) (w : World) (hx : I64 x) (hy : I64 y) (hz : I64 z) (hx' : I64 x') (hy' : I64 y') (hz' : I64 z') :
    Calls Try.prog 9 #[relV q, relV t, .agg #[.int .i64 x, .int .i64 y, .int .i64 z], .agg #[.int .i64 x', .int .i64 y', .int .i64 z'], .bool raw] w fun e w' => e = .returned (.bool true) ∧ Below w.heap.size w w' := by
  obtain ⟨r, hr⟩ : ∃ r, relOf x y z = r := ⟨_, rfl⟩
  obtain ⟨s, hs⟩ : ∃ r, relOf x' y' z' = r := ⟨_, rfl⟩
  have HSA := Lib.hid (fun W => sane_any W)
  have HRL : Hid (∀ W, Calls Try.prog 15 #[.agg #[.int .i64 x, .int .i64 y, .int .i64 z]] W fun e w' => e = .returned (.agg #[.int .i64 r.kinds, .int .i64 r.slack, .bool r.ord]) ∧ Below W.heap.size W w') := Lib.hid (fun W => by
    have := relation_any x y z W hx hy hz
    rw [hr] at this
    exact this)
  have HSR : Hid (∀ W, Calls Try.prog 15 #[.agg #[.int .i64 x', .int .i64 y', .int .i64 z']] W fun e w' => e = .returned (.agg #[.int .i64 s.kinds, .int .i64 s.slack, .bool s.ord]) ∧ Below W.heap.size W w') := Lib.hid (fun W => by
    have := relation_any x' y' z' W hx' hy' hz'
    rw [hs] at this
    exact this)
  clear hx hy hz hx' hy' hz' hr hs
  obtain ⟨rk, rs, ro⟩ := r
  obtain ⟨sk, ss, so⟩ := s
  obtain ⟨qk, qs, qo⟩ := q
  obtain ⟨tk, ts, tO⟩ := t
  simp only [relV] at HRL HSR ⊢
  have HB := Lib.hid (Below.refl w.heap.size w)
  obtain ⟨w01, hw01⟩ : ∃ xx, w.alloc (.cells #[.int .i64 qk, .int .i64 qs, .bool qo] 23) = xx := ⟨_, rfl⟩
  obtain ⟨g5, hg5⟩ : ∃ xx, w.heap.size = xx := ⟨_, rfl⟩
  have hb : Below w.heap.size w w01 := by rw [← hw01]; exact (Below.refl _ _).alloc (Nat.le_refl _) _
  have HQ : Hid (Rl w01 g5 ⟨qk, qs, qo⟩) := Lib.hid (by rw [← hw01, ← hg5]; exact heap_last _ _)
  have HB := Lib.hid (HB.out.trans (hb.mono HB.out.size))
  clear hb
  obtain ⟨w02, hw02⟩ : ∃ xx, w01.alloc (.cells #[.int .i64 tk, .int .i64 ts, .bool tO] 23) = xx := ⟨_, rfl⟩
  obtain ⟨g6, hg6⟩ : ∃ xx, w01.heap.size = xx := ⟨_, rfl⟩
  have hb : Below w01.heap.size w01 w02 := by rw [← hw02]; exact (Below.refl _ _).alloc (Nat.le_refl _) _
  have HT : Hid (Rl w02 g6 ⟨tk, ts, tO⟩) := Lib.hid (by rw [← hw02, ← hg6]; exact heap_last _ _)
  have HB := Lib.hid (HB.out.trans (hb.mono HB.out.size))
  have HQ := Lib.hid (HQ.out.below hb)
  clear hb
  obtain ⟨w03, hw03⟩ : ∃ xx, w02.alloc (.cells #[.int .i64 x, .int .i64 y, .int .i64 z] 24) = xx := ⟨_, rfl⟩
  obtain ⟨g7, hg7⟩ : ∃ xx, w02.heap.size = xx := ⟨_, rfl⟩
  have hb : Below w02.heap.size w02 w03 := by rw [← hw03]; exact (Below.refl _ _).alloc (Nat.le_refl _) _
  have HX : Hid (Tr3 w03 g7 x y z) := Lib.hid (by rw [← hw03, ← hg7]; exact heap_last _ _)
  have HB := Lib.hid (HB.out.trans (hb.mono HB.out.size))
  have HQ := Lib.hid (HQ.out.below hb)
  have HT := Lib.hid (HT.out.below hb)
  clear hb
  obtain ⟨w04, hw04⟩ : ∃ xx, w03.alloc (.cells #[.int .i64 x', .int .i64 y', .int .i64 z'] 24) = xx := ⟨_, rfl⟩
  obtain ⟨g8, hg8⟩ : ∃ xx, w03.heap.size = xx := ⟨_, rfl⟩
  have hb : Below w03.heap.size w03 w04 := by rw [← hw04]; exact (Below.refl _ _).alloc (Nat.le_refl _) _
  have HY : Hid (Tr3 w04 g8 x' y' z') := Lib.hid (by rw [← hw04, ← hg8]; exact heap_last _ _)
  have HB := Lib.hid (HB.out.trans (hb.mono HB.out.size))
  have HQ := Lib.hid (HQ.out.below hb)
  have HT := Lib.hid (HT.out.below hb)
  have HX := Lib.hid (HX.out.below hb)
  clear hb
  go_enter Try.func9, Try.ntmps9
  go_wp2_with fail
  refine (HSA.out _).mono ?_
  rintro e w1 ⟨rfl, hb⟩
  have HB := Lib.hid (HB.out.trans (hb.mono HB.out.size))
  have HQ := Lib.hid (HQ.out.below hb)
  have HT := Lib.hid (HT.out.below hb)
  have HX := Lib.hid (HX.out.below hb)
  have HY := Lib.hid (HY.out.below hb)
  clear hb
  clear hw01 hg5 hw02 hg6 hw03 hg7 hw04 hg8
  obtain ⟨x0, x1, x2⟩ := HX.out.cells
  go_wp2_with fail
  refine (HRL.out _).mono ?_
  rintro e w2 ⟨rfl, hb⟩
  have HB := Lib.hid (HB.out.trans (hb.mono HB.out.size))
  have HQ := Lib.hid (HQ.out.below hb)
  have HT := Lib.hid (HT.out.below hb)
  have HX := Lib.hid (HX.out.below hb)
  have HY := Lib.hid (HY.out.below hb)
  clear hb
  clear x0 x1 x2
  have HB5 := Lib.hid HB.out
  have HQ5 := Lib.hid HQ.out.lt
  have HT5 := Lib.hid HT.out.lt
  obtain ⟨w3, hw3⟩ : ∃ xx, w2.alloc (.cells #[.int .i64 rk, .int .i64 rs, .bool ro] 23) = xx := ⟨_, rfl⟩
  obtain ⟨g12, hg12⟩ : ∃ xx, w2.heap.size = xx := ⟨_, rfl⟩
  have hb : Below w2.heap.size w2 w3 := by rw [← hw3]; exact (Below.refl _ _).alloc (Nat.le_refl _) _
  have HR : Hid (Rl w3 g12 ⟨rk, rs, ro⟩) := Lib.hid (by rw [← hw3, ← hg12]; exact heap_last _ _)
  have HB := Lib.hid (HB.out.trans (hb.mono HB.out.size))
  have HQ := Lib.hid (HQ.out.below hb)
  have HT := Lib.hid (HT.out.below hb)
  have HX := Lib.hid (HX.out.below hb)
  have HY := Lib.hid (HY.out.below hb)
  clear hb
  have HN1 : Hid (w.heap.size ≤ g12 ∧ g5 ≠ g12 ∧ g6 ≠ g12) := Lib.hid (by
    have h1 := HB5.out.size
    have h2 := HQ5.out
    have h3 := HT5.out
    rw [← hg12]
    refine ⟨h1, by omega, by omega⟩)
  obtain ⟨x0, x1, x2⟩ := HY.out.cells
  go_wp2_with fail
  refine (HSR.out _).mono ?_
  rintro e w4 ⟨rfl, hb⟩
  have HB := Lib.hid (HB.out.trans (hb.mono HB.out.size))
  have HQ := Lib.hid (HQ.out.below hb)
  have HT := Lib.hid (HT.out.below hb)
  have HX := Lib.hid (HX.out.below hb)
  have HY := Lib.hid (HY.out.below hb)
  have HR := Lib.hid (HR.out.below hb)
  clear hb
  clear x0 x1 x2 hw3 hg12
  have HB6 := Lib.hid HB.out
  have HR5 := Lib.hid HR.out.lt
  have HT6 := Lib.hid HT.out.lt
  have HQ6 := Lib.hid HQ.out.lt
  obtain ⟨w5, hw5⟩ : ∃ xx, w4.alloc (.cells #[.int .i64 sk, .int .i64 ss, .bool so] 23) = xx := ⟨_, rfl⟩
  obtain ⟨g13, hg13⟩ : ∃ xx, w4.heap.size = xx := ⟨_, rfl⟩
  have hb : Below w4.heap.size w4 w5 := by rw [← hw5]; exact (Below.refl _ _).alloc (Nat.le_refl _) _
  have HS : Hid (Rl w5 g13 ⟨sk, ss, so⟩) := Lib.hid (by rw [← hw5, ← hg13]; exact heap_last _ _)
  have HB := Lib.hid (HB.out.trans (hb.mono HB.out.size))
  have HQ := Lib.hid (HQ.out.below hb)
  have HT := Lib.hid (HT.out.below hb)
  have HX := Lib.hid (HX.out.below hb)
  have HY := Lib.hid (HY.out.below hb)
  have HR := Lib.hid (HR.out.below hb)
  clear hb
  have HN2 : Hid (w.heap.size ≤ g13 ∧ g12 ≠ g13 ∧ g5 ≠ g13 ∧ g6 ≠ g13) := Lib.hid (by
    have h1 := HB6.out.size
    have h2 := HR5.out
    have h3 := HT6.out
    have h4 := HQ6.out
    rw [← hg13]
    refine ⟨h1, by omega, by omega, by omega⟩)
  go_upto_if 28 with fail
  clear hw5 hg13
  go_cut [12] (fun v wx => v = .pointer (some ⟨g12, 0, none⟩) ∧ ∃ r s : Rel, Rl wx g12 r ∧ Rl wx g13 s ∧ Below w.heap.size w wx)
  case first =>
    cases raw with
    | false =>
      go_wp2_with fail
      go_meet
      exact ⟨rfl, _, _, HR.out, HS.out, HB.out⟩
    | true =>
    obtain ⟨x0, x1, x2⟩ := HQ.out.cells
    simp only at x0 x1 x2
    have f0 := HR.out.frozen 0
    have f1 := HR.out.frozen 1
    have f2 := HR.out.frozen 2
    obtain ⟨y0, y1, y2⟩ := HR.out.cells
    simp only at y0 y1 y2
    go_upto_region 6 with fail
    clear x0 x1 x2 f0 f1 f2 y0 y1 y2
    obtain ⟨p1, hp1⟩ : ∃ xx, ((w5.setCell ⟨g12, 0, none⟩ (.int .i64 qk)).setCell ⟨g12, 1, none⟩ (.int .i64 qs)).setCell ⟨g12, 2, none⟩ (.bool qo) = xx := ⟨_, rfl⟩
    have HR : Hid (Rl p1 g12 ⟨qk, qs, qo⟩) := Lib.hid (by rw [← hp1]; exact HR.out.put)
    have HS : Hid (Rl p1 g13 ⟨sk, ss, so⟩) := Lib.hid (by rw [← hp1]; exact HS.out.putO (Ne.symm HN2.out.2.1))
    have HT : Hid (Rl p1 g6 ⟨tk, ts, tO⟩) := Lib.hid (by rw [← hp1]; exact HT.out.putO HN1.out.2.2)
    have HB : Hid (Below w.heap.size w p1) := Lib.hid (by rw [← hp1]; exact below_put HB.out HN1.out.1)
    rw [hp1]
    clear hp1
    obtain ⟨x0, x1, x2⟩ := HT.out.cells
    simp only at x0 x1 x2
    have f0 := HS.out.frozen 0
    have f1 := HS.out.frozen 1
    have f2 := HS.out.frozen 2
    obtain ⟨y0, y1, y2⟩ := HS.out.cells
    simp only at y0 y1 y2
    go_wp2_with fail
    clear x0 x1 x2 f0 f1 f2 y0 y1 y2
    obtain ⟨p2, hp2⟩ : ∃ xx, ((p1.setCell ⟨g13, 0, none⟩ (.int .i64 tk)).setCell ⟨g13, 1, none⟩ (.int .i64 ts)).setCell ⟨g13, 2, none⟩ (.bool tO) = xx := ⟨_, rfl⟩
    have HS : Hid (Rl p2 g13 ⟨tk, ts, tO⟩) := Lib.hid (by rw [← hp2]; exact HS.out.put)
    have HR : Hid (Rl p2 g12 ⟨qk, qs, qo⟩) := Lib.hid (by rw [← hp2]; exact HR.out.putO HN2.out.2.1)
    have HB : Hid (Below w.heap.size w p2) := Lib.hid (by rw [← hp2]; exact below_put HB.out HN2.out.1)
    rw [hp2]
    clear hp2
    go_meet
    exact ⟨rfl, _, _, HR.out, HS.out, HB.out⟩
  case rest =>
    obtain ⟨rfl, r, s, hr, hs, hb⟩ := hcut
    have HR := Lib.hid hr
    have HS := Lib.hid hs
    have HB := Lib.hid hb
    clear hr hs hb HQ HT HX HY HN1 HN2 HRL HSR
    obtain ⟨vr, hvr⟩ : ∃ b, validR r = b := ⟨_, rfl⟩
    obtain ⟨vs, hvs⟩ : ∃ b, validR s = b := ⟨_, rfl⟩
    obtain ⟨wv, hwv⟩ : ∃ b, weaker r s = b := ⟨_, rfl⟩
    obtain ⟨rk, rs, ro⟩ := r
    obtain ⟨sk, ss, so⟩ := s
    have HVR := Lib.hid hvr
    have HVS := Lib.hid hvs
    have HWV := Lib.hid hwv
    clear hvr hvs hwv
    obtain ⟨x0, x1, x2⟩ := HR.out.cells
    simp only at x0 x1 x2
    obtain ⟨y0, y1, y2⟩ := HS.out.cells
    simp only at y0 y1 y2
    go_wp2_with fail
    refine (valid_b _ HVR.out).mono ?_
    rintro e v1 ⟨rfl, hb⟩
    have HB := Lib.hid (HB.out.trans (hb.mono HB.out.size))
    have HR := Lib.hid (HR.out.below hb)
    have HS := Lib.hid (HS.out.below hb)
    clear hb
    clear x0 x1 x2 y0 y1 y2
    cases vr with
    | false =>
      go_wp2_with fail
      go_ret
      exact ⟨rfl, HB.out⟩
    | true =>
    obtain ⟨x0, x1, x2⟩ := HR.out.cells
    simp only at x0 x1 x2
    obtain ⟨y0, y1, y2⟩ := HS.out.cells
    simp only at y0 y1 y2
    go_wp2_with fail
    refine (valid_b _ HVS.out).mono ?_
    rintro e v2 ⟨rfl, hb⟩
    have HB := Lib.hid (HB.out.trans (hb.mono HB.out.size))
    have HR := Lib.hid (HR.out.below hb)
    have HS := Lib.hid (HS.out.below hb)
    clear hb
    clear x0 x1 x2 y0 y1 y2
    cases vs with
    | false =>
      go_wp2_with fail
      go_ret
      exact ⟨rfl, HB.out⟩
    | true =>
    obtain ⟨x0, x1, x2⟩ := HR.out.cells
    simp only at x0 x1 x2
    obtain ⟨y0, y1, y2⟩ := HS.out.cells
    simp only at y0 y1 y2
    go_wp2_with fail
    refine (weaker_b _ HWV.out).mono ?_
    rintro e v3 ⟨rfl, hb⟩
    have HB := Lib.hid (HB.out.trans (hb.mono HB.out.size))
    have HR := Lib.hid (HR.out.below hb)
    have HS := Lib.hid (HS.out.below hb)
    clear hb
    clear x0 x1 x2 y0 y1 y2
    cases wv with
    | true =>
      go_wp2_with fail
      go_ret
      exact ⟨rfl, HB.out⟩
    | false =>
    have HRV := Lib.hid ((validR_iff _).1 HVR.out)
    have HSV := Lib.hid ((validR_iff _).1 HVS.out)
    go_wp2_with fail
    go_loopw [14, 15, 16] (fun kd bt k wx => ∃ (j : Nat) (K B : Int), 1 ≤ j ∧ j ≤ 6 ∧ k = .int .i64 j ∧ kd = .int .i64 K ∧ bt = .int .i64 B ∧ KindI ⟨rk, rs, ro⟩ ⟨sk, ss, so⟩ j K ∧ BothI ⟨rk, rs, ro⟩ ⟨sk, ss, so⟩ j B ∧ v3 = wx) (fun _ _ k _ => 6 - (intOf k).toNat)
    case atStart => exact ⟨1, 0, 0, by omega, by omega, rfl, rfl, rfl, .inl ⟨rfl, fun i h1 h2 => by omega⟩, .inl ⟨rfl, fun i h1 h2 => by omega⟩, rfl⟩
    case round =>
      obtain ⟨j, K, B, hj1, hj6, rfl, rfl, rfl, hki, hbi, rfl⟩ := hrel
      have HKI := Lib.hid hki
      have HBI := Lib.hid hbi
      clear hki hbi
      by_cases hj : j ≤ 5
      · obtain ⟨br, hbr⟩ : ∃ b, sbit ⟨rk, rs, ro⟩ j = b := ⟨_, rfl⟩
        obtain ⟨bs, hbs⟩ : ∃ b, sbit ⟨sk, ss, so⟩ j = b := ⟨_, rfl⟩
        obtain ⟨r1, r0⟩ := bit_eq HVR.out j br hbr
        obtain ⟨s1, s0⟩ := bit_eq HVS.out j bs hbs
        simp only at r1 r0 s1 s0
        have HBR := Lib.hid hbr
        have HBS := Lib.hid hbs
        clear hbr hbs
        have d1 : decide ((j : Int) ≤ 5) = true := by rw [decide_eq_true_iff]; omega
        have d2 : decide (j ≤ 5) = true := by rw [decide_eq_true_iff]; omega
        have j0 : (0 : Int) ≤ (j : Int) := by omega
        obtain ⟨x0, x1, x2⟩ := HR.out.cells
        simp only at x0 x1 x2
        obtain ⟨y0, y1, y2⟩ := HS.out.cells
        simp only at y0 y1 y2
        cases bs with
        | false =>
          have HK2 := Lib.hid (HKI.out.go (fun h => by rw [HBS.out] at h; cases h))
          have HB2 := Lib.hid (HBI.out.go (fun h => by rw [HBS.out] at h; cases h))
          go_wp2_with fail
          exact ⟨⟨j + 1, K, B, by omega, by omega, by push_cast; rfl, rfl, rfl, HK2.out, HB2.out, by first | rfl | trivial⟩, by simp [intOf]; omega⟩
        | true =>
          cases br with
          | false =>
            have HK2 := Lib.hid (KindI.hit ⟨hj1, hj⟩ HBS.out HBR.out)
            have HB2 := Lib.hid (HBI.out.go (fun _ => HBR.out))
            go_wp2_with fail
            exact ⟨⟨j + 1, (j : Int), B, by omega, by omega, by push_cast; rfl, rfl, rfl, HK2.out, HB2.out, by first | rfl | trivial⟩, by simp [intOf]; omega⟩
          | true =>
            have HK2 := Lib.hid (HKI.out.go (fun _ => HBR.out))
            have HB2 := Lib.hid (BothI.hit ⟨hj1, hj⟩ HBS.out HBR.out)
            go_wp2_with fail
            exact ⟨⟨j + 1, K, (j : Int), by omega, by omega, by push_cast; rfl, rfl, rfl, HK2.out, HB2.out, by first | rfl | trivial⟩, by simp [intOf]; omega⟩
      · obtain rfl : j = 6 := by omega
        have d1 : decide ((6 : Int) ≤ 5) = false := by decide
        rcases HKI.out with ⟨rfl, hsub⟩ | ⟨m, rfl, m1, m5, ms, mr⟩
        · obtain ⟨⟨m, rfl, m1, m5, ms, mr⟩, hor⟩ := both_some HVR.out HVS.out HWV.out hsub HBI.out
          have HOR := Lib.hid hor
          clear hor
          have hm0 : decide ((0 : Int) < 0) = false := by decide
          by_cases hsl : ss < rs
          · have hd : decide (ss < rs) = true := decide_eq_true hsl
            obtain ⟨e1, e2⟩ := exact_slack HVR.out HVS.out ⟨m1, m5⟩ ms mr hsl
            have HE1 := Lib.hid e1
            have HE2 := Lib.hid e2
            clear e1 e2
            have HLA := Lib.hid (encode_valid2 (X := [⟨0, m, 0, 0⟩]) (valid_one ⟨m1, m5⟩ (by omega) (by omega)))
            have HLB := Lib.hid (encode_valid2 (X := [⟨rs, m, 0, 0⟩]) (valid_one ⟨m1, m5⟩ (by have := HRV.out; first | omega | (simp only at this; omega)) (by omega)))
            obtain ⟨x0, x1, x2⟩ := HR.out.cells
            simp only at x0 x1 x2
            obtain ⟨y0, y1, y2⟩ := HS.out.cells
            simp only at y0 y1 y2
            obtain ⟨a1, ha1⟩ : ∃ xx, v3.alloc (.cells #[.int .i64 0, .int .i64 m, .int .i64 0, .int .i64 0] 52) = xx := ⟨_, rfl⟩
            obtain ⟨ga, hga⟩ : ∃ xx, v3.heap.size = xx := ⟨_, rfl⟩
            have hb : Below v3.heap.size v3 a1 := by rw [← ha1]; exact (Below.refl _ _).alloc (Nat.le_refl _) _
            have HPA : Hid (Pf a1 (some ⟨ga, 0, none⟩) 1 [⟨0, m, 0, 0⟩]) := Lib.hid (by rw [← ha1, ← hga]; exact ⟨evs_blockL (heap_last _ _) (by rfl), rfl, by omega, evI_one ⟨m1, m5⟩ (by omega) (by omega)⟩)
            have HB := Lib.hid (HB.out.trans (hb.mono HB.out.size))
            have HR := Lib.hid (HR.out.below hb)
            have HS := Lib.hid (HS.out.below hb)
            clear hb
            obtain ⟨p0, p1, p2⟩ := HR.out.cells
            simp only at p0 p1 p2
            obtain ⟨a2, ha2⟩ : ∃ xx, a1.alloc (.cells #[.int .i64 rs, .int .i64 m, .int .i64 0, .int .i64 0] 52) = xx := ⟨_, rfl⟩
            obtain ⟨gb, hgb⟩ : ∃ xx, a1.heap.size = xx := ⟨_, rfl⟩
            have hb : Below a1.heap.size a1 a2 := by rw [← ha2]; exact (Below.refl _ _).alloc (Nat.le_refl _) _
            have HPB : Hid (Pf a2 (some ⟨gb, 0, none⟩) 1 [⟨rs, m, 0, 0⟩]) := Lib.hid (by rw [← ha2, ← hgb]; exact ⟨evs_blockL (heap_last _ _) (by rfl), rfl, by omega, evI_one ⟨m1, m5⟩ (by have := HRV.out; first | omega | (simp only at this; omega)) (by omega)⟩)
            have HB := Lib.hid (HB.out.trans (hb.mono HB.out.size))
            have HR := Lib.hid (HR.out.below hb)
            have HS := Lib.hid (HS.out.below hb)
            have HPA := Lib.hid (HPA.out.below hb)
            clear hb
            go_wp2_with fail
            refine (HLA.out _ _ _ HPA.out).mono ?_
            rintro e u1 ⟨rfl, hb⟩
            have HB := Lib.hid (HB.out.trans (hb.mono HB.out.size))
            have HR := Lib.hid (HR.out.below hb)
            have HS := Lib.hid (HS.out.below hb)
            have HPA := Lib.hid (HPA.out.below hb)
            have HPB := Lib.hid (HPB.out.below hb)
            clear hb
            clear x0 x1 x2 y0 y1 y2 ha1 hga p0 p1 p2 ha2 hgb
            go_wp2_with fail
            refine (HLB.out _ _ _ HPB.out).mono ?_
            rintro e u2 ⟨rfl, hb⟩
            have HB := Lib.hid (HB.out.trans (hb.mono HB.out.size))
            have HR := Lib.hid (HR.out.below hb)
            have HS := Lib.hid (HS.out.below hb)
            have HPA := Lib.hid (HPA.out.below hb)
            have HPB := Lib.hid (HPB.out.below hb)
            clear hb
            obtain ⟨x0, x1, x2⟩ := HR.out.cells
            simp only at x0 x1 x2
            obtain ⟨y0, y1, y2⟩ := HS.out.cells
            simp only at y0 y1 y2
            go_wp2_with fail
            refine (agree_b HPA.out HPB.out HE1.out).mono ?_
            rintro e u3 ⟨rfl, hb⟩
            have HB := Lib.hid (HB.out.trans (hb.mono HB.out.size))
            have HR := Lib.hid (HR.out.below hb)
            have HS := Lib.hid (HS.out.below hb)
            have HPA := Lib.hid (HPA.out.below hb)
            have HPB := Lib.hid (HPB.out.below hb)
            clear hb
            clear x0 x1 x2 y0 y1 y2
            obtain ⟨x0, x1, x2⟩ := HR.out.cells
            simp only at x0 x1 x2
            obtain ⟨y0, y1, y2⟩ := HS.out.cells
            simp only at y0 y1 y2
            go_wp2_with fail
            refine (agree_b HPA.out HPB.out HE2.out).mono ?_
            rintro e u4 ⟨rfl, hb⟩
            have HB := Lib.hid (HB.out.trans (hb.mono HB.out.size))
            have HR := Lib.hid (HR.out.below hb)
            have HS := Lib.hid (HS.out.below hb)
            have HPA := Lib.hid (HPA.out.below hb)
            have HPB := Lib.hid (HPB.out.below hb)
            clear hb
            go_wp2_with fail
            go_ret
            exact ⟨rfl, HB.out⟩
          · have hd : decide (ss < rs) = false := decide_eq_false hsl
            have HOO : Hid (ro = false ∧ so = true) := Lib.hid (HOR.out.resolve_left hsl)
            obtain ⟨e1, e2⟩ := exact_order HVR.out HVS.out ⟨m1, m5⟩ ms mr HOO.out.1 HOO.out.2
            have HE1 := Lib.hid e1
            have HE2 := Lib.hid e2
            clear e1 e2
            have HLA := Lib.hid (encode_valid2 (X := [⟨0, m, 1, 0⟩, ⟨0, m, 2, 0⟩]) (valid_two ⟨m1, m5⟩ (by omega) (by omega)))
            have HLB := Lib.hid (encode_valid2 (X := [⟨0, m, 2, 0⟩, ⟨0, m, 1, 0⟩]) (valid_two ⟨m1, m5⟩ (by omega) (by omega)))
            obtain ⟨x0, x1, x2⟩ := HR.out.cells
            simp only at x0 x1 x2
            obtain ⟨y0, y1, y2⟩ := HS.out.cells
            simp only at y0 y1 y2
            obtain ⟨a1, ha1⟩ : ∃ xx, v3.alloc (.cells #[.int .i64 0, .int .i64 m, .int .i64 1, .int .i64 0, .int .i64 0, .int .i64 m, .int .i64 2, .int .i64 0] 52) = xx := ⟨_, rfl⟩
            obtain ⟨ga, hga⟩ : ∃ xx, v3.heap.size = xx := ⟨_, rfl⟩
            have hb : Below v3.heap.size v3 a1 := by rw [← ha1]; exact (Below.refl _ _).alloc (Nat.le_refl _) _
            have HPA : Hid (Pf a1 (some ⟨ga, 0, none⟩) 2 [⟨0, m, 1, 0⟩, ⟨0, m, 2, 0⟩]) := Lib.hid (by rw [← ha1, ← hga]; exact ⟨evs_blockL (heap_last _ _) (by rfl), rfl, by omega, evI_two ⟨m1, m5⟩ (by omega) (by omega)⟩)
            have HB := Lib.hid (HB.out.trans (hb.mono HB.out.size))
            have HR := Lib.hid (HR.out.below hb)
            have HS := Lib.hid (HS.out.below hb)
            clear hb
            obtain ⟨p0, p1, p2⟩ := HR.out.cells
            simp only at p0 p1 p2
            obtain ⟨a2, ha2⟩ : ∃ xx, a1.alloc (.cells #[.int .i64 0, .int .i64 m, .int .i64 2, .int .i64 0, .int .i64 0, .int .i64 m, .int .i64 1, .int .i64 0] 52) = xx := ⟨_, rfl⟩
            obtain ⟨gb, hgb⟩ : ∃ xx, a1.heap.size = xx := ⟨_, rfl⟩
            have hb : Below a1.heap.size a1 a2 := by rw [← ha2]; exact (Below.refl _ _).alloc (Nat.le_refl _) _
            have HPB : Hid (Pf a2 (some ⟨gb, 0, none⟩) 2 [⟨0, m, 2, 0⟩, ⟨0, m, 1, 0⟩]) := Lib.hid (by rw [← ha2, ← hgb]; exact ⟨evs_blockL (heap_last _ _) (by rfl), rfl, by omega, evI_two ⟨m1, m5⟩ (by omega) (by omega)⟩)
            have HB := Lib.hid (HB.out.trans (hb.mono HB.out.size))
            have HR := Lib.hid (HR.out.below hb)
            have HS := Lib.hid (HS.out.below hb)
            have HPA := Lib.hid (HPA.out.below hb)
            clear hb
            go_wp2_with fail
            refine (HLA.out _ _ _ HPA.out).mono ?_
            rintro e u1 ⟨rfl, hb⟩
            have HB := Lib.hid (HB.out.trans (hb.mono HB.out.size))
            have HR := Lib.hid (HR.out.below hb)
            have HS := Lib.hid (HS.out.below hb)
            have HPA := Lib.hid (HPA.out.below hb)
            have HPB := Lib.hid (HPB.out.below hb)
            clear hb
            clear x0 x1 x2 y0 y1 y2 ha1 hga p0 p1 p2 ha2 hgb
            go_wp2_with fail
            refine (HLB.out _ _ _ HPB.out).mono ?_
            rintro e u2 ⟨rfl, hb⟩
            have HB := Lib.hid (HB.out.trans (hb.mono HB.out.size))
            have HR := Lib.hid (HR.out.below hb)
            have HS := Lib.hid (HS.out.below hb)
            have HPA := Lib.hid (HPA.out.below hb)
            have HPB := Lib.hid (HPB.out.below hb)
            clear hb
            obtain ⟨x0, x1, x2⟩ := HR.out.cells
            simp only at x0 x1 x2
            obtain ⟨y0, y1, y2⟩ := HS.out.cells
            simp only at y0 y1 y2
            go_wp2_with fail
            refine (agree_b HPA.out HPB.out HE1.out).mono ?_
            rintro e u3 ⟨rfl, hb⟩
            have HB := Lib.hid (HB.out.trans (hb.mono HB.out.size))
            have HR := Lib.hid (HR.out.below hb)
            have HS := Lib.hid (HS.out.below hb)
            have HPA := Lib.hid (HPA.out.below hb)
            have HPB := Lib.hid (HPB.out.below hb)
            clear hb
            clear x0 x1 x2 y0 y1 y2
            obtain ⟨x0, x1, x2⟩ := HR.out.cells
            simp only at x0 x1 x2
            obtain ⟨y0, y1, y2⟩ := HS.out.cells
            simp only at y0 y1 y2
            go_wp2_with fail
            refine (agree_b HPA.out HPB.out HE2.out).mono ?_
            rintro e u4 ⟨rfl, hb⟩
            have HB := Lib.hid (HB.out.trans (hb.mono HB.out.size))
            have HR := Lib.hid (HR.out.below hb)
            have HS := Lib.hid (HS.out.below hb)
            have HPA := Lib.hid (HPA.out.below hb)
            have HPB := Lib.hid (HPB.out.below hb)
            clear hb
            go_wp2_with fail
            go_ret
            exact ⟨rfl, HB.out⟩
        · have hm0 : decide ((0 : Int) < (m : Int)) = true := by rw [decide_eq_true_iff]; omega
          have hm1 : decide (0 < m) = true := by rw [decide_eq_true_iff]; omega
          obtain ⟨e1, e2⟩ := exact_kind HVR.out HVS.out ⟨m1, m5⟩ ms mr
          have HE1 := Lib.hid e1
          have HE2 := Lib.hid e2
          clear e1 e2
          have HLA := Lib.hid (encode_valid2 (X := [⟨0, m, 0, 0⟩]) (valid_one ⟨m1, m5⟩ (by omega) (by omega)))
          have HLB := Lib.hid (encode_valid2 (X := []) (valid_nil))
          obtain ⟨x0, x1, x2⟩ := HR.out.cells
          simp only at x0 x1 x2
          obtain ⟨y0, y1, y2⟩ := HS.out.cells
          simp only at y0 y1 y2
          obtain ⟨a1, ha1⟩ : ∃ xx, v3.alloc (.cells #[.int .i64 0, .int .i64 m, .int .i64 0, .int .i64 0] 52) = xx := ⟨_, rfl⟩
          obtain ⟨ga, hga⟩ : ∃ xx, v3.heap.size = xx := ⟨_, rfl⟩
          have hb : Below v3.heap.size v3 a1 := by rw [← ha1]; exact (Below.refl _ _).alloc (Nat.le_refl _) _
          have HPA : Hid (Pf a1 (some ⟨ga, 0, none⟩) 1 [⟨0, m, 0, 0⟩]) := Lib.hid (by rw [← ha1, ← hga]; exact ⟨evs_blockL (heap_last _ _) (by rfl), rfl, by omega, evI_one ⟨m1, m5⟩ (by omega) (by omega)⟩)
          have HB := Lib.hid (HB.out.trans (hb.mono HB.out.size))
          have HR := Lib.hid (HR.out.below hb)
          have HS := Lib.hid (HS.out.below hb)
          clear hb
          have HPN := Lib.hid (pf_nil a1)
          go_wp2_with fail
          refine (HLA.out _ _ _ HPA.out).mono ?_
          rintro e u1 ⟨rfl, hb⟩
          have HB := Lib.hid (HB.out.trans (hb.mono HB.out.size))
          have HR := Lib.hid (HR.out.below hb)
          have HS := Lib.hid (HS.out.below hb)
          have HPA := Lib.hid (HPA.out.below hb)
          have HPN := Lib.hid (HPN.out.below hb)
          clear hb
          clear x0 x1 x2 y0 y1 y2 ha1 hga
          go_wp2_with fail
          refine (HLB.out _ _ _ HPN.out).mono ?_
          rintro e u2 ⟨rfl, hb⟩
          have HB := Lib.hid (HB.out.trans (hb.mono HB.out.size))
          have HR := Lib.hid (HR.out.below hb)
          have HS := Lib.hid (HS.out.below hb)
          have HPA := Lib.hid (HPA.out.below hb)
          have HPN := Lib.hid (HPN.out.below hb)
          clear hb
          obtain ⟨x0, x1, x2⟩ := HR.out.cells
          simp only at x0 x1 x2
          obtain ⟨y0, y1, y2⟩ := HS.out.cells
          simp only at y0 y1 y2
          go_wp2_with fail
          refine (agree_b HPA.out HPN.out HE1.out).mono ?_
          rintro e u3 ⟨rfl, hb⟩
          have HB := Lib.hid (HB.out.trans (hb.mono HB.out.size))
          have HR := Lib.hid (HR.out.below hb)
          have HS := Lib.hid (HS.out.below hb)
          have HPA := Lib.hid (HPA.out.below hb)
          have HPN := Lib.hid (HPN.out.below hb)
          clear hb
          clear x0 x1 x2 y0 y1 y2
          obtain ⟨x0, x1, x2⟩ := HR.out.cells
          simp only at x0 x1 x2
          obtain ⟨y0, y1, y2⟩ := HS.out.cells
          simp only at y0 y1 y2
          go_wp2_with fail
          refine (agree_b HPA.out HPN.out HE2.out).mono ?_
          rintro e u4 ⟨rfl, hb⟩
          have HB := Lib.hid (HB.out.trans (hb.mono HB.out.size))
          have HR := Lib.hid (HR.out.below hb)
          have HS := Lib.hid (HS.out.below hb)
          have HPA := Lib.hid (HPA.out.below hb)
          have HPN := Lib.hid (HPN.out.below hb)
          clear hb
          go_wp2_with fail
          go_ret
          exact ⟨rfl, HB.out⟩
end Go.Proofs.Ythblehinmbgbdaa
