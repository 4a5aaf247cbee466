/- PerformanceWeaker: what agrees under a relation agrees under every weaker one. -/
import Derived.Test.YthblehinmbgbdaaG36
namespace Go.Proofs.Ythblehinmbgbdaa
open Go.RowKit
set_option maxRecDepth 100000

theorem and_nat : ∀ k l : Fin 63, bits .and .i64 (l.val : Int) (k.val : Int) = ((l.val &&& k.val : Nat) : Int) := by decide +kernel
/-- What the statement says, in plain words. -/
theorem weak_facts {r s : Rel} (A B : List Ev) (hr : validR r = true) (hs : validR s = true) : ∃ m : Int, bits .and .i64 s.kinds r.kinds = m ∧ (weaker r s = true → agr r A B = true → agr s A B = true) ∧ weaker r ⟨m, max r.slack s.slack, s.ord && r.ord⟩ = true ∧ weaker ⟨m, max r.slack s.slack, s.ord && r.ord⟩ ⟨m, max r.slack s.slack, s.ord && r.ord⟩ = true ∧ (agr r A B = true → agr ⟨m, max r.slack s.slack, s.ord && r.ord⟩ A B = true) := by
  have hrv := (validR_iff r).1 hr
  have hsv := (validR_iff s).1 hs
  have hb := and_nat ⟨r.kinds.toNat, by omega⟩ ⟨s.kinds.toNat, by omega⟩
  simp only [Int.toNat_of_nonneg hrv.1, Int.toNat_of_nonneg hsv.1] at hb
  obtain ⟨h1, h2⟩ := weaker_meet hr hs rfl
  exact ⟨_, hb, fun h => agr_weaker h, h1, h2, fun h => agr_weaker h1 h⟩
theorem weaker_b {k s k' s' : Int} {o o' b : Bool} (w : World) (hb : weaker ⟨k, s, o⟩ ⟨k', s', o'⟩ = b) :
    Calls Try.prog 16 #[.agg #[.int .i64 k, .int .i64 s, .bool o], .agg #[.int .i64 k', .int .i64 s', .bool o']] w fun e w' => e = .returned (.bool b) ∧ Below w.heap.size w w' := by
  have := weaker_any ⟨k, s, o⟩ ⟨k', s', o'⟩ w
  rw [hb] at this
  exact this
/-- A store into a relation leaves performances. -/
theorem Pf.set {W : World} {g i : Nat} {r : Rel} {v : Value} {a : Option Addr} {n : Nat} {X : List Ev} (h : Pf W a n X) (hr : Rl W g r) : Pf (W.setCell ⟨g, i, none⟩ v) a n X := by
  refine ⟨?_, h.l, h.b, h.i⟩
  intro j x hj
  obtain ⟨b, o, ha, hb, h0, h1, h2, h3⟩ := h.s j x hj
  have hne : b ≠ g := by
    rintro rfl
    rw [Lib.cell_of_heap hr] at h3
    have := (Array.getElem?_eq_some_iff.1 h3).1
    simp at this
    omega
  have hg := grown_set W g i v
  have key : ∀ q, (W.setCell ⟨g, i, none⟩ v).cell? ⟨b, q, none⟩ = W.cell? ⟨b, q, none⟩ := fun q => World.cell?_of_block (hg.block b hb (by simpa using hne))
  exact ⟨b, o, ha, Nat.lt_of_lt_of_le hb hg.size, (key _).trans h0, (key _).trans h1, (key _).trans h2, (key _).trans h3⟩
theorem Rl.set {W : World} {g g' i : Nat} {r : Rel} {v : Value} (h : Rl W g' r) (hne : g' ≠ g) : Rl (W.setCell ⟨g, i, none⟩ v) g' r := ((grown_set W g i v).block g' (Array.getElem?_eq_some_iff.1 h).1 (by simpa using hne)).trans h
theorem Rl.lt {W : World} {g : Nat} {r : Rel} (h : Rl W g r) : g < W.heap.size := (Array.getElem?_eq_some_iff.1 h).1
theorem Rl.frozen {W : World} {g : Nat} {r : Rel} (h : Rl W g r) (i : Nat) : W.frozen? ⟨g, i, none⟩ = false := Lib.frozen_of_heap h i
attribute [local irreducible] agr relOf someOf nearOf weaker
set_option maxHeartbeats 8000000 in
theorem weakLaw_any (al : Option Addr) (cl : Nat) (Q : List Qd) (a1 : Option Addr) (c1 : Nat) (N1 : List Int) (x y z x' y' z' : Int) (w : World) (hQ : QdS w al Q) (hQI : QdI Q) (hQl : Q.length ≤ 9223372036854775807) (hN1 : InS w a1 N1) (hI1 : InI N1) (hl1 : N1.length ≤ 9223372036854775807) (hx : I64 x) (hy : I64 y) (hz : I64 z) (hx' : I64 x') (hy' : I64 y') (hz' : I64 z') :
    Calls Try.prog 8 #[.slice al Q.length cl, .slice a1 N1.length c1, .agg #[.int .i64 x, .int .i64 y, .int .i64 z], .agg #[.int .i64 x', .int .i64 y', .int .i64 z']] w fun e w' => e = .returned (.bool true) ∧ Below w.heap.size w w' := by
  obtain ⟨nq, hnq⟩ : ∃ n, Q.length = n := ⟨_, rfl⟩
  obtain ⟨n1, hn1⟩ : ∃ n, N1.length = n := ⟨_, rfl⟩
  obtain ⟨r, hr⟩ : ∃ r, relOf x y z = r := ⟨_, rfl⟩
  obtain ⟨s, hs⟩ : ∃ r, relOf x' y' z' = r := ⟨_, rfl⟩
  obtain ⟨A, hA⟩ : ∃ A, someOf Q = A := ⟨_, rfl⟩
  obtain ⟨B, hB⟩ : ∃ B, nearOf r.slack N1 A = B := ⟨_, rfl⟩
  obtain ⟨m, hm, f1, f2, f3, f4⟩ := weak_facts (r := r) (s := s) A B (by rw [← hr]; exact relOf_valid _ _ _) (by rw [← hs]; exact relOf_valid _ _ _)
  have HF := Lib.hid (And.intro f1 (And.intro f2 (And.intro f3 f4)))
  have HSL : Hid (0 ≤ r.slack ∧ r.slack ≤ 5) := Lib.hid (by rw [← hr]; exact relOf_slack x y z)
  have HAS : Hid (Sml 240 A) := Lib.hid (by rw [← hA]; exact (someOf_facts Q).2)
  have HSA := Lib.hid (fun W => sane_any W)
  have HRL : Hid (∀ W, Calls Try.prog 15 #[.agg #[.int .i64 x, .int .i64 y, .int .i64 z]] W fun e w' => e = .returned (.agg #[.int .i64 r.kinds, .int .i64 r.slack, .bool r.ord]) ∧ Below W.heap.size W w') := Lib.hid (fun W => by
    have := relation_any x y z W hx hy hz
    rw [hr] at this
    exact this)
  have HSR : Hid (∀ W, Calls Try.prog 15 #[.agg #[.int .i64 x', .int .i64 y', .int .i64 z']] W fun e w' => e = .returned (.agg #[.int .i64 s.kinds, .int .i64 s.slack, .bool s.ord]) ∧ Below W.heap.size W w') := Lib.hid (fun W => by
    have := relation_any x' y' z' W hx' hy' hz'
    rw [hs] at this
    exact this)
  have HSM : Hid (∀ W, Below w.heap.size w W → Calls Try.prog 12 #[.slice al nq cl] W fun e w' => ∃ a' n' c', e = .returned (.slice a' n' c') ∧ n' ≤ 30 ∧ Pf w' a' n' A ∧ Below W.heap.size W w') := Lib.hid (fun W hW => by
    have := some_b (c := cl) (hQ.below hW) hnq hQI (by omega)
    rwa [hA] at this)
  have HN1 : Hid (∀ (a : Option Addr) (n c : Nat) W, Below w.heap.size w W → Pf W a n A → n ≤ 30 → Calls Try.prog 13 #[.slice a n c, .int .i64 r.slack, .slice a1 n1 c1] W fun e w' => ∃ a' c', e = .returned (.slice a' n c') ∧ Pf w' a' n B ∧ Below W.heap.size W w') := Lib.hid (fun a n c W hW h hn => by
    have := near_b (c := c) (c2 := c1) h hn (s := r.slack) (by have := HSL.out; omega) HAS.out (by omega) (hN1.below hW) hn1 hI1 (by omega)
    rwa [hB] at this)
  rw [hnq, hn1]
  clear hQ hQI hQl hx hy hz hx' hy' hz' hN1 hI1 hl1 hnq hn1 hr hs hA hB f1 f2 f3 f4
  obtain ⟨rk, rs, ro⟩ := r
  obtain ⟨sk, ss, so⟩ := s
  simp only at HF HSL HRL HSR HN1 hm
  obtain ⟨mx, hmx0⟩ : ∃ mx, max rs ss = mx := ⟨_, rfl⟩
  have hmx := fun W => run_max2 (P := Try.prog) #[3, 3] 3 rs ss W
  rw [hmx0] at hmx HF
  clear hmx0
  have HB := Lib.hid (Below.refl w.heap.size w)
  obtain ⟨w0, hw0⟩ : ∃ xx, w.alloc (.cells #[.int .i64 x, .int .i64 y, .int .i64 z] 24) = xx := ⟨_, rfl⟩
  obtain ⟨g6, hg6⟩ : ∃ xx, w.heap.size = xx := ⟨_, rfl⟩
  have hb : Below w.heap.size w w0 := by rw [← hw0]; exact (Below.refl _ _).alloc (Nat.le_refl _) _
  have HT : Hid (Tr3 w0 g6 x y z) := Lib.hid (by rw [← hw0, ← hg6]; exact heap_last _ _)
  have HB := Lib.hid (HB.out.trans (hb.mono HB.out.size))
  clear hb
  obtain ⟨w00, hw00⟩ : ∃ xx, w0.alloc (.cells #[.int .i64 x', .int .i64 y', .int .i64 z'] 24) = xx := ⟨_, rfl⟩
  obtain ⟨g7, hg7⟩ : ∃ xx, w0.heap.size = xx := ⟨_, rfl⟩
  have hb : Below w0.heap.size w0 w00 := by rw [← hw00]; exact (Below.refl _ _).alloc (Nat.le_refl _) _
  have HT2 : Hid (Tr3 w00 g7 x' y' z') := Lib.hid (by rw [← hw00, ← hg7]; exact heap_last _ _)
  have HB := Lib.hid (HB.out.trans (hb.mono HB.out.size))
  have HT := Lib.hid (HT.out.below hb)
  clear hb
  go_enter Try.func8, Try.ntmps8
  go_wp2_with fail
  refine (HSA.out _).mono ?_
  rintro e w1 ⟨rfl, hb⟩
  have HB := Lib.hid (HB.out.trans (hb.mono HB.out.size))
  have HT := Lib.hid (HT.out.below hb)
  have HT2 := Lib.hid (HT2.out.below hb)
  clear hb
  clear hw0 hg6 hw00 hg7
  go_wp2_with fail
  refine (HSM.out _ HB.out).mono ?_
  rintro e w2 ⟨aA, nA, cA, rfl, hn30, hpA, hb⟩
  have HB := Lib.hid (HB.out.trans (hb.mono HB.out.size))
  have HT := Lib.hid (HT.out.below hb)
  have HT2 := Lib.hid (HT2.out.below hb)
  have HPA := Lib.hid hpA
  clear hb hpA
  obtain ⟨x0, x1, x2⟩ := HT.out.cells
  go_wp2_with fail
  refine (HRL.out _).mono ?_
  rintro e w3 ⟨rfl, hb⟩
  have HB := Lib.hid (HB.out.trans (hb.mono HB.out.size))
  have HT := Lib.hid (HT.out.below hb)
  have HT2 := Lib.hid (HT2.out.below hb)
  have HPA := Lib.hid (HPA.out.below hb)
  clear hb
  clear x0 x1 x2
  obtain ⟨w4, hw4⟩ : ∃ xx, w3.alloc (.cells #[.int .i64 rk, .int .i64 rs, .bool ro] 23) = xx := ⟨_, rfl⟩
  obtain ⟨g11, hg11⟩ : ∃ xx, w3.heap.size = xx := ⟨_, rfl⟩
  have hb : Below w3.heap.size w3 w4 := by rw [← hw4]; exact (Below.refl _ _).alloc (Nat.le_refl _) _
  have HR : Hid (Rl w4 g11 ⟨rk, rs, ro⟩) := Lib.hid (by rw [← hw4, ← hg11]; exact heap_last _ _)
  have HB := Lib.hid (HB.out.trans (hb.mono HB.out.size))
  have HT := Lib.hid (HT.out.below hb)
  have HT2 := Lib.hid (HT2.out.below hb)
  have HPA := Lib.hid (HPA.out.below hb)
  clear hb
  obtain ⟨x0, x1, x2⟩ := HT2.out.cells
  go_wp2_with fail
  refine (HSR.out _).mono ?_
  rintro e w5 ⟨rfl, hb⟩
  have HB := Lib.hid (HB.out.trans (hb.mono HB.out.size))
  have HT := Lib.hid (HT.out.below hb)
  have HT2 := Lib.hid (HT2.out.below hb)
  have HPA := Lib.hid (HPA.out.below hb)
  have HR := Lib.hid (HR.out.below hb)
  clear hb
  clear x0 x1 x2 hw4 hg11
  have HLT := Lib.hid HR.out.lt
  have HBW := Lib.hid HB.out
  obtain ⟨w6, hw6⟩ : ∃ xx, w5.alloc (.cells #[.int .i64 sk, .int .i64 ss, .bool so] 23) = xx := ⟨_, rfl⟩
  obtain ⟨g12, hg12⟩ : ∃ xx, w5.heap.size = xx := ⟨_, rfl⟩
  have hb : Below w5.heap.size w5 w6 := by rw [← hw6]; exact (Below.refl _ _).alloc (Nat.le_refl _) _
  have HU : Hid (Rl w6 g12 ⟨sk, ss, so⟩) := Lib.hid (by rw [← hw6, ← hg12]; exact heap_last _ _)
  have HB := Lib.hid (HB.out.trans (hb.mono HB.out.size))
  have HT := Lib.hid (HT.out.below hb)
  have HT2 := Lib.hid (HT2.out.below hb)
  have HPA := Lib.hid (HPA.out.below hb)
  have HR := Lib.hid (HR.out.below hb)
  clear hb
  have HNE : Hid (g11 ≠ g12 ∧ w.heap.size ≤ g12) := Lib.hid (by
    have h1 := HLT.out
    have h2 := HU.out.lt
    rw [← hg12]
    refine ⟨by omega, ?_⟩
    have := HBW.out.size
    omega)
  obtain ⟨x0, x1, x2⟩ := HR.out.cells
  simp only at x0 x1 x2
  go_wp2_with fail
  refine (HN1.out _ _ _ _ HB.out HPA.out hn30).mono ?_
  rintro e w7 ⟨aB, cB, rfl, hpB, hb⟩
  have HB := Lib.hid (HB.out.trans (hb.mono HB.out.size))
  have HT := Lib.hid (HT.out.below hb)
  have HT2 := Lib.hid (HT2.out.below hb)
  have HPA := Lib.hid (HPA.out.below hb)
  have HR := Lib.hid (HR.out.below hb)
  have HU := Lib.hid (HU.out.below hb)
  have HPB := Lib.hid hpB
  clear hb hpB
  clear x0 x1 x2 hw6 hg12 HT HT2
  obtain ⟨x0, x1, x2⟩ := HR.out.cells
  simp only at x0 x1 x2
  obtain ⟨y0, y1, y2⟩ := HU.out.cells
  simp only at y0 y1 y2
  obtain ⟨wv, hwv⟩ : ∃ b, weaker ⟨rk, rs, ro⟩ ⟨sk, ss, so⟩ = b := ⟨_, rfl⟩
  obtain ⟨v1, hv1⟩ : ∃ b, agr ⟨rk, rs, ro⟩ A B = b := ⟨_, rfl⟩
  obtain ⟨v2, hv2⟩ : ∃ b, agr ⟨sk, ss, so⟩ A B = b := ⟨_, rfl⟩
  obtain ⟨sr, hsr⟩ : ∃ b, (so && ro) = b := ⟨_, rfl⟩
  rw [hsr] at HF
  obtain ⟨v3, hv3⟩ : ∃ b, agr ⟨m, mx, sr⟩ A B = b := ⟨_, rfl⟩
  obtain ⟨f1, f2, f3, f4⟩ := HF.out
  rw [hwv, hv1, hv2] at f1
  rw [hv1, hv3] at f4
  have HV1 := Lib.hid hv1
  have HV2 := Lib.hid hv2
  have HV3 := Lib.hid hv3
  have HWV := Lib.hid hwv
  have HF1 := Lib.hid f1
  have HF2 := Lib.hid f2
  have HF3 := Lib.hid f3
  have HF4 := Lib.hid f4
  clear hwv hv1 hv2 hv3 f1 f2 f3 f4 HF
  go_wp2_with fail
  refine (weaker_b _ HWV.out).mono ?_
  rintro e w8 ⟨rfl, hb⟩
  have HB := Lib.hid (HB.out.trans (hb.mono HB.out.size))
  have HPA := Lib.hid (HPA.out.below hb)
  have HR := Lib.hid (HR.out.below hb)
  have HU := Lib.hid (HU.out.below hb)
  have HPB := Lib.hid (HPB.out.below hb)
  clear hb
  clear x0 x1 x2 y0 y1 y2
  cases wv with
  | false =>
    obtain ⟨x0, x1, x2⟩ := HR.out.cells
    simp only at x0 x1 x2
    obtain ⟨y0, y1, y2⟩ := HU.out.cells
    simp only at y0 y1 y2
    have fz := HU.out.frozen 0
    have fz1 := HU.out.frozen 1
    have fz2 := HU.out.frozen 2
    go_upto_region 9 with fail
    clear x0 x1 x2 y0 y1 y2 fz fz1 fz2
    obtain ⟨s1, hs1⟩ : ∃ xx, w8.setCell ⟨g12, 0, none⟩ (.int .i64 m) = xx := ⟨_, rfl⟩
    have HU2 : Hid (Rl s1 g12 ⟨m, ss, so⟩) := Lib.hid (by rw [← hs1]; exact Go.Joins.block_setCell HU.out _)
    have HPA : Hid (Pf s1 aA nA A) := Lib.hid (by rw [← hs1]; exact HPA.out.set HU.out)
    have HPB : Hid (Pf s1 aB nA B) := Lib.hid (by rw [← hs1]; exact HPB.out.set HU.out)
    have HR : Hid (Rl s1 g11 ⟨rk, rs, ro⟩) := Lib.hid (by rw [← hs1]; exact HR.out.set HNE.out.1)
    have HB : Hid (Below w.heap.size w s1) := Lib.hid (by rw [← hs1]; exact HB.out.setCell (p := ⟨g12, 0, none⟩) HNE.out.2 _)
    have HU := HU2
    rw [hs1]
    clear hs1 HU2
    obtain ⟨x0, x1, x2⟩ := HR.out.cells
    simp only at x0 x1 x2
    obtain ⟨y0, y1, y2⟩ := HU.out.cells
    simp only at y0 y1 y2
    have fz := HU.out.frozen 0
    have fz1 := HU.out.frozen 1
    have fz2 := HU.out.frozen 2
    go_upto_region 10 with fail
    clear x0 x1 x2 y0 y1 y2 fz fz1 fz2
    obtain ⟨s2, hs2⟩ : ∃ xx, s1.setCell ⟨g12, 1, none⟩ (.int .i64 mx) = xx := ⟨_, rfl⟩
    have HU2 : Hid (Rl s2 g12 ⟨m, mx, so⟩) := Lib.hid (by rw [← hs2]; exact Go.Joins.block_setCell HU.out _)
    have HPA : Hid (Pf s2 aA nA A) := Lib.hid (by rw [← hs2]; exact HPA.out.set HU.out)
    have HPB : Hid (Pf s2 aB nA B) := Lib.hid (by rw [← hs2]; exact HPB.out.set HU.out)
    have HR : Hid (Rl s2 g11 ⟨rk, rs, ro⟩) := Lib.hid (by rw [← hs2]; exact HR.out.set HNE.out.1)
    have HB : Hid (Below w.heap.size w s2) := Lib.hid (by rw [← hs2]; exact HB.out.setCell (p := ⟨g12, 1, none⟩) HNE.out.2 _)
    have HU := HU2
    rw [hs2]
    clear hs2 HU2
    obtain ⟨x0, x1, x2⟩ := HR.out.cells
    simp only at x0 x1 x2
    obtain ⟨y0, y1, y2⟩ := HU.out.cells
    simp only at y0 y1 y2
    have fz := HU.out.frozen 0
    have fz1 := HU.out.frozen 1
    have fz2 := HU.out.frozen 2
    cases so with
    | false =>
      obtain rfl : false = sr := hsr
      go_upto_region 11 with fail
      clear x0 x1 x2 y0 y1 y2 fz fz1 fz2
      obtain ⟨s3, hs3⟩ : ∃ xx, s2.setCell ⟨g12, 2, none⟩ (.bool false) = xx := ⟨_, rfl⟩
      have HU2 : Hid (Rl s3 g12 ⟨m, mx, false⟩) := Lib.hid (by rw [← hs3]; exact Go.Joins.block_setCell HU.out _)
      have HPA : Hid (Pf s3 aA nA A) := Lib.hid (by rw [← hs3]; exact HPA.out.set HU.out)
      have HPB : Hid (Pf s3 aB nA B) := Lib.hid (by rw [← hs3]; exact HPB.out.set HU.out)
      have HR : Hid (Rl s3 g11 ⟨rk, rs, ro⟩) := Lib.hid (by rw [← hs3]; exact HR.out.set HNE.out.1)
      have HB : Hid (Below w.heap.size w s3) := Lib.hid (by rw [← hs3]; exact HB.out.setCell (p := ⟨g12, 2, none⟩) HNE.out.2 _)
      have HU := HU2
      rw [hs3]
      clear hs3 HU2
      obtain ⟨x0, x1, x2⟩ := HR.out.cells
      simp only at x0 x1 x2
      obtain ⟨y0, y1, y2⟩ := HU.out.cells
      simp only at y0 y1 y2
      go_wp2_with fail
      refine (weaker_b _ HF2.out).mono ?_
      rintro e t1 ⟨rfl, hb⟩
      have HB := Lib.hid (HB.out.trans (hb.mono HB.out.size))
      have HPA := Lib.hid (HPA.out.below hb)
      have HR := Lib.hid (HR.out.below hb)
      have HU := Lib.hid (HU.out.below hb)
      have HPB := Lib.hid (HPB.out.below hb)
      clear hb
      clear x0 x1 x2 y0 y1 y2
      obtain ⟨x0, x1, x2⟩ := HR.out.cells
      simp only at x0 x1 x2
      obtain ⟨y0, y1, y2⟩ := HU.out.cells
      simp only at y0 y1 y2
      go_wp2_with fail
      refine (agree_b HPA.out HPB.out HV1.out).mono ?_
      rintro e t2 ⟨rfl, hb⟩
      have HB := Lib.hid (HB.out.trans (hb.mono HB.out.size))
      have HPA := Lib.hid (HPA.out.below hb)
      have HR := Lib.hid (HR.out.below hb)
      have HU := Lib.hid (HU.out.below hb)
      have HPB := Lib.hid (HPB.out.below hb)
      clear hb
      clear x0 x1 x2 y0 y1 y2
      obtain ⟨x0, x1, x2⟩ := HR.out.cells
      simp only at x0 x1 x2
      obtain ⟨y0, y1, y2⟩ := HU.out.cells
      simp only at y0 y1 y2
      cases v1 with
      | false =>
        go_wp2_with fail
        refine (weaker_b _ HF3.out).mono ?_
        rintro e t4 ⟨rfl, hb⟩
        have HB := Lib.hid (HB.out.trans (hb.mono HB.out.size))
        have HPA := Lib.hid (HPA.out.below hb)
        have HR := Lib.hid (HR.out.below hb)
        have HU := Lib.hid (HU.out.below hb)
        have HPB := Lib.hid (HPB.out.below hb)
        clear hb
        go_wp2_with fail
        go_ret
        exact ⟨rfl, HB.out⟩
      | true =>
        have HV4 : Hid (v3 = true) := Lib.hid (by have := HF4.out; simpa using this)
        rw [HV4.out] at HV3
        go_wp2_with fail
        refine (agree_b HPA.out HPB.out HV3.out).mono ?_
        rintro e t3 ⟨rfl, hb⟩
        have HB := Lib.hid (HB.out.trans (hb.mono HB.out.size))
        have HPA := Lib.hid (HPA.out.below hb)
        have HR := Lib.hid (HR.out.below hb)
        have HU := Lib.hid (HU.out.below hb)
        have HPB := Lib.hid (HPB.out.below hb)
        clear hb
        clear x0 x1 x2 y0 y1 y2
        obtain ⟨x0, x1, x2⟩ := HR.out.cells
        simp only at x0 x1 x2
        obtain ⟨y0, y1, y2⟩ := HU.out.cells
        simp only at y0 y1 y2
        go_wp2_with fail
        refine (weaker_b _ HF3.out).mono ?_
        rintro e t4 ⟨rfl, hb⟩
        have HB := Lib.hid (HB.out.trans (hb.mono HB.out.size))
        have HPA := Lib.hid (HPA.out.below hb)
        have HR := Lib.hid (HR.out.below hb)
        have HU := Lib.hid (HU.out.below hb)
        have HPB := Lib.hid (HPB.out.below hb)
        clear hb
        go_wp2_with fail
        go_ret
        exact ⟨rfl, HB.out⟩
    | true =>
      obtain rfl : ro = sr := hsr
      go_upto_region 11 with fail
      clear x0 x1 x2 y0 y1 y2 fz fz1 fz2
      obtain ⟨s3, hs3⟩ : ∃ xx, s2.setCell ⟨g12, 2, none⟩ (.bool ro) = xx := ⟨_, rfl⟩
      have HU2 : Hid (Rl s3 g12 ⟨m, mx, ro⟩) := Lib.hid (by rw [← hs3]; exact Go.Joins.block_setCell HU.out _)
      have HPA : Hid (Pf s3 aA nA A) := Lib.hid (by rw [← hs3]; exact HPA.out.set HU.out)
      have HPB : Hid (Pf s3 aB nA B) := Lib.hid (by rw [← hs3]; exact HPB.out.set HU.out)
      have HR : Hid (Rl s3 g11 ⟨rk, rs, ro⟩) := Lib.hid (by rw [← hs3]; exact HR.out.set HNE.out.1)
      have HB : Hid (Below w.heap.size w s3) := Lib.hid (by rw [← hs3]; exact HB.out.setCell (p := ⟨g12, 2, none⟩) HNE.out.2 _)
      have HU := HU2
      rw [hs3]
      clear hs3 HU2
      obtain ⟨x0, x1, x2⟩ := HR.out.cells
      simp only at x0 x1 x2
      obtain ⟨y0, y1, y2⟩ := HU.out.cells
      simp only at y0 y1 y2
      go_wp2_with fail
      refine (weaker_b _ HF2.out).mono ?_
      rintro e t1 ⟨rfl, hb⟩
      have HB := Lib.hid (HB.out.trans (hb.mono HB.out.size))
      have HPA := Lib.hid (HPA.out.below hb)
      have HR := Lib.hid (HR.out.below hb)
      have HU := Lib.hid (HU.out.below hb)
      have HPB := Lib.hid (HPB.out.below hb)
      clear hb
      clear x0 x1 x2 y0 y1 y2
      obtain ⟨x0, x1, x2⟩ := HR.out.cells
      simp only at x0 x1 x2
      obtain ⟨y0, y1, y2⟩ := HU.out.cells
      simp only at y0 y1 y2
      go_wp2_with fail
      refine (agree_b HPA.out HPB.out HV1.out).mono ?_
      rintro e t2 ⟨rfl, hb⟩
      have HB := Lib.hid (HB.out.trans (hb.mono HB.out.size))
      have HPA := Lib.hid (HPA.out.below hb)
      have HR := Lib.hid (HR.out.below hb)
      have HU := Lib.hid (HU.out.below hb)
      have HPB := Lib.hid (HPB.out.below hb)
      clear hb
      clear x0 x1 x2 y0 y1 y2
      obtain ⟨x0, x1, x2⟩ := HR.out.cells
      simp only at x0 x1 x2
      obtain ⟨y0, y1, y2⟩ := HU.out.cells
      simp only at y0 y1 y2
      cases v1 with
      | false =>
        go_wp2_with fail
        refine (weaker_b _ HF3.out).mono ?_
        rintro e t4 ⟨rfl, hb⟩
        have HB := Lib.hid (HB.out.trans (hb.mono HB.out.size))
        have HPA := Lib.hid (HPA.out.below hb)
        have HR := Lib.hid (HR.out.below hb)
        have HU := Lib.hid (HU.out.below hb)
        have HPB := Lib.hid (HPB.out.below hb)
        clear hb
        go_wp2_with fail
        go_ret
        exact ⟨rfl, HB.out⟩
      | true =>
        have HV4 : Hid (v3 = true) := Lib.hid (by have := HF4.out; simpa using this)
        rw [HV4.out] at HV3
        go_wp2_with fail
        refine (agree_b HPA.out HPB.out HV3.out).mono ?_
        rintro e t3 ⟨rfl, hb⟩
        have HB := Lib.hid (HB.out.trans (hb.mono HB.out.size))
        have HPA := Lib.hid (HPA.out.below hb)
        have HR := Lib.hid (HR.out.below hb)
        have HU := Lib.hid (HU.out.below hb)
        have HPB := Lib.hid (HPB.out.below hb)
        clear hb
        clear x0 x1 x2 y0 y1 y2
        obtain ⟨x0, x1, x2⟩ := HR.out.cells
        simp only at x0 x1 x2
        obtain ⟨y0, y1, y2⟩ := HU.out.cells
        simp only at y0 y1 y2
        go_wp2_with fail
        refine (weaker_b _ HF3.out).mono ?_
        rintro e t4 ⟨rfl, hb⟩
        have HB := Lib.hid (HB.out.trans (hb.mono HB.out.size))
        have HPA := Lib.hid (HPA.out.below hb)
        have HR := Lib.hid (HR.out.below hb)
        have HU := Lib.hid (HU.out.below hb)
        have HPB := Lib.hid (HPB.out.below hb)
        clear hb
        go_wp2_with fail
        go_ret
        exact ⟨rfl, HB.out⟩
  | true =>
    obtain ⟨x0, x1, x2⟩ := HR.out.cells
    simp only at x0 x1 x2
    obtain ⟨y0, y1, y2⟩ := HU.out.cells
    simp only at y0 y1 y2
    go_wp2_with fail
    refine (agree_b HPA.out HPB.out HV1.out).mono ?_
    rintro e w9 ⟨rfl, hb⟩
    have HB := Lib.hid (HB.out.trans (hb.mono HB.out.size))
    have HPA := Lib.hid (HPA.out.below hb)
    have HR := Lib.hid (HR.out.below hb)
    have HU := Lib.hid (HU.out.below hb)
    have HPB := Lib.hid (HPB.out.below hb)
    clear hb
    clear x0 x1 x2 y0 y1 y2
    cases v1 with
    | false =>
      obtain ⟨x0, x1, x2⟩ := HR.out.cells
      simp only at x0 x1 x2
      obtain ⟨y0, y1, y2⟩ := HU.out.cells
      simp only at y0 y1 y2
      have fz := HU.out.frozen 0
      have fz1 := HU.out.frozen 1
      have fz2 := HU.out.frozen 2
      go_upto_region 9 with fail
      clear x0 x1 x2 y0 y1 y2 fz fz1 fz2
      obtain ⟨s1, hs1⟩ : ∃ xx, w9.setCell ⟨g12, 0, none⟩ (.int .i64 m) = xx := ⟨_, rfl⟩
      have HU2 : Hid (Rl s1 g12 ⟨m, ss, so⟩) := Lib.hid (by rw [← hs1]; exact Go.Joins.block_setCell HU.out _)
      have HPA : Hid (Pf s1 aA nA A) := Lib.hid (by rw [← hs1]; exact HPA.out.set HU.out)
      have HPB : Hid (Pf s1 aB nA B) := Lib.hid (by rw [← hs1]; exact HPB.out.set HU.out)
      have HR : Hid (Rl s1 g11 ⟨rk, rs, ro⟩) := Lib.hid (by rw [← hs1]; exact HR.out.set HNE.out.1)
      have HB : Hid (Below w.heap.size w s1) := Lib.hid (by rw [← hs1]; exact HB.out.setCell (p := ⟨g12, 0, none⟩) HNE.out.2 _)
      have HU := HU2
      rw [hs1]
      clear hs1 HU2
      obtain ⟨x0, x1, x2⟩ := HR.out.cells
      simp only at x0 x1 x2
      obtain ⟨y0, y1, y2⟩ := HU.out.cells
      simp only at y0 y1 y2
      have fz := HU.out.frozen 0
      have fz1 := HU.out.frozen 1
      have fz2 := HU.out.frozen 2
      go_upto_region 10 with fail
      clear x0 x1 x2 y0 y1 y2 fz fz1 fz2
      obtain ⟨s2, hs2⟩ : ∃ xx, s1.setCell ⟨g12, 1, none⟩ (.int .i64 mx) = xx := ⟨_, rfl⟩
      have HU2 : Hid (Rl s2 g12 ⟨m, mx, so⟩) := Lib.hid (by rw [← hs2]; exact Go.Joins.block_setCell HU.out _)
      have HPA : Hid (Pf s2 aA nA A) := Lib.hid (by rw [← hs2]; exact HPA.out.set HU.out)
      have HPB : Hid (Pf s2 aB nA B) := Lib.hid (by rw [← hs2]; exact HPB.out.set HU.out)
      have HR : Hid (Rl s2 g11 ⟨rk, rs, ro⟩) := Lib.hid (by rw [← hs2]; exact HR.out.set HNE.out.1)
      have HB : Hid (Below w.heap.size w s2) := Lib.hid (by rw [← hs2]; exact HB.out.setCell (p := ⟨g12, 1, none⟩) HNE.out.2 _)
      have HU := HU2
      rw [hs2]
      clear hs2 HU2
      obtain ⟨x0, x1, x2⟩ := HR.out.cells
      simp only at x0 x1 x2
      obtain ⟨y0, y1, y2⟩ := HU.out.cells
      simp only at y0 y1 y2
      have fz := HU.out.frozen 0
      have fz1 := HU.out.frozen 1
      have fz2 := HU.out.frozen 2
      cases so with
      | false =>
        obtain rfl : false = sr := hsr
        go_upto_region 11 with fail
        clear x0 x1 x2 y0 y1 y2 fz fz1 fz2
        obtain ⟨s3, hs3⟩ : ∃ xx, s2.setCell ⟨g12, 2, none⟩ (.bool false) = xx := ⟨_, rfl⟩
        have HU2 : Hid (Rl s3 g12 ⟨m, mx, false⟩) := Lib.hid (by rw [← hs3]; exact Go.Joins.block_setCell HU.out _)
        have HPA : Hid (Pf s3 aA nA A) := Lib.hid (by rw [← hs3]; exact HPA.out.set HU.out)
        have HPB : Hid (Pf s3 aB nA B) := Lib.hid (by rw [← hs3]; exact HPB.out.set HU.out)
        have HR : Hid (Rl s3 g11 ⟨rk, rs, ro⟩) := Lib.hid (by rw [← hs3]; exact HR.out.set HNE.out.1)
        have HB : Hid (Below w.heap.size w s3) := Lib.hid (by rw [← hs3]; exact HB.out.setCell (p := ⟨g12, 2, none⟩) HNE.out.2 _)
        have HU := HU2
        rw [hs3]
        clear hs3 HU2
        obtain ⟨x0, x1, x2⟩ := HR.out.cells
        simp only at x0 x1 x2
        obtain ⟨y0, y1, y2⟩ := HU.out.cells
        simp only at y0 y1 y2
        go_wp2_with fail
        refine (weaker_b _ HF2.out).mono ?_
        rintro e t1 ⟨rfl, hb⟩
        have HB := Lib.hid (HB.out.trans (hb.mono HB.out.size))
        have HPA := Lib.hid (HPA.out.below hb)
        have HR := Lib.hid (HR.out.below hb)
        have HU := Lib.hid (HU.out.below hb)
        have HPB := Lib.hid (HPB.out.below hb)
        clear hb
        clear x0 x1 x2 y0 y1 y2
        obtain ⟨x0, x1, x2⟩ := HR.out.cells
        simp only at x0 x1 x2
        obtain ⟨y0, y1, y2⟩ := HU.out.cells
        simp only at y0 y1 y2
        go_wp2_with fail
        refine (agree_b HPA.out HPB.out HV1.out).mono ?_
        rintro e t2 ⟨rfl, hb⟩
        have HB := Lib.hid (HB.out.trans (hb.mono HB.out.size))
        have HPA := Lib.hid (HPA.out.below hb)
        have HR := Lib.hid (HR.out.below hb)
        have HU := Lib.hid (HU.out.below hb)
        have HPB := Lib.hid (HPB.out.below hb)
        clear hb
        clear x0 x1 x2 y0 y1 y2
        obtain ⟨x0, x1, x2⟩ := HR.out.cells
        simp only at x0 x1 x2
        obtain ⟨y0, y1, y2⟩ := HU.out.cells
        simp only at y0 y1 y2
        go_wp2_with fail
        refine (weaker_b _ HF3.out).mono ?_
        rintro e t4 ⟨rfl, hb⟩
        have HB := Lib.hid (HB.out.trans (hb.mono HB.out.size))
        have HPA := Lib.hid (HPA.out.below hb)
        have HR := Lib.hid (HR.out.below hb)
        have HU := Lib.hid (HU.out.below hb)
        have HPB := Lib.hid (HPB.out.below hb)
        clear hb
        go_wp2_with fail
        go_ret
        exact ⟨rfl, HB.out⟩
      | true =>
        obtain rfl : ro = sr := hsr
        go_upto_region 11 with fail
        clear x0 x1 x2 y0 y1 y2 fz fz1 fz2
        obtain ⟨s3, hs3⟩ : ∃ xx, s2.setCell ⟨g12, 2, none⟩ (.bool ro) = xx := ⟨_, rfl⟩
        have HU2 : Hid (Rl s3 g12 ⟨m, mx, ro⟩) := Lib.hid (by rw [← hs3]; exact Go.Joins.block_setCell HU.out _)
        have HPA : Hid (Pf s3 aA nA A) := Lib.hid (by rw [← hs3]; exact HPA.out.set HU.out)
        have HPB : Hid (Pf s3 aB nA B) := Lib.hid (by rw [← hs3]; exact HPB.out.set HU.out)
        have HR : Hid (Rl s3 g11 ⟨rk, rs, ro⟩) := Lib.hid (by rw [← hs3]; exact HR.out.set HNE.out.1)
        have HB : Hid (Below w.heap.size w s3) := Lib.hid (by rw [← hs3]; exact HB.out.setCell (p := ⟨g12, 2, none⟩) HNE.out.2 _)
        have HU := HU2
        rw [hs3]
        clear hs3 HU2
        obtain ⟨x0, x1, x2⟩ := HR.out.cells
        simp only at x0 x1 x2
        obtain ⟨y0, y1, y2⟩ := HU.out.cells
        simp only at y0 y1 y2
        go_wp2_with fail
        refine (weaker_b _ HF2.out).mono ?_
        rintro e t1 ⟨rfl, hb⟩
        have HB := Lib.hid (HB.out.trans (hb.mono HB.out.size))
        have HPA := Lib.hid (HPA.out.below hb)
        have HR := Lib.hid (HR.out.below hb)
        have HU := Lib.hid (HU.out.below hb)
        have HPB := Lib.hid (HPB.out.below hb)
        clear hb
        clear x0 x1 x2 y0 y1 y2
        obtain ⟨x0, x1, x2⟩ := HR.out.cells
        simp only at x0 x1 x2
        obtain ⟨y0, y1, y2⟩ := HU.out.cells
        simp only at y0 y1 y2
        go_wp2_with fail
        refine (agree_b HPA.out HPB.out HV1.out).mono ?_
        rintro e t2 ⟨rfl, hb⟩
        have HB := Lib.hid (HB.out.trans (hb.mono HB.out.size))
        have HPA := Lib.hid (HPA.out.below hb)
        have HR := Lib.hid (HR.out.below hb)
        have HU := Lib.hid (HU.out.below hb)
        have HPB := Lib.hid (HPB.out.below hb)
        clear hb
        clear x0 x1 x2 y0 y1 y2
        obtain ⟨x0, x1, x2⟩ := HR.out.cells
        simp only at x0 x1 x2
        obtain ⟨y0, y1, y2⟩ := HU.out.cells
        simp only at y0 y1 y2
        go_wp2_with fail
        refine (weaker_b _ HF3.out).mono ?_
        rintro e t4 ⟨rfl, hb⟩
        have HB := Lib.hid (HB.out.trans (hb.mono HB.out.size))
        have HPA := Lib.hid (HPA.out.below hb)
        have HR := Lib.hid (HR.out.below hb)
        have HU := Lib.hid (HU.out.below hb)
        have HPB := Lib.hid (HPB.out.below hb)
        clear hb
        go_wp2_with fail
        go_ret
        exact ⟨rfl, HB.out⟩
    | true =>
      have HV5 : Hid (v2 = true) := Lib.hid (by have := HF1.out; simpa using this)
      rw [HV5.out] at HV2
      obtain ⟨x0, x1, x2⟩ := HR.out.cells
      simp only at x0 x1 x2
      obtain ⟨y0, y1, y2⟩ := HU.out.cells
      simp only at y0 y1 y2
      go_wp2_with fail
      refine (agree_b HPA.out HPB.out HV2.out).mono ?_
      rintro e w10 ⟨rfl, hb⟩
      have HB := Lib.hid (HB.out.trans (hb.mono HB.out.size))
      have HPA := Lib.hid (HPA.out.below hb)
      have HR := Lib.hid (HR.out.below hb)
      have HU := Lib.hid (HU.out.below hb)
      have HPB := Lib.hid (HPB.out.below hb)
      clear hb
      clear x0 x1 x2 y0 y1 y2
      obtain ⟨x0, x1, x2⟩ := HR.out.cells
      simp only at x0 x1 x2
      obtain ⟨y0, y1, y2⟩ := HU.out.cells
      simp only at y0 y1 y2
      have fz := HU.out.frozen 0
      have fz1 := HU.out.frozen 1
      have fz2 := HU.out.frozen 2
      go_upto_region 9 with fail
      clear x0 x1 x2 y0 y1 y2 fz fz1 fz2
      obtain ⟨s1, hs1⟩ : ∃ xx, w10.setCell ⟨g12, 0, none⟩ (.int .i64 m) = xx := ⟨_, rfl⟩
      have HU2 : Hid (Rl s1 g12 ⟨m, ss, so⟩) := Lib.hid (by rw [← hs1]; exact Go.Joins.block_setCell HU.out _)
      have HPA : Hid (Pf s1 aA nA A) := Lib.hid (by rw [← hs1]; exact HPA.out.set HU.out)
      have HPB : Hid (Pf s1 aB nA B) := Lib.hid (by rw [← hs1]; exact HPB.out.set HU.out)
      have HR : Hid (Rl s1 g11 ⟨rk, rs, ro⟩) := Lib.hid (by rw [← hs1]; exact HR.out.set HNE.out.1)
      have HB : Hid (Below w.heap.size w s1) := Lib.hid (by rw [← hs1]; exact HB.out.setCell (p := ⟨g12, 0, none⟩) HNE.out.2 _)
      have HU := HU2
      rw [hs1]
      clear hs1 HU2
      obtain ⟨x0, x1, x2⟩ := HR.out.cells
      simp only at x0 x1 x2
      obtain ⟨y0, y1, y2⟩ := HU.out.cells
      simp only at y0 y1 y2
      have fz := HU.out.frozen 0
      have fz1 := HU.out.frozen 1
      have fz2 := HU.out.frozen 2
      go_upto_region 10 with fail
      clear x0 x1 x2 y0 y1 y2 fz fz1 fz2
      obtain ⟨s2, hs2⟩ : ∃ xx, s1.setCell ⟨g12, 1, none⟩ (.int .i64 mx) = xx := ⟨_, rfl⟩
      have HU2 : Hid (Rl s2 g12 ⟨m, mx, so⟩) := Lib.hid (by rw [← hs2]; exact Go.Joins.block_setCell HU.out _)
      have HPA : Hid (Pf s2 aA nA A) := Lib.hid (by rw [← hs2]; exact HPA.out.set HU.out)
      have HPB : Hid (Pf s2 aB nA B) := Lib.hid (by rw [← hs2]; exact HPB.out.set HU.out)
      have HR : Hid (Rl s2 g11 ⟨rk, rs, ro⟩) := Lib.hid (by rw [← hs2]; exact HR.out.set HNE.out.1)
      have HB : Hid (Below w.heap.size w s2) := Lib.hid (by rw [← hs2]; exact HB.out.setCell (p := ⟨g12, 1, none⟩) HNE.out.2 _)
      have HU := HU2
      rw [hs2]
      clear hs2 HU2
      obtain ⟨x0, x1, x2⟩ := HR.out.cells
      simp only at x0 x1 x2
      obtain ⟨y0, y1, y2⟩ := HU.out.cells
      simp only at y0 y1 y2
      have fz := HU.out.frozen 0
      have fz1 := HU.out.frozen 1
      have fz2 := HU.out.frozen 2
      cases so with
      | false =>
        obtain rfl : false = sr := hsr
        go_upto_region 11 with fail
        clear x0 x1 x2 y0 y1 y2 fz fz1 fz2
        obtain ⟨s3, hs3⟩ : ∃ xx, s2.setCell ⟨g12, 2, none⟩ (.bool false) = xx := ⟨_, rfl⟩
        have HU2 : Hid (Rl s3 g12 ⟨m, mx, false⟩) := Lib.hid (by rw [← hs3]; exact Go.Joins.block_setCell HU.out _)
        have HPA : Hid (Pf s3 aA nA A) := Lib.hid (by rw [← hs3]; exact HPA.out.set HU.out)
        have HPB : Hid (Pf s3 aB nA B) := Lib.hid (by rw [← hs3]; exact HPB.out.set HU.out)
        have HR : Hid (Rl s3 g11 ⟨rk, rs, ro⟩) := Lib.hid (by rw [← hs3]; exact HR.out.set HNE.out.1)
        have HB : Hid (Below w.heap.size w s3) := Lib.hid (by rw [← hs3]; exact HB.out.setCell (p := ⟨g12, 2, none⟩) HNE.out.2 _)
        have HU := HU2
        rw [hs3]
        clear hs3 HU2
        obtain ⟨x0, x1, x2⟩ := HR.out.cells
        simp only at x0 x1 x2
        obtain ⟨y0, y1, y2⟩ := HU.out.cells
        simp only at y0 y1 y2
        go_wp2_with fail
        refine (weaker_b _ HF2.out).mono ?_
        rintro e t1 ⟨rfl, hb⟩
        have HB := Lib.hid (HB.out.trans (hb.mono HB.out.size))
        have HPA := Lib.hid (HPA.out.below hb)
        have HR := Lib.hid (HR.out.below hb)
        have HU := Lib.hid (HU.out.below hb)
        have HPB := Lib.hid (HPB.out.below hb)
        clear hb
        clear x0 x1 x2 y0 y1 y2
        obtain ⟨x0, x1, x2⟩ := HR.out.cells
        simp only at x0 x1 x2
        obtain ⟨y0, y1, y2⟩ := HU.out.cells
        simp only at y0 y1 y2
        go_wp2_with fail
        refine (agree_b HPA.out HPB.out HV1.out).mono ?_
        rintro e t2 ⟨rfl, hb⟩
        have HB := Lib.hid (HB.out.trans (hb.mono HB.out.size))
        have HPA := Lib.hid (HPA.out.below hb)
        have HR := Lib.hid (HR.out.below hb)
        have HU := Lib.hid (HU.out.below hb)
        have HPB := Lib.hid (HPB.out.below hb)
        clear hb
        clear x0 x1 x2 y0 y1 y2
        obtain ⟨x0, x1, x2⟩ := HR.out.cells
        simp only at x0 x1 x2
        obtain ⟨y0, y1, y2⟩ := HU.out.cells
        simp only at y0 y1 y2
        have HV4 : Hid (v3 = true) := Lib.hid (by have := HF4.out; simpa using this)
        rw [HV4.out] at HV3
        go_wp2_with fail
        refine (agree_b HPA.out HPB.out HV3.out).mono ?_
        rintro e t3 ⟨rfl, hb⟩
        have HB := Lib.hid (HB.out.trans (hb.mono HB.out.size))
        have HPA := Lib.hid (HPA.out.below hb)
        have HR := Lib.hid (HR.out.below hb)
        have HU := Lib.hid (HU.out.below hb)
        have HPB := Lib.hid (HPB.out.below hb)
        clear hb
        clear x0 x1 x2 y0 y1 y2
        obtain ⟨x0, x1, x2⟩ := HR.out.cells
        simp only at x0 x1 x2
        obtain ⟨y0, y1, y2⟩ := HU.out.cells
        simp only at y0 y1 y2
        go_wp2_with fail
        refine (weaker_b _ HF3.out).mono ?_
        rintro e t4 ⟨rfl, hb⟩
        have HB := Lib.hid (HB.out.trans (hb.mono HB.out.size))
        have HPA := Lib.hid (HPA.out.below hb)
        have HR := Lib.hid (HR.out.below hb)
        have HU := Lib.hid (HU.out.below hb)
        have HPB := Lib.hid (HPB.out.below hb)
        clear hb
        go_wp2_with fail
        go_ret
        exact ⟨rfl, HB.out⟩
      | true =>
        obtain rfl : ro = sr := hsr
        go_upto_region 11 with fail
        clear x0 x1 x2 y0 y1 y2 fz fz1 fz2
        obtain ⟨s3, hs3⟩ : ∃ xx, s2.setCell ⟨g12, 2, none⟩ (.bool ro) = xx := ⟨_, rfl⟩
        have HU2 : Hid (Rl s3 g12 ⟨m, mx, ro⟩) := Lib.hid (by rw [← hs3]; exact Go.Joins.block_setCell HU.out _)
        have HPA : Hid (Pf s3 aA nA A) := Lib.hid (by rw [← hs3]; exact HPA.out.set HU.out)
        have HPB : Hid (Pf s3 aB nA B) := Lib.hid (by rw [← hs3]; exact HPB.out.set HU.out)
        have HR : Hid (Rl s3 g11 ⟨rk, rs, ro⟩) := Lib.hid (by rw [← hs3]; exact HR.out.set HNE.out.1)
        have HB : Hid (Below w.heap.size w s3) := Lib.hid (by rw [← hs3]; exact HB.out.setCell (p := ⟨g12, 2, none⟩) HNE.out.2 _)
        have HU := HU2
        rw [hs3]
        clear hs3 HU2
        obtain ⟨x0, x1, x2⟩ := HR.out.cells
        simp only at x0 x1 x2
        obtain ⟨y0, y1, y2⟩ := HU.out.cells
        simp only at y0 y1 y2
        go_wp2_with fail
        refine (weaker_b _ HF2.out).mono ?_
        rintro e t1 ⟨rfl, hb⟩
        have HB := Lib.hid (HB.out.trans (hb.mono HB.out.size))
        have HPA := Lib.hid (HPA.out.below hb)
        have HR := Lib.hid (HR.out.below hb)
        have HU := Lib.hid (HU.out.below hb)
        have HPB := Lib.hid (HPB.out.below hb)
        clear hb
        clear x0 x1 x2 y0 y1 y2
        obtain ⟨x0, x1, x2⟩ := HR.out.cells
        simp only at x0 x1 x2
        obtain ⟨y0, y1, y2⟩ := HU.out.cells
        simp only at y0 y1 y2
        go_wp2_with fail
        refine (agree_b HPA.out HPB.out HV1.out).mono ?_
        rintro e t2 ⟨rfl, hb⟩
        have HB := Lib.hid (HB.out.trans (hb.mono HB.out.size))
        have HPA := Lib.hid (HPA.out.below hb)
        have HR := Lib.hid (HR.out.below hb)
        have HU := Lib.hid (HU.out.below hb)
        have HPB := Lib.hid (HPB.out.below hb)
        clear hb
        clear x0 x1 x2 y0 y1 y2
        obtain ⟨x0, x1, x2⟩ := HR.out.cells
        simp only at x0 x1 x2
        obtain ⟨y0, y1, y2⟩ := HU.out.cells
        simp only at y0 y1 y2
        have HV4 : Hid (v3 = true) := Lib.hid (by have := HF4.out; simpa using this)
        rw [HV4.out] at HV3
        go_wp2_with fail
        refine (agree_b HPA.out HPB.out HV3.out).mono ?_
        rintro e t3 ⟨rfl, hb⟩
        have HB := Lib.hid (HB.out.trans (hb.mono HB.out.size))
        have HPA := Lib.hid (HPA.out.below hb)
        have HR := Lib.hid (HR.out.below hb)
        have HU := Lib.hid (HU.out.below hb)
        have HPB := Lib.hid (HPB.out.below hb)
        clear hb
        clear x0 x1 x2 y0 y1 y2
        obtain ⟨x0, x1, x2⟩ := HR.out.cells
        simp only at x0 x1 x2
        obtain ⟨y0, y1, y2⟩ := HU.out.cells
        simp only at y0 y1 y2
        go_wp2_with fail
        refine (weaker_b _ HF3.out).mono ?_
        rintro e t4 ⟨rfl, hb⟩
        have HB := Lib.hid (HB.out.trans (hb.mono HB.out.size))
        have HPA := Lib.hid (HPA.out.below hb)
        have HR := Lib.hid (HR.out.below hb)
        have HU := Lib.hid (HU.out.below hb)
        have HPB := Lib.hid (HPB.out.below hb)
        clear hb
        go_wp2_with fail
        go_ret
        exact ⟨rfl, HB.out⟩
end Go.Proofs.Ythblehinmbgbdaa
