/- PerformanceIgnored: events that do not count make no difference; what agrees strictly has the same encoding. -/
import Derived.Test.YthblehinmbgbdaaG36
namespace Go.Proofs.Ythblehinmbgbdaa
open Go.RowKit
set_option maxRecDepth 100000

theorem encode_valid {X : List Ev} (h : validP X = true) : encodeR X = (encE X, 0) := by rw [encodeR, if_pos h]
theorem str_eq (x y : List UInt8) : ((⟨x.toArray⟩ : ByteArray).toList == (⟨y.toArray⟩ : ByteArray).toList) = decide (x = y) := by
  rw [ByteArray.toList_eq, ByteArray.toList_eq, Bool.eq_iff_iff]
  simp
attribute [local irreducible] agr relOf someOf nearOf compareR counted encE
/-- The call that compares, on all inputs of the walk. -/
theorem ign_facts {r : Rel} {A B : List Ev} (hA : validP A = true) (hB : validP B = true) : ∃ (i : Int) (b : Bool), compareR r A B = (i, b) ∧ compareR r (counted r A) (counted r B) = (i, b) ∧ agr strictR A B = ((⟨(encE A).toArray⟩ : ByteArray).toList == (⟨(encE B).toArray⟩ : ByteArray).toList) :=
  ⟨(compareR r A B).1, (compareR r A B).2, rfl, compare_counted r A B, by rw [str_eq, strict_iff hA hB]⟩
set_option maxHeartbeats 8000000 in
theorem ign_any (al : Option Addr) (cl : Nat) (Q : List Qd) (am : Option Addr) (cm : Nat) (M : List Qd) (a1 : Option Addr) (c1 : Nat) (N1 : List Int) (x y z : Int) (near : Bool) (w : World) (hQ : QdS w al Q) (hQI : QdI Q) (hQl : Q.length ≤ 9223372036854775807) (hM : QdS w am M) (hMI : QdI M) (hMl : M.length ≤ 9223372036854775807) (hN1 : InS w a1 N1) (hI1 : InI N1) (hl1 : N1.length ≤ 9223372036854775807) (hx : I64 x) (hy : I64 y) (hz : I64 z) :
    Calls Try.prog 10 #[.slice al Q.length cl, .slice am M.length cm, .slice a1 N1.length c1, .agg #[.int .i64 x, .int .i64 y, .int .i64 z], .bool near] w fun e w' => e = .returned (.bool true) ∧ Below w.heap.size w w' := by
  obtain ⟨nq, hnq⟩ : ∃ n, Q.length = n := ⟨_, rfl⟩
  obtain ⟨nm, hnm⟩ : ∃ n, M.length = n := ⟨_, rfl⟩
  obtain ⟨n1, hn1⟩ : ∃ n, N1.length = n := ⟨_, rfl⟩
  obtain ⟨r, hr⟩ : ∃ r, relOf x y z = r := ⟨_, rfl⟩
  obtain ⟨A, hA⟩ : ∃ A, someOf Q = A := ⟨_, rfl⟩
  obtain ⟨B, hB⟩ : ∃ B, someOf M = B := ⟨_, rfl⟩
  obtain ⟨C, hC⟩ : ∃ C, nearOf 1 N1 A = C := ⟨_, rfl⟩
  have HAS : Hid (Sml 240 A) := Lib.hid (by rw [← hA]; exact (someOf_facts Q).2)
  have HVA : Hid (validP A = true) := Lib.hid (by rw [← hA]; exact sml_valid (by have := someOf_length Q; omega) (someOf_facts Q).1 (someOf_facts Q).2 (by omega))
  have HVB : Hid (validP B = true) := Lib.hid (by rw [← hB]; exact sml_valid (by have := someOf_length M; omega) (someOf_facts M).1 (someOf_facts M).2 (by omega))
  have HVC : Hid (validP C = true) := Lib.hid (by rw [← hC]; exact sml_valid (by rw [nearOf_length, ← hA]; have := someOf_length Q; omega) (nearOf_asc _ _ _) (nearOf_sml (s := 1) (by omega) HAS.out (by omega)) (by omega))
  have HF1 := Lib.hid (ign_facts (r := r) HVA.out HVB.out)
  have HF2 := Lib.hid (ign_facts (r := r) HVA.out HVC.out)
  have HSA := Lib.hid (fun W => sane_any W)
  have HRL : Hid (∀ W, Calls Try.prog 15 #[.agg #[.int .i64 x, .int .i64 y, .int .i64 z]] W fun e w' => e = .returned (.agg #[.int .i64 r.kinds, .int .i64 r.slack, .bool r.ord]) ∧ Below W.heap.size W w') := Lib.hid (fun W => by
    have := relation_any x y z W hx hy hz
    rw [hr] at this
    exact this)
  have HSM : Hid (∀ W, Below w.heap.size w W → Calls Try.prog 12 #[.slice al nq cl] W fun e w' => ∃ a' n' c', e = .returned (.slice a' n' c') ∧ n' ≤ 30 ∧ Pf w' a' n' A ∧ Below W.heap.size W w') := Lib.hid (fun W hW => by
    have := some_b (c := cl) (hQ.below hW) hnq hQI (by omega)
    rwa [hA] at this)
  have HSN : Hid (∀ W, Below w.heap.size w W → Calls Try.prog 12 #[.slice am nm cm] W fun e w' => ∃ a' n' c', e = .returned (.slice a' n' c') ∧ n' ≤ 30 ∧ Pf w' a' n' B ∧ Below W.heap.size W w') := Lib.hid (fun W hW => by
    have := some_b (c := cm) (hM.below hW) hnm hMI (by omega)
    rwa [hB] at this)
  have HN1 : Hid (∀ (a : Option Addr) (n c : Nat) W, Below w.heap.size w W → Pf W a n A → n ≤ 30 → Calls Try.prog 13 #[.slice a n c, .int .i64 1, .slice a1 n1 c1] W fun e w' => ∃ a' c', e = .returned (.slice a' n c') ∧ Pf w' a' n C ∧ Below W.heap.size W w') := Lib.hid (fun a n c W hW h hn => by
    have := near_b (c := c) (c2 := c1) h hn (s := 1) (by omega) HAS.out (by omega) (hN1.below hW) hn1 hI1 (by omega)
    rwa [hC] at this)
  rw [hnq, hnm, hn1]
  clear hQ hQI hQl hM hMI hMl hx hy hz hN1 hI1 hl1 hnq hnm hn1 hr hA hB hC
  obtain ⟨rk, rs, ro⟩ := r
  simp only at HF1 HF2 HRL
  have HB := Lib.hid (Below.refl w.heap.size w)
  obtain ⟨w0, hw0⟩ : ∃ xx, w.alloc (.cells #[.int .i64 x, .int .i64 y, .int .i64 z] 24) = xx := ⟨_, rfl⟩
  obtain ⟨g6, hg6⟩ : ∃ xx, w.heap.size = xx := ⟨_, rfl⟩
  have hb : Below w.heap.size w w0 := by rw [← hw0]; exact (Below.refl _ _).alloc (Nat.le_refl _) _
  have HT : Hid (Tr3 w0 g6 x y z) := Lib.hid (by rw [← hw0, ← hg6]; exact heap_last _ _)
  have HB := Lib.hid (HB.out.trans (hb.mono HB.out.size))
  clear hb
  go_enter Try.func10, Try.ntmps10
  go_wp2_with fail
  refine (HSA.out _).mono ?_
  rintro e w1 ⟨rfl, hb⟩
  have HB := Lib.hid (HB.out.trans (hb.mono HB.out.size))
  have HT := Lib.hid (HT.out.below hb)
  clear hb
  clear hw0 hg6
  go_wp2_with fail
  refine (HSM.out _ HB.out).mono ?_
  rintro e w2 ⟨aA, nA, cA, rfl, hn30, hpA, hb⟩
  have HB := Lib.hid (HB.out.trans (hb.mono HB.out.size))
  have HT := Lib.hid (HT.out.below hb)
  have HPA := Lib.hid hpA
  clear hb hpA
  go_wp2_with fail
  refine (HSN.out _ HB.out).mono ?_
  rintro e w3 ⟨aB, nB, cB, rfl, hm30, hpB, hb⟩
  have HB := Lib.hid (HB.out.trans (hb.mono HB.out.size))
  have HT := Lib.hid (HT.out.below hb)
  have HPA := Lib.hid (HPA.out.below hb)
  have HPB := Lib.hid hpB
  clear hb hpB
  cases near with
  | false =>
    obtain ⟨i, b, f1, f2, f3⟩ := HF1.out
    have HC1 := Lib.hid f1
    have HC2 := Lib.hid f2
    have HSR : Hid (agr ⟨62, 0, true⟩ A B = _) := Lib.hid f3
    clear f1 f2 f3
    obtain ⟨x0, x1, x2⟩ := HT.out.cells
    go_wp2_with fail
    refine (HRL.out _).mono ?_
    rintro e w5 ⟨rfl, hb⟩
    have HB := Lib.hid (HB.out.trans (hb.mono HB.out.size))
    have HT := Lib.hid (HT.out.below hb)
    have HPA := Lib.hid (HPA.out.below hb)
    have HPB := Lib.hid (HPB.out.below hb)
    clear hb
    clear x0 x1 x2
    obtain ⟨w6, hw6⟩ : ∃ xx, w5.alloc (.cells #[.int .i64 rk, .int .i64 rs, .bool ro] 23) = xx := ⟨_, rfl⟩
    obtain ⟨g14, hg14⟩ : ∃ xx, w5.heap.size = xx := ⟨_, rfl⟩
    have hb : Below w5.heap.size w5 w6 := by rw [← hw6]; exact (Below.refl _ _).alloc (Nat.le_refl _) _
    have HR : Hid (Rl w6 g14 ⟨rk, rs, ro⟩) := Lib.hid (by rw [← hw6, ← hg14]; exact heap_last _ _)
    have HB := Lib.hid (HB.out.trans (hb.mono HB.out.size))
    have HT := Lib.hid (HT.out.below hb)
    have HPA := Lib.hid (HPA.out.below hb)
    have HPB := Lib.hid (HPB.out.below hb)
    clear hb
    obtain ⟨x0, x1, x2⟩ := HR.out.cells
    simp only at x0 x1 x2
    go_wp2_with fail
    refine (compare_b HPA.out HPB.out HC1.out).mono ?_
    rintro e w7 ⟨rfl, hb⟩
    have HB := Lib.hid (HB.out.trans (hb.mono HB.out.size))
    have HT := Lib.hid (HT.out.below hb)
    have HPA := Lib.hid (HPA.out.below hb)
    have HPB := Lib.hid (HPB.out.below hb)
    have HR := Lib.hid (HR.out.below hb)
    clear hb
    clear x0 x1 x2 hw6 hg14
    have HBD : Hid (Below w7.heap.size w7 (w7.drewN 1)) := Lib.hid (Below_drewN (Below.refl _ _) 1)
    obtain ⟨x0, x1, x2⟩ := HR.out.cells
    simp only at x0 x1 x2
    go_upto_region 8 with fail
    go_region_held3 (fun w' => w'.cell? ⟨g14, 0, none⟩ = some (.int .i64 rk) ∧ w'.cell? ⟨g14, 1, none⟩ = some (.int .i64 rs) ∧ w'.cell? ⟨g14, 2, none⟩ = some (.bool ro)) (go_keep)
      ((first
        | (go_at_call_of 21 (Value.slice aA nA cA)
           first
             | (refine (counted_b (HPA.out.below HB1B.out)).mono ?_; rintro e w2A ⟨a2A, c2A, rfl, hp, hb⟩; have HQ2A := Lib.hid hp; have HQ1B := Lib.hid (HQ1B.out.below hb); have HB2A := Lib.hid (HB1B.out.trans (hb.mono HB1B.out.size)); obtain ⟨d0, d1, d2⟩ := (HR.out.below HB2A.out).cells; simp only at d0 d1 d2; clear hp hb)
             | (refine (counted_b (HPA.out.below HBD.out)).mono ?_; rintro e w1A ⟨a1A, c1A, rfl, hp, hb⟩; have HQ1A := Lib.hid hp; have HB1A := Lib.hid (HBD.out.trans (hb.mono HBD.out.size)); obtain ⟨e0, e1, e2⟩ := (HR.out.below HB1A.out).cells; simp only at e0 e1 e2; clear hp hb))
        | (go_at_call_of 21 (Value.slice aB nB cB)
           first
             | (refine (counted_b (HPB.out.below HB1A.out)).mono ?_; rintro e w2B ⟨a2B, c2B, rfl, hp, hb⟩; have HQ2B := Lib.hid hp; have HQ1A := Lib.hid (HQ1A.out.below hb); have HB2B := Lib.hid (HB1A.out.trans (hb.mono HB1A.out.size)); obtain ⟨d0, d1, d2⟩ := (HR.out.below HB2B.out).cells; simp only at d0 d1 d2; clear hp hb)
             | (refine (counted_b (HPB.out.below HBD.out)).mono ?_; rintro e w1B ⟨a1B, c1B, rfl, hp, hb⟩; have HQ1B := Lib.hid hp; have HB1B := Lib.hid (HBD.out.trans (hb.mono HBD.out.size)); obtain ⟨e0, e1, e2⟩ := (HR.out.below HB1B.out).cells; simp only at e0 e1 e2; clear hp hb))
        | (go_at_call 23
           first
             | (refine (compare_b HQ2A.out HQ1B.out HC2.out).mono ?_; rintro e w8 ⟨rfl, hb⟩; have HBZ := Lib.hid (HB2A.out.trans (hb.mono HB2A.out.size)); obtain ⟨g0, g1, g2⟩ := (HR.out.below HBZ.out).cells; simp only at g0 g1 g2; clear hb)
             | (refine (compare_b HQ1A.out HQ2B.out HC2.out).mono ?_; rintro e w8 ⟨rfl, hb⟩; have HBZ := Lib.hid (HB2B.out.trans (hb.mono HB2B.out.size)); obtain ⟨g0, g1, g2⟩ := (HR.out.below HBZ.out).cells; simp only at g0 g1 g2; clear hb))))
    all_goals
      rename_i hheld
      clear hheld
      have HB := Lib.hid (HB.out.trans (HBZ.out.mono HB.out.size))
      have HPA := Lib.hid (HPA.out.below HBZ.out)
      have HPB := Lib.hid (HPB.out.below HBZ.out)
      have HEA := Lib.hid (encode_valid HVA.out)
      have HEB := Lib.hid (encode_valid HVB.out)
      have CA := Lib.hid (encode_b (c := cA) HPA.out)
      rw [HEA.out] at CA
      simp only [encV] at CA
      obtain ⟨SA, hSA⟩ : ∃ xx : ByteArray, ⟨(encE A).toArray⟩ = xx := ⟨_, rfl⟩
      obtain ⟨SB, hSB⟩ : ∃ xx : ByteArray, ⟨(encE B).toArray⟩ = xx := ⟨_, rfl⟩
      rw [hSA, hSB] at HSR
      rw [hSA] at CA
      have hSA := Lib.hid hSA
      have hSB := Lib.hid hSB
      go_wp2_with fail
      refine (CA.out).mono ?_
      rintro e w9 ⟨rfl, hb⟩
      have HB := Lib.hid (HB.out.trans (hb.mono HB.out.size))
      have HPA := Lib.hid (HPA.out.below hb)
      have HPB := Lib.hid (HPB.out.below hb)
      clear hb
      have CB := Lib.hid (encode_b (c := cB) HPB.out)
      rw [HEB.out] at CB
      simp only [encV] at CB
      rw [hSB.out] at CB
      go_wp2_with fail
      refine (CB.out).mono ?_
      rintro e w10 ⟨rfl, hb⟩
      have HB := Lib.hid (HB.out.trans (hb.mono HB.out.size))
      have HPA := Lib.hid (HPA.out.below hb)
      have HPB := Lib.hid (HPB.out.below hb)
      clear hb
      obtain ⟨sb, hsb⟩ : ∃ b, (SA.toList == SB.toList) = b := ⟨_, rfl⟩
      rw [hsb] at HSR
      go_wp2_with fail
      refine (agree_b HPA.out HPB.out HSR.out).mono ?_
      rintro e w11 ⟨rfl, hb⟩
      have HB := Lib.hid (HB.out.trans (hb.mono HB.out.size))
      have HPA := Lib.hid (HPA.out.below hb)
      have HPB := Lib.hid (HPB.out.below hb)
      clear hb
      go_wp2_with fail
      go_ret
      exact ⟨by simp, HB.out⟩
  | true =>
    go_wp2_with fail
    refine (HN1.out _ _ _ _ HB.out HPA.out hn30).mono ?_
    rintro e w4 ⟨aC, cC, rfl, hpC, hb⟩
    have HB := Lib.hid (HB.out.trans (hb.mono HB.out.size))
    have HT := Lib.hid (HT.out.below hb)
    have HPA := Lib.hid (HPA.out.below hb)
    have HPB := Lib.hid (HPB.out.below hb)
    have HPC := Lib.hid hpC
    clear hb hpC
    obtain ⟨i, b, f1, f2, f3⟩ := HF2.out
    have HC1 := Lib.hid f1
    have HC2 := Lib.hid f2
    have HSR : Hid (agr ⟨62, 0, true⟩ A C = _) := Lib.hid f3
    clear f1 f2 f3
    obtain ⟨x0, x1, x2⟩ := HT.out.cells
    go_wp2_with fail
    refine (HRL.out _).mono ?_
    rintro e w5 ⟨rfl, hb⟩
    have HB := Lib.hid (HB.out.trans (hb.mono HB.out.size))
    have HT := Lib.hid (HT.out.below hb)
    have HPA := Lib.hid (HPA.out.below hb)
    have HPC := Lib.hid (HPC.out.below hb)
    clear hb
    clear x0 x1 x2
    obtain ⟨w6, hw6⟩ : ∃ xx, w5.alloc (.cells #[.int .i64 rk, .int .i64 rs, .bool ro] 23) = xx := ⟨_, rfl⟩
    obtain ⟨g14, hg14⟩ : ∃ xx, w5.heap.size = xx := ⟨_, rfl⟩
    have hb : Below w5.heap.size w5 w6 := by rw [← hw6]; exact (Below.refl _ _).alloc (Nat.le_refl _) _
    have HR : Hid (Rl w6 g14 ⟨rk, rs, ro⟩) := Lib.hid (by rw [← hw6, ← hg14]; exact heap_last _ _)
    have HB := Lib.hid (HB.out.trans (hb.mono HB.out.size))
    have HT := Lib.hid (HT.out.below hb)
    have HPA := Lib.hid (HPA.out.below hb)
    have HPC := Lib.hid (HPC.out.below hb)
    clear hb
    obtain ⟨x0, x1, x2⟩ := HR.out.cells
    simp only at x0 x1 x2
    go_wp2_with fail
    refine (compare_b HPA.out HPC.out HC1.out).mono ?_
    rintro e w7 ⟨rfl, hb⟩
    have HB := Lib.hid (HB.out.trans (hb.mono HB.out.size))
    have HT := Lib.hid (HT.out.below hb)
    have HPA := Lib.hid (HPA.out.below hb)
    have HPC := Lib.hid (HPC.out.below hb)
    have HR := Lib.hid (HR.out.below hb)
    clear hb
    clear x0 x1 x2 hw6 hg14
    have HBD : Hid (Below w7.heap.size w7 (w7.drewN 1)) := Lib.hid (Below_drewN (Below.refl _ _) 1)
    obtain ⟨x0, x1, x2⟩ := HR.out.cells
    simp only at x0 x1 x2
    go_upto_region 8 with fail
    go_region_held3 (fun w' => w'.cell? ⟨g14, 0, none⟩ = some (.int .i64 rk) ∧ w'.cell? ⟨g14, 1, none⟩ = some (.int .i64 rs) ∧ w'.cell? ⟨g14, 2, none⟩ = some (.bool ro)) (go_keep)
      ((first
        | (go_at_call_of 21 (Value.slice aA nA cA)
           first
             | (refine (counted_b (HPA.out.below HB1B.out)).mono ?_; rintro e w2A ⟨a2A, c2A, rfl, hp, hb⟩; have HQ2A := Lib.hid hp; have HQ1B := Lib.hid (HQ1B.out.below hb); have HB2A := Lib.hid (HB1B.out.trans (hb.mono HB1B.out.size)); obtain ⟨d0, d1, d2⟩ := (HR.out.below HB2A.out).cells; simp only at d0 d1 d2; clear hp hb)
             | (refine (counted_b (HPA.out.below HBD.out)).mono ?_; rintro e w1A ⟨a1A, c1A, rfl, hp, hb⟩; have HQ1A := Lib.hid hp; have HB1A := Lib.hid (HBD.out.trans (hb.mono HBD.out.size)); obtain ⟨e0, e1, e2⟩ := (HR.out.below HB1A.out).cells; simp only at e0 e1 e2; clear hp hb))
        | (go_at_call_of 21 (Value.slice aC nA cC)
           first
             | (refine (counted_b (HPC.out.below HB1A.out)).mono ?_; rintro e w2B ⟨a2B, c2B, rfl, hp, hb⟩; have HQ2B := Lib.hid hp; have HQ1A := Lib.hid (HQ1A.out.below hb); have HB2B := Lib.hid (HB1A.out.trans (hb.mono HB1A.out.size)); obtain ⟨d0, d1, d2⟩ := (HR.out.below HB2B.out).cells; simp only at d0 d1 d2; clear hp hb)
             | (refine (counted_b (HPC.out.below HBD.out)).mono ?_; rintro e w1B ⟨a1B, c1B, rfl, hp, hb⟩; have HQ1B := Lib.hid hp; have HB1B := Lib.hid (HBD.out.trans (hb.mono HBD.out.size)); obtain ⟨e0, e1, e2⟩ := (HR.out.below HB1B.out).cells; simp only at e0 e1 e2; clear hp hb))
        | (go_at_call 23
           first
             | (refine (compare_b HQ2A.out HQ1B.out HC2.out).mono ?_; rintro e w8 ⟨rfl, hb⟩; have HBZ := Lib.hid (HB2A.out.trans (hb.mono HB2A.out.size)); obtain ⟨g0, g1, g2⟩ := (HR.out.below HBZ.out).cells; simp only at g0 g1 g2; clear hb)
             | (refine (compare_b HQ1A.out HQ2B.out HC2.out).mono ?_; rintro e w8 ⟨rfl, hb⟩; have HBZ := Lib.hid (HB2B.out.trans (hb.mono HB2B.out.size)); obtain ⟨g0, g1, g2⟩ := (HR.out.below HBZ.out).cells; simp only at g0 g1 g2; clear hb))))
    all_goals
      rename_i hheld
      clear hheld
      have HB := Lib.hid (HB.out.trans (HBZ.out.mono HB.out.size))
      have HPA := Lib.hid (HPA.out.below HBZ.out)
      have HPC := Lib.hid (HPC.out.below HBZ.out)
      have HEA := Lib.hid (encode_valid HVA.out)
      have HEB := Lib.hid (encode_valid HVC.out)
      have CA := Lib.hid (encode_b (c := cA) HPA.out)
      rw [HEA.out] at CA
      simp only [encV] at CA
      obtain ⟨SA, hSA⟩ : ∃ xx : ByteArray, ⟨(encE A).toArray⟩ = xx := ⟨_, rfl⟩
      obtain ⟨SB, hSB⟩ : ∃ xx : ByteArray, ⟨(encE C).toArray⟩ = xx := ⟨_, rfl⟩
      rw [hSA, hSB] at HSR
      rw [hSA] at CA
      have hSA := Lib.hid hSA
      have hSB := Lib.hid hSB
      go_wp2_with fail
      refine (CA.out).mono ?_
      rintro e w9 ⟨rfl, hb⟩
      have HB := Lib.hid (HB.out.trans (hb.mono HB.out.size))
      have HPA := Lib.hid (HPA.out.below hb)
      have HPC := Lib.hid (HPC.out.below hb)
      clear hb
      have CB := Lib.hid (encode_b (c := cC) HPC.out)
      rw [HEB.out] at CB
      simp only [encV] at CB
      rw [hSB.out] at CB
      go_wp2_with fail
      refine (CB.out).mono ?_
      rintro e w10 ⟨rfl, hb⟩
      have HB := Lib.hid (HB.out.trans (hb.mono HB.out.size))
      have HPA := Lib.hid (HPA.out.below hb)
      have HPC := Lib.hid (HPC.out.below hb)
      clear hb
      obtain ⟨sb, hsb⟩ : ∃ b, (SA.toList == SB.toList) = b := ⟨_, rfl⟩
      rw [hsb] at HSR
      go_wp2_with fail
      refine (agree_b HPA.out HPC.out HSR.out).mono ?_
      rintro e w11 ⟨rfl, hb⟩
      have HB := Lib.hid (HB.out.trans (hb.mono HB.out.size))
      have HPA := Lib.hid (HPA.out.below hb)
      have HPC := Lib.hid (HPC.out.below hb)
      clear hb
      go_wp2_with fail
      go_ret
      exact ⟨by simp, HB.out⟩
end Go.Proofs.Ythblehinmbgbdaa
