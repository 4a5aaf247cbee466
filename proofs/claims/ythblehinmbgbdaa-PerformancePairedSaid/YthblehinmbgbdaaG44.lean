/- PerformancePaired: times may differ by the slack; one event more, or less, or another one parts two performances. -/
import Derived.Test.YthblehinmbgbdaaG43
import Derived.Test.YthblehinmbgbdaaG10
import Derived.Deep.RegionHeld3
namespace Go.Proofs.Ythblehinmbgbdaa
open Go.RowKit
set_option maxRecDepth 100000

theorem not_bit {r : Rel} {e : Ev} (hr : validR r = true) (hk : 1 ≤ e.kd ∧ e.kd ≤ 5) : ((r.kinds / 2 ^ e.kd.toNat).tmod 2 == 0) = !cnt r e := by
  have h0 := ((validR_iff r).1 hr).1
  have h2 : (r.kinds / 2 ^ e.kd.toNat).tmod 2 = r.kinds / 2 ^ e.kd.toNat % 2 := Int.tmod_eq_emod_of_nonneg (Int.ediv_nonneg h0 (Int.pow_nonneg (by omega)))
  have h4 : decide (1 ≤ e.kd ∧ e.kd ≤ 5) = true := decide_eq_true hk
  rw [h2, cnt, h4, Bool.true_and]
  rcases Int.emod_two_eq (r.kinds / 2 ^ e.kd.toNat) with h3 | h3 <;> rw [h3] <;> decide
/-- What the statement says, in plain words. -/
theorem pair_facts {r : Rel} {s : Int} {A B : List Ev} {N : List Int} (hr : validR r = true) (ho : r.ord = false) (hs : r.slack = s) (hA : ∀ e ∈ A, 0 ≤ e.tm ∧ e.tm ≤ 20000) (hB : nearOf s N A = B) :
    agr r A B = true ∧ agr r B A = true ∧ ∀ (k : Nat) (e : Ev), B[k]? = some e → agr r A (B.take k ++ B.drop (k + 1)) = !cnt r e ∧ agr r A (B ++ [e]) = !cnt r e ∧ agr r A (B.set k { e with a := e.a + 7 }) = !cnt r e := by
  have h1 : agr r A B = true := by rw [← hB, ← hs]; exact agr_near hr ho hA
  refine ⟨h1, by rw [agr_symm hr]; exact h1, fun k e he => ⟨paired_less hr ho h1 he, paired_more hr ho h1, ?_⟩⟩
  rw [List.set_eq_take_append_cons_drop, if_pos (List.getElem?_eq_some_iff.1 he).1]
  exact paired_other hr ho h1 he rfl (by simp [cls]; omega)
attribute [local irreducible] agr relOf someOf nearOf
set_option maxHeartbeats 8000000 in
theorem pair_any (al : Option Addr) (cl : Nat) (Q : List Qd) (x y z : Int) (a1 : Option Addr) (c1 : Nat) (N1 : List Int) (which how : Int) (w : World) (hQ : QdS w al Q) (hQI : QdI Q) (hQl : Q.length ≤ 9223372036854775807) (hx : I64 x) (hy : I64 y) (hz : I64 z) (hN1 : InS w a1 N1) (hI1 : InI N1) (hl1 : N1.length ≤ 9223372036854775807) (hwh : I64 which) (hho : I64 how) :
    Calls Try.prog 5 #[.slice al Q.length cl, .agg #[.int .i64 x, .int .i64 y, .int .i64 z], .slice a1 N1.length c1, .int .i64 which, .int .i64 how] w fun e w' => e = .returned (.bool true) ∧ Below w.heap.size w w' := by
  obtain ⟨nq, hnq⟩ : ∃ n, Q.length = n := ⟨_, rfl⟩
  obtain ⟨n1, hn1⟩ : ∃ n, N1.length = n := ⟨_, rfl⟩
  obtain ⟨r, hr⟩ : ∃ r, relOf x y z = r := ⟨_, rfl⟩
  obtain ⟨A, hA⟩ : ∃ A, someOf Q = A := ⟨_, rfl⟩
  obtain ⟨C, hC⟩ : ∃ C, nearOf r.slack N1 A = C := ⟨_, rfl⟩
  have HSL : Hid (0 ≤ r.slack ∧ r.slack ≤ 5) := Lib.hid (by rw [← hr]; exact relOf_slack x y z)
  have HV : Hid (validR ⟨r.kinds, r.slack, false⟩ = true) := Lib.hid (valid_with (by rw [← hr]; exact relOf_valid x y z) _ (by have := HSL.out; omega) false)
  have HAS : Hid (Sml 240 A) := Lib.hid (by rw [← hA]; exact (someOf_facts Q).2)
  have HCS : Hid (Sml 300 C) := Lib.hid (by rw [← hC]; exact (nearOf_sml (s := r.slack) (by have := HSL.out; omega) HAS.out (by have := HSL.out; omega)).mono (by have := HSL.out; omega))
  have HF := Lib.hid (pair_facts (r := ⟨r.kinds, r.slack, false⟩) HV.out rfl rfl (fun e he => by have := HAS.out e he; omega) hC)
  have HSA := Lib.hid (fun W => sane_any W)
  have HRL : Hid (∀ W, Calls Try.prog 15 #[.agg #[.int .i64 x, .int .i64 y, .int .i64 z]] W fun e w' => e = .returned (.agg #[.int .i64 r.kinds, .int .i64 r.slack, .bool r.ord]) ∧ Below W.heap.size W w') := Lib.hid (fun W => by
    have := relation_any x y z W hx hy hz
    rw [hr] at this
    exact this)
  have HSM : Hid (∀ W, Below w.heap.size w W → Calls Try.prog 12 #[.slice al nq cl] W fun e w' => ∃ a' n' c', e = .returned (.slice a' n' c') ∧ n' ≤ 30 ∧ Pf w' a' n' A ∧ Below W.heap.size W w') := Lib.hid (fun W hW => by
    have := some_b (c := cl) (hQ.below hW) hnq hQI (by omega)
    rwa [hA] at this)
  have HN1 : Hid (∀ (a : Option Addr) (n c : Nat) W, Below w.heap.size w W → Pf W a n A → n ≤ 30 → Calls Try.prog 13 #[.slice a n c, .int .i64 r.slack, .slice a1 n1 c1] W fun e w' => ∃ a' c', e = .returned (.slice a' n c') ∧ n ≤ c' ∧ Pf w' a' n C ∧ Below W.heap.size W w') := Lib.hid (fun a n c W hW h hn => by
    have := near_c (c := c) (c2 := c1) h hn (s := r.slack) (by have := HSL.out; omega) HAS.out (by omega) (hN1.below hW) hn1 hI1 (by omega)
    rwa [hC] at this)
  have HPW := Lib.hid (fun (n : Int) W h1 h2 => pickL_any which n W hwh h1 h2)
  have HPH := Lib.hid (fun W => pickL_any how 3 W hho (by omega) (by omega))
  obtain ⟨h3, e3, h30, h31⟩ := pick_small (c := how) (n := 3) (by omega)
  rw [e3] at HPH
  rw [hnq, hn1]
  clear hQ hQI hQl hx hy hz hN1 hI1 hl1 hnq hn1 hr hA hC hwh hho e3
  obtain ⟨rk, rs, ro⟩ := r
  simp only at HSL HV HRL HF HN1
  obtain ⟨f1, f2, f3⟩ := HF.out
  have HF1 := Lib.hid f1
  have HF2 := Lib.hid f2
  have HF3 := Lib.hid f3
  clear f1 f2 f3 HF
  have HB := Lib.hid (Below.refl w.heap.size w)
  obtain ⟨w0, hw0⟩ : ∃ xx, w.alloc (.cells #[.int .i64 x, .int .i64 y, .int .i64 z] 24) = xx := ⟨_, rfl⟩
  obtain ⟨g6, hg6⟩ : ∃ xx, w.heap.size = xx := ⟨_, rfl⟩
  have hb : Below w.heap.size w w0 := by rw [← hw0]; exact (Below.refl _ _).alloc (Nat.le_refl _) _
  have HT : Hid (Tr3 w0 g6 x y z) := Lib.hid (by rw [← hw0, ← hg6]; exact heap_last _ _)
  have HB := Lib.hid (HB.out.trans (hb.mono HB.out.size))
  clear hb
  go_enter Try.func5, Try.ntmps5
  go_wp2_with fail
  refine (HSA.out _).mono ?_
  rintro e w1 ⟨rfl, hb⟩
  have HB := Lib.hid (HB.out.trans (hb.mono HB.out.size))
  have HT := Lib.hid (HT.out.below hb)
  clear hb
  clear hw0 hg6
  obtain ⟨x0, x1, x2⟩ := HT.out.cells
  go_wp2_with fail
  refine (HRL.out _).mono ?_
  rintro e w2 ⟨rfl, hb⟩
  have HB := Lib.hid (HB.out.trans (hb.mono HB.out.size))
  have HT := Lib.hid (HT.out.below hb)
  clear hb
  clear x0 x1 x2
  go_upto_region 4 with fail
  obtain ⟨w3, hw3⟩ : ∃ xx, w2.alloc (.cells #[.int .i64 rk, .int .i64 rs, .bool false] 23) = xx := ⟨_, rfl⟩
  obtain ⟨g12, hg12⟩ : ∃ xx, w2.heap.size = xx := ⟨_, rfl⟩
  have hb : Below w2.heap.size w2 w3 := by rw [← hw3]; exact (Below.refl _ _).alloc (Nat.le_refl _) _
  have HR : Hid (Rl w3 g12 ⟨rk, rs, false⟩) := Lib.hid (by rw [← hw3, ← hg12]; exact heap_last _ _)
  have HB := Lib.hid (HB.out.trans (hb.mono HB.out.size))
  have HT := Lib.hid (HT.out.below hb)
  clear hb
  rw [hw3, hg12]
  go_wp2_with fail
  refine (HSM.out _ HB.out).mono ?_
  rintro e w4 ⟨aA, nA, cA, rfl, hn30, hpA, hb⟩
  have HB := Lib.hid (HB.out.trans (hb.mono HB.out.size))
  have HT := Lib.hid (HT.out.below hb)
  have HR := Lib.hid (HR.out.below hb)
  have HPA := Lib.hid hpA
  clear hb hpA
  clear hw3 hg12 HT
  obtain ⟨x0, x1, x2⟩ := HR.out.cells
  simp only at x0 x1 x2
  go_wp2_with fail
  refine (HN1.out _ _ _ _ HB.out HPA.out hn30).mono ?_
  rintro e w5 ⟨aC, cC, rfl, hncC, hpC, hb⟩
  have HB := Lib.hid (HB.out.trans (hb.mono HB.out.size))
  have HR := Lib.hid (HR.out.below hb)
  have HPA := Lib.hid (HPA.out.below hb)
  have HPC := Lib.hid hpC
  clear hb hpC
  clear x0 x1 x2
  obtain ⟨x0, x1, x2⟩ := HR.out.cells
  simp only at x0 x1 x2
  go_wp2_with fail
  refine (agree_b HPA.out HPC.out HF1.out).mono ?_
  rintro e w6 ⟨rfl, hb⟩
  have HB := Lib.hid (HB.out.trans (hb.mono HB.out.size))
  have HR := Lib.hid (HR.out.below hb)
  have HPA := Lib.hid (HPA.out.below hb)
  have HPC := Lib.hid (HPC.out.below hb)
  clear hb
  clear x0 x1 x2
  obtain ⟨x0, x1, x2⟩ := HR.out.cells
  simp only at x0 x1 x2
  go_wp2_with fail
  refine (agree_b HPC.out HPA.out HF2.out).mono ?_
  rintro e w7 ⟨rfl, hb⟩
  have HB := Lib.hid (HB.out.trans (hb.mono HB.out.size))
  have HR := Lib.hid (HR.out.below hb)
  have HPA := Lib.hid (HPA.out.below hb)
  have HPC := Lib.hid (HPC.out.below hb)
  clear hb
  clear x0 x1 x2
  by_cases hn0 : nA = 0
  · have q0 : ((nA : Int) == 0) = true := by rw [beq_iff_eq]; omega
    have q1 : (nA == 0) = true := by rw [beq_iff_eq]; omega
    clear hn0
    go_wp2_with fail
    go_ret
    exact ⟨rfl, HB.out⟩
  · have q0 : ((nA : Int) == 0) = false := by rw [beq_eq_false_iff_ne]; omega
    have q1 : (nA == 0) = false := by rw [beq_eq_false_iff_ne]; omega
    go_wp2_with fail
    refine (HPW.out (nA : Int) _ (by omega) (by omega)).mono ?_
    rintro e _ ⟨rfl, rfl⟩
    obtain ⟨kk, ek, k0, k1⟩ := pick_small (c := which) (n := (nA : Int)) (by omega)
    rw [ek]
    clear ek
    obtain ⟨k, rfl⟩ : ∃ k : Nat, kk = k := ⟨kk.toNat, by omega⟩
    obtain ⟨e, he⟩ : ∃ e, C[k]? = some e := ⟨_, List.getElem?_eq_getElem (by rw [HPC.out.l]; omega)⟩
    obtain ⟨bC, oC, rfl, hbC, y0, y1, y2, y3⟩ := HPC.out.s k e he
    obtain ⟨g1, g2, g3⟩ := HF3.out k e he
    have HE := Lib.hid he
    have hes := HCS.out e (List.mem_of_getElem? he)
    obtain ⟨nb, hnb⟩ : ∃ b, (!cnt ⟨rk, rs, false⟩ e) = b := ⟨_, rfl⟩
    rw [hnb] at g1 g2 g3
    have HBIT : Hid (((rk / 2 ^ e.kd.toNat).tmod 2 == 0) = nb) := Lib.hid (by rw [← hnb]; exact not_bit (r := ⟨rk, rs, false⟩) HV.out hes.2.1)
    have HG1 := Lib.hid g1
    have HG2 := Lib.hid g2
    have HG3 := Lib.hid g3
    have HCL := Lib.hid HPC.out.l
    have HES := Lib.hid hes
    have HKN : Hid (k < nA) := Lib.hid (by omega)
    clear g1 g2 g3 he hnb HF1 HF2 HF3 HRL HSM HN1 hes
    go_wp2_with fail
    refine (HPH.out _).mono ?_
    rintro e9 _ ⟨rfl, rfl⟩
    rcases (by omega : h3 = 0 ∨ h3 = 1 ∨ h3 = 2) with rfl | rfl | rfl
    · have HBC := Lib.hid hbC
      have HY : Hid (evAt w7 bC (oC + k * 4) e) := Lib.hid ⟨y0, y1, y2, y3⟩
      have HCS7 := Lib.hid HPC.out.s
      have kb0 : (0 : Int) ≤ (k : Int) := by omega
      have kb1 : (k : Int) ≤ (cC : Int) := by omega
      have kb2 : (k : Int) ≤ (nA : Int) := by omega
      have kb3 : k ≤ cC := by omega
      have kb5 : (nA : Int) ≤ (cC : Int) := by omega
      have kb6 : (k : Int) < (nA : Int) := by omega
      obtain ⟨j, hj⟩ : ∃ j, k + 1 = j := ⟨_, rfl⟩
      have HJ := Lib.hid hj
      have hwk : IntKind.i64.wrap ((k : Int) + 1) = (j : Int) := by rw [IntKind.wrap_i64]; omega
      have jb1 : (j : Int) ≤ (nA : Int) := by omega
      have jb2 : (j : Int) ≤ (cC : Int) := by omega
      have jb3 : (0 : Int) ≤ (j : Int) := by omega
      have jb4 : j ≤ cC := by omega
      rw [hj] at HG1
      clear hj
      have HTL : Hid ((C.take k).length = k) := Lib.hid (by rw [List.length_take, HCL.out]; omega)
      have HDL : Hid ((C.drop j).length = nA - j) := Lib.hid (by rw [List.length_drop, HCL.out])
      have HTK : Hid (∀ W, Below w7.heap.size w7 W → EvS W (some ⟨bC, oC, none⟩) (C.take k)) := Lib.hid (fun W hW => (HCS7.out.below hW).take k)
      have HTD : Hid ((C.take k ++ C.drop j).length = nA - 1) := Lib.hid (by rw [List.length_append, HTL.out, HDL.out]; have := HJ.out; omega)
      by_cases hck : cC = j
      · obtain rfl : cC = nA := by omega
        subst hck
        have HDL : Hid ((C.drop cC).length = 0) := Lib.hid (by rw [HDL.out]; omega)
        have HDK : Hid (∀ W, Below w7.heap.size w7 W → EvS W (some ⟨bC, oC, none⟩) (C.drop cC)) := Lib.hid (fun W _ => by rw [List.eq_nil_of_length_eq_zero HDL.out]; exact EvS.nil _ _)
        go_upto_region 16 with fail
        clear y0 y1 y2 y3 hbC
        go_region_held3 (fun _ => True) (go_keep)
          ((first
            | (refine step_own (by rfl) _ _ (by rfl) (base := w7.heap.size) (L := []) (X := C.take k) (xa := some ⟨bC, oC, none⟩) (n := k) (by rfl) (by rfl) (ERow.nil _ _) (HTK.out _ ((Below.refl w7.heap.size w7).drew)) HTL.out (Nat.le_refl _) (by simp) (by omega) ?_
               intro v8 w8 hr8 hb8
               have HR8 := Lib.hid hr8
               have HB8 := Lib.hid ((Below.refl w7.heap.size w7).drew.trans hb8)
               clear hr8 hb8)
            | (refine step_own (by rfl) _ _ (by rfl) (base := w7.heap.size) (L := [] ++ C.take k) (X := C.drop cC) (xa := some ⟨bC, oC, none⟩) (n := 0) (by rfl) (by rfl) HR8.out (HDK.out _ HB8.out) HDL.out HB8.out.size (by rw [List.nil_append, HTL.out]; omega) (by omega) ?_
               intro v9 w9 hr9 hb9
               have HR9 := Lib.hid hr9
               have HB9 := Lib.hid (HB8.out.trans hb9)
               clear hr9 hb9)))
        all_goals
          try (rename_i hheld; clear hheld)
          have HR9 := Lib.hid (show ERow w9 w7.heap.size v9 (C.take k ++ C.drop cC) from HR9.out)
          obtain ⟨aD, cD, rfl, -, hsD, -⟩ := HR9.out.isSlice
          have HPD : Hid (Pf w9 aD (cC - 1) (C.take k ++ C.drop cC)) := Lib.hid ⟨hsD, HTD.out, by have := HPC.out.b; omega, fun f hf => by
            rcases List.mem_append.1 hf with hf | hf
            · exact HPC.out.i f (List.mem_of_mem_take hf)
            · exact HPC.out.i f (List.mem_of_mem_drop hf)⟩
          rw [HTD.out]
          clear hsD
          have HB := Lib.hid (HB.out.trans (HB9.out.mono HB.out.size))
          have HPA := Lib.hid (HPA.out.below HB9.out)
          have HR := Lib.hid (HR.out.below HB9.out)
          have HY := Lib.hid (evAt.below HY.out HBC.out HB9.out)
          have HBC := Lib.hid (Nat.lt_of_lt_of_le HBC.out HB9.out.size)
          have HC0 := Lib.hid (Below_drewN (Below.refl w9.heap.size w9) 1)
          have hbit := HBIT.out
          have hkd := HES.out.2.1.1
          have hkd0 : (0 : Int) ≤ e.kd := by omega
          have p0 : (0 : Int) ≤ (k : Int) := by omega
          have p1 : (k : Int) < (cC : Int) := by have := HKN.out; omega
          go_upto_region 19 with fail
          refine region_quietC (C := Below w9.heap.size w9) (by kernel_rfl) (by kernel_rfl) HC0.out ?_
          repeat (
            first
              | go_big_quiet_skip
              | (go_big_quiet_want
                 go_big_quiet_op
                 first
                   | go_big_quiet_on
                   | (apply Exists.intro
                      refine ⟨fun wx hx => ?_, ?_⟩
                      · first
                        | (go_at_call 29; exact (agree_b (HPA.out.below hx) (HPD.out.below hx) HG1.out).mono fun z w' h => ⟨h.1, hx.trans (h.2.mono hx.size)⟩)
                        | (obtain ⟨c0, c1, c2⟩ := (HR.out.below hx).cells; obtain ⟨d0, d1, d2, d3⟩ := evAt.below HY.out HBC.out hx; go_simp; exact rfl)
                      go_big_quiet_on)))
          refine wpQuiet_nil ?_
          intro w99 hw99
          have HB := Lib.hid (HB.out.trans (hw99.mono HB.out.size))
          clear hw99
          go_wp2_with fail
          go_ret
          exact ⟨by have hmin : min e.kd.toNat 64 = e.kd.toNat := (by have := HES.out.2.1; omega); simp [hmin, hbit], HB.out⟩
      · have HDK : Hid (∀ W, Below w7.heap.size w7 W → EvS W (some ⟨bC, oC + j * 4, none⟩) (C.drop j)) := Lib.hid (fun W hW => (HCS7.out.below hW).dropE j)
        go_upto_region 16 with fail
        clear y0 y1 y2 y3 hbC
        go_region_held3 (fun _ => True) (go_keep)
          ((first
            | (refine step_own (by rfl) _ _ (by rfl) (base := w7.heap.size) (L := []) (X := C.take k) (xa := some ⟨bC, oC, none⟩) (n := k) (by rfl) (by rfl) (ERow.nil _ _) (HTK.out _ ((Below.refl w7.heap.size w7).drew)) HTL.out (Nat.le_refl _) (by simp) (by omega) ?_
               intro v8 w8 hr8 hb8
               have HR8 := Lib.hid hr8
               have HB8 := Lib.hid ((Below.refl w7.heap.size w7).drew.trans hb8)
               clear hr8 hb8)
            | (refine step_own (by rfl) _ _ (by rfl) (base := w7.heap.size) (L := [] ++ C.take k) (X := C.drop j) (xa := some ⟨bC, oC + j * 4, none⟩) (n := nA - j) (by rfl) (by rfl) HR8.out (HDK.out _ HB8.out) HDL.out HB8.out.size (by rw [List.nil_append, HTL.out]; omega) (by omega) ?_
               intro v9 w9 hr9 hb9
               have HR9 := Lib.hid hr9
               have HB9 := Lib.hid (HB8.out.trans hb9)
               clear hr9 hb9)))
        all_goals
          try (rename_i hheld; clear hheld)
          have HR9 := Lib.hid (show ERow w9 w7.heap.size v9 (C.take k ++ C.drop j) from HR9.out)
          obtain ⟨aD, cD, rfl, -, hsD, -⟩ := HR9.out.isSlice
          have HPD : Hid (Pf w9 aD (nA - 1) (C.take k ++ C.drop j)) := Lib.hid ⟨hsD, HTD.out, by have := HPC.out.b; omega, fun f hf => by
            rcases List.mem_append.1 hf with hf | hf
            · exact HPC.out.i f (List.mem_of_mem_take hf)
            · exact HPC.out.i f (List.mem_of_mem_drop hf)⟩
          rw [HTD.out]
          clear hsD
          have HB := Lib.hid (HB.out.trans (HB9.out.mono HB.out.size))
          have HPA := Lib.hid (HPA.out.below HB9.out)
          have HR := Lib.hid (HR.out.below HB9.out)
          have HY := Lib.hid (evAt.below HY.out HBC.out HB9.out)
          have HBC := Lib.hid (Nat.lt_of_lt_of_le HBC.out HB9.out.size)
          have HC0 := Lib.hid (Below_drewN (Below.refl w9.heap.size w9) 1)
          have hbit := HBIT.out
          have hkd := HES.out.2.1.1
          have hkd0 : (0 : Int) ≤ e.kd := by omega
          have p0 : (0 : Int) ≤ (k : Int) := by omega
          have p1 : (k : Int) < (nA : Int) := by have := HKN.out; omega
          go_upto_region 19 with fail
          refine region_quietC (C := Below w9.heap.size w9) (by kernel_rfl) (by kernel_rfl) HC0.out ?_
          repeat (
            first
              | go_big_quiet_skip
              | (go_big_quiet_want
                 go_big_quiet_op
                 first
                   | go_big_quiet_on
                   | (apply Exists.intro
                      refine ⟨fun wx hx => ?_, ?_⟩
                      · first
                        | (go_at_call 29; exact (agree_b (HPA.out.below hx) (HPD.out.below hx) HG1.out).mono fun z w' h => ⟨h.1, hx.trans (h.2.mono hx.size)⟩)
                        | (obtain ⟨c0, c1, c2⟩ := (HR.out.below hx).cells; obtain ⟨d0, d1, d2, d3⟩ := evAt.below HY.out HBC.out hx; go_simp; exact rfl)
                      go_big_quiet_on)))
          refine wpQuiet_nil ?_
          intro w99 hw99
          have HB := Lib.hid (HB.out.trans (hw99.mono HB.out.size))
          clear hw99
          go_wp2_with fail
          go_ret
          exact ⟨by have hmin : min e.kd.toNat 64 = e.kd.toNat := (by have := HES.out.2.1; omega); simp [hmin, hbit], HB.out⟩
    · have HBC := Lib.hid hbC
      have HY : Hid (evAt w7 bC (oC + k * 4) e) := Lib.hid ⟨y0, y1, y2, y3⟩
      have HCS7 := Lib.hid HPC.out.s
      have kb0 : (0 : Int) ≤ (k : Int) := by omega
      have kb1 : (k : Int) ≤ (cC : Int) := by omega
      have kb2 : (k : Int) ≤ (nA : Int) := by omega
      have kb3 : k ≤ cC := by omega
      have kb5 : (nA : Int) ≤ (cC : Int) := by omega
      have kb6 : (k : Int) < (nA : Int) := by omega
      obtain ⟨j, hj⟩ : ∃ j, k + 1 = j := ⟨_, rfl⟩
      have HJ := Lib.hid hj
      have hwk : IntKind.i64.wrap ((k : Int) + 1) = (j : Int) := by rw [IntKind.wrap_i64]; omega
      have jb1 : (j : Int) ≤ (nA : Int) := by omega
      have jb2 : (j : Int) ≤ (cC : Int) := by omega
      have jb3 : (0 : Int) ≤ (j : Int) := by omega
      have jb4 : j ≤ cC := by omega
      rw [hj] at HG1
      clear hj
      have hnew := World.new_ne w7 _ y0
      have HL1 : Hid (([] ++ C).length ≤ 500) := Lib.hid (by rw [List.nil_append, HCL.out]; omega)
      go_upto_region 18 with fail
      go_region_held3 (fun w' => w'.cell? ⟨bC, oC + k * 4, none⟩ = some (.int .i64 e.tm) ∧ w'.cell? ⟨bC, oC + k * 4 + 1, none⟩ = some (.int .i64 e.kd) ∧ w'.cell? ⟨bC, oC + k * 4 + 2, none⟩ = some (.int .i64 e.a) ∧ w'.cell? ⟨bC, oC + k * 4 + 3, none⟩ = some (.int .i64 e.b)) (go_keep)
        ((first
          | (refine step_own (by rfl) _ _ (by rfl) (base := w7.heap.size + 1) (L := []) (X := C) (xa := some ⟨bC, oC, none⟩) (n := nA) (by rfl) (by rfl) (ERow.nil _ _) (HCS7.out.below (((Below.refl w7.heap.size w7).alloc (Nat.le_refl _) (.cells #[.int .i64 e.tm, .int .i64 e.kd, .int .i64 e.a, .int .i64 e.b] 52)).drew)) HCL.out (by simp) (by simp) (by omega) ?_
             intro v8 w8 hr8 hb8
             have k8 := fun o => hb8.cell (p := ⟨bC, o, none⟩) (by simp; omega)
             have HR8 := Lib.hid hr8
             have HS8 : Hid (w7.heap.size + 1 ≤ w8.heap.size) := Lib.hid (by have := hb8.size; simpa using this)
             have HE8 := Lib.hid (EvS.below (EvS.drew (evs_block (heap_last w7 (.cells #[.int .i64 e.tm, .int .i64 e.kd, .int .i64 e.a, .int .i64 e.b] 52)))) (by simpa using hb8))
             have HB8 := Lib.hid ((((Below.refl w7.heap.size w7).alloc (Nat.le_refl _) (.cells #[.int .i64 e.tm, .int .i64 e.kd, .int .i64 e.a, .int .i64 e.b] 52)).drew).trans (hb8.mono (by simp)))
             clear hr8 hb8)
          | (refine step_own (by rfl) _ _ (by rfl) (base := w7.heap.size) (L := []) (X := C) (xa := some ⟨bC, oC, none⟩) (n := nA) (by rfl) (by rfl) (ERow.nil _ _) (HCS7.out.below ((Below.refl w7.heap.size w7).drew)) HCL.out (Nat.le_refl _) (by simp) (by omega) ?_
             intro v8 w8 hr8 hb8
             have k8 := fun o => hb8.cell (p := ⟨bC, o, none⟩) hbC
             have hn8 := World.new_ne w8 _ ((k8 _).trans y0)
             have HR8b := Lib.hid hr8
             have HB8 := Lib.hid ((Below.refl w7.heap.size w7).drew.trans hb8)
             clear hr8 hb8)
          | (refine step_own (by rfl) _ _ (by rfl) (base := w7.heap.size + 1) (L := [] ++ C) (X := [e]) (xa := some ⟨w7.heap.size, 0, none⟩) (n := 1) (by rfl) (by rfl) HR8.out HE8.out rfl HS8.out HL1.out (by omega) ?_
             intro v9 w9 hr9 hb9
             have k9 := fun o => hb9.cell (p := ⟨bC, o, none⟩) (Nat.lt_succ_of_lt hbC)
             have HR9 := Lib.hid (hr9.mono (Nat.le_succ _))
             have HB9 := Lib.hid (HB8.out.trans (hb9.mono (Nat.le_succ _)))
             clear hr9 hb9)
          | (refine step_own (by rfl) _ _ (by rfl) (base := w7.heap.size) (L := [] ++ C) (X := [e]) (xa := some ⟨w8.heap.size, 0, none⟩) (n := 1) (by rfl) (by rfl) (HR8b.out.alloc _) (evs_block (heap_last w8 _)) rfl (by simp; exact Nat.le_succ_of_le HB8.out.size) HL1.out (by omega) ?_
             intro v9 w9 hr9 hb9
             have k9 := fun o => hb9.cell (p := ⟨bC, o, none⟩) hbC
             have HR9 := Lib.hid hr9
             have HB9 := Lib.hid ((HB8.out.alloc HB8.out.size _).trans hb9)
             clear hr9 hb9)))
      all_goals
        rename_i hheld
        try clear hn8
        clear hheld k9 k8 y0 y1 y2 y3 hbC hnew
        have HR9 := Lib.hid (show ERow w9 w7.heap.size v9 (C ++ [e]) from HR9.out)
        obtain ⟨aD, cD, rfl, -, hsD, -⟩ := HR9.out.isSlice
        have hDl : (C ++ [e]).length = nA + 1 := by rw [List.length_append, HCL.out]; rfl
        have HPD : Hid (Pf w9 aD (nA + 1) (C ++ [e])) := Lib.hid ⟨hsD, hDl, by omega, fun f hf => by
          rcases List.mem_append.1 hf with hf | hf
          · exact HPC.out.i f hf
          · rw [List.mem_singleton.1 hf]; exact HPC.out.i e (List.mem_of_getElem? HE.out)⟩
        rw [hDl]
        clear hDl hsD
        have HB := Lib.hid (HB.out.trans (HB9.out.mono HB.out.size))
        have HPA := Lib.hid (HPA.out.below HB9.out)
        have HR := Lib.hid (HR.out.below HB9.out)
        have HY := Lib.hid (evAt.below HY.out HBC.out HB9.out)
        have HBC := Lib.hid (Nat.lt_of_lt_of_le HBC.out HB9.out.size)
        have HC0 := Lib.hid (Below_drewN (Below.refl w9.heap.size w9) 1)
        have hbit := HBIT.out
        have hkd := HES.out.2.1.1
        have hkd0 : (0 : Int) ≤ e.kd := by omega
        have p0 : (0 : Int) ≤ (k : Int) := by omega
        have p1 : (k : Int) < (nA : Int) := by have := HKN.out; omega
        go_upto_region 19 with fail
        refine region_quietC (C := Below w9.heap.size w9) (by kernel_rfl) (by kernel_rfl) HC0.out ?_
        repeat (
          first
            | go_big_quiet_skip
            | (go_big_quiet_want
               go_big_quiet_op
               first
                 | go_big_quiet_on
                 | (apply Exists.intro
                    refine ⟨fun wx hx => ?_, ?_⟩
                    · first
                      | (go_at_call 29; exact (agree_b (HPA.out.below hx) (HPD.out.below hx) HG2.out).mono fun z w' h => ⟨h.1, hx.trans (h.2.mono hx.size)⟩)
                      | (obtain ⟨c0, c1, c2⟩ := (HR.out.below hx).cells; obtain ⟨d0, d1, d2, d3⟩ := evAt.below HY.out HBC.out hx; go_simp; exact rfl)
                    go_big_quiet_on)))
        refine wpQuiet_nil ?_
        intro w99 hw99
        have HB := Lib.hid (HB.out.trans (hw99.mono HB.out.size))
        clear hw99
        go_wp2_with fail
        go_ret
        exact ⟨by have hmin : min e.kd.toNat 64 = e.kd.toNat := (by have := HES.out.2.1; omega); simp [hmin, hbit], HB.out⟩
    · have HBC := Lib.hid hbC
      have HY : Hid (evAt w7 bC (oC + k * 4) e) := Lib.hid ⟨y0, y1, y2, y3⟩
      have HCS7 := Lib.hid HPC.out.s
      have kb0 : (0 : Int) ≤ (k : Int) := by omega
      have kb1 : (k : Int) ≤ (cC : Int) := by omega
      have kb2 : (k : Int) ≤ (nA : Int) := by omega
      have kb3 : k ≤ cC := by omega
      have kb5 : (nA : Int) ≤ (cC : Int) := by omega
      have kb6 : (k : Int) < (nA : Int) := by omega
      obtain ⟨j, hj⟩ : ∃ j, k + 1 = j := ⟨_, rfl⟩
      have HJ := Lib.hid hj
      have hwk : IntKind.i64.wrap ((k : Int) + 1) = (j : Int) := by rw [IntKind.wrap_i64]; omega
      have jb1 : (j : Int) ≤ (nA : Int) := by omega
      have jb2 : (j : Int) ≤ (cC : Int) := by omega
      have jb3 : (0 : Int) ≤ (j : Int) := by omega
      have jb4 : j ≤ cC := by omega
      rw [hj] at HG1
      clear hj
      obtain ⟨a7, ha7⟩ : ∃ a7, e.a + 7 = a7 := ⟨_, rfl⟩
      have hwa : IntKind.i64.wrap (e.a + 7) = a7 := by have := HES.out.2.2.1; rw [IntKind.wrap_i64]; omega
      rw [ha7] at HG3
      have HA7 : Hid (0 ≤ a7 ∧ a7 ≤ 9) := Lib.hid (by have := HES.out.2.2.1; omega)
      clear ha7
      clear y0 y1 y2 y3 hbC
      go_upto_region 14 with (at_builtin; refine list_own (by rfl) _ _ (by rfl) (base := w7.heap.size) (L := []) (X := C) (xa := some ⟨bC, oC, none⟩) (n := nA) (by rfl) (by rfl) (ERow.nil _ _) HCS7.out HCL.out (Nat.le_refl _) (by simp) (by omega) ?_; intro v8 w8 hr8 hb8; rw [List.nil_append] at hr8; obtain ⟨gD, cD, rfl, hgD, hgl⟩ := hr8.form (by rw [HCL.out]; omega); have hsD := hr8.sts k e HE.out; have HR8 := Lib.hid hr8; have HB8 := Lib.hid hb8; have HGD := Lib.hid hgD; clear hr8 hb8 hgD)
      obtain ⟨bb, oo, hbo, -, z0, z1, z2, z3⟩ := hsD
      injection hbo with hbo
      injection hbo with q1 q2 _
      subst q1 q2
      rw [Nat.zero_add] at z0 z1 z2 z3
      have f2 : w8.frozen? ⟨gD, k * 4 + 2, none⟩ = false := HR8.out.cells _
      have HRS := Lib.hid (HR8.out.store k 2 e ⟨e.tm, e.kd, a7, e.b⟩ (.int .i64 a7) HE.out (by omega) rfl)
      obtain ⟨w10, hw10⟩ : ∃ xx, w8.setCell ⟨gD, k * 4 + 2, none⟩ (.int .i64 a7) = xx := ⟨_, rfl⟩
      have HBS : Hid (Below w7.heap.size w7 w10) := Lib.hid (by rw [← hw10]; exact HB8.out.setCell (p := ⟨gD, k * 4 + 2, none⟩) HGD.out _)
      rw [hw10] at HRS
      have hDl : (C.set k ⟨e.tm, e.kd, a7, e.b⟩).length = nA := by rw [List.length_set, HCL.out]
      have HPD : Hid (Pf w10 (some ⟨gD, 0, none⟩) nA (C.set k ⟨e.tm, e.kd, a7, e.b⟩)) := Lib.hid ⟨by
        obtain ⟨a9, c9, h9, -, hS9, -⟩ := HRS.out.isSlice
        injection h9 with h9 _ _
        rw [h9]; exact hS9, hDl, HPC.out.b, fun f hf => by
        rcases List.mem_or_eq_of_mem_set hf with hf | rfl
        · exact HPC.out.i f hf
        · have h1 := HPC.out.i e (List.mem_of_getElem? HE.out)
          have h2 := HA7.out
          refine ⟨h1.1, h1.2.1, ?_, h1.2.2.2⟩
          unfold I64
          simp only
          omega⟩
      rw [HCL.out]
      clear hDl hgl
      have HB := Lib.hid (HB.out.trans (HBS.out.mono HB.out.size))
      have HPA := Lib.hid (HPA.out.below HBS.out)
      have HR := Lib.hid (HR.out.below HBS.out)
      have HY := Lib.hid (evAt.below HY.out HBC.out HBS.out)
      have HBC := Lib.hid (Nat.lt_of_lt_of_le HBC.out HBS.out.size)
      have HC0 := Lib.hid (Below_drewN (Below.refl w10.heap.size w10) 1)
      have hbit := HBIT.out
      have hkd := HES.out.2.1.1
      have hkd0 : (0 : Int) ≤ e.kd := by omega
      have p0 : (0 : Int) ≤ (k : Int) := by omega
      have p1 : (k : Int) < (nA : Int) := by have := HKN.out; omega
      go_upto_region 19 with fail
      refine region_quietC (C := Below w10.heap.size w10) (by kernel_rfl) (by kernel_rfl) HC0.out ?_
      repeat (
        first
          | go_big_quiet_skip
          | (go_big_quiet_want
             go_big_quiet_op
             first
               | go_big_quiet_on
               | (apply Exists.intro
                  refine ⟨fun wx hx => ?_, ?_⟩
                  · first
                    | (go_at_call 29; exact (agree_b (HPA.out.below hx) (HPD.out.below hx) HG3.out).mono fun z w' h => ⟨h.1, hx.trans (h.2.mono hx.size)⟩)
                    | (obtain ⟨c0, c1, c2⟩ := (HR.out.below hx).cells; obtain ⟨d0, d1, d2, d3⟩ := evAt.below HY.out HBC.out hx; go_simp; exact rfl)
                  go_big_quiet_on)))
      refine wpQuiet_nil ?_
      intro w99 hw99
      have HB := Lib.hid (HB.out.trans (hw99.mono HB.out.size))
      clear hw99
      go_wp2_with fail
      go_ret
      exact ⟨by have hmin : min e.kd.toNat 64 = e.kd.toNat := (by have := HES.out.2.1; omega); simp [hmin, hbit], HB.out⟩
end Go.Proofs.Ythblehinmbgbdaa
