/- PerformanceChain: a performance agrees with itself; agreement is symmetric; slacks add up along a chain. -/
import Derived.Test.YthblehinmbgbdaaG36
namespace Go.Proofs.Ythblehinmbgbdaa
open Go.RowKit
set_option maxRecDepth 100000
attribute [local irreducible] agr relOf someOf nearOf

/-- What the statement says, in plain words. -/
theorem chain_facts (q : List Qd) (x y z u : Int) (one two : List Int) {r : Rel} {A B C : List Ev} (hr : relOf x y z = r) (hu : 0 ≤ u ∧ u ≤ 5) (hA : someOf q = A) (hB : nearOf r.slack one A = B) (hC : nearOf u two B = C) :
    agr r A A = true ∧ agr r A B = agr r B A ∧ agr ⟨r.kinds, u, r.ord⟩ B C = agr ⟨r.kinds, u, r.ord⟩ C B ∧ (agr r A B = true → agr ⟨r.kinds, u, r.ord⟩ B C = true → agr ⟨r.kinds, r.slack + u, r.ord⟩ A C = true) ∧ (r.ord = false → agr r A B = true ∧ agr ⟨r.kinds, u, r.ord⟩ B C = true) := by
  have hv := relOf_valid x y z
  have hs := relOf_slack x y z
  rw [hr] at hv hs
  have hv2 := valid_with hv u (by omega) r.ord
  obtain ⟨f1, f2⟩ := someOf_facts q
  rw [hA] at f1 f2
  have f3 := nearOf_sml (B := one) hs.1 f2 (by omega)
  rw [hB] at f3
  refine ⟨agr_refl hv A, agr_symm hv A B, agr_symm hv2 B C, fun h1 h2 => agr_chain hv (by omega) (by omega) h1 h2, fun ho => ⟨?_, ?_⟩⟩
  · rw [← hB]; exact agr_near hv ho (fun e he => by have := f2 e he; omega)
  · rw [← hC]; exact agr_near (r := ⟨r.kinds, u, r.ord⟩) hv2 ho (fun e he => by have := f3 e he; omega)
set_option maxHeartbeats 4000000 in
theorem chain_any (al : Option Addr) (cl : Nat) (Q : List Qd) (x y z : Int) (a1 : Option Addr) (c1 : Nat) (N1 : List Int) (a2 : Option Addr) (c2 : Nat) (N2 : List Int) (sl : Int) (w : World) (hQ : QdS w al Q) (hQI : QdI Q) (hQl : Q.length ≤ 9223372036854775807) (hx : I64 x) (hy : I64 y) (hz : I64 z) (hN1 : InS w a1 N1) (hI1 : InI N1) (hl1 : N1.length ≤ 9223372036854775807) (hN2 : InS w a2 N2) (hI2 : InI N2) (hl2 : N2.length ≤ 9223372036854775807) (hsl : I64 sl) :
    Calls Try.prog 7 #[.slice al Q.length cl, .agg #[.int .i64 x, .int .i64 y, .int .i64 z], .slice a1 N1.length c1, .slice a2 N2.length c2, .int .i64 sl] w fun e w' => e = .returned (.bool true) ∧ Below w.heap.size w w' := by
  obtain ⟨nq, hnq⟩ : ∃ n, Q.length = n := ⟨_, rfl⟩
  obtain ⟨n1, hn1⟩ : ∃ n, N1.length = n := ⟨_, rfl⟩
  obtain ⟨n2, hn2⟩ : ∃ n, N2.length = n := ⟨_, rfl⟩
  obtain ⟨r, hr⟩ : ∃ r, relOf x y z = r := ⟨_, rfl⟩
  obtain ⟨u, hu, u0, u1⟩ := pick_small (c := sl) (n := 6) (by omega)
  obtain ⟨A, hA⟩ : ∃ A, someOf Q = A := ⟨_, rfl⟩
  obtain ⟨B, hB⟩ : ∃ B, nearOf r.slack N1 A = B := ⟨_, rfl⟩
  obtain ⟨C, hC⟩ : ∃ C, nearOf u N2 B = C := ⟨_, rfl⟩
  have HF := Lib.hid (chain_facts Q x y z u N1 N2 hr ⟨u0, by omega⟩ hA hB hC)
  have HSL : Hid (0 ≤ r.slack ∧ r.slack ≤ 5) := Lib.hid (by rw [← hr]; exact relOf_slack x y z)
  have HAS : Hid (Sml 240 A) := Lib.hid (by rw [← hA]; exact (someOf_facts Q).2)
  have HBS : Hid (Sml 300 B) := Lib.hid (by rw [← hB]; exact (nearOf_sml HSL.out.1 HAS.out (by have := HSL.out; omega)).mono (by have := HSL.out; omega))
  have HSA := Lib.hid (fun W => sane_any W)
  have HRL : Hid (∀ W, Calls Try.prog 15 #[.agg #[.int .i64 x, .int .i64 y, .int .i64 z]] W fun e w' => e = .returned (.agg #[.int .i64 r.kinds, .int .i64 r.slack, .bool r.ord]) ∧ Below W.heap.size W w') := Lib.hid (fun W => by
    have := relation_any x y z W hx hy hz
    rw [hr] at this
    exact this)
  have HPK := Lib.hid (fun W => pickL_any sl 6 W hsl (by omega) (by omega))
  rw [hu] at HPK
  have HSM : Hid (∀ W, Below w.heap.size w W → Calls Try.prog 12 #[.slice al nq cl] W fun e w' => ∃ a' n' c', e = .returned (.slice a' n' c') ∧ n' ≤ 30 ∧ Pf w' a' n' A ∧ Below W.heap.size W w') := Lib.hid (fun W hW => by
    have := some_b (c := cl) (hQ.below hW) hnq hQI (by omega)
    rwa [hA] at this)
  have HN1 : Hid (∀ (a : Option Addr) (n c : Nat) W, Below w.heap.size w W → Pf W a n A → n ≤ 30 → Calls Try.prog 13 #[.slice a n c, .int .i64 r.slack, .slice a1 n1 c1] W fun e w' => ∃ a' c', e = .returned (.slice a' n c') ∧ Pf w' a' n B ∧ Below W.heap.size W w') := Lib.hid (fun a n c W hW h hn => by
    have := near_b (c := c) (c2 := c1) h hn (s := r.slack) (by have := HSL.out; omega) HAS.out (by omega) (hN1.below hW) hn1 hI1 (by omega)
    rwa [hB] at this)
  have HN2 : Hid (∀ (a : Option Addr) (n c : Nat) W, Below w.heap.size w W → Pf W a n B → n ≤ 30 → Calls Try.prog 13 #[.slice a n c, .int .i64 u, .slice a2 n2 c2] W fun e w' => ∃ a' c', e = .returned (.slice a' n c') ∧ Pf w' a' n C ∧ Below W.heap.size W w') := Lib.hid (fun a n c W hW h hn => by
    have := near_b (c := c) (c2 := c2) h hn (s := u) (by omega) HBS.out (by omega) (hN2.below hW) hn2 hI2 (by omega)
    rwa [hC] at this)
  rw [hnq, hn1, hn2]
  clear hQ hQI hQl hx hy hz hN1 hI1 hl1 hN2 hI2 hl2 hsl hnq hn1 hn2 hr hu hA hB hC
  obtain ⟨rk, rs, ro⟩ := r
  simp only at HF HSL HRL HN1
  obtain ⟨sm, hsm⟩ : ∃ sm, rs + u = sm := ⟨_, rfl⟩
  rw [hsm] at HF
  have hws : IntKind.i64.wrap (rs + u) = sm := by have := HSL.out; rw [IntKind.wrap_i64]; omega
  obtain ⟨hAA, hAB, hBC, hAC, hOR⟩ := HF.out
  obtain ⟨b1, hb1⟩ : ∃ b, agr ⟨rk, rs, ro⟩ A B = b := ⟨_, rfl⟩
  obtain ⟨b2, hb2⟩ : ∃ b, agr ⟨rk, u, ro⟩ B C = b := ⟨_, rfl⟩
  rw [hb1] at hAB hAC hOR
  rw [hb2] at hBC hAC hOR
  have HAA := Lib.hid hAA
  have HAB := Lib.hid hb1
  have HBA := Lib.hid hAB.symm
  have HBC := Lib.hid hb2
  have HCB := Lib.hid hBC.symm
  have HAC := Lib.hid hAC
  have HOR := Lib.hid hOR
  clear hAA hAB hBC hAC hOR hb1 hb2 hsm HF
  have HB := Lib.hid (Below.refl w.heap.size w)
  obtain ⟨w0, hw0⟩ : ∃ xx, w.alloc (.cells #[.int .i64 x, .int .i64 y, .int .i64 z] 24) = xx := ⟨_, rfl⟩
  obtain ⟨g6, hg6⟩ : ∃ xx, w.heap.size = xx := ⟨_, rfl⟩
  have hb : Below w.heap.size w w0 := by rw [← hw0]; exact (Below.refl _ _).alloc (Nat.le_refl _) _
  have HT : Hid (Tr3 w0 g6 x y z) := Lib.hid (by rw [← hw0, ← hg6]; exact heap_last _ _)
  have HB := Lib.hid (HB.out.trans (hb.mono HB.out.size))
  clear hb
  go_enter Try.func7, Try.ntmps7
  go_wp2_with fail
  refine (HSA.out _).mono ?_
  rintro e w1 ⟨rfl, hb⟩
  have HB := Lib.hid (HB.out.trans (hb.mono HB.out.size))
  have HT := Lib.hid (HT.out.below hb)
  clear hb
  obtain ⟨x0, x1, x2⟩ := HT.out.cells
  clear hw0 hg6
  go_wp2_with fail
  refine (HRL.out _).mono ?_
  rintro e w2 ⟨rfl, hb⟩
  have HB := Lib.hid (HB.out.trans (hb.mono HB.out.size))
  have HT := Lib.hid (HT.out.below hb)
  clear hb
  clear x0 x1 x2
  obtain ⟨w3, hw3⟩ : ∃ xx, w2.alloc (.cells #[.int .i64 rk, .int .i64 rs, .bool ro] 23) = xx := ⟨_, rfl⟩
  obtain ⟨g12, hg12⟩ : ∃ xx, w2.heap.size = xx := ⟨_, rfl⟩
  have hb : Below w2.heap.size w2 w3 := by rw [← hw3]; exact (Below.refl _ _).alloc (Nat.le_refl _) _
  have HR : Hid (Rl w3 g12 ⟨rk, rs, ro⟩) := Lib.hid (by rw [← hw3, ← hg12]; exact heap_last _ _)
  have HB := Lib.hid (HB.out.trans (hb.mono HB.out.size))
  have HT := Lib.hid (HT.out.below hb)
  clear hb
  go_wp2_with fail
  refine (HSM.out _ HB.out).mono ?_
  rintro e w4 ⟨aA, nA, cA, rfl, hn30, hpA, hb⟩
  have HB := Lib.hid (HB.out.trans (hb.mono HB.out.size))
  have HT := Lib.hid (HT.out.below hb)
  have HR := Lib.hid (HR.out.below hb)
  have HPA := Lib.hid hpA
  clear hb hpA
  obtain ⟨x0, x1, x2⟩ := HR.out.cells
  simp only at x0 x1 x2
  clear hw3 hg12
  go_wp2_with fail
  refine (HN1.out _ _ _ _ HB.out HPA.out hn30).mono ?_
  rintro e w5 ⟨aB, cB, rfl, hpB, hb⟩
  have HB := Lib.hid (HB.out.trans (hb.mono HB.out.size))
  have HT := Lib.hid (HT.out.below hb)
  have HR := Lib.hid (HR.out.below hb)
  have HPA := Lib.hid (HPA.out.below hb)
  have HPB := Lib.hid hpB
  clear hb hpB
  obtain ⟨y0, y1, y2⟩ := HR.out.cells
  simp only at y0 y1 y2
  clear x0 x1 x2
  obtain ⟨w6, hw6⟩ : ∃ xx, w5.alloc (.cells #[.int .i64 rk, .int .i64 u, .bool ro] 23) = xx := ⟨_, rfl⟩
  obtain ⟨g15, hg15⟩ : ∃ xx, w5.heap.size = xx := ⟨_, rfl⟩
  have hb : Below w5.heap.size w5 w6 := by rw [← hw6]; exact (Below.refl _ _).alloc (Nat.le_refl _) _
  have HU : Hid (Rl w6 g15 ⟨rk, u, ro⟩) := Lib.hid (by rw [← hw6, ← hg15]; exact heap_last _ _)
  have HB := Lib.hid (HB.out.trans (hb.mono HB.out.size))
  have HT := Lib.hid (HT.out.below hb)
  have HR := Lib.hid (HR.out.below hb)
  have HPA := Lib.hid (HPA.out.below hb)
  have HPB := Lib.hid (HPB.out.below hb)
  clear hb
  go_wp2_with fail
  refine (HPK.out _).mono ?_
  rintro e _ ⟨rfl, rfl⟩
  obtain ⟨x0, x1, x2⟩ := HU.out.cells
  simp only at x0 x1 x2
  go_wp2_with fail
  refine (HN2.out _ _ _ _ HB.out HPB.out hn30).mono ?_
  rintro e w8 ⟨aC, cC, rfl, hpC, hb⟩
  have HB := Lib.hid (HB.out.trans (hb.mono HB.out.size))
  have HT := Lib.hid (HT.out.below hb)
  have HR := Lib.hid (HR.out.below hb)
  have HPA := Lib.hid (HPA.out.below hb)
  have HPB := Lib.hid (HPB.out.below hb)
  have HU := Lib.hid (HU.out.below hb)
  have HPC := Lib.hid hpC
  clear hb hpC
  clear x0 x1 x2 y0 y1 y2 hw6 hg15
  obtain ⟨q0, q1, q2⟩ := HR.out.cells
  simp only at q0 q1 q2
  have hb8 : Below w8.heap.size w8 (w8.alloc (.cells #[.int .i64 rk, .int .i64 rs, .bool ro] 23)) := (Below.refl _ _).alloc (Nat.le_refl _) _
  obtain ⟨x0, x1, x2⟩ := (HR.out.below hb8).cells
  simp only at x0 x1 x2
  obtain ⟨y0, y1, y2⟩ := (HU.out.below hb8).cells
  simp only at y0 y1 y2
  clear hb8
  obtain ⟨w9, hw9⟩ : ∃ xx, w8.alloc (.cells #[.int .i64 rk, .int .i64 sm, .bool ro] 23) = xx := ⟨_, rfl⟩
  obtain ⟨g17, hg17⟩ : ∃ xx, w8.heap.size = xx := ⟨_, rfl⟩
  have hb : Below w8.heap.size w8 w9 := by rw [← hw9]; exact (Below.refl _ _).alloc (Nat.le_refl _) _
  have HV : Hid (Rl w9 g17 ⟨rk, sm, ro⟩) := Lib.hid (by rw [← hw9, ← hg17]; exact heap_last _ _)
  have HB := Lib.hid (HB.out.trans (hb.mono HB.out.size))
  have HT := Lib.hid (HT.out.below hb)
  have HR := Lib.hid (HR.out.below hb)
  have HPA := Lib.hid (HPA.out.below hb)
  have HPB := Lib.hid (HPB.out.below hb)
  have HU := Lib.hid (HU.out.below hb)
  have HPC := Lib.hid (HPC.out.below hb)
  clear hb
  obtain ⟨z0, z1, z2⟩ := HR.out.cells
  simp only at z0 z1 z2
  go_wp2_with fail
  clear z0 z1 z2 x0 x1 x2 y0 y1 y2 q0 q1 q2 hw9 hg17 hws
  cases b1 with
  | false =>
    have hro : ro = true := by
      cases ro with
      | true => rfl
      | false => exact absurd (HOR.out rfl).1 (by simp)
    subst hro
    refine (agree_b HPA.out HPB.out HAB.out).mono ?_
    rintro e w10 ⟨rfl, hb⟩
    have HB := Lib.hid (HB.out.trans (hb.mono HB.out.size))
    have HT := Lib.hid (HT.out.below hb)
    have HR := Lib.hid (HR.out.below hb)
    have HPA := Lib.hid (HPA.out.below hb)
    have HPB := Lib.hid (HPB.out.below hb)
    have HU := Lib.hid (HU.out.below hb)
    have HPC := Lib.hid (HPC.out.below hb)
    have HV := Lib.hid (HV.out.below hb)
    clear hb
    have HC0 := Lib.hid (Below_drewN (Below.refl w10.heap.size w10) 1)
    go_upto_region 11 with fail
    refine region_quietC (C := Below w10.heap.size w10) (by kernel_rfl) (by kernel_rfl) HC0.out ?_
    repeat (
      first
        | go_big_quiet_skip
        | (go_big_quiet_want
           go_big_quiet_op
           first
             | go_big_quiet_on
             | (apply Exists.intro
                refine ⟨fun wx hx => ?_, ?_⟩
                · first
                  | (go_at_call 29; have PA := HPA.out.below hx; have PB := HPB.out.below hx; have PC := HPC.out.below hx; exact (agree_b (by first | exact PA | exact PB | exact PC) (by first | exact PA | exact PB | exact PC) (by first | exact HAA.out | exact HAB.out | exact HBA.out | exact HBC.out | exact HCB.out)).mono fun z w' h => ⟨h.1, hx.trans (h.2.mono hx.size)⟩)
                  | (obtain ⟨c0, c1, c2⟩ := (HR.out.below hx).cells; obtain ⟨d0, d1, d2⟩ := (HU.out.below hx).cells; obtain ⟨e0, e1, e2⟩ := (HV.out.below hx).cells; go_simp; exact rfl)
                go_big_quiet_on)))
    refine wpQuiet_nil ?_
    intro w99 hw99
    have HB := Lib.hid (HB.out.trans (hw99.mono HB.out.size))
    clear hw99
    go_wp2_with fail
    go_ret
    exact ⟨rfl, HB.out⟩
  | true =>
    refine (agree_b HPA.out HPB.out HAB.out).mono ?_
    rintro e w10 ⟨rfl, hb⟩
    have HB := Lib.hid (HB.out.trans (hb.mono HB.out.size))
    have HT := Lib.hid (HT.out.below hb)
    have HR := Lib.hid (HR.out.below hb)
    have HPA := Lib.hid (HPA.out.below hb)
    have HPB := Lib.hid (HPB.out.below hb)
    have HU := Lib.hid (HU.out.below hb)
    have HPC := Lib.hid (HPC.out.below hb)
    have HV := Lib.hid (HV.out.below hb)
    clear hb
    obtain ⟨z0, z1, z2⟩ := HU.out.cells
    simp only at z0 z1 z2
    go_wp2_with fail
    refine (agree_b HPB.out HPC.out HBC.out).mono ?_
    rintro e w11 ⟨rfl, hb⟩
    have HB := Lib.hid (HB.out.trans (hb.mono HB.out.size))
    have HT := Lib.hid (HT.out.below hb)
    have HR := Lib.hid (HR.out.below hb)
    have HPA := Lib.hid (HPA.out.below hb)
    have HPB := Lib.hid (HPB.out.below hb)
    have HU := Lib.hid (HU.out.below hb)
    have HPC := Lib.hid (HPC.out.below hb)
    have HV := Lib.hid (HV.out.below hb)
    clear hb
    clear z0 z1 z2
    cases b2 with
    | false =>
      have hro : ro = true := by
        cases ro with
        | true => rfl
        | false => exact absurd (HOR.out rfl).2 (by simp)
      subst hro
      have HC0 := Lib.hid (Below_drewN (Below.refl w11.heap.size w11) 1)
      go_upto_region 11 with fail
      refine region_quietC (C := Below w11.heap.size w11) (by kernel_rfl) (by kernel_rfl) HC0.out ?_
      repeat (
        first
          | go_big_quiet_skip
          | (go_big_quiet_want
             go_big_quiet_op
             first
               | go_big_quiet_on
               | (apply Exists.intro
                  refine ⟨fun wx hx => ?_, ?_⟩
                  · first
                    | (go_at_call 29; have PA := HPA.out.below hx; have PB := HPB.out.below hx; have PC := HPC.out.below hx; exact (agree_b (by first | exact PA | exact PB | exact PC) (by first | exact PA | exact PB | exact PC) (by first | exact HAA.out | exact HAB.out | exact HBA.out | exact HBC.out | exact HCB.out)).mono fun z w' h => ⟨h.1, hx.trans (h.2.mono hx.size)⟩)
                    | (obtain ⟨c0, c1, c2⟩ := (HR.out.below hx).cells; obtain ⟨d0, d1, d2⟩ := (HU.out.below hx).cells; obtain ⟨e0, e1, e2⟩ := (HV.out.below hx).cells; go_simp; exact rfl)
                  go_big_quiet_on)))
      refine wpQuiet_nil ?_
      intro w99 hw99
      have HB := Lib.hid (HB.out.trans (hw99.mono HB.out.size))
      clear hw99
      go_wp2_with fail
      go_ret
      exact ⟨rfl, HB.out⟩
    | true =>
      have HAD : Hid (agr ⟨rk, sm, ro⟩ A C = true) := Lib.hid (by have := HAC.out; simpa using this)
      cases ro with
      | false =>
        have HC0 := Lib.hid (Below_drewN (Below.refl w11.heap.size w11) 1)
        go_upto_region 11 with fail
        refine region_quietC (C := Below w11.heap.size w11) (by kernel_rfl) (by kernel_rfl) HC0.out ?_
        repeat (
          first
            | go_big_quiet_skip
            | (go_big_quiet_want
               go_big_quiet_op
               first
                 | go_big_quiet_on
                 | (apply Exists.intro
                    refine ⟨fun wx hx => ?_, ?_⟩
                    · first
                      | (go_at_call 29; have PA := HPA.out.below hx; have PB := HPB.out.below hx; have PC := HPC.out.below hx; exact (agree_b (by first | exact PA | exact PB | exact PC) (by first | exact PA | exact PB | exact PC) (by first | exact HAA.out | exact HAB.out | exact HBA.out | exact HBC.out | exact HCB.out | exact HAD.out)).mono fun z w' h => ⟨h.1, hx.trans (h.2.mono hx.size)⟩)
                      | (obtain ⟨c0, c1, c2⟩ := (HR.out.below hx).cells; obtain ⟨d0, d1, d2⟩ := (HU.out.below hx).cells; obtain ⟨e0, e1, e2⟩ := (HV.out.below hx).cells; go_simp; exact rfl)
                    go_big_quiet_on)))
        refine wpQuiet_nil ?_
        intro w99 hw99
        have HB := Lib.hid (HB.out.trans (hw99.mono HB.out.size))
        clear hw99
        go_wp2_with fail
        go_ret
        exact ⟨rfl, HB.out⟩
      | true =>
        have HC0 := Lib.hid (Below_drewN (Below.refl w11.heap.size w11) 1)
        go_upto_region 11 with fail
        refine region_quietC (C := Below w11.heap.size w11) (by kernel_rfl) (by kernel_rfl) HC0.out ?_
        repeat (
          first
            | go_big_quiet_skip
            | (go_big_quiet_want
               go_big_quiet_op
               first
                 | go_big_quiet_on
                 | (apply Exists.intro
                    refine ⟨fun wx hx => ?_, ?_⟩
                    · first
                      | (go_at_call 29; have PA := HPA.out.below hx; have PB := HPB.out.below hx; have PC := HPC.out.below hx; exact (agree_b (by first | exact PA | exact PB | exact PC) (by first | exact PA | exact PB | exact PC) (by first | exact HAA.out | exact HAB.out | exact HBA.out | exact HBC.out | exact HCB.out | exact HAD.out)).mono fun z w' h => ⟨h.1, hx.trans (h.2.mono hx.size)⟩)
                      | (obtain ⟨c0, c1, c2⟩ := (HR.out.below hx).cells; obtain ⟨d0, d1, d2⟩ := (HU.out.below hx).cells; obtain ⟨e0, e1, e2⟩ := (HV.out.below hx).cells; go_simp; exact rfl)
                    go_big_quiet_on)))
        refine wpQuiet_nil ?_
        intro w99 hw99
        have HB := Lib.hid (HB.out.trans (hw99.mono HB.out.size))
        clear hw99
        go_wp2_with fail
        go_ret
        exact ⟨rfl, HB.out⟩
end Go.Proofs.Ythblehinmbgbdaa
