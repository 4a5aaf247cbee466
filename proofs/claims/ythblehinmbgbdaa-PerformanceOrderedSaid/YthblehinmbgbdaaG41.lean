/- PerformanceOrdered: with an order, performances agree exactly if their events that count are alike one by one. -/
import Derived.Test.YthblehinmbgbdaaG36
import Derived.Deep.CutBlock
namespace Go.Proofs.Ythblehinmbgbdaa
open Go.RowKit
set_option maxRecDepth 100000

theorem counted_sub {r : Rel} {A : List Ev} {e : Ev} (h : e ∈ counted r A) : e ∈ A := by
  unfold counted at h
  split at h
  · exact (List.mem_filter.1 h).1
  · cases h
theorem alike_no1 {r : Rel} {x y : Ev} (h : x.kd ≠ y.kd) : alike r x y = false := by simp [alike, cls, h]
theorem alike_no2 {r : Rel} {x y : Ev} (h : x.a ≠ y.a) : alike r x y = false := by simp [alike, cls, h]
theorem alike_no3 {r : Rel} {x y : Ev} (h : x.b ≠ y.b) : alike r x y = false := by simp [alike, cls, h]
theorem alike_no4 {r : Rel} {x y : Ev} (h : r.slack < max x.tm y.tm - min x.tm y.tm) : alike r x y = false := by
  have : near r x.tm y.tm = false := by rw [near, decide_eq_false_iff_not]; omega
  rw [alike, this, Bool.and_false]
theorem alike_yes {r : Rel} {x y : Ev} (h1 : x.kd = y.kd) (h2 : x.a = y.a) (h3 : x.b = y.b) (h4 : ¬ r.slack < max x.tm y.tm - min x.tm y.tm) : alike r x y = true := by
  have : near r x.tm y.tm = true := by rw [near, decide_eq_true_iff]; omega
  rw [alike, this, Bool.and_true, decide_eq_true_iff, cls, cls, h1, h2, h3]
attribute [local irreducible] agr relOf someOf nearOf compareR counted
set_option maxHeartbeats 8000000 in
/-- The part of the walk behind the choice of the second performance. -/
theorem ord_any (al : Option Addr) (cl : Nat) (Q : List Qd) (x y z : Int) (a1 : Option Addr) (c1 : Nat) (N1 : List Int) (am : Option Addr) (cm : Nat) (M : List Qd) (other : Bool) (w : World) (hQ : QdS w al Q) (hQI : QdI Q) (hQl : Q.length ≤ 9223372036854775807) (hx : I64 x) (hy : I64 y) (hz : I64 z) (hN1 : InS w a1 N1) (hI1 : InI N1) (hl1 : N1.length ≤ 9223372036854775807) (hM : QdS w am M) (hMI : QdI M) (hMl : M.length ≤ 9223372036854775807) :
    Calls Try.prog 6 #[.slice al Q.length cl, .agg #[.int .i64 x, .int .i64 y, .int .i64 z], .slice a1 N1.length c1, .slice am M.length cm, .bool other] w fun e w' => e = .returned (.bool true) ∧ Below w.heap.size w w' := by
  obtain ⟨nq, hnq⟩ : ∃ n, Q.length = n := ⟨_, rfl⟩
  obtain ⟨nm, hnm⟩ : ∃ n, M.length = n := ⟨_, rfl⟩
  obtain ⟨n1, hn1⟩ : ∃ n, N1.length = n := ⟨_, rfl⟩
  obtain ⟨r, hr⟩ : ∃ r, relOf x y z = r := ⟨_, rfl⟩
  obtain ⟨A, hA⟩ : ∃ A, someOf Q = A := ⟨_, rfl⟩
  obtain ⟨B, hB⟩ : ∃ B, someOf M = B := ⟨_, rfl⟩
  obtain ⟨s1, hs1⟩ : ∃ s1, r.slack + 1 = s1 := ⟨_, rfl⟩
  obtain ⟨C, hC⟩ : ∃ C, nearOf s1 N1 A = C := ⟨_, rfl⟩
  have HSL : Hid (0 ≤ r.slack ∧ r.slack ≤ 5) := Lib.hid (by rw [← hr]; exact relOf_slack x y z)
  have HV : Hid (validR ⟨r.kinds, r.slack, true⟩ = true) := Lib.hid (valid_with (by rw [← hr]; exact relOf_valid x y z) _ (by have := HSL.out; omega) true)
  have HAS : Hid (Sml 240 A) := Lib.hid (by rw [← hA]; exact (someOf_facts Q).2)
  have HBS : Hid (Sml 300 B) := Lib.hid (by rw [← hB]; exact (someOf_facts M).2.mono (by omega))
  have HCS : Hid (Sml 300 C) := Lib.hid (by rw [← hC]; exact (nearOf_sml (s := s1) (by have := HSL.out; omega) HAS.out (by have := HSL.out; omega)).mono (by have := HSL.out; omega))
  have HS1 : Hid (0 ≤ s1 ∧ s1 ≤ 6) := Lib.hid (by have := HSL.out; omega)
  have hws : IntKind.i64.wrap (r.slack + 1) = s1 := by have := HSL.out; rw [IntKind.wrap_i64]; omega
  have HSA := Lib.hid (fun W => sane_any W)
  have HRL : Hid (∀ W, Calls Try.prog 15 #[.agg #[.int .i64 x, .int .i64 y, .int .i64 z]] W fun e w' => e = .returned (.agg #[.int .i64 r.kinds, .int .i64 r.slack, .bool r.ord]) ∧ Below W.heap.size W w') := Lib.hid (fun W => by
    have := relation_any x y z W hx hy hz
    rw [hr] at this
    exact this)
  have HSM : Hid (∀ W, Below w.heap.size w W → Calls Try.prog 12 #[.slice al nq cl] W fun e w' => ∃ a' n' c', e = .returned (.slice a' n' c') ∧ n' ≤ 30 ∧ Pf w' a' n' A ∧ Below W.heap.size W w') := Lib.hid (fun W hW => by
    have := some_b (c := cl) (hQ.below hW) hnq hQI (by omega)
    rwa [hA] at this)
  have HSN : Hid (∀ W, Below w.heap.size w W → Calls Try.prog 12 #[.slice am nm cm] W fun e w' => ∃ a' n' c', e = .returned (.slice a' n' c') ∧ n' ≤ 30 ∧ Pf w' a' n' B ∧ Below W.heap.size W w') := Lib.hid (fun W hW => by
    have := some_b (c := cm) (hM.below hW) hnm hMI (by omega)
    rwa [hB] at this)
  have HN1 : Hid (∀ (a : Option Addr) (n c : Nat) W, Below w.heap.size w W → Pf W a n A → n ≤ 30 → Calls Try.prog 13 #[.slice a n c, .int .i64 s1, .slice a1 n1 c1] W fun e w' => ∃ a' c', e = .returned (.slice a' n c') ∧ Pf w' a' n C ∧ Below W.heap.size W w') := Lib.hid (fun a n c W hW h hn => by
    have := near_b (c := c) (c2 := c1) h hn (s := s1) (by have := HS1.out; omega) HAS.out (by omega) (hN1.below hW) hn1 hI1 (by omega)
    rwa [hC] at this)
  rw [hnq, hnm, hn1]
  clear hQ hQI hQl hM hMI hMl hx hy hz hN1 hI1 hl1 hnq hnm hn1 hr hA hB hC hs1
  obtain ⟨rk, rs, ro⟩ := r
  simp only at HSL HV HRL hws
  have HB := Lib.hid (Below.refl w.heap.size w)
  obtain ⟨w0, hw0⟩ : ∃ xx, w.alloc (.cells #[.int .i64 x, .int .i64 y, .int .i64 z] 24) = xx := ⟨_, rfl⟩
  obtain ⟨g6, hg6⟩ : ∃ xx, w.heap.size = xx := ⟨_, rfl⟩
  have hb : Below w.heap.size w w0 := by rw [← hw0]; exact (Below.refl _ _).alloc (Nat.le_refl _) _
  have HT : Hid (Tr3 w0 g6 x y z) := Lib.hid (by rw [← hw0, ← hg6]; exact heap_last _ _)
  have HB := Lib.hid (HB.out.trans (hb.mono HB.out.size))
  clear hb
  go_enter Try.func6, Try.ntmps6
  go_wp2_with fail
  refine (HSA.out _).mono ?_
  rintro e w1 ⟨rfl, hb⟩
  have HB := Lib.hid (HB.out.trans (hb.mono HB.out.size))
  have HT := Lib.hid (HT.out.below hb)
  clear hb
  clear hw0 hg6
  obtain ⟨x0, x1, x2⟩ := HT.out.cells
  go_wp2_with fail
  refine (HRL.out _).mono ?_
  rintro e w2 ⟨rfl, hb⟩
  have HB := Lib.hid (HB.out.trans (hb.mono HB.out.size))
  have HT := Lib.hid (HT.out.below hb)
  clear hb
  clear x0 x1 x2
  obtain ⟨w3, hw3⟩ : ∃ xx, w2.alloc (.cells #[.int .i64 rk, .int .i64 rs, .bool true] 23) = xx := ⟨_, rfl⟩
  obtain ⟨g12, hg12⟩ : ∃ xx, w2.heap.size = xx := ⟨_, rfl⟩
  have hb : Below w2.heap.size w2 w3 := by rw [← hw3]; exact (Below.refl _ _).alloc (Nat.le_refl _) _
  have HR : Hid (Rl w3 g12 ⟨rk, rs, true⟩) := Lib.hid (by rw [← hw3, ← hg12]; exact heap_last _ _)
  have HB := Lib.hid (HB.out.trans (hb.mono HB.out.size))
  have HT := Lib.hid (HT.out.below hb)
  clear hb
  go_wp2_with fail
  refine (HSM.out _ HB.out).mono ?_
  rintro e w4 ⟨aA, nA, cA, rfl, hn30, hpA, hb⟩
  have HB := Lib.hid (HB.out.trans (hb.mono HB.out.size))
  have HT := Lib.hid (HT.out.below hb)
  have HR := Lib.hid (HR.out.below hb)
  have HPA := Lib.hid hpA
  clear hb hpA
  clear hw3 hg12
  obtain ⟨x0, x1, x2⟩ := HR.out.cells
  simp only at x0 x1 x2
  go_wp2_with fail
  refine (HN1.out _ _ _ _ HB.out HPA.out hn30).mono ?_
  rintro e w5 ⟨aC, cC, rfl, hpC, hb⟩
  have HB := Lib.hid (HB.out.trans (hb.mono HB.out.size))
  have HT := Lib.hid (HT.out.below hb)
  have HR := Lib.hid (HR.out.below hb)
  have HPA := Lib.hid (HPA.out.below hb)
  have HPC := Lib.hid hpC
  clear hb hpC
  clear x0 x1 x2 hws
  cases other with
  | false =>
    obtain ⟨x0, x1, x2⟩ := HR.out.cells
    simp only at x0 x1 x2
    go_wp2_with fail
    refine (counted_b HPA.out).mono ?_
    rintro e w7 ⟨aS, cS, rfl, hp, hb⟩
    have HSES : Hid (∀ e ∈ counted ⟨rk, rs, true⟩ A, 0 ≤ e.tm ∧ e.tm ≤ 300) := Lib.hid (fun e he => by have := HAS.out e (counted_sub he); omega)
    have HEQS : Hid (counted ⟨rk, rs, true⟩ A = counted ⟨rk, rs, true⟩ A) := Lib.hid rfl
    obtain ⟨S, hS⟩ : ∃ L, counted ⟨rk, rs, true⟩ A = L := ⟨_, rfl⟩
    rw [hS] at hp HSES ⊢
    have HES := Lib.hid hS
    clear hS HEQS
    obtain ⟨nS, hn⟩ : ∃ n, S.length = n := ⟨_, rfl⟩
    have HLS := Lib.hid hn
    rw [hn] at hp ⊢
    clear hn
    have HB := Lib.hid (HB.out.trans (hb.mono HB.out.size))
    have HR := Lib.hid (HR.out.below hb)
    have HPA := Lib.hid (HPA.out.below hb)
    have HPC := Lib.hid (HPC.out.below hb)
    have HPS := Lib.hid hp
    clear hb hp
    clear x0 x1 x2
    obtain ⟨x0, x1, x2⟩ := HR.out.cells
    simp only at x0 x1 x2
    go_wp2_with fail
    refine (counted_b HPC.out).mono ?_
    rintro e w8 ⟨aD, cD, rfl, hp, hb⟩
    have HSED : Hid (∀ e ∈ counted ⟨rk, rs, true⟩ C, 0 ≤ e.tm ∧ e.tm ≤ 300) := Lib.hid (fun e he => by have := HCS.out e (counted_sub he); omega)
    have HEQD : Hid (counted ⟨rk, rs, true⟩ C = counted ⟨rk, rs, true⟩ C) := Lib.hid rfl
    obtain ⟨D, hD⟩ : ∃ L, counted ⟨rk, rs, true⟩ C = L := ⟨_, rfl⟩
    rw [hD] at hp HSED ⊢
    have HED := Lib.hid hD
    clear hD HEQD
    obtain ⟨nD, hn⟩ : ∃ n, D.length = n := ⟨_, rfl⟩
    have HLD := Lib.hid hn
    rw [hn] at hp ⊢
    clear hn
    have HB := Lib.hid (HB.out.trans (hb.mono HB.out.size))
    have HR := Lib.hid (HR.out.below hb)
    have HPA := Lib.hid (HPA.out.below hb)
    have HPC := Lib.hid (HPC.out.below hb)
    have HPS := Lib.hid (HPS.out.below hb)
    have HPD := Lib.hid hp
    clear hb hp
    clear x0 x1 x2
    obtain ⟨wm, rfl⟩ : ∃ wm, wm = w8 := ⟨_, rfl⟩
    go_upto_block 0 with fail
    go_cut [17] (fun v wx => ∃ j : Nat, v = .int .i64 j ∧ compareR ⟨rk, rs, true⟩ A C = (if j = nS ∧ j = nD then (0, true) else ((j : Int), false)) ∧ Below wm.heap.size wm wx)
    have HOA : Hid (∀ n, n ≤ nS → n ≤ nD → (∀ i, i < n → alike ⟨rk, rs, true⟩ (S.getD i default) (D.getD i default) = true) → (n < nS → n < nD → alike ⟨rk, rs, true⟩ (S.getD n default) (D.getD n default) = false) → compareR ⟨rk, rs, true⟩ A C = if n = nS ∧ n = nD then (0, true) else ((n : Int), false)) := Lib.hid (fun n h1 h2 h3 h4 => by
      have := ordered_at HV.out rfl (a := A) (b := C) (n := n) (by rw [HES.out, HLS.out]; exact h1) (by rw [HED.out, HLD.out]; exact h2) (by rw [HES.out, HED.out]; exact h3) (by rw [HES.out, HED.out, HLS.out, HLD.out]; exact h4)
      rw [HES.out, HED.out, HLS.out, HLD.out] at this
      exact this)
    case first =>
      go_wp2_with fail
      go_loopw [17] (fun v wx => ∃ j : Nat, v = .int .i64 j ∧ j ≤ nS ∧ j ≤ nD ∧ (∀ i, i < j → alike ⟨rk, rs, true⟩ (S.getD i default) (D.getD i default) = true) ∧ Below wm.heap.size wm wx) (fun v _ => nS - (intOf v).toNat)
      case atStart => exact ⟨0, rfl, by omega, by omega, fun i hi => by omega, Below.refl _ _⟩
      case round =>
        obtain ⟨j, rfl, hjS, hjD, hall, hb⟩ := hrel
        have HALL := Lib.hid hall
        have hb40 : nS < 40 := HPS.out.b
        have HBQ := Lib.hid hb
        clear hall hb
        by_cases h1 : j < nS
        · have d1 : decide ((j : Int) < (nS : Int)) = true := by rw [decide_eq_true_iff]; omega
          have d1' : decide (j < nS) = true := by rw [decide_eq_true_iff]; omega
          by_cases h2 : j < nD
          · have d2 : decide ((j : Int) < (nD : Int)) = true := by rw [decide_eq_true_iff]; omega
            have d2' : decide (j < nD) = true := by rw [decide_eq_true_iff]; omega
            obtain ⟨e, he⟩ : ∃ e, S[j]? = some e := ⟨_, List.getElem?_eq_getElem (by rw [HLS.out]; exact h1)⟩
            obtain ⟨f, hf⟩ : ∃ f, D[j]? = some f := ⟨_, List.getElem?_eq_getElem (by rw [HLD.out]; exact h2)⟩
            obtain ⟨bS, oS, rfl, hbS, x0, x1, x2, x3⟩ := (HPS.out.below HBQ.out).s j e he
            obtain ⟨bD, oD, rfl, hbD, y0, y1, y2, y3⟩ := (HPD.out.below HBQ.out).s j f hf
            obtain ⟨z0, z1, z2⟩ := (HR.out.below HBQ.out).cells
            simp only at z0 z1 z2
            have t1 := HSES.out e (List.mem_of_getElem? he)
            have t2 := HSED.out f (List.mem_of_getElem? hf)
            have HGE : Hid (S.getD j default = e ∧ D.getD j default = f) := Lib.hid ⟨getD_ev he, getD_ev hf⟩
            have hmx := fun W => run_max2 (P := Try.prog) #[3, 3] 3 e.tm f.tm W
            have hmn := fun W => run_min2 (P := Try.prog) #[3, 3] 3 e.tm f.tm W
            obtain ⟨mx, e1⟩ : ∃ mx, max e.tm f.tm = mx := ⟨_, rfl⟩
            obtain ⟨mn, e2⟩ : ∃ mn, min e.tm f.tm = mn := ⟨_, rfl⟩
            obtain ⟨far, e3⟩ : ∃ far, mx - mn = far := ⟨_, rfl⟩
            have hw : IntKind.i64.wrap (mx - mn) = far := by rw [IntKind.wrap_i64]; omega
            rw [e1] at hmx
            rw [e2] at hmn
            have HFR : Hid (max e.tm f.tm - min e.tm f.tm = far) := Lib.hid (by rw [e1, e2, e3])
            have n0 : (0 : Int) ≤ (j : Int) := by omega
            have n1' : (j : Int) < (nS : Int) := by omega
            have n2' : (j : Int) < (nD : Int) := by omega
            clear he hf e1 e2 e3 t1 t2 hbS hbD
            go_upto_region 12 with fail
            go_quiet (fail)
            clear hmx hmn hw
            by_cases v0 : e.kd = f.kd
            rotate_left
            · have u0 : (e.kd != f.kd) = true := by rw [bne_iff_ne]; exact v0
              have HC := Lib.hid (HOA.out j hjS hjD HALL.out (fun _ _ => by rw [HGE.out.1, HGE.out.2]; exact alike_no1 v0))
              clear h1 h2
              go_upto_region 13 with fail
              go_quiet (fail)
              go_wp2_with fail
              go_meet
              exact ⟨j, rfl, HC.out, (by first | exact Below_drewN HBQ.out _ | exact Below_drewN (Below_drewN HBQ.out _) _)⟩
            have u0 : (e.kd != f.kd) = false := by rw [v0]; simp
            by_cases v1 : e.a = f.a
            rotate_left
            · have u1 : (e.a != f.a) = true := by rw [bne_iff_ne]; exact v1
              have HC := Lib.hid (HOA.out j hjS hjD HALL.out (fun _ _ => by rw [HGE.out.1, HGE.out.2]; exact alike_no2 v1))
              clear h1 h2
              go_upto_region 13 with fail
              go_quiet (fail)
              go_wp2_with fail
              go_meet
              exact ⟨j, rfl, HC.out, (by first | exact Below_drewN HBQ.out _ | exact Below_drewN (Below_drewN HBQ.out _) _)⟩
            have u1 : (e.a != f.a) = false := by rw [v1]; simp
            by_cases v2 : e.b = f.b
            rotate_left
            · have u2 : (e.b != f.b) = true := by rw [bne_iff_ne]; exact v2
              have HC := Lib.hid (HOA.out j hjS hjD HALL.out (fun _ _ => by rw [HGE.out.1, HGE.out.2]; exact alike_no3 v2))
              clear h1 h2
              go_upto_region 13 with fail
              go_quiet (fail)
              go_wp2_with fail
              go_meet
              exact ⟨j, rfl, HC.out, (by first | exact Below_drewN HBQ.out _ | exact Below_drewN (Below_drewN HBQ.out _) _)⟩
            have u2 : (e.b != f.b) = false := by rw [v2]; simp
            by_cases v3 : rs < far
            · have u3 : decide (rs < far) = true := decide_eq_true v3
              have HC := Lib.hid (HOA.out j hjS hjD HALL.out (fun _ _ => by rw [HGE.out.1, HGE.out.2]; exact alike_no4 (by rw [HFR.out]; exact v3)))
              clear h1 h2
              go_upto_region 13 with fail
              go_quiet (fail)
              go_wp2_with fail
              go_meet
              exact ⟨j, rfl, HC.out, (by first | exact Below_drewN HBQ.out _ | exact Below_drewN (Below_drewN HBQ.out _) _)⟩
            · have u3 : decide (rs < far) = false := decide_eq_false v3
              have HAL2 : Hid (∀ i, i < j + 1 → alike ⟨rk, rs, true⟩ (S.getD i default) (D.getD i default) = true) := Lib.hid (fun i hi => by
                by_cases hij : i = j
                · subst hij
                  rw [HGE.out.1, HGE.out.2]
                  exact alike_yes v0 v1 v2 (by rw [HFR.out]; exact v3)
                · exact HALL.out i (by omega))
              go_upto_region 13 with fail
              go_quiet (fail)
              go_wp2_with fail
              exact ⟨⟨j + 1, by push_cast; rfl, by omega, by omega, HAL2.out, (by first | exact Below_drewN HBQ.out _ | exact Below_drewN (Below_drewN HBQ.out _) _)⟩, by simp [intOf]; omega⟩
          · have d2 : decide ((j : Int) < (nD : Int)) = false := by rw [decide_eq_false_iff_not]; omega
            have d2' : decide (j < nD) = false := by rw [decide_eq_false_iff_not]; omega
            have HC := Lib.hid (HOA.out j hjS hjD HALL.out (fun _ h => absurd h h2))
            clear h1 h2
            go_wp2_with fail
            go_meet
            exact ⟨j, rfl, HC.out, HBQ.out⟩
        · have d1 : decide ((j : Int) < (nS : Int)) = false := by rw [decide_eq_false_iff_not]; omega
          have d1' : decide (j < nS) = false := by rw [decide_eq_false_iff_not]; omega
          have HC := Lib.hid (HOA.out j hjS hjD HALL.out (fun h _ => absurd h h1))
          clear h1
          go_wp2_with fail
          go_meet
          exact ⟨j, rfl, HC.out, HBQ.out⟩
    case rest =>
      obtain ⟨j, rfl, hc, hb⟩ := hcut
      have HPA := Lib.hid (HPA.out.below hb)
      have HPC := Lib.hid (HPC.out.below hb)
      have HR := Lib.hid (HR.out.below hb)
      have HB := Lib.hid (HB.out.trans (hb.mono HB.out.size))
      obtain ⟨z0, z1, z2⟩ := HR.out.cells
      simp only at z0 z1 z2
      clear hb
      by_cases hj : j = nS ∧ j = nD
      · have HC : Hid (compareR ⟨rk, rs, true⟩ A C = (0, true)) := Lib.hid (by rw [hc, if_pos hj])
        have q1 : ((j : Int) == (nS : Int)) = true := by rw [beq_iff_eq]; omega
        have q2 : ((j : Int) == (nD : Int)) = true := by rw [beq_iff_eq]; omega
        have q3 : (j == nS) = true := by rw [beq_iff_eq]; omega
        have q4 : (j == nD) = true := by rw [beq_iff_eq]; omega
        clear hj hc
        go_wp2_with fail
        refine (compare_b HPA.out HPC.out HC.out).mono ?_
        rintro e w9 ⟨rfl, hb⟩
        have HB := Lib.hid (HB.out.trans (hb.mono HB.out.size))
        clear hb z0 z1 z2
        go_wp2_with fail
        go_ret
        exact ⟨rfl, HB.out⟩
      · have HC : Hid (compareR ⟨rk, rs, true⟩ A C = ((j : Int), false)) := Lib.hid (by rw [hc, if_neg hj])
        clear hc
        by_cases hjS : j = nS
        · have q1 : ((j : Int) == (nS : Int)) = true := by rw [beq_iff_eq]; omega
          have q2 : ((j : Int) == (nD : Int)) = false := by rw [beq_eq_false_iff_ne]; omega
          have q3 : (j == nS) = true := by rw [beq_iff_eq]; omega
          have q4 : (j == nD) = false := by rw [beq_eq_false_iff_ne]; omega
          clear hj hjS
          go_wp2_with fail
          refine (compare_b HPA.out HPC.out HC.out).mono ?_
          rintro e w9 ⟨rfl, hb⟩
          have HB := Lib.hid (HB.out.trans (hb.mono HB.out.size))
          clear hb z0 z1 z2
          go_wp2_with fail
          go_ret
          exact ⟨by simp, HB.out⟩
        · have q1 : ((j : Int) == (nS : Int)) = false := by rw [beq_eq_false_iff_ne]; omega
          have q3 : (j == nS) = false := by rw [beq_eq_false_iff_ne]; omega
          clear hj hjS
          go_wp2_with fail
          refine (compare_b HPA.out HPC.out HC.out).mono ?_
          rintro e w9 ⟨rfl, hb⟩
          have HB := Lib.hid (HB.out.trans (hb.mono HB.out.size))
          clear hb z0 z1 z2
          go_wp2_with fail
          go_ret
          exact ⟨by simp, HB.out⟩
  | true =>
    go_wp2_with fail
    refine (HSN.out _ HB.out).mono ?_
    rintro e w6 ⟨aB, nB, cB, rfl, hm30, hpB, hb⟩
    have HB := Lib.hid (HB.out.trans (hb.mono HB.out.size))
    have HT := Lib.hid (HT.out.below hb)
    have HR := Lib.hid (HR.out.below hb)
    have HPA := Lib.hid (HPA.out.below hb)
    have HPC := Lib.hid (HPC.out.below hb)
    have HPB := Lib.hid hpB
    clear hb hpB
    obtain ⟨x0, x1, x2⟩ := HR.out.cells
    simp only at x0 x1 x2
    go_wp2_with fail
    refine (counted_b HPA.out).mono ?_
    rintro e w7 ⟨aS, cS, rfl, hp, hb⟩
    have HSES : Hid (∀ e ∈ counted ⟨rk, rs, true⟩ A, 0 ≤ e.tm ∧ e.tm ≤ 300) := Lib.hid (fun e he => by have := HAS.out e (counted_sub he); omega)
    have HEQS : Hid (counted ⟨rk, rs, true⟩ A = counted ⟨rk, rs, true⟩ A) := Lib.hid rfl
    obtain ⟨S, hS⟩ : ∃ L, counted ⟨rk, rs, true⟩ A = L := ⟨_, rfl⟩
    rw [hS] at hp HSES ⊢
    have HES := Lib.hid hS
    clear hS HEQS
    obtain ⟨nS, hn⟩ : ∃ n, S.length = n := ⟨_, rfl⟩
    have HLS := Lib.hid hn
    rw [hn] at hp ⊢
    clear hn
    have HB := Lib.hid (HB.out.trans (hb.mono HB.out.size))
    have HR := Lib.hid (HR.out.below hb)
    have HPA := Lib.hid (HPA.out.below hb)
    have HPB := Lib.hid (HPB.out.below hb)
    have HPS := Lib.hid hp
    clear hb hp
    clear x0 x1 x2
    obtain ⟨x0, x1, x2⟩ := HR.out.cells
    simp only at x0 x1 x2
    go_wp2_with fail
    refine (counted_b HPB.out).mono ?_
    rintro e w8 ⟨aD, cD, rfl, hp, hb⟩
    have HSED : Hid (∀ e ∈ counted ⟨rk, rs, true⟩ B, 0 ≤ e.tm ∧ e.tm ≤ 300) := Lib.hid (fun e he => by have := HBS.out e (counted_sub he); omega)
    have HEQD : Hid (counted ⟨rk, rs, true⟩ B = counted ⟨rk, rs, true⟩ B) := Lib.hid rfl
    obtain ⟨D, hD⟩ : ∃ L, counted ⟨rk, rs, true⟩ B = L := ⟨_, rfl⟩
    rw [hD] at hp HSED ⊢
    have HED := Lib.hid hD
    clear hD HEQD
    obtain ⟨nD, hn⟩ : ∃ n, D.length = n := ⟨_, rfl⟩
    have HLD := Lib.hid hn
    rw [hn] at hp ⊢
    clear hn
    have HB := Lib.hid (HB.out.trans (hb.mono HB.out.size))
    have HR := Lib.hid (HR.out.below hb)
    have HPA := Lib.hid (HPA.out.below hb)
    have HPB := Lib.hid (HPB.out.below hb)
    have HPS := Lib.hid (HPS.out.below hb)
    have HPD := Lib.hid hp
    clear hb hp
    clear x0 x1 x2
    obtain ⟨wm, rfl⟩ : ∃ wm, wm = w8 := ⟨_, rfl⟩
    go_upto_block 0 with fail
    go_cut [17] (fun v wx => ∃ j : Nat, v = .int .i64 j ∧ compareR ⟨rk, rs, true⟩ A B = (if j = nS ∧ j = nD then (0, true) else ((j : Int), false)) ∧ Below wm.heap.size wm wx)
    have HOA : Hid (∀ n, n ≤ nS → n ≤ nD → (∀ i, i < n → alike ⟨rk, rs, true⟩ (S.getD i default) (D.getD i default) = true) → (n < nS → n < nD → alike ⟨rk, rs, true⟩ (S.getD n default) (D.getD n default) = false) → compareR ⟨rk, rs, true⟩ A B = if n = nS ∧ n = nD then (0, true) else ((n : Int), false)) := Lib.hid (fun n h1 h2 h3 h4 => by
      have := ordered_at HV.out rfl (a := A) (b := B) (n := n) (by rw [HES.out, HLS.out]; exact h1) (by rw [HED.out, HLD.out]; exact h2) (by rw [HES.out, HED.out]; exact h3) (by rw [HES.out, HED.out, HLS.out, HLD.out]; exact h4)
      rw [HES.out, HED.out, HLS.out, HLD.out] at this
      exact this)
    case first =>
      go_wp2_with fail
      go_loopw [17] (fun v wx => ∃ j : Nat, v = .int .i64 j ∧ j ≤ nS ∧ j ≤ nD ∧ (∀ i, i < j → alike ⟨rk, rs, true⟩ (S.getD i default) (D.getD i default) = true) ∧ Below wm.heap.size wm wx) (fun v _ => nS - (intOf v).toNat)
      case atStart => exact ⟨0, rfl, by omega, by omega, fun i hi => by omega, Below.refl _ _⟩
      case round =>
        obtain ⟨j, rfl, hjS, hjD, hall, hb⟩ := hrel
        have HALL := Lib.hid hall
        have hb40 : nS < 40 := HPS.out.b
        have HBQ := Lib.hid hb
        clear hall hb
        by_cases h1 : j < nS
        · have d1 : decide ((j : Int) < (nS : Int)) = true := by rw [decide_eq_true_iff]; omega
          have d1' : decide (j < nS) = true := by rw [decide_eq_true_iff]; omega
          by_cases h2 : j < nD
          · have d2 : decide ((j : Int) < (nD : Int)) = true := by rw [decide_eq_true_iff]; omega
            have d2' : decide (j < nD) = true := by rw [decide_eq_true_iff]; omega
            obtain ⟨e, he⟩ : ∃ e, S[j]? = some e := ⟨_, List.getElem?_eq_getElem (by rw [HLS.out]; exact h1)⟩
            obtain ⟨f, hf⟩ : ∃ f, D[j]? = some f := ⟨_, List.getElem?_eq_getElem (by rw [HLD.out]; exact h2)⟩
            obtain ⟨bS, oS, rfl, hbS, x0, x1, x2, x3⟩ := (HPS.out.below HBQ.out).s j e he
            obtain ⟨bD, oD, rfl, hbD, y0, y1, y2, y3⟩ := (HPD.out.below HBQ.out).s j f hf
            obtain ⟨z0, z1, z2⟩ := (HR.out.below HBQ.out).cells
            simp only at z0 z1 z2
            have t1 := HSES.out e (List.mem_of_getElem? he)
            have t2 := HSED.out f (List.mem_of_getElem? hf)
            have HGE : Hid (S.getD j default = e ∧ D.getD j default = f) := Lib.hid ⟨getD_ev he, getD_ev hf⟩
            have hmx := fun W => run_max2 (P := Try.prog) #[3, 3] 3 e.tm f.tm W
            have hmn := fun W => run_min2 (P := Try.prog) #[3, 3] 3 e.tm f.tm W
            obtain ⟨mx, e1⟩ : ∃ mx, max e.tm f.tm = mx := ⟨_, rfl⟩
            obtain ⟨mn, e2⟩ : ∃ mn, min e.tm f.tm = mn := ⟨_, rfl⟩
            obtain ⟨far, e3⟩ : ∃ far, mx - mn = far := ⟨_, rfl⟩
            have hw : IntKind.i64.wrap (mx - mn) = far := by rw [IntKind.wrap_i64]; omega
            rw [e1] at hmx
            rw [e2] at hmn
            have HFR : Hid (max e.tm f.tm - min e.tm f.tm = far) := Lib.hid (by rw [e1, e2, e3])
            have n0 : (0 : Int) ≤ (j : Int) := by omega
            have n1' : (j : Int) < (nS : Int) := by omega
            have n2' : (j : Int) < (nD : Int) := by omega
            clear he hf e1 e2 e3 t1 t2 hbS hbD
            go_upto_region 12 with fail
            go_quiet (fail)
            clear hmx hmn hw
            by_cases v0 : e.kd = f.kd
            rotate_left
            · have u0 : (e.kd != f.kd) = true := by rw [bne_iff_ne]; exact v0
              have HC := Lib.hid (HOA.out j hjS hjD HALL.out (fun _ _ => by rw [HGE.out.1, HGE.out.2]; exact alike_no1 v0))
              clear h1 h2
              go_upto_region 13 with fail
              go_quiet (fail)
              go_wp2_with fail
              go_meet
              exact ⟨j, rfl, HC.out, (by first | exact Below_drewN HBQ.out _ | exact Below_drewN (Below_drewN HBQ.out _) _)⟩
            have u0 : (e.kd != f.kd) = false := by rw [v0]; simp
            by_cases v1 : e.a = f.a
            rotate_left
            · have u1 : (e.a != f.a) = true := by rw [bne_iff_ne]; exact v1
              have HC := Lib.hid (HOA.out j hjS hjD HALL.out (fun _ _ => by rw [HGE.out.1, HGE.out.2]; exact alike_no2 v1))
              clear h1 h2
              go_upto_region 13 with fail
              go_quiet (fail)
              go_wp2_with fail
              go_meet
              exact ⟨j, rfl, HC.out, (by first | exact Below_drewN HBQ.out _ | exact Below_drewN (Below_drewN HBQ.out _) _)⟩
            have u1 : (e.a != f.a) = false := by rw [v1]; simp
            by_cases v2 : e.b = f.b
            rotate_left
            · have u2 : (e.b != f.b) = true := by rw [bne_iff_ne]; exact v2
              have HC := Lib.hid (HOA.out j hjS hjD HALL.out (fun _ _ => by rw [HGE.out.1, HGE.out.2]; exact alike_no3 v2))
              clear h1 h2
              go_upto_region 13 with fail
              go_quiet (fail)
              go_wp2_with fail
              go_meet
              exact ⟨j, rfl, HC.out, (by first | exact Below_drewN HBQ.out _ | exact Below_drewN (Below_drewN HBQ.out _) _)⟩
            have u2 : (e.b != f.b) = false := by rw [v2]; simp
            by_cases v3 : rs < far
            · have u3 : decide (rs < far) = true := decide_eq_true v3
              have HC := Lib.hid (HOA.out j hjS hjD HALL.out (fun _ _ => by rw [HGE.out.1, HGE.out.2]; exact alike_no4 (by rw [HFR.out]; exact v3)))
              clear h1 h2
              go_upto_region 13 with fail
              go_quiet (fail)
              go_wp2_with fail
              go_meet
              exact ⟨j, rfl, HC.out, (by first | exact Below_drewN HBQ.out _ | exact Below_drewN (Below_drewN HBQ.out _) _)⟩
            · have u3 : decide (rs < far) = false := decide_eq_false v3
              have HAL2 : Hid (∀ i, i < j + 1 → alike ⟨rk, rs, true⟩ (S.getD i default) (D.getD i default) = true) := Lib.hid (fun i hi => by
                by_cases hij : i = j
                · subst hij
                  rw [HGE.out.1, HGE.out.2]
                  exact alike_yes v0 v1 v2 (by rw [HFR.out]; exact v3)
                · exact HALL.out i (by omega))
              go_upto_region 13 with fail
              go_quiet (fail)
              go_wp2_with fail
              exact ⟨⟨j + 1, by push_cast; rfl, by omega, by omega, HAL2.out, (by first | exact Below_drewN HBQ.out _ | exact Below_drewN (Below_drewN HBQ.out _) _)⟩, by simp [intOf]; omega⟩
          · have d2 : decide ((j : Int) < (nD : Int)) = false := by rw [decide_eq_false_iff_not]; omega
            have d2' : decide (j < nD) = false := by rw [decide_eq_false_iff_not]; omega
            have HC := Lib.hid (HOA.out j hjS hjD HALL.out (fun _ h => absurd h h2))
            clear h1 h2
            go_wp2_with fail
            go_meet
            exact ⟨j, rfl, HC.out, HBQ.out⟩
        · have d1 : decide ((j : Int) < (nS : Int)) = false := by rw [decide_eq_false_iff_not]; omega
          have d1' : decide (j < nS) = false := by rw [decide_eq_false_iff_not]; omega
          have HC := Lib.hid (HOA.out j hjS hjD HALL.out (fun h _ => absurd h h1))
          clear h1
          go_wp2_with fail
          go_meet
          exact ⟨j, rfl, HC.out, HBQ.out⟩
    case rest =>
      obtain ⟨j, rfl, hc, hb⟩ := hcut
      have HPA := Lib.hid (HPA.out.below hb)
      have HPB := Lib.hid (HPB.out.below hb)
      have HR := Lib.hid (HR.out.below hb)
      have HB := Lib.hid (HB.out.trans (hb.mono HB.out.size))
      obtain ⟨z0, z1, z2⟩ := HR.out.cells
      simp only at z0 z1 z2
      clear hb
      by_cases hj : j = nS ∧ j = nD
      · have HC : Hid (compareR ⟨rk, rs, true⟩ A B = (0, true)) := Lib.hid (by rw [hc, if_pos hj])
        have q1 : ((j : Int) == (nS : Int)) = true := by rw [beq_iff_eq]; omega
        have q2 : ((j : Int) == (nD : Int)) = true := by rw [beq_iff_eq]; omega
        have q3 : (j == nS) = true := by rw [beq_iff_eq]; omega
        have q4 : (j == nD) = true := by rw [beq_iff_eq]; omega
        clear hj hc
        go_wp2_with fail
        refine (compare_b HPA.out HPB.out HC.out).mono ?_
        rintro e w9 ⟨rfl, hb⟩
        have HB := Lib.hid (HB.out.trans (hb.mono HB.out.size))
        clear hb z0 z1 z2
        go_wp2_with fail
        go_ret
        exact ⟨rfl, HB.out⟩
      · have HC : Hid (compareR ⟨rk, rs, true⟩ A B = ((j : Int), false)) := Lib.hid (by rw [hc, if_neg hj])
        clear hc
        by_cases hjS : j = nS
        · have q1 : ((j : Int) == (nS : Int)) = true := by rw [beq_iff_eq]; omega
          have q2 : ((j : Int) == (nD : Int)) = false := by rw [beq_eq_false_iff_ne]; omega
          have q3 : (j == nS) = true := by rw [beq_iff_eq]; omega
          have q4 : (j == nD) = false := by rw [beq_eq_false_iff_ne]; omega
          clear hj hjS
          go_wp2_with fail
          refine (compare_b HPA.out HPB.out HC.out).mono ?_
          rintro e w9 ⟨rfl, hb⟩
          have HB := Lib.hid (HB.out.trans (hb.mono HB.out.size))
          clear hb z0 z1 z2
          go_wp2_with fail
          go_ret
          exact ⟨by simp, HB.out⟩
        · have q1 : ((j : Int) == (nS : Int)) = false := by rw [beq_eq_false_iff_ne]; omega
          have q3 : (j == nS) = false := by rw [beq_eq_false_iff_ne]; omega
          clear hj hjS
          go_wp2_with fail
          refine (compare_b HPA.out HPB.out HC.out).mono ?_
          rintro e w9 ⟨rfl, hb⟩
          have HB := Lib.hid (HB.out.trans (hb.mono HB.out.size))
          clear hb z0 z1 z2
          go_wp2_with fail
          go_ret
          exact ⟨by simp, HB.out⟩
end Go.Proofs.Ythblehinmbgbdaa
