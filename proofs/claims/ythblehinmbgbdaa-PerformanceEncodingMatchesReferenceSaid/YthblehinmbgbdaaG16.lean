/- Compare of the reference. -/
import Derived.Test.YthblehinmbgbdaaG15
namespace Go.Proofs.Ythblehinmbgbdaa
open Go.RowKit
set_option maxRecDepth 100000

theorem TmI.counted {L : List Ev} (h : TmI L) (r : Rel) : TmI (counted r L) := by
  intro e he
  unfold Go.Proofs.Ythblehinmbgbdaa.counted at he
  split at he
  · exact h e (List.mem_filter.1 he).1
  · cases he
theorem counted_len (r : Rel) (L : List Ev) : (counted r L).length ≤ L.length := by
  unfold counted
  split
  · exact List.length_filter_le _ _
  · simp
theorem firstBad_hit {r : Rel} {c d : List Ev} {j : Nat} (hj : j < c.length) (h : ∀ k, k < j → fits r c d k = true) (hb : fits r c d j = false) : firstBad r c d = some j := by
  unfold firstBad
  rw [List.find?_range_eq_some]
  refine ⟨by simp [hb], by simpa using hj, ?_⟩
  intro k hk
  simp [h k hk]
theorem compareR_hit {r : Rel} {x y : List Ev} (hr : validR r = true) {j : Nat} (h : firstBad r (counted r x) (counted r y) = some j) : compareR r x y = ((j : Int), false) := by rw [compareR, if_pos hr, h]
theorem compareR_len {r : Rel} {x y : List Ev} (hr : validR r = true) (h : firstBad r (counted r x) (counted r y) = none) (hl : (counted r x).length ≠ (counted r y).length) : compareR r x y = (((counted r x).length : Int), false) := by
  rw [compareR, if_pos hr, h]
  exact if_neg hl
theorem compareR_yes {r : Rel} {x y : List Ev} (hr : validR r = true) (h : firstBad r (counted r x) (counted r y) = none) (hl : (counted r x).length = (counted r y).length) : compareR r x y = (0, true) := by
  rw [compareR, if_pos hr, h]
  exact if_pos hl
theorem compareR_bad {r : Rel} (x y : List Ev) (hr : validR r = false) : compareR r x y = (0, false) := by rw [compareR, hr]; rfl
def cmpV (z : Int × Bool) : Value := .tuple #[.int .i64 z.1, .bool z.2]
theorem fits_ord {r : Rel} (ho : r.ord = true) (c d : List Ev) (i : Nat) : fits r c d i = (decide (i < d.length) && alike r (c.getD i default) (d.getD i default)) := by rw [fits, if_pos ho]
theorem fits_un {r : Rel} (ho : r.ord = false) (c d : List Ev) (i : Nat) : fits r c d i = partner r c d i := by rw [fits, if_neg (by simp [ho])]
theorem fits_step {r : Rel} {c d : List Ev} {j : Nat} (h : ∀ k, k < j → fits r c d k = true) (hj : fits r c d j = true) : ∀ k, k < j + 1 → fits r c d k = true := fun k hk => by
  rcases Nat.lt_or_ge k j with h1 | h1
  · exact h k h1
  · obtain rfl : k = j := by omega
    exact hj
set_option maxHeartbeats 4000000 in
theorem refCompare_any (r : Rel) (a : Option Addr) (c : Nat) (X : List Ev) (a' : Option Addr) (c' : Nat) (Y : List Ev) (w : World) (hS : EvS w a X) (hM : EvS w a' Y) (hX : X.length ≤ 1000) (hY : Y.length ≤ 1000) (hI : TmI X) (hJ : TmI Y) :
    Calls Try.prog 24 #[relV r, .slice a X.length c, .slice a' Y.length c'] w fun e w' => e = .returned (cmpV (compareR r X Y)) ∧ Below w.heap.size w w' := by
  have HV := Lib.hid (fun W => refValid_any r W)
  cases hv : validR r with
  | false =>
    rw [hv] at HV
    rw [compareR_bad X Y hv]
    simp only [relV, cmpV] at HV ⊢
    generalize X.length = x at *
    generalize Y.length = y at *
    clear hv hS hM hI hJ
    go_enter Try.func24, Try.ntmps24
    go_wp2_with fail
    refine (HV.out _).mono ?_
    rintro e w1 ⟨rfl, hb⟩
    have HB := Lib.hid (show Below w.heap.size w w1 from ((Below.refl _ _).alloc (Nat.le_refl _) _).trans (hb.mono (by rw [size_alloc]; omega)))
    clear hb
    go_wp2_with fail
    go_ret2
    exact ⟨rfl, HB.out⟩
  | true =>
    rw [hv] at HV
    have hk : 0 ≤ r.slack ∧ r.slack ≤ 20000 := by rw [validR_iff] at hv; exact ⟨hv.2.2.2.1, hv.2.2.2.2⟩
    have HC1 := Lib.hid (fun W h => refCounted_any r a c X W h hX)
    have HC2 := Lib.hid (fun W h => refCounted_any r a' c' Y W h hY)
    have HS := Lib.hid hS
    have HM := Lib.hid hM
    have hI1 := hI.counted r
    have hJ1 := hJ.counted r
    have hl1 := Nat.le_trans (counted_len r X) hX
    have hl2 := Nat.le_trans (counted_len r Y) hY
    obtain ⟨R, hR⟩ : ∃ R, compareR r X Y = R := ⟨_, rfl⟩
    have HHIT : Hid (∀ j, firstBad r (counted r X) (counted r Y) = some j → R = ((j : Int), false)) := Lib.hid (fun j h => by rw [← hR]; exact compareR_hit hv h)
    have HLEN : Hid (firstBad r (counted r X) (counted r Y) = none → (counted r X).length ≠ (counted r Y).length → R = (((counted r X).length : Int), false)) := Lib.hid (fun h1 h2 => by rw [← hR]; exact compareR_len hv h1 h2)
    have HYES : Hid (firstBad r (counted r X) (counted r Y) = none → (counted r X).length = (counted r Y).length → R = (0, true)) := Lib.hid (fun h1 h2 => by rw [← hR]; exact compareR_yes hv h1 h2)
    rw [hR]
    generalize counted r X = L at *
    generalize counted r Y = M at *
    have HPA := Lib.hid (fun (b1 : Option Addr) (n1 : Nat) (b2 : Option Addr) (n2 : Nat) (i : Nat) W h1 h2 h3 => partner_any r b1 n1 L b2 n2 M i W h1 h2 hl1 hl2 h3 hI1 hJ1 hk)
    have HAL := Lib.hid (fun x y hx hy W => alike_any r x y W hx hy hk)
    have HI := Lib.hid hI1
    have HJ := Lib.hid hJ1
    have HFO := Lib.hid (fun (h : r.ord = true) => fits_ord h L M)
    have HFU := Lib.hid (fun (h : r.ord = false) => fits_un h L M)
    obtain ⟨od, hod⟩ : ∃ od, r.ord = od := ⟨_, rfl⟩
    simp only [relV] at HV HC1 HC2 HPA HAL ⊢
    rw [hod] at HV HC1 HC2 HPA HAL HFO HFU ⊢
    generalize X.length = x at *
    generalize Y.length = y at *
    clear hv hS hM hI hJ hI1 hJ1 hk hR hod
    go_enter Try.func24, Try.ntmps24
    go_wp2_with fail
    refine (HV.out _).mono ?_
    rintro e w1 ⟨rfl, hb⟩
    have HB := Lib.hid (show Below w.heap.size w w1 from ((Below.refl _ _).alloc (Nat.le_refl _) _).trans (hb.mono (by rw [size_alloc]; omega)))
    have HSZ := Lib.hid (show w.heap.size < w1.heap.size from Nat.lt_of_lt_of_le (by rw [size_alloc]; omega) hb.size)
    have hcs : ∀ q, w1.cell? ⟨w.heap.size, q, none⟩ = #[Value.int .i64 r.kinds, .int .i64 r.slack, .bool od][q]? := by
      intro q
      rw [(bcell hb).1 w.heap.size q (by simp only [size_alloc]; omega), Lib.cell_of_heap (heap_last _ _)]
    have HCS := Lib.hid hcs
    have c0 := hcs 0
    have c1 := hcs 1
    have c2 := hcs 2
    simp at c0 c1 c2
    clear hb hcs
    go_wp2_with fail
    refine (HC1.out _ (HS.out.below HB.out)).mono ?_
    rintro e w2 ⟨v1, rfl, hr1, hb⟩
    have HR1 := Lib.hid hr1
    have HB2 := Lib.hid (HB.out.trans (hb.mono HB.out.size))
    have HSZ2 := Lib.hid (Nat.lt_of_lt_of_le HSZ.out hb.size)
    have hcs : ∀ q, w2.cell? ⟨w.heap.size, q, none⟩ = #[Value.int .i64 r.kinds, .int .i64 r.slack, .bool od][q]? := fun q => ((bcell hb).1 _ _ HSZ.out).trans (HCS.out q)
    have HCS2 := Lib.hid hcs
    have c0 := hcs 0
    have c1 := hcs 1
    have c2 := hcs 2
    simp at c0 c1 c2
    clear hb hcs hr1
    go_wp2_with fail
    refine (HC2.out _ (HM.out.below HB2.out)).mono ?_
    rintro e w3 ⟨v2, rfl, hr2, hb⟩
    have hr1 := HR1.out.below hb
    have HB3 := Lib.hid (HB2.out.trans (hb.mono HB2.out.size))
    have HSZ3 := Lib.hid (Nat.lt_of_lt_of_le HSZ2.out hb.size)
    have hcs : ∀ q, w3.cell? ⟨w.heap.size, q, none⟩ = #[Value.int .i64 r.kinds, .int .i64 r.slack, .bool od][q]? := fun q => ((bcell hb).1 _ _ HSZ2.out).trans (HCS2.out q)
    have HCS3 := Lib.hid hcs
    obtain ⟨b1, k1, rfl, -, he1, -⟩ := hr1.isSlice
    obtain ⟨b2, k2, rfl, -, he2, -⟩ := hr2.isSlice
    have HE1 := Lib.hid he1
    have HE2 := Lib.hid he2
    obtain ⟨n, hn⟩ : ∃ n, L.length = n := ⟨_, rfl⟩
    obtain ⟨m, hm⟩ : ∃ m, M.length = m := ⟨_, rfl⟩
    rw [hn] at hl1
    rw [hm] at hl2
    rw [hn] at HPA HLEN HYES ⊢
    rw [hm] at HPA HLEN HYES HFO ⊢
    have HN := Lib.hid hn
    have HMN := Lib.hid hm
    clear hb hcs hr1 hr2 he1 he2 hn hm HR1 HCS HCS2 HV HC1 HC2 HS HM HB HB2 HSZ HSZ2
    go_wp2_with fail
    go_loopw [11, 12] (fun p _ wx => ∃ j : Nat, j ≤ n ∧ p = .int .i64 j ∧ (∀ k, k < j → fits r L M k = true) ∧ Below w3.heap.size w3 wx) (fun p _ _ => n - (intOf p).toNat)
    case atStart => exact ⟨0, by omega, rfl, fun k hk => by omega, Below.refl _ _⟩
    case round =>
      obtain ⟨j, hj, rfl, hp, hb⟩ := hrel
      have HP := Lib.hid hp
      have HB1 := Lib.hid hb
      have HBW := Lib.hid (HB3.out.trans (hb.mono HB3.out.size))
      have hcs : ∀ k, wr.cell? ⟨w.heap.size, k, none⟩ = #[Value.int .i64 r.kinds, .int .i64 r.slack, .bool od][k]? := fun k => ((bcell hb).1 _ _ HSZ3.out).trans (HCS3.out k)
      have hwl : w.heap.size < wr.heap.size := Nat.lt_of_lt_of_le HSZ3.out hb.size
      clear hp hb
      by_cases hlt : j < n
      · obtain ⟨e, he⟩ : ∃ e, L[j]? = some e := ⟨_, List.getElem?_eq_getElem (by rw [HN.out]; exact hlt)⟩
        have HE := Lib.hid he
        obtain ⟨b, o, rfl, hbl, x0, x1, x2, x3⟩ := (HE1.out.below HB1.out) j e he
        have n0 : (0 : Int) ≤ (j : Int) := by omega
        have n1 : (j : Int) < (n : Int) := by omega
        have hd : decide ((j : Int) < (n : Int)) = true := by rw [decide_eq_true_iff]; omega
        have hd2 : decide (j < n) = true := by rw [decide_eq_true_iff]; omega
        have HBAD : Hid (fits r L M j = false → R = ((j : Int), false)) := Lib.hid (fun h => HHIT.out j (firstBad_hit (by rw [HN.out]; exact hlt) HP.out h))
        cases od with
        | true =>
          by_cases hjm : j < m
          · have hm0 : decide ((j : Int) < (m : Int)) = true := by rw [decide_eq_true_iff]; omega
            have hm1 : decide (j < m) = true := by rw [decide_eq_true_iff]; omega
            have hm2 : (j : Int) < (m : Int) := by omega
            obtain ⟨f, hf⟩ : ∃ f, M[j]? = some f := ⟨_, List.getElem?_eq_getElem (by rw [HMN.out]; exact hjm)⟩
            obtain ⟨b', o', rfl, hbl', y0, y1, y2, y3⟩ := (HE2.out.below HB1.out) j f hf
            have HA1 := Lib.hid (fun W => HAL.out e f (HI.out e (List.mem_of_getElem? he)) (HJ.out f (List.mem_of_getElem? hf)) W)
            simp only [evV] at HA1
            obtain ⟨al, hal⟩ : ∃ al, alike r e f = al := ⟨_, rfl⟩
            obtain ⟨q, hq⟩ : ∃ q, decide (cls e = cls f) = q := ⟨_, rfl⟩
            rw [hal, hq] at HA1
            have HFIT : Hid (fits r L M j = al) := Lib.hid (by rw [HFO.out rfl, getD_ev he, getD_ev hf, hal, hm1]; rfl)
            have HCA : Hid (∀ wx, Below wr.heap.size wr wx → Calls Try.prog 39 #[.agg #[.int .i64 r.kinds, .int .i64 r.slack, .bool true], .agg #[.int .i64 e.tm, .int .i64 e.kd, .int .i64 e.a, .int .i64 e.b], .agg #[.int .i64 f.tm, .int .i64 f.kd, .int .i64 f.a, .int .i64 f.b]] wx fun z w' => z = .returned (.tuple #[.bool al, .bool q]) ∧ Below wr.heap.size wr w') := Lib.hid (fun wx hx => (HA1.out wx).mono fun r w' ⟨h1, h2⟩ => ⟨h1, hx.trans (h2.mono hx.size)⟩)
            have HCC : Hid (∀ wx, Below wr.heap.size wr wx → evAt wx b (o + j * 4) e ∧ evAt wx b' (o' + j * 4) f ∧ (wx.cell? ⟨w.heap.size, 0, none⟩ = some (.int .i64 r.kinds) ∧ wx.cell? ⟨w.heap.size, 1, none⟩ = some (.int .i64 r.slack) ∧ wx.cell? ⟨w.heap.size, 2, none⟩ = some (.bool true))) := Lib.hid (fun wx hx => ⟨evAt.below ⟨x0, x1, x2, x3⟩ hbl hx, evAt.below ⟨y0, y1, y2, y3⟩ hbl' hx, ((bcell hx).1 _ _ hwl).trans (hcs 0), ((bcell hx).1 _ _ hwl).trans (hcs 1), ((bcell hx).1 _ _ hwl).trans (hcs 2)⟩)
            have HC0 := Lib.hid (Below_drewN (Below.refl wr.heap.size wr) 1)
            have c2 := hcs 2
            have HWL := Lib.hid hwl
            simp at c2
            clear hq he hf x0 x1 x2 x3 y0 y1 y2 y3 hbl hbl' hal hcs hwl
            go_upto_region 11 with fail
            refine region_quietC (C := Below wr.heap.size wr) (by kernel_rfl) (by kernel_rfl) HC0.out ?_
            repeat (
              first
                | go_big_quiet_skip
                | (go_big_quiet_want
                   go_big_quiet_op
                   first
                     | go_big_quiet_on
                     | (apply Exists.intro
                        refine ⟨fun wx hx => ?_, ?_⟩
                        · first
                          | (go_at_call 39; exact HCA.out _ hx)
                          | exact rfl
                          | (obtain ⟨⟨c0, c1, c2, c3⟩, ⟨d0, d1, d2, d3⟩, e0, e1, e2⟩ := HCC.out _ hx; go_simp; exact rfl)
                        go_big_quiet_on)))
            refine wpQuiet_nil ?_
            intro w4 hw4
            obtain ⟨-, -, c0, c1, c2⟩ := HCC.out w4 hw4
            have HB4 := Lib.hid (HB1.out.trans (hw4.mono HB1.out.size))
            have HBW4 := Lib.hid (HBW.out.trans (hw4.mono HBW.out.size))
            clear hw4
            cases al with
            | true =>
              have HNX := Lib.hid (fits_step HP.out HFIT.out)
              go_wp2_with fail
              exact ⟨⟨j + 1, by omega, by push_cast; rfl, HNX.out, HB4.out⟩, by simp [intOf]; omega⟩
            | false =>
              have HFIN := Lib.hid (HBAD.out HFIT.out)
              go_wp2_with fail
              go_ret2
              exact ⟨by rw [HFIN.out]; rfl, HBW4.out⟩
          · have hm0 : decide ((j : Int) < (m : Int)) = false := by rw [decide_eq_false_iff_not]; omega
            have hm1 : decide (j < m) = false := by rw [decide_eq_false_iff_not]; omega
            have HFIT : Hid (fits r L M j = false) := Lib.hid (by rw [HFO.out rfl, hm1]; rfl)
            have HFIN := Lib.hid (HBAD.out HFIT.out)
            have c0 := hcs 0
            have c1 := hcs 1
            have c2 := hcs 2
            simp at c0 c1 c2
            clear he hcs x0 x1 x2 x3
            go_wp2_with fail
            go_ret2
            exact ⟨by rw [HFIN.out]; rfl, HBW.out⟩
        | false =>
          obtain ⟨ft, hft⟩ : ∃ ft, partner r L M j = ft := ⟨_, rfl⟩
          have HFIT : Hid (fits r L M j = ft) := Lib.hid (by rw [HFU.out rfl, hft])
          have HP1 := Lib.hid (HPA.out (some ⟨b, o, none⟩) k1 b2 k2 j wr (HE1.out.below HB1.out) (HE2.out.below HB1.out) hlt)
          rw [hft] at HP1
          have HCC : Hid (∀ wx, Below wr.heap.size wr wx → (wx.cell? ⟨w.heap.size, 0, none⟩ = some (.int .i64 r.kinds) ∧ wx.cell? ⟨w.heap.size, 1, none⟩ = some (.int .i64 r.slack) ∧ wx.cell? ⟨w.heap.size, 2, none⟩ = some (.bool false))) := Lib.hid (fun wx hx => ⟨((bcell hx).1 _ _ hwl).trans (hcs 0), ((bcell hx).1 _ _ hwl).trans (hcs 1), ((bcell hx).1 _ _ hwl).trans (hcs 2)⟩)
          have c0 := hcs 0
          have c1 := hcs 1
          have c2 := hcs 2
          simp at c0 c1 c2
          clear he hcs x0 x1 x2 x3 hft
          go_wp2_with fail
          refine HP1.out.mono ?_
          rintro z w4 ⟨rfl, hw4⟩
          obtain ⟨c0, c1, c2⟩ := HCC.out w4 hw4
          have HB4 := Lib.hid (HB1.out.trans (hw4.mono HB1.out.size))
          have HBW4 := Lib.hid (HBW.out.trans (hw4.mono HBW.out.size))
          clear hw4
          cases ft with
          | true =>
            have HNX := Lib.hid (fits_step HP.out HFIT.out)
            go_wp2_with fail
            exact ⟨⟨j + 1, by omega, by push_cast; rfl, HNX.out, HB4.out⟩, by simp [intOf]; omega⟩
          | false =>
            have HFIN := Lib.hid (HBAD.out HFIT.out)
            go_wp2_with fail
            go_ret2
            exact ⟨by rw [HFIN.out]; rfl, HBW4.out⟩
      · obtain rfl : j = n := by omega
        have hd : decide ((j : Int) < (j : Int)) = false := by simp
        have hd2 : decide (j < j) = false := by simp
        have HNB : Hid (firstBad r L M = none) := Lib.hid (firstBad_none.2 (fun i hi => HP.out i (by rw [HN.out] at hi; exact hi)))
        by_cases hjm : j = m
        · have hb : ((j : Int) != (m : Int)) = false := by rw [hjm]; simp
          have hb2 : (j != m) = false := by rw [hjm]; simp
          have HFIN := Lib.hid (HYES.out HNB.out hjm)
          clear hjm hcs
          go_wp2_with fail
          go_ret2
          exact ⟨by rw [HFIN.out]; rfl, HBW.out⟩
        · have hb : ((j : Int) != (m : Int)) = true := by rw [bne_iff_ne]; omega
          have hb2 : (j != m) = true := by rw [bne_iff_ne]; omega
          have HFIN := Lib.hid (HLEN.out HNB.out hjm)
          clear hcs
          go_wp2_with fail
          go_ret2
          exact ⟨by rw [HFIN.out]; rfl, HBW.out⟩
end Go.Proofs.Ythblehinmbgbdaa
