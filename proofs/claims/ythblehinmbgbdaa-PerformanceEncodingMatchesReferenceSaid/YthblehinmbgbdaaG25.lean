/- Which performances are valid: valid with IsSortedFunc and ContainsFunc; IsPerformance of the reference. -/
import Derived.Test.YthblehinmbgbdaaG12
import Derived.Test.YthblehinmbgbdaaG22
namespace Go.Proofs.Ythblehinmbgbdaa
open Go.RowKit
set_option maxRecDepth 100000

theorem cmpEv_any (x y : Ev) (w : World) : Calls Try.prog 54 #[evV x, evV y] w fun r w' => r = .returned (.int .i64 (cmpI x.tm y.tm)) ∧ Below w.heap.size w w' := by
  simp only [evV]
  have HC := Lib.hid (fun W => compare_any x.tm y.tm W)
  generalize cmpI x.tm y.tm = v at *
  go_enter Try.func54, Try.ntmps54
  go_wp2_with fail
  refine (HC.out _).mono ?_
  rintro e w1 ⟨rfl, rfl⟩
  go_wp2_with fail
  go_ret
  exact ⟨rfl, ((Below.refl w.heap.size w).alloc (Nat.le_refl _) _).alloc (by rw [size_alloc]; omega) _⟩
theorem okE_split (e : Ev) (b1 b2 b3 b4 : Bool) (h1 : decide (0 ≤ e.tm ∧ e.tm ≤ 20000) = b1) (h2 : decide (1 ≤ e.kd ∧ e.kd ≤ 5) = b2) (h3 : decide (0 ≤ e.a ∧ e.a ≤ 65535) = b3) (h4 : decide (0 ≤ e.b ∧ e.b ≤ 65535) = b4) : okE e = (b1 && b2 && b3 && b4) := by rw [okE, h1, h2, h3, h4]
set_option maxHeartbeats 400000 in
theorem bad_any (e : Ev) (w : World) : Calls Try.prog 56 #[evV e] w fun r w' => r = .returned (.bool (!okE e)) ∧ Below w.heap.size w w' := by
  simp only [evV]
  have HB := Lib.hid ((Below.refl w.heap.size w).alloc (Nat.le_refl _) (.cells #[.int .i64 e.tm, .int .i64 e.kd, .int .i64 e.a, .int .i64 e.b] 52))
  have HW1 := Lib.hid (fun W => within_any e.tm 0 20000 W)
  have HW2 := Lib.hid (fun W => within_any e.kd 1 5 W)
  have HW3 := Lib.hid (fun W => within_any e.a 0 65535 W)
  have HW4 := Lib.hid (fun W => within_any e.b 0 65535 W)
  obtain ⟨b1, h1⟩ : ∃ b, decide (0 ≤ e.tm ∧ e.tm ≤ 20000) = b := ⟨_, rfl⟩
  obtain ⟨b2, h2⟩ : ∃ b, decide (1 ≤ e.kd ∧ e.kd ≤ 5) = b := ⟨_, rfl⟩
  obtain ⟨b3, h3⟩ : ∃ b, decide (0 ≤ e.a ∧ e.a ≤ 65535) = b := ⟨_, rfl⟩
  obtain ⟨b4, h4⟩ : ∃ b, decide (0 ≤ e.b ∧ e.b ≤ 65535) = b := ⟨_, rfl⟩
  have HV := Lib.hid (okE_split e b1 b2 b3 b4 h1 h2 h3 h4)
  rw [h1] at HW1
  rw [h2] at HW2
  rw [h3] at HW3
  rw [h4] at HW4
  clear h1 h2 h3 h4
  go_enter Try.func56, Try.ntmps56
  go_wp2_with fail
  refine (HW1.out _).mono ?_
  rintro e w1 ⟨rfl, rfl⟩
  cases b1 with
  | false =>
    go_wp2_with fail
    go_ret
    exact ⟨by rw [HV.out]; rfl, HB.out⟩
  | true =>
  go_wp2_with fail
  refine (HW2.out _).mono ?_
  rintro e w1 ⟨rfl, rfl⟩
  cases b2 with
  | false =>
    go_wp2_with fail
    go_ret
    exact ⟨by rw [HV.out]; rfl, HB.out⟩
  | true =>
  go_wp2_with fail
  refine (HW3.out _).mono ?_
  rintro e w1 ⟨rfl, rfl⟩
  cases b3 with
  | false =>
    go_wp2_with fail
    go_ret
    exact ⟨by rw [HV.out]; rfl, HB.out⟩
  | true =>
  go_wp2_with fail
  refine (HW4.out _).mono ?_
  rintro e w1 ⟨rfl, rfl⟩
  go_wp2_with fail
  go_ret
  exact ⟨by rw [HV.out]; cases b4 <;> rfl, HB.out⟩
theorem all_no {L : List Ev} {n : Nat} (hn : L.length = n) (h : ∀ k, k < n → okE (L.getD k default) = true) : L.any (fun e => !okE e) = false := by
  rw [List.any_eq_false]
  intro e he
  obtain ⟨k, hk⟩ := List.getElem?_of_mem he
  have := h k (by rw [← hn]; exact (List.getElem?_eq_some_iff.1 hk).1)
  rw [List.getD_eq_getElem?_getD, hk] at this
  simpa using this
theorem any_yes {L : List Ev} {e : Ev} {k : Nat} (hk : L[k]? = some e) (h : okE e = false) : L.any (fun e => !okE e) = true := by
  rw [List.any_eq_true]
  exact ⟨e, List.mem_of_getElem? hk, by simp [h]⟩
set_option maxHeartbeats 1000000 in
theorem indexBad_any (a : Option Addr) (c : Nat) (L : List Ev) (w : World) (hS : EvS w a L) (hL : L.length ≤ 1000) :
    Calls Try.prog 62 #[.slice a L.length c, .func (.func 56) #[] #[]] w fun r w' => (∃ v, r = .returned (.int .i64 v) ∧ decide (0 ≤ v) = L.any (fun e => !okE e)) ∧ Below w.heap.size w w' := by
  obtain ⟨n, hn⟩ : ∃ n, L.length = n := ⟨_, rfl⟩
  have HN := Lib.hid hn
  have HS := Lib.hid hS
  rw [hn] at hL ⊢
  have HH := Lib.hid (fun e W => bad_any e W)
  obtain ⟨R, hR⟩ : ∃ R, L.any (fun e => !okE e) = R := ⟨_, rfl⟩
  rw [hR]
  have HR := Lib.hid hR
  clear hn hS hR
  go_enter Try.func62, Try.ntmps62
  go_wp2_with fail
  go_loopw [5, 8] (fun _ i wx => ∃ j : Nat, j ≤ n ∧ i = .int .i64 j ∧ (∀ k, k < j → okE (L.getD k default) = true) ∧ Below w.heap.size w wx) (fun _ i _ => n - (intOf i).toNat)
  case atStart => exact ⟨0, by omega, rfl, fun k hk => by omega, Below.refl _ _⟩
  case round =>
    obtain ⟨j, hj, rfl, hp, hb⟩ := hrel
    have HP := Lib.hid hp
    have HB := Lib.hid hb
    clear hp
    by_cases hlt : j < n
    · obtain ⟨e, he⟩ : ∃ e, L[j]? = some e := ⟨_, List.getElem?_eq_getElem (by rw [HN.out]; exact hlt)⟩
      obtain ⟨b, o, rfl, hbl, x0, x1, x2, x3⟩ := (HS.out.below hb) j e he
      have HE := Lib.hid he
      have HH1 := Lib.hid (fun W => HH.out e W)
      simp only [evV] at HH1
      obtain ⟨y, hy⟩ : ∃ y, okE e = y := ⟨_, rfl⟩
      rw [hy] at HH1
      have HY := Lib.hid hy
      clear hb he hy
      have n0 : (0 : Int) ≤ (j : Int) := by omega
      have n1 : (j : Int) < (n : Int) := by omega
      have hd : decide ((j : Int) < (n : Int)) = true := by rw [decide_eq_true_iff]; omega
      have hd2 : decide (j < n) = true := by rw [decide_eq_true_iff]; omega
      cases y with
      | true =>
        go_wp2_with fail
        refine (HH1.out _).mono ?_
        rintro r w1 ⟨rfl, hb1⟩
        have HBW := Lib.hid (HB.out.trans (hb1.mono HB.out.size))
        clear hb1
        go_wp2_with fail
        exact ⟨⟨j + 1, by omega, by push_cast; rfl, fun k hk => by
          rcases Nat.lt_or_ge k j with h1 | h1
          · exact HP.out k h1
          · obtain rfl : k = j := by omega
            rw [List.getD_eq_getElem?_getD, HE.out]; exact HY.out, HBW.out⟩, by simp [intOf]; omega⟩
      | false =>
        go_wp2_with fail
        refine (HH1.out _).mono ?_
        rintro r w1 ⟨rfl, hb1⟩
        have HBW := Lib.hid (HB.out.trans (hb1.mono HB.out.size))
        clear hb1
        go_wp2_with fail
        go_ret
        exact ⟨⟨_, rfl, by rw [← HR.out, any_yes HE.out HY.out, decide_eq_true_iff]; omega⟩, HBW.out⟩
    · obtain rfl : j = n := by omega
      have hd : decide ((j : Int) < (j : Int)) = false := by simp
      have hd2 : decide (j < j) = false := by simp
      go_wp2_with fail
      go_ret
      exact ⟨⟨_, rfl, by rw [← HR.out, all_no HN.out HP.out]; decide⟩, HB.out⟩
theorem containsBad_any (a : Option Addr) (c : Nat) (L : List Ev) (w : World) (hS : EvS w a L) (hL : L.length ≤ 1000) :
    Calls Try.prog 55 #[.slice a L.length c, .func (.func 56) #[] #[]] w fun r w' => r = .returned (.bool (L.any (fun e => !okE e))) ∧ Below w.heap.size w w' := by
  have HI := Lib.hid (indexBad_any a c L w hS hL)
  obtain ⟨n, hn⟩ : ∃ n, L.length = n := ⟨_, rfl⟩
  rw [hn] at HI ⊢
  obtain ⟨R, hR⟩ : ∃ R, L.any (fun e => !okE e) = R := ⟨_, rfl⟩
  rw [hR] at HI ⊢
  clear hR hn hS hL
  go_enter Try.func55, Try.ntmps55
  go_wp2_with fail
  refine HI.out.mono ?_
  rintro r w1 ⟨⟨v, rfl, hv⟩, hb⟩
  have HV := Lib.hid hv
  clear hv
  go_wp2_with fail
  go_ret
  exact ⟨by rw [HV.out]; rfl, hb⟩
theorem ascB_no {L : List Ev} {k : Nat} (hk : k + 1 < L.length) (h : tmAt L (k + 1) < tmAt L k) : ascB L = false := by
  rw [← Bool.not_eq_true, ascB_iff]
  intro h2
  have := h2 k hk
  omega
set_option maxHeartbeats 2000000 in
theorem isSorted_any (a : Option Addr) (c : Nat) (L : List Ev) (w : World) (hS : EvS w a L) (hL : L.length ≤ 1000) :
    Calls Try.prog 53 #[.slice a L.length c, .func (.func 54) #[] #[]] w fun r w' => r = .returned (.bool (ascB L)) ∧ Below w.heap.size w w' := by
  obtain ⟨n, hn⟩ : ∃ n, L.length = n := ⟨_, rfl⟩
  have HN := Lib.hid hn
  have HS := Lib.hid hS
  rw [hn] at hL ⊢
  have HH := Lib.hid (fun x y W => cmpEv_any x y W)
  obtain ⟨R, hR⟩ : ∃ R, ascB L = R := ⟨_, rfl⟩
  rw [hR]
  have HR := Lib.hid hR
  clear hn hS hR
  go_enter Try.func53, Try.ntmps53
  go_wp2_with fail
  go_loopw [5] (fun i wx => ∃ p : Int, -1 ≤ p ∧ p < n ∧ i = .int .i64 p ∧ (∀ k : Nat, p ≤ (k : Int) → k + 1 < n → tmAt L k ≤ tmAt L (k + 1)) ∧ Below w.heap.size w wx) (fun i _ => (intOf i).toNat)
  case atStart => exact ⟨(n : Int) - 1, by omega, by omega, rfl, fun k hk hk2 => by omega, Below.refl _ _⟩
  case round =>
    obtain ⟨p, hp0, hp1, rfl, hp, hb⟩ := hrel
    have HP := Lib.hid hp
    have HB := Lib.hid hb
    clear hp
    by_cases hlt : 0 < p
    · obtain ⟨j, rfl⟩ : ∃ j : Nat, p = (j : Int) + 1 := ⟨(p - 1).toNat, by omega⟩
      obtain ⟨e, he⟩ : ∃ e, L[j + 1]? = some e := ⟨_, List.getElem?_eq_getElem (by rw [HN.out]; omega)⟩
      obtain ⟨f, hf⟩ : ∃ f, L[j]? = some f := ⟨_, List.getElem?_eq_getElem (by rw [HN.out]; omega)⟩
      obtain ⟨b, o, rfl, hbl, x0, x1, x2, x3⟩ := (HS.out.below hb) (j + 1) e he
      obtain ⟨b', o', hba, -, y0, y1, y2, y3⟩ := (HS.out.below hb) j f hf
      injection hba with hba
      injection hba with h1 h2 _
      subst h1 h2
      have HTE : Hid (tmAt L (j + 1) = e.tm ∧ tmAt L j = f.tm) := Lib.hid (by
        constructor
        · rw [tmAt, List.getD_eq_getElem?_getD, he]; rfl
        · rw [tmAt, List.getD_eq_getElem?_getD, hf]; rfl)
      have HH1 := Lib.hid (fun W => HH.out e f W)
      simp only [evV] at HH1
      obtain ⟨v, hv⟩ : ∃ v, cmpI e.tm f.tm = v := ⟨_, rfl⟩
      have HV := Lib.hid (show decide (v < 0) = decide (e.tm < f.tm) by rw [← hv, cmpI_lt])
      rw [hv] at HH1
      have HCA : Hid (∀ wx, Below wr.heap.size wr wx → Calls Try.prog 54 #[.agg #[.int .i64 e.tm, .int .i64 e.kd, .int .i64 e.a, .int .i64 e.b], .agg #[.int .i64 f.tm, .int .i64 f.kd, .int .i64 f.a, .int .i64 f.b]] wx fun r w' => r = .returned (.int .i64 v) ∧ Below wr.heap.size wr w') := Lib.hid (fun wx hx => (HH1.out wx).mono fun r w' ⟨h1, h2⟩ => ⟨h1, hx.trans (h2.mono hx.size)⟩)
      have HCC : Hid (∀ wx, Below wr.heap.size wr wx → evAt wx b (o + (j + 1) * 4) e ∧ evAt wx b (o + j * 4) f) := Lib.hid (fun wx hx => ⟨evAt.below ⟨x0, x1, x2, x3⟩ hbl hx, evAt.below ⟨y0, y1, y2, y3⟩ hbl hx⟩)
      have HC0 := Lib.hid (Below_drewN (Below.refl wr.heap.size wr) 1)
      have n0 : (0 : Int) ≤ (j : Int) + 1 := by omega
      have n1 : (j : Int) + 1 < (n : Int) := by omega
      have n2 : (0 : Int) ≤ (j : Int) := by omega
      have n3 : (j : Int) < (n : Int) := by omega
      have hd : decide ((0 : Int) < (j : Int) + 1) = true := by rw [decide_eq_true_iff]; omega
      clear he hf hv x0 x1 x2 x3 y0 y1 y2 y3 hbl hb
      go_upto_region 4 with fail
      refine region_quietC (C := Below wr.heap.size wr) (by kernel_rfl) (by kernel_rfl) HC0.out ?_
      repeat (
        first
          | go_big_quiet_skip
          | (go_big_quiet_want
             go_big_quiet_op
             first
               | go_big_quiet_on
               | (apply Exists.intro
                  refine ⟨fun wx hx => ?_, ?_⟩
                  · first
                    | (go_at_call 54; exact HCA.out _ hx)
                    | (obtain ⟨⟨c0, c1, c2, c3⟩, ⟨d0, d1, d2, d3⟩⟩ := HCC.out _ hx; go_simp; exact rfl)
                  go_big_quiet_on)))
      refine wpQuiet_nil ?_
      intro w1 hw1
      have HB1 := Lib.hid (HB.out.trans (hw1.mono HB.out.size))
      clear hw1
      by_cases hv0 : v < 0
      · have HQ := Lib.hid (show decide (e.tm < f.tm) = true by rw [← HV.out, decide_eq_true hv0])
        have hq : decide (v < 0) = true := decide_eq_true hv0
        go_wp2_with fail
        go_ret
        exact ⟨by rw [← HR.out, ascB_no (L := L) (k := j) (by rw [HN.out]; omega) (by rw [HTE.out.1, HTE.out.2]; exact of_decide_eq_true HQ.out)]; rfl, HB1.out⟩
      · have HQ := Lib.hid (show decide (e.tm < f.tm) = false by rw [← HV.out, decide_eq_false hv0])
        have hq : decide (v < 0) = false := decide_eq_false hv0
        go_wp2_with fail
        exact ⟨⟨(j : Int), by omega, by omega, rfl, fun k hk hk2 => by
          by_cases hkj : k = j
          · subst hkj
            rw [HTE.out.1, HTE.out.2]
            have := of_decide_eq_false HQ.out
            omega
          · exact HP.out k (by omega) hk2, HB1.out⟩, by simp [intOf]⟩
    · have hd : decide ((0 : Int) < p) = false := by rw [decide_eq_false_iff_not]; omega
      have HFIN : Hid (R = true) := Lib.hid (by rw [← HR.out, ascB_iff]; exact fun k hk => HP.out k (by omega) (by rw [← HN.out]; exact hk))
      go_wp2_with fail
      go_ret
      exact ⟨by rw [HFIN.out]; rfl, HB.out⟩
theorem validP_split (L : List Ev) (n : Nat) (x y : Bool) (hn : L.length = n) (hx : ascB L = x) (hy : L.any (fun e => !okE e) = y) : validP L = (decide (n ≤ 1000) && x && !y) := by
  rw [validP, hn, hx, ← hy]
  congr 1
  rw [Bool.eq_iff_iff]
  simp
set_option maxHeartbeats 400000 in
theorem validP_any (a : Option Addr) (c : Nat) (L : List Ev) (w : World) (hS : EvS w a L) (hL : L.length ≤ 1000) :
    Calls Try.prog 41 #[.slice a L.length c] w fun r w' => r = .returned (.bool (validP L)) ∧ Below w.heap.size w w' := by
  have HI := Lib.hid (isSorted_any a c L w hS hL)
  have HC := Lib.hid (fun W h => containsBad_any a c L W h hL)
  have HS := Lib.hid hS
  obtain ⟨n, hn⟩ : ∃ n, L.length = n := ⟨_, rfl⟩
  rw [hn] at HI HC hL ⊢
  obtain ⟨x, hx⟩ : ∃ x, ascB L = x := ⟨_, rfl⟩
  obtain ⟨y, hy⟩ : ∃ y, L.any (fun e => !okE e) = y := ⟨_, rfl⟩
  have HV := Lib.hid (validP_split L n x y hn hx hy)
  rw [hx] at HI
  rw [hy] at HC
  have hd : decide ((n : Int) ≤ 1000) = true := by rw [decide_eq_true_iff]; omega
  have HD : Hid (decide (n ≤ 1000) = true) := Lib.hid (by rw [decide_eq_true_iff]; omega)
  clear hx hy hn hS hL
  go_enter Try.func41, Try.ntmps41
  go_wp2_with fail
  refine HI.out.mono ?_
  rintro r w1 ⟨rfl, hb⟩
  have HB := Lib.hid hb
  clear hb
  cases x with
  | false =>
    go_wp2_with fail
    go_ret
    exact ⟨by rw [HV.out, HD.out]; rfl, HB.out⟩
  | true =>
    go_wp2_with fail
    refine (HC.out _ (HS.out.below HB.out)).mono ?_
    rintro r w2 ⟨rfl, hb⟩
    have HB2 := Lib.hid (HB.out.trans (hb.mono HB.out.size))
    clear hb
    go_wp2_with fail
    go_ret
    exact ⟨by rw [HV.out, HD.out]; rfl, HB2.out⟩
end Go.Proofs.Ythblehinmbgbdaa
