/- IsPerformance and Encode of the reference. -/
import Derived.Test.YthblehinmbgbdaaG29
import Derived.Test.YthblehinmbgbdaaG28
import Derived.Test.YthblehinmbgbdaaG17
import Derived.Deep.RegionWith
import Derived.Deep.RegionHeld3
namespace Go.Proofs.Ythblehinmbgbdaa
open Go.RowKit
set_option maxRecDepth 100000

theorem ascP {L : List Ev} {j : Nat} (hp : ∀ k, k < j → okE (L.getD k default) = true ∧ (0 < k → tmAt L (k - 1) ≤ tmAt L k)) (hj : j = L.length) (hl : L.length ≤ 1000) : validP L = true := by
  subst hj
  rw [validP_iff]
  refine ⟨hl, ascB_iff.2 (fun k hk => ?_), fun e he => ?_⟩
  · have := (hp (k + 1) hk).2 (by omega)
    rwa [Nat.add_sub_cancel] at this
  · obtain ⟨k, hk⟩ := List.getElem?_of_mem he
    have := (hp k (List.getElem?_eq_some_iff.1 hk).1).1
    rwa [List.getD_eq_getElem?_getD, hk] at this
theorem notP {L : List Ev} {j : Nat} {e : Ev} (he : L[j]? = some e) (h : okE e = false) : validP L = false := by
  rw [← Bool.not_eq_true, validP_iff]
  rintro ⟨-, -, h2⟩
  rw [h2 e (List.mem_of_getElem? he)] at h
  cases h
theorem notA {L : List Ev} {j : Nat} {e f : Ev} (he : L[j + 1]? = some e) (hf : L[j]? = some f) (h : e.tm < f.tm) : validP L = false := by
  rw [← Bool.not_eq_true, validP_iff]
  rintro ⟨-, h2, -⟩
  have := ascB_iff.1 h2 j (List.getElem?_eq_some_iff.1 he).1
  simp only [tmAt, List.getD_eq_getElem?_getD, he, hf, Option.getD_some] at this
  omega
set_option maxHeartbeats 4000000 in
theorem isPerf_any (a : Option Addr) (c : Nat) (L : List Ev) (w : World) (hS : EvS w a L) (hL : L.length ≤ 1000) :
    Calls Try.prog 44 #[.slice a L.length c] w fun r w' => r = .returned (.tuple #[.bool (validP L), .bool true]) ∧ Below w.heap.size w w' := by
  obtain ⟨n, hn⟩ : ∃ n, L.length = n := ⟨_, rfl⟩
  have HN := Lib.hid hn
  have HS := Lib.hid hS
  rw [hn] at hL ⊢
  obtain ⟨R, hR⟩ : ∃ R, validP L = R := ⟨_, rfl⟩
  rw [hR]
  have HR := Lib.hid hR
  have hd0 : decide ((1000 : Int) < (n : Int)) = false := by rw [decide_eq_false_iff_not]; omega
  clear hn hS hR
  go_enter Try.func44, Try.ntmps44
  go_wp2_with fail
  go_loopw [4] (fun i wx => ∃ j : Nat, j ≤ n ∧ i = .int .i64 j ∧ (∀ k, k < j → okE (L.getD k default) = true ∧ (0 < k → tmAt L (k - 1) ≤ tmAt L k)) ∧ Below w.heap.size w wx) (fun i _ => n - (intOf i).toNat)
  case atStart => exact ⟨0, by omega, rfl, fun k hk => by omega, Below.refl _ _⟩
  case round =>
    obtain ⟨j, hj, rfl, hp, hb⟩ := hrel
    have HP := Lib.hid hp
    have HB := Lib.hid hb
    clear hp hb
    by_cases hlt : j < n
    · obtain ⟨e, he⟩ : ∃ e, L[j]? = some e := ⟨_, List.getElem?_eq_getElem (by rw [HN.out]; exact hlt)⟩
      obtain ⟨bl, o, rfl, hbl, x0, x1, x2, x3⟩ := (HS.out.below HB.out) j e he
      have HE := Lib.hid he
      have n0 : (0 : Int) ≤ (j : Int) := by omega
      have n1 : (j : Int) < (n : Int) := by omega
      have hd : decide ((j : Int) < (n : Int)) = true := by rw [decide_eq_true_iff]; omega
      have hd2 : decide (j < n) = true := by rw [decide_eq_true_iff]; omega
      clear he
      go_upto_region 7 with fail
      obtain ⟨kb, hkb⟩ : ∃ kb, wr.heap.size = kb := ⟨_, rfl⟩
      have hbk := heap_last' wr (.cells #[.int .i64 e.tm, .int .i64 e.kd, .int .i64 e.a, .int .i64 e.b] 52) hkb
      have hba := HB.out.alloc HB.out.size (.cells #[.int .i64 e.tm, .int .i64 e.kd, .int .i64 e.a, .int .i64 e.b] 52)
      obtain ⟨wa, hwa⟩ : ∃ wa, wr.alloc (.cells #[.int .i64 e.tm, .int .i64 e.kd, .int .i64 e.a, .int .i64 e.b] 52) = wa := ⟨_, rfl⟩
      rw [hwa] at hbk hba ⊢
      rw [hkb]
      have HBA := Lib.hid hba
      have HBK := Lib.hid hbk
      have HC0 := Lib.hid (Below_drewN (Below.refl wa.heap.size wa) 1)
      obtain ⟨b1, h1⟩ : ∃ b, decide (0 ≤ e.tm ∧ e.tm ≤ 20000) = b := ⟨_, rfl⟩
      obtain ⟨b2, h2⟩ : ∃ b, decide (1 ≤ e.kd ∧ e.kd ≤ 5) = b := ⟨_, rfl⟩
      obtain ⟨b3, h3⟩ : ∃ b, decide (0 ≤ e.a ∧ e.a ≤ 65535) = b := ⟨_, rfl⟩
      obtain ⟨b4, h4⟩ : ∃ b, decide (0 ≤ e.b ∧ e.b ≤ 65535) = b := ⟨_, rfl⟩
      have HOK := Lib.hid (okE_split e b1 b2 b3 b4 h1 h2 h3 h4)
      have HW1 : Hid (∀ wx, Below wa.heap.size wa wx → Calls Try.prog 32 #[.int .i64 e.tm, .int .i64 0, .int .i64 20000] wx fun r w' => r = .returned (.bool b1) ∧ Below wa.heap.size wa w') := Lib.hid (fun wx hx => (within2_any _ _ _ wx).mono fun r w' ⟨k1, k2⟩ => ⟨by rw [k1, h1], k2 ▸ hx⟩)
      have HW2 : Hid (∀ wx, Below wa.heap.size wa wx → Calls Try.prog 32 #[.int .i64 e.kd, .int .i64 1, .int .i64 5] wx fun r w' => r = .returned (.bool b2) ∧ Below wa.heap.size wa w') := Lib.hid (fun wx hx => (within2_any _ _ _ wx).mono fun r w' ⟨k1, k2⟩ => ⟨by rw [k1, h2], k2 ▸ hx⟩)
      have HW3 : Hid (∀ wx, Below wa.heap.size wa wx → Calls Try.prog 32 #[.int .i64 e.a, .int .i64 0, .int .i64 65535] wx fun r w' => r = .returned (.bool b3) ∧ Below wa.heap.size wa w') := Lib.hid (fun wx hx => (within2_any _ _ _ wx).mono fun r w' ⟨k1, k2⟩ => ⟨by rw [k1, h3], k2 ▸ hx⟩)
      have HW4 : Hid (∀ wx, Below wa.heap.size wa wx → Calls Try.prog 32 #[.int .i64 e.b, .int .i64 0, .int .i64 65535] wx fun r w' => r = .returned (.bool b4) ∧ Below wa.heap.size wa w') := Lib.hid (fun wx hx => (within2_any _ _ _ wx).mono fun r w' ⟨k1, k2⟩ => ⟨by rw [k1, h4], k2 ▸ hx⟩)
      have HCC : Hid (∀ wx, Below wa.heap.size wa wx → evAt wx kb 0 e ∧ True) := Lib.hid (fun wx hx => by
        have hk := (hx.block _ (Array.getElem?_eq_some_iff.1 HBK.out).1).trans HBK.out
        exact ⟨⟨by rw [Lib.cell_of_heap hk]; rfl, by rw [Lib.cell_of_heap hk]; rfl, by rw [Lib.cell_of_heap hk]; rfl, by rw [Lib.cell_of_heap hk]; rfl⟩, trivial⟩)
      clear h1 h2 h3 h4 hkb hbk hba hwa x0 x1 x2 x3 hbl
      cases b1 with
      | false =>
        have HBAD : Hid (R = false) := Lib.hid (by rw [← HR.out]; exact notP HE.out HOK.out)
        refine region_quietC (C := Below wa.heap.size wa) (by kernel_rfl) (by kernel_rfl) HC0.out ?_
        repeat (
          first
            | go_big_quiet_skip
            | (go_big_quiet_want
               go_big_quiet_op
               first
                 | go_big_quiet_on
                 | (apply Exists.intro
                    refine ⟨fun wx hx => ?_, ?_⟩
                    · first
                      | (go_at_call_of 32 (Value.int IntKind.i64 e.tm); exact HW1.out _ hx)
                      | (go_at_call_of 32 (Value.int IntKind.i64 e.kd); exact HW2.out _ hx)
                      | (go_at_call_of 32 (Value.int IntKind.i64 e.a); exact HW3.out _ hx)
                      | (go_at_call_of 32 (Value.int IntKind.i64 e.b); exact HW4.out _ hx)
                      | (obtain ⟨⟨c0, c1, c2, c3⟩, d0⟩ := HCC.out _ hx; go_simp; exact rfl)
                    go_big_quiet_on)))
        refine wpQuiet_nil ?_
        intro w1 hw1
        have HB1 := Lib.hid (HBA.out.trans (hw1.mono HBA.out.size))
        clear hw1
        go_wp2_with fail
        go_ret2
        exact ⟨by rw [HBAD.out]; rfl, HB1.out⟩
      | true =>
      cases b2 with
      | false =>
        have HBAD : Hid (R = false) := Lib.hid (by rw [← HR.out]; exact notP HE.out HOK.out)
        refine region_quietC (C := Below wa.heap.size wa) (by kernel_rfl) (by kernel_rfl) HC0.out ?_
        repeat (
          first
            | go_big_quiet_skip
            | (go_big_quiet_want
               go_big_quiet_op
               first
                 | go_big_quiet_on
                 | (apply Exists.intro
                    refine ⟨fun wx hx => ?_, ?_⟩
                    · first
                      | (go_at_call_of 32 (Value.int IntKind.i64 e.tm); exact HW1.out _ hx)
                      | (go_at_call_of 32 (Value.int IntKind.i64 e.kd); exact HW2.out _ hx)
                      | (go_at_call_of 32 (Value.int IntKind.i64 e.a); exact HW3.out _ hx)
                      | (go_at_call_of 32 (Value.int IntKind.i64 e.b); exact HW4.out _ hx)
                      | (obtain ⟨⟨c0, c1, c2, c3⟩, d0⟩ := HCC.out _ hx; go_simp; exact rfl)
                    go_big_quiet_on)))
        refine wpQuiet_nil ?_
        intro w1 hw1
        have HB1 := Lib.hid (HBA.out.trans (hw1.mono HBA.out.size))
        clear hw1
        go_wp2_with fail
        go_ret2
        exact ⟨by rw [HBAD.out]; rfl, HB1.out⟩
      | true =>
      cases b3 with
      | false =>
        have HBAD : Hid (R = false) := Lib.hid (by rw [← HR.out]; exact notP HE.out HOK.out)
        refine region_quietC (C := Below wa.heap.size wa) (by kernel_rfl) (by kernel_rfl) HC0.out ?_
        repeat (
          first
            | go_big_quiet_skip
            | (go_big_quiet_want
               go_big_quiet_op
               first
                 | go_big_quiet_on
                 | (apply Exists.intro
                    refine ⟨fun wx hx => ?_, ?_⟩
                    · first
                      | (go_at_call_of 32 (Value.int IntKind.i64 e.tm); exact HW1.out _ hx)
                      | (go_at_call_of 32 (Value.int IntKind.i64 e.kd); exact HW2.out _ hx)
                      | (go_at_call_of 32 (Value.int IntKind.i64 e.a); exact HW3.out _ hx)
                      | (go_at_call_of 32 (Value.int IntKind.i64 e.b); exact HW4.out _ hx)
                      | (obtain ⟨⟨c0, c1, c2, c3⟩, d0⟩ := HCC.out _ hx; go_simp; exact rfl)
                    go_big_quiet_on)))
        refine wpQuiet_nil ?_
        intro w1 hw1
        have HB1 := Lib.hid (HBA.out.trans (hw1.mono HBA.out.size))
        clear hw1
        go_wp2_with fail
        go_ret2
        exact ⟨by rw [HBAD.out]; rfl, HB1.out⟩
      | true =>
      cases b4 with
      | false =>
        have HBAD : Hid (R = false) := Lib.hid (by rw [← HR.out]; exact notP HE.out HOK.out)
        refine region_quietC (C := Below wa.heap.size wa) (by kernel_rfl) (by kernel_rfl) HC0.out ?_
        repeat (
          first
            | go_big_quiet_skip
            | (go_big_quiet_want
               go_big_quiet_op
               first
                 | go_big_quiet_on
                 | (apply Exists.intro
                    refine ⟨fun wx hx => ?_, ?_⟩
                    · first
                      | (go_at_call_of 32 (Value.int IntKind.i64 e.tm); exact HW1.out _ hx)
                      | (go_at_call_of 32 (Value.int IntKind.i64 e.kd); exact HW2.out _ hx)
                      | (go_at_call_of 32 (Value.int IntKind.i64 e.a); exact HW3.out _ hx)
                      | (go_at_call_of 32 (Value.int IntKind.i64 e.b); exact HW4.out _ hx)
                      | (obtain ⟨⟨c0, c1, c2, c3⟩, d0⟩ := HCC.out _ hx; go_simp; exact rfl)
                    go_big_quiet_on)))
        refine wpQuiet_nil ?_
        intro w1 hw1
        have HB1 := Lib.hid (HBA.out.trans (hw1.mono HBA.out.size))
        clear hw1
        go_wp2_with fail
        go_ret2
        exact ⟨by rw [HBAD.out]; rfl, HB1.out⟩
      | true =>
      have HY : Hid (okE e = true) := Lib.hid (by rw [HOK.out]; rfl)
      rcases j with _ | j
      · have HPN : Hid (∀ k, k < 0 + 1 → okE (L.getD k default) = true ∧ (0 < k → tmAt L (k - 1) ≤ tmAt L k)) := Lib.hid (fun k hk => by
          obtain rfl : k = 0 := by omega
          exact ⟨by rw [getD_ev HE.out]; exact HY.out, fun h => absurd h (by omega)⟩)
        refine region_quietC (C := Below wa.heap.size wa) (by kernel_rfl) (by kernel_rfl) HC0.out ?_
        repeat (
          first
            | go_big_quiet_skip
            | (go_big_quiet_want
               go_big_quiet_op
               first
                 | go_big_quiet_on
                 | (apply Exists.intro
                    refine ⟨fun wx hx => ?_, ?_⟩
                    · first
                      | (go_at_call_of 32 (Value.int IntKind.i64 e.tm); exact HW1.out _ hx)
                      | (go_at_call_of 32 (Value.int IntKind.i64 e.kd); exact HW2.out _ hx)
                      | (go_at_call_of 32 (Value.int IntKind.i64 e.a); exact HW3.out _ hx)
                      | (go_at_call_of 32 (Value.int IntKind.i64 e.b); exact HW4.out _ hx)
                      | (obtain ⟨⟨c0, c1, c2, c3⟩, d0⟩ := HCC.out _ hx; go_simp; exact rfl)
                    go_big_quiet_on)))
        refine wpQuiet_nil ?_
        intro w1 hw1
        have HB1 := Lib.hid (HBA.out.trans (hw1.mono HBA.out.size))
        clear hw1
        go_wp2_with fail
        exact ⟨⟨0 + 1, by omega, by push_cast; rfl, HPN.out, HB1.out⟩, by simp [intOf]; omega⟩
      · obtain ⟨f, hf⟩ : ∃ f, L[j]? = some f := ⟨_, List.getElem?_eq_getElem (by rw [HN.out]; omega)⟩
        obtain ⟨b', o', hba, hbl, y0, -⟩ := (HS.out.below HBA.out) j f hf
        injection hba with hba
        injection hba with g1 g2 _
        subst g1 g2
        have HCC : Hid (∀ wx, Below wa.heap.size wa wx → evAt wx kb 0 e ∧ wx.cell? ⟨bl, o + j * 4, none⟩ = some (.int .i64 f.tm)) := Lib.hid (fun wx hx => ⟨(HCC.out wx hx).1, ((bcell hx).1 _ _ hbl).trans y0⟩)
        have HF := Lib.hid hf
        have p0 : (0 : Int) ≤ (j : Int) + 1 := by omega
        have p1 : (j : Int) + 1 < (n : Int) := by omega
        have p2 : (0 : Int) ≤ (j : Int) := by omega
        have p3 : (j : Int) < (n : Int) := by omega
        have p4 : decide ((0 : Int) < (j : Int) + 1) = true := by rw [decide_eq_true_iff]; omega
        clear hf y0 hbl
        by_cases hlf : e.tm < f.tm
        · have q1 : decide (e.tm < f.tm) = true := decide_eq_true hlf
          have HBAD : Hid (R = false) := Lib.hid (by rw [← HR.out]; exact notA HE.out HF.out hlf)
          refine region_quietC (C := Below wa.heap.size wa) (by kernel_rfl) (by kernel_rfl) HC0.out ?_
          repeat (
            first
              | go_big_quiet_skip
              | (go_big_quiet_want
                 go_big_quiet_op
                 first
                   | go_big_quiet_on
                   | (apply Exists.intro
                      refine ⟨fun wx hx => ?_, ?_⟩
                      · first
                        | (go_at_call_of 32 (Value.int IntKind.i64 e.tm); exact HW1.out _ hx)
                        | (go_at_call_of 32 (Value.int IntKind.i64 e.kd); exact HW2.out _ hx)
                        | (go_at_call_of 32 (Value.int IntKind.i64 e.a); exact HW3.out _ hx)
                        | (go_at_call_of 32 (Value.int IntKind.i64 e.b); exact HW4.out _ hx)
                        | (obtain ⟨⟨c0, c1, c2, c3⟩, d0⟩ := HCC.out _ hx; go_simp; exact rfl)
                      go_big_quiet_on)))
          refine wpQuiet_nil ?_
          intro w1 hw1
          have HB1 := Lib.hid (HBA.out.trans (hw1.mono HBA.out.size))
          clear hw1
          go_wp2_with fail
          go_ret2
          exact ⟨by rw [HBAD.out]; rfl, HB1.out⟩
        · have q1 : decide (e.tm < f.tm) = false := decide_eq_false hlf
          have HPN : Hid (∀ k, k < j + 1 + 1 → okE (L.getD k default) = true ∧ (0 < k → tmAt L (k - 1) ≤ tmAt L k)) := Lib.hid (fun k hk => by
            by_cases hkj : k = j + 1
            · subst hkj
              refine ⟨by rw [getD_ev HE.out]; exact HY.out, fun _ => ?_⟩
              rw [Nat.add_sub_cancel, tmAt, tmAt, getD_ev HE.out, getD_ev HF.out]
              omega
            · exact HP.out k (by omega))
          refine region_quietC (C := Below wa.heap.size wa) (by kernel_rfl) (by kernel_rfl) HC0.out ?_
          repeat (
            first
              | go_big_quiet_skip
              | (go_big_quiet_want
                 go_big_quiet_op
                 first
                   | go_big_quiet_on
                   | (apply Exists.intro
                      refine ⟨fun wx hx => ?_, ?_⟩
                      · first
                        | (go_at_call_of 32 (Value.int IntKind.i64 e.tm); exact HW1.out _ hx)
                        | (go_at_call_of 32 (Value.int IntKind.i64 e.kd); exact HW2.out _ hx)
                        | (go_at_call_of 32 (Value.int IntKind.i64 e.a); exact HW3.out _ hx)
                        | (go_at_call_of 32 (Value.int IntKind.i64 e.b); exact HW4.out _ hx)
                        | (obtain ⟨⟨c0, c1, c2, c3⟩, d0⟩ := HCC.out _ hx; go_simp; exact rfl)
                      go_big_quiet_on)))
          refine wpQuiet_nil ?_
          intro w1 hw1
          have HB1 := Lib.hid (HBA.out.trans (hw1.mono HBA.out.size))
          clear hw1
          go_wp2_with fail
          exact ⟨⟨j + 1 + 1, by omega, by push_cast; rfl, HPN.out, HB1.out⟩, by simp [intOf]; omega⟩
    · obtain rfl : j = n := by omega
      have hd : decide ((j : Int) < (j : Int)) = false := by simp
      have hd2 : decide (j < j) = false := by simp
      have HFIN : Hid (R = true) := Lib.hid (by rw [← HR.out]; exact ascP HP.out HN.out.symm (by rw [HN.out]; exact hL))
      go_wp2_with fail
      go_ret2
      exact ⟨by rw [HFIN.out]; rfl, HB.out⟩

theorem str_cat (x y : List UInt8) : (⟨x.toArray⟩ : ByteArray) ++ ⟨y.toArray⟩ = ⟨(x ++ y).toArray⟩ := by
  apply ByteArray.ext
  simp [ByteArray.data_append]
theorem str_len (l : List UInt8) : (⟨l.toArray⟩ : ByteArray).size = l.length := by simp [ByteArray.size]
set_option maxHeartbeats 4000000 in
theorem refEncode_any (a : Option Addr) (c : Nat) (L : List Ev) (w : World) (hS : EvS w a L) (hL : L.length ≤ 1000) :
    Calls Try.prog 26 #[.slice a L.length c] w fun e w' => e = .returned (encV (encodeR L)) ∧ Below w.heap.size w w' := by
  have HVP := Lib.hid (isPerf_any a c L w hS hL)
  cases hv : validP L with
  | false =>
    rw [hv] at HVP
    have HR : Hid (encV (encodeR L) = .tuple #[.string ⟨#[]⟩, .int .i64 130]) := Lib.hid (by rw [encodeR, hv]; rfl)
    rw [HR.out]
    clear hv HR
    generalize L.length = n at *
    clear hS hL
    go_enter Try.func26, Try.ntmps26
    go_wp2_with fail
    refine HVP.out.mono ?_
    rintro e w1 ⟨rfl, hb⟩
    have HB := Lib.hid hb
    clear hb
    go_wp2_with fail
    go_ret2
    exact ⟨rfl, HB.out⟩
  | true =>
    rw [hv] at HVP
    have HR : Hid (encV (encodeR L) = .tuple #[.string ⟨(encE L).toArray⟩, .int .i64 0]) := Lib.hid (by rw [encodeR, hv]; rfl)
    rw [HR.out]
    obtain ⟨n, hn⟩ : ∃ n, L.length = n := ⟨_, rfl⟩
    have HN := Lib.hid hn
    have HS := Lib.hid hS
    have HV := Lib.hid hv
    rw [hn] at hL HVP ⊢
    have HEE : Hid (enc n ++ encFrom 0 (L.take n) = encE L) := Lib.hid (by rw [List.take_of_length_le (by omega), encE, hn])
    clear hn hS hv HR
    go_enter Try.func26, Try.ntmps26
    go_wp2_with fail
    refine HVP.out.mono ?_
    rintro e w1 ⟨rfl, hb⟩
    have HB := Lib.hid hb
    clear hb HVP
    go_wp2_with fail
    refine (refPut_any n w1 (by omega) (by omega)).mono ?_
    rintro e w2 ⟨rfl, hb⟩
    have HK := Lib.hid (HB.out.trans (hb.mono HB.out.size))
    clear hb
    go_wp2_with fail
    go_loopw [6, 8, 9] (fun s t i wx => ∃ j : Nat, j ≤ n ∧ i = .int .i64 j ∧ t = .int .i64 (lastT 0 (L.take j)) ∧ s = .string ⟨(enc n ++ encFrom 0 (L.take j)).toArray⟩ ∧ Below w.heap.size w wx) (fun _ _ i _ => n - (intOf i).toNat)
    case atStart => exact ⟨0, by omega, rfl, rfl, by simp [encFrom], HK.out⟩
    case round =>
      clear HK
      obtain ⟨j, hj, rfl, rfl, rfl, hk⟩ := hrel
      have HK := Lib.hid hk
      clear hk
      by_cases hlt : j < n
      · obtain ⟨e, he⟩ : ∃ e, L[j]? = some e := ⟨_, List.getElem?_eq_getElem (by rw [HN.out]; exact hlt)⟩
        obtain ⟨bl, o, rfl, hbl, x0, x1, x2, x3⟩ := (HS.out.below HK.out) j e he
        have HOK := Lib.hid (okE_iff.1 ((validP_iff.1 HV.out).2.2 e (List.mem_of_getElem? he)))
        have HGAP := Lib.hid (gap_ok HV.out he)
        have HTK := Lib.hid (pairs_take he)
        have HLE : Hid ((enc n ++ encFrom 0 (L.take j)).length ≤ 100000) := Lib.hid (by
          have h1 := enc_len n
          have h2 := encFrom_length (L.take j) 0
          rw [List.length_take] at h2
          rw [List.length_append]
          omega)
        obtain ⟨lt, hlt2⟩ : ∃ lt, lastT 0 (L.take j) = lt := ⟨_, rfl⟩
        have HLT := Lib.hid hlt2
        obtain ⟨d, hd0⟩ : ∃ d, e.tm - lt = d := ⟨_, rfl⟩
        have HD : Hid (e.tm - lt = d ∧ I62 d) := Lib.hid ⟨hd0, by have := HGAP.out; rw [hlt2] at this; unfold I62; omega⟩
        have hwr : IntKind.i64.wrap (e.tm - lt) = d := by
          have := HD.out.2
          unfold I62 at this
          rw [hd0, IntKind.wrap_i64]; omega
        obtain ⟨T, hT⟩ : ∃ T, enc n ++ encFrom 0 (L.take j) = T := ⟨_, rfl⟩
        have HT := Lib.hid hT
        rw [hT] at HLE
        rw [hlt2, hT]
        have n0 : (0 : Int) ≤ (j : Int) := by omega
        have n1 : (j : Int) < (n : Int) := by omega
        have hd : decide ((j : Int) < (n : Int)) = true := by rw [decide_eq_true_iff]; omega
        have hd2 : decide (j < n) = true := by rw [decide_eq_true_iff]; omega
        have HX0 := Lib.hid (And.intro hbl x0)
        have hne := World.new_ne wr _ x0
        clear he hlt2 hd0 hT
        go_upto_region 9 with fail
        go_region_held3 (fun w' => w'.cell? ⟨bl, o + j * 4, none⟩ = some (.int .i64 e.tm) ∧ w'.cell? ⟨bl, o + j * 4 + 1, none⟩ = some (.int .i64 e.kd) ∧ w'.cell? ⟨bl, o + j * 4 + 2, none⟩ = some (.int .i64 e.a) ∧ w'.cell? ⟨bl, o + j * 4 + 3, none⟩ = some (.int .i64 e.b)) (go_keep) ((fail))
        all_goals
          have hblk := heap_last wr (.cells #[.int .i64 d, .int .i64 e.kd, .int .i64 e.a, .int .i64 e.b] 3)
          have hbw := ((Below.refl wr.heap.size wr).alloc (Nat.le_refl _) (.cells #[.int .i64 d, .int .i64 e.kd, .int .i64 e.a, .int .i64 e.b] 3)).drew
          obtain ⟨wa, hwa⟩ : ∃ wa, (wr.alloc (.cells #[.int .i64 d, .int .i64 e.kd, .int .i64 e.a, .int .i64 e.b] 3)).drew = wa := ⟨_, rfl⟩
          have hbk : wa.heap[wr.heap.size]? = some (.cells #[.int .i64 d, .int .i64 e.kd, .int .i64 e.a, .int .i64 e.b] 3 (0, 0)) := by rw [← hwa]; exact hblk
          rw [hwa] at hbw ⊢
          have HBK := Lib.hid hbk
          have HBA := Lib.hid (HK.out.trans (hbw.mono HK.out.size))
          have HX1 := Lib.hid ((bcell hbw).1 _ (o + j * 4) HX0.out.1 |>.trans HX0.out.2)
          obtain ⟨g, hg⟩ : ∃ g, wr.heap.size = g := ⟨_, rfl⟩
          rw [hg] at HBK ⊢
          clear hwa hbk hblk hbw hg x0 x1 x2 x3 hbl hne
          obtain ⟨wo, rfl⟩ : ∃ wo, wo = wr := ⟨_, rfl⟩
          go_wp2_with fail
          go_loopw [6, 57] (fun s i wx => ∃ k : Nat, k ≤ 4 ∧ i = .int .i64 k ∧ s = .string ⟨(T ++ encs ([d, e.kd, e.a, e.b].take k)).toArray⟩ ∧ Below wa.heap.size wa wx) (fun _ i _ => 4 - (intOf i).toNat)
          case atStart => exact ⟨0, by omega, rfl, by simp [encs], Below.refl _ _⟩
          case round =>
            obtain ⟨k, hk, rfl, rfl, hbk⟩ := hrel
            have HBQ := Lib.hid hbk
            clear hbk
            have HIN : Hid (Below w.heap.size w wr) := Lib.hid (HBA.out.trans (HBQ.out.mono HBA.out.size))
            by_cases hlk : k < 4
            · obtain ⟨x, hx⟩ : ∃ x, [d, e.kd, e.a, e.b][k]? = some x := ⟨_, List.getElem?_eq_getElem (by simpa using hlk)⟩
              have HX : Hid (I62 x) := Lib.hid (by
                have h1 := HOK.out
                have hx := List.mem_of_getElem? hx
                simp only [List.mem_cons, List.not_mem_nil, or_false] at hx
                rcases hx with rfl | rfl | rfl | rfl
                · exact HD.out.2
                · exact ⟨by omega, by omega⟩
                · exact ⟨by omega, by omega⟩
                · exact ⟨by omega, by omega⟩)
              have HEN := Lib.hid (encs_next hx)
              have hcell : wr.cell? ⟨g, k, none⟩ = some (.int .i64 x) := by
                rw [Lib.cell_of_heap ((HBQ.out.block _ (Array.getElem?_eq_some_iff.1 HBK.out).1).trans HBK.out)]
                exact get4 k x hx
              obtain ⟨U, hU⟩ : ∃ U, T ++ encs ([d, e.kd, e.a, e.b].take k) = U := ⟨_, rfl⟩
              have HU := Lib.hid hU
              have hul : U.length ≤ 100100 := by
                have h1 := encs_len ([d, e.kd, e.a, e.b].take k)
                rw [List.length_take] at h1
                rw [← hU, List.length_append]
                have := HLE.out
                omega
              rw [hU]
              have hxl := enc_len x
              have hln : (⟨U.toArray⟩ : ByteArray).size + (⟨(enc x).toArray⟩ : ByteArray).size ≤ 9223372036854775807 := by rw [str_len, str_len]; omega
              have HAP := Lib.hid (str_cat U (enc x))
              have k0 : (0 : Int) ≤ (k : Int) := by omega
              have k1 : (k : Int) < 4 := by omega
              have hdk : decide ((k : Int) < 4) = true := by rw [decide_eq_true_iff]; omega
              have hdk2 : decide (k < 4) = true := by rw [decide_eq_true_iff]; omega
              clear hx hU
              go_wp2_with fail
              refine (refPut_any x wr HX.out.1 HX.out.2).mono ?_
              rintro z w5 ⟨rfl, hb5⟩
              have HB5 := Lib.hid (HBQ.out.trans (hb5.mono HBQ.out.size))
              clear hb5
              go_wp2_with fail
              exact ⟨⟨k + 1, by omega, by push_cast; rfl, by rw [HEN.out, ← List.append_assoc, HU.out, HAP.out], HB5.out⟩, by simp [intOf]; omega⟩
            · obtain rfl : k = 4 := by omega
              have hct : wr.cell? ⟨bl, o + j * 4, none⟩ = some (.int .i64 e.tm) := ((bcell HBQ.out).1 _ _ (World.block_lt_of_cell? _ _ HX1.out)).trans HX1.out
              have HFIN : Hid (T ++ encs ([d, e.kd, e.a, e.b].take 4) = enc n ++ encFrom 0 (L.take (j + 1))) := Lib.hid (by
                rw [HTK.out, encFrom_snoc, HLT.out, HD.out.1, ← HT.out]
                simp only [List.take_succ_cons, List.take_zero, encs_four, List.append_assoc])
              have HLT2 : Hid (lastT 0 (L.take (j + 1)) = e.tm) := Lib.hid (by rw [HTK.out, lastT_snoc])
              rw [HFIN.out]
              go_wp2_with fail
              exact ⟨⟨j + 1, by omega, by push_cast; rfl, by rw [HLT2.out], rfl, HIN.out⟩, by simp [intOf]; omega⟩
      · obtain rfl : j = n := by omega
        have hd : decide ((j : Int) < (j : Int)) = false := by simp
        have hd2 : decide (j < j) = false := by simp
        rw [HEE.out]
        go_wp2_with fail
        go_ret2
        exact ⟨rfl, HK.out⟩
end Go.Proofs.Ythblehinmbgbdaa
