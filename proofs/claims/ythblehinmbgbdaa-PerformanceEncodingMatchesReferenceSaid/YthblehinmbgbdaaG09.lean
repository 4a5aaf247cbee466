/- Same of the reference. chosen with has, and Counted: the events that count. -/
import Derived.Test.YthblehinmbgbdaaG08
namespace Go.Proofs.Ythblehinmbgbdaa
open Go.RowKit
set_option maxRecDepth 100000

theorem ev_eq (s t : Ev) : decide (s = t) = (s.tm == t.tm && (s.kd == t.kd && (s.a == t.a && s.b == t.b))) := by
  rw [Bool.eq_iff_iff]
  simp only [decide_eq_true_eq, Bool.and_eq_true, beq_iff_eq]
  constructor
  · rintro rfl; exact ⟨rfl, rfl, rfl, rfl⟩
  · rintro ⟨h1, h2, h3, h4⟩; cases s; cases t; simp_all
/-- What == says of two events. -/
theorem eqEvent (s t : Ev) (w : World) : (Op.equalIn 10000 52 (.agg #[.int .i64 s.tm, .int .i64 s.kd, .int .i64 s.a, .int .i64 s.b]) (.agg #[.int .i64 t.tm, .int .i64 t.kd, .int .i64 t.a, .int .i64 t.b])).run Try.prog w = .ok (decide (s = t)) w := by
  have hS : Try.prog.underlying 52 = some (.struct (Try.prog.fieldsOf 52)) := by kernel_rfl
  have hp : Try.prog.stoodInHeld 52 = false := by kernel_rfl
  have u3 := Try.underlying3
  have a3 := Try.isAgg3
  have z3 := Try.sizeOf3
  rw [show (10000 : Nat) = 9999 + 1 from rfl, run_equalIn_agg w 9999 52 _ _ hS hp, ev_eq]
  simp only [Program.fieldsOf, Try.underlying52]
  go_simp
  by_cases h1 : s.tm = t.tm <;> by_cases h2 : s.kd = t.kd <;> by_cases h3 : s.a = t.a <;> by_cases h4 : s.b = t.b <;> simp [h1, h2, h3, h4]
theorem guardEvent : Try.prog.eqGuardType Try.prog.depth 52 = false := by kernel_rfl
set_option maxHeartbeats 400000 in
theorem same_any (a : Option Addr) (c : Nat) (L : List Ev) (a' : Option Addr) (c' : Nat) (M : List Ev) (w : World) (hS : EvS w a L) (hM : EvS w a' M) (hL : L.length ≤ 1000) (_hL2 : M.length ≤ 1000) :
    Calls Try.prog 20 #[.slice a L.length c, .slice a' M.length c'] w fun e w' => e = .returned (.bool (decide (L = M))) ∧ Below w.heap.size w w' := by
  by_cases hl : L.length = M.length
  · obtain ⟨m, hm⟩ : ∃ m, L.length = m := ⟨_, rfl⟩
    rw [← hl, hm]
    rw [hm] at hl hL
    generalize hR : decide (L = M) = R
    have HR := Lib.hid hR
    have HM1 := Lib.hid hm
    have HM2 := Lib.hid hl
    have HS := Lib.hid hS
    have HT := Lib.hid hM
    clear hR hm hl hS hM _hL2
    go_enter Try.func20, Try.ntmps20
    go_wp2_with fail
    go_loopw [5] (fun i wx => ∃ j : Nat, j ≤ m ∧ i = .int .i64 j ∧ L.take j = M.take j ∧ Below w.heap.size w wx) (fun i _ => m - (intOf i).toNat)
    case atStart => exact ⟨0, by omega, rfl, by simp, Below.refl _ _⟩
    case round =>
      obtain ⟨j, hj, rfl, hp, hb⟩ := hrel
      have HP := Lib.hid hp
      clear hp
      by_cases hlt : j < m
      · obtain ⟨s, hs⟩ : ∃ s, L[j]? = some s := ⟨_, List.getElem?_eq_getElem (by rw [HM1.out]; exact hlt)⟩
        obtain ⟨t, ht⟩ : ∃ t, M[j]? = some t := ⟨_, List.getElem?_eq_getElem (by rw [← HM2.out]; exact hlt)⟩
        obtain ⟨b, o, rfl, hbl, x0, x1, x2, x3⟩ := (HS.out.below hb) j s hs
        obtain ⟨b', o', rfl, hbl', y0, y1, y2, y3⟩ := (HT.out.below hb) j t ht
        have n0 : (0 : Int) ≤ (j : Int) := by omega
        have n1 : (j : Int) < (m : Int) := by omega
        have hd : decide ((j : Int) < (m : Int)) = true := by rw [decide_eq_true_iff]; omega
        have hd2 : decide (j < m) = true := by rw [decide_eq_true_iff]; omega
        have HBB := Lib.hid hb
        have HSS := Lib.hid hs
        have HTT := Lib.hid ht
        clear hs ht hb
        have HEQ := fun W => eqEvent s t W
        have HGU := guardEvent
        go_upto_region 6 with fail
        go_quiet (fail)
        have HBB := Lib.hid (Below_drewN HBB.out nq)
        by_cases he : s = t
        · have hd3 : decide (s = t) = true := by rw [decide_eq_true_iff]; exact he
          have HP2 := Lib.hid (show L.take (j + 1) = M.take (j + 1) by rw [take_more HSS.out, take_more HTT.out, HP.out, he])
          rw [hd3]
          clear HEQ he
          go_wp2_with fail
          exact ⟨⟨j + 1, by omega, by push_cast; rfl, HP2.out, HBB.out⟩, by simp [intOf]; omega⟩
        · have hd3 : decide (s = t) = false := by rw [decide_eq_false_iff_not]; exact he
          have hno : R = false := by
            rw [← HR.out, decide_eq_false_iff_not]
            intro h
            rw [h, HTT.out] at HSS
            have := HSS.out
            exact he (Option.some.inj this).symm
          subst hno
          rw [hd3]
          clear HEQ he
          go_wp2_with fail
          go_ret
          exact ⟨rfl, HBB.out⟩
      · obtain rfl : j = m := by omega
        have hyes : R = true := by
          rw [← HR.out, decide_eq_true_iff]
          have h := HP.out
          rwa [List.take_of_length_le (by rw [HM1.out]; exact Nat.le_refl _), List.take_of_length_le (by rw [← HM2.out]; exact Nat.le_refl _)] at h
        subst hyes
        have hd : decide ((j : Int) < (j : Int)) = false := by simp
        have hd2 : decide (j < j) = false := by simp
        go_wp2_with fail
        go_ret
        exact ⟨rfl, hb⟩
  · have hno : decide (L = M) = false := by rw [decide_eq_false_iff_not]; intro h; exact hl (by rw [h])
    rw [hno]
    have h1 : ((L.length : Int) != (M.length : Int)) = true := by rw [bne_iff_ne]; omega
    clear hno
    go_enter Try.func20, Try.ntmps20
    go_wp2_with fail
    go_ret
    exact ⟨rfl, Below.refl _ _⟩
end Go.Proofs.Ythblehinmbgbdaa

namespace Go.Proofs.Ythblehinmbgbdaa
open Go.RowKit
set_option maxRecDepth 100000

theorem filter_take {p : Ev → Bool} {L : List Ev} {j : Nat} {e : Ev} (h : L[j]? = some e) : (L.take (j + 1)).filter p = if p e then (L.take j).filter p ++ [e] else (L.take j).filter p := by
  rw [take_more h, List.filter_append]
  cases hp : p e <;> simp [hp]
theorem take_all {L : List Ev} {j : Nat} (h : ¬ j < L.length) : L.take j = L := List.take_of_length_le (by omega)
set_option maxHeartbeats 1000000 in
theorem chosen_any (k : Int) (hk : 0 ≤ k ∧ k ≤ 62) (a : Option Addr) (c : Nat) (L : List Ev) (w : World) (hS : EvS w a L) (hL : L.length ≤ 1000) :
    Calls Try.prog 33 #[.slice a L.length c, .func (.func 34) #[.int .i64 k] #[]] w fun e w' => ∃ v, e = .returned v ∧ ERow w' w.heap.size v (L.filter (cnt ⟨k, 0, false⟩)) ∧ Below w.heap.size w w' := by
  obtain ⟨n, hn⟩ : ∃ n, L.length = n := ⟨_, rfl⟩
  have HN := Lib.hid hn
  have HS := Lib.hid hS
  rw [hn] at hL ⊢
  have HH := Lib.hid (fun e W => has_any k e W hk)
  clear hk hn hS
  go_enter Try.func33, Try.ntmps33
  go_wp2_with fail
  go_loopw [5, 7, 10] (fun v q i wx => ∃ j : Nat, j ≤ n ∧ i = .int .i64 j ∧ ERow wx w.heap.size v ((L.take j).filter (cnt ⟨k, 0, false⟩)) ∧ Below w.heap.size w wx) (fun _ _ i _ => n - (intOf i).toNat)
  case atStart => exact ⟨0, by omega, rfl, ERow.nil _ _, Below.refl _ _⟩
  case round =>
    obtain ⟨j, hj, rfl, hr, hb⟩ := hrel
    have HR := Lib.hid hr
    have HB := Lib.hid hb
    clear hr
    by_cases hlt : j < n
    · obtain ⟨e, he⟩ : ∃ e, L[j]? = some e := ⟨_, List.getElem?_eq_getElem (by rw [HN.out]; exact hlt)⟩
      obtain ⟨b, o, rfl, hbl, x0, x1, x2, x3⟩ := (HS.out.below hb) j e he
      have HE := Lib.hid (filter_take (p := cnt ⟨k, 0, false⟩) he)
      have HL8 := Lib.hid (show ((L.take j).filter (cnt ⟨k, 0, false⟩)).length ≤ 1000 from Nat.le_trans (List.length_filter_le _ _) (by rw [List.length_take]; omega))
      have HH1 := Lib.hid (fun W => HH.out e W)
      simp only [evV] at HH1
      generalize cnt ⟨k, 0, false⟩ e = y at HH1 HE
      clear hb he
      have n0 : (0 : Int) ≤ (j : Int) := by omega
      have n1 : (j : Int) < (n : Int) := by omega
      have hd : decide ((j : Int) < (n : Int)) = true := by rw [decide_eq_true_iff]; omega
      have hd2 : decide (j < n) = true := by rw [decide_eq_true_iff]; omega
      cases y with
      | true =>
        go_wp2_with fail
        refine (HH1.out _).mono ?_
        rintro r w1 ⟨rfl, hb1⟩
        have HB1 := Lib.hid (show Below wr.heap.size wr w1 from ((Below.refl wr.heap.size wr).alloc (Nat.le_refl _) _).trans (hb1.mono (by rw [size_alloc]; omega)))
        have HRB := Lib.hid (ERow.below HR.out HB1.out)
        have HBW := Lib.hid (HB.out.trans (HB1.out.mono HB.out.size))
        have hcs : ∀ q, w1.cell? ⟨wr.heap.size, q, none⟩ = #[Value.int .i64 e.tm, .int .i64 e.kd, .int .i64 e.a, .int .i64 e.b][q]? := by
          intro q
          rw [(bcell hb1).1 wr.heap.size q (by rw [size_alloc]; omega), Lib.cell_of_heap (heap_last _ _)]
        have c0 := hcs 0
        have c1 := hcs 1
        have c2 := hcs 2
        have c3 := hcs 3
        simp at c0 c1 c2 c3
        clear hcs hb1
        go_wp2_with (at_builtin; refine append_events rfl _ _ rfl (by rfl) (base := w.heap.size) (L := (L.take j).filter (cnt ⟨k, 0, false⟩)) (X := [e]) (M := (L.take (j + 1)).filter (cnt ⟨k, 0, false⟩)) (HRB.out.alloc _) (by rw [size_alloc]; exact Nat.le_succ_of_le HBW.out.size) HL8.out (by rfl) (evs_block (heap_last' _ _ rfl)) (by rfl) (by omega) (by omega) (by simpa using HE.out) ?_; intro g' c' w5 hrow5 hb5 _ _)
        exact ⟨⟨j + 1, by omega, by push_cast; rfl, hrow5, (HBW.out.alloc HBW.out.size _).trans hb5⟩, by simp [intOf]; omega⟩
      | false =>
        go_wp2_with fail
        refine (HH1.out _).mono ?_
        rintro r w1 ⟨rfl, hb1⟩
        have HB1 := Lib.hid (show Below wr.heap.size wr w1 from ((Below.refl wr.heap.size wr).alloc (Nat.le_refl _) _).trans (hb1.mono (by rw [size_alloc]; omega)))
        have HRB := Lib.hid (ERow.below HR.out HB1.out)
        have HBW := Lib.hid (HB.out.trans (HB1.out.mono HB.out.size))
        clear hb1
        go_wp2_with fail
        refine ⟨⟨j + 1, by omega, by push_cast; rfl, by have := HE.out; simp at this; rw [this]; exact HRB.out, HBW.out⟩, by simp [intOf]; omega⟩
    · obtain rfl : j = n := by omega
      have HF := Lib.hid (show ERow wr w.heap.size _ (L.filter (cnt ⟨k, 0, false⟩)) from (take_all (j := j) (L := L) (by rw [HN.out]; omega)) ▸ HR.out)
      have hd : decide ((j : Int) < (j : Int)) = false := by simp
      have hd2 : decide (j < j) = false := by simp
      go_wp2_with fail
      go_ret
      exact ⟨_, rfl, HF.out, hb⟩
theorem cnt_slack (r : Rel) : cnt r = cnt ⟨r.kinds, 0, false⟩ := rfl
set_option maxHeartbeats 1000000 in
theorem counted_any (r : Rel) (a : Option Addr) (c : Nat) (L : List Ev) (w : World) (hS : EvS w a L) (hL : L.length ≤ 1000) :
    Calls Try.prog 21 #[relV r, .slice a L.length c] w fun e w' => ∃ v, e = .returned v ∧ ERow w' w.heap.size v (counted r L) ∧ Below w.heap.size w w' := by
  have HV := Lib.hid (fun W => valid_any r W)
  simp only [relV] at HV ⊢
  cases hv : validR r with
  | false =>
    rw [hv] at HV
    have hc : counted r L = [] := by simp [counted, hv]
    rw [hc]
    clear hv hc
    go_enter Try.func21, Try.ntmps21
    go_wp2_with fail
    refine (HV.out _).mono ?_
    rintro e w1 ⟨rfl, hb⟩
    have HB := Lib.hid (show Below w.heap.size w w1 from ((Below.refl _ _).alloc (Nat.le_refl _) _).trans (hb.mono (by rw [size_alloc]; omega)))
    clear hb
    go_wp2_with fail
    go_ret
    exact ⟨_, rfl, ERow.nil _ _, HB.out⟩
  | true =>
    rw [hv] at HV
    have hc : counted r L = L.filter (cnt ⟨r.kinds, 0, false⟩) := by rw [counted, if_pos hv]; rfl
    rw [hc]
    have hk : 0 ≤ r.kinds ∧ r.kinds ≤ 62 := by rw [validR_iff] at hv; exact ⟨hv.1, hv.2.1⟩
    have HC := Lib.hid (fun W h => chosen_any r.kinds hk a c L W h hL)
    have HS := Lib.hid hS
    clear hv hc hS hk
    go_enter Try.func21, Try.ntmps21
    go_wp2_with fail
    refine (HV.out _).mono ?_
    rintro e w1 ⟨rfl, hb⟩
    have HB := Lib.hid (show Below w.heap.size w w1 from ((Below.refl _ _).alloc (Nat.le_refl _) _).trans (hb.mono (by rw [size_alloc]; omega)))
    have c0 : w1.cell? ⟨w.heap.size, 0, none⟩ = some (.int .i64 r.kinds) := by
      rw [(bcell hb).1 w.heap.size 0 (by rw [size_alloc]; omega), Lib.cell_of_heap (heap_last _ _)]; rfl
    clear hb
    go_wp2_with fail
    refine (HC.out _ (HS.out.below HB.out)).mono ?_
    rintro e w2 ⟨v, rfl, hr, hb⟩
    have HR := Lib.hid (hr.mono HB.out.size)
    have HB2 := Lib.hid (HB.out.trans (hb.mono HB.out.size))
    clear hr hb
    go_wp2_with fail
    go_ret
    exact ⟨_, rfl, HR.out, HB2.out⟩
end Go.Proofs.Ythblehinmbgbdaa
