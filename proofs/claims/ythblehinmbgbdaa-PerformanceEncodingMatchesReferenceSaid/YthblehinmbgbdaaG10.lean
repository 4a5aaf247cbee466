/- Counted of the reference. -/
import Derived.Test.YthblehinmbgbdaaG09
namespace Go.Proofs.Ythblehinmbgbdaa
open Go.RowKit
set_option maxRecDepth 100000

theorem tmod_two (k : Int) (h : 0 ≤ k) (n : Nat) : ((k / 2 ^ n).tmod 2 == 1) = decide (k / 2 ^ n % 2 = 1) := by
  rw [Int.tmod_eq_emod_of_nonneg (Int.ediv_nonneg h (Int.pow_nonneg (by omega)))]
  rfl
theorem cnt_split (r : Rel) (e : Ev) : cnt r e = (decide (1 ≤ e.kd ∧ e.kd ≤ 5) && decide (r.kinds / 2 ^ e.kd.toNat % 2 = 1)) := rfl
theorem ERow.drewN {W : World} {base : Nat} {v : Value} {L : List Ev} (h : ERow W base v L) (n : Nat) : ERow (W.drewN n) base v L := h
set_option maxHeartbeats 2000000 in
theorem refCounted_any (r : Rel) (a : Option Addr) (c : Nat) (L : List Ev) (w : World) (hS : EvS w a L) (hL : L.length ≤ 1000) :
    Calls Try.prog 22 #[relV r, .slice a L.length c] w fun e w' => ∃ v, e = .returned v ∧ ERow w' w.heap.size v (counted r L) ∧ Below w.heap.size w w' := by
  have HV := Lib.hid (fun W => refValid_any r W)
  simp only [relV] at HV ⊢
  obtain ⟨n, hn⟩ : ∃ n, L.length = n := ⟨_, rfl⟩
  have HN := Lib.hid hn
  rw [hn] at hL ⊢
  have HS := Lib.hid hS
  clear hS hn
  cases hv : validR r with
  | false =>
    rw [hv] at HV
    have HC := Lib.hid (show counted r L = [] by simp [counted, hv])
    clear hv
    go_enter Try.func22, Try.ntmps22
    go_wp2_with fail
    refine (HV.out _).mono ?_
    rintro e w1 ⟨rfl, hb⟩
    have HB := Lib.hid (show Below w.heap.size w w1 from ((Below.refl _ _).alloc (Nat.le_refl _) _).trans (hb.mono (by rw [size_alloc]; omega)))
    clear hb
    go_wp2_with fail
    go_loopw [6, 7] (fun v i wx => v = .slice none 0 0 ∧ i = .int .i64 0 ∧ w1 = wx) (fun _ _ _ => 0)
    case atStart => exact ⟨rfl, rfl, rfl⟩
    case round =>
      obtain ⟨rfl, rfl, rfl⟩ := hrel
      by_cases h0 : (0 : Int) < (n : Int)
      · have hd : decide ((0 : Int) < (n : Int)) = true := decide_eq_true h0
        have hd2 : decide (0 < n) = true := by rw [decide_eq_true_iff]; omega
        go_wp2_with fail
        go_ret
        exact ⟨_, rfl, by rw [HC.out]; exact ERow.nil _ _, HB.out⟩
      · have hd : decide ((0 : Int) < (n : Int)) = false := decide_eq_false h0
        have hd2 : decide (0 < n) = false := by rw [decide_eq_false_iff_not]; omega
        go_wp2_with fail
        go_ret
        exact ⟨_, rfl, by rw [HC.out]; exact ERow.nil _ _, HB.out⟩
  | true =>
    rw [hv] at HV
    have HC := Lib.hid (show counted r L = L.filter (cnt r) by rw [counted, if_pos hv])
    have hk : 0 ≤ r.kinds ∧ r.kinds ≤ 62 := by rw [validR_iff] at hv; exact ⟨hv.1, hv.2.1⟩
    have HK := Lib.hid hk
    have HW := Lib.hid (fun (n a b : Int) W => within2_any n a b W)
    clear hv hk
    go_enter Try.func22, Try.ntmps22
    go_wp2_with fail
    refine (HV.out _).mono ?_
    rintro e w1 ⟨rfl, hb⟩
    have HB := Lib.hid (show Below w.heap.size w w1 from ((Below.refl _ _).alloc (Nat.le_refl _) _).trans (hb.mono (by rw [size_alloc]; omega)))
    have HS1 := Lib.hid (show w.heap.size < w1.heap.size from Nat.lt_of_lt_of_le (by rw [size_alloc]; omega) hb.size)
    have c0 : w1.cell? ⟨w.heap.size, 0, none⟩ = some (.int .i64 r.kinds) := by
      rw [(bcell hb).1 w.heap.size 0 (by rw [size_alloc]; omega), Lib.cell_of_heap (heap_last _ _)]; rfl
    have HC0 := Lib.hid c0
    clear hb c0
    go_wp2_with fail
    go_loopw [6, 7] (fun v i wx => ∃ j : Nat, j ≤ n ∧ i = .int .i64 j ∧ ERow wx w1.heap.size v ((L.take j).filter (cnt r)) ∧ Below w1.heap.size w1 wx) (fun _ i _ => n - (intOf i).toNat)
    case atStart => exact ⟨0, by omega, rfl, ERow.nil _ _, Below.refl _ _⟩
    case round =>
      obtain ⟨j, hj, rfl, hr, hb⟩ := hrel
      have HR := Lib.hid hr
      have HB2 := Lib.hid hb
      clear hr
      by_cases hlt : j < n
      · obtain ⟨e, he⟩ : ∃ e, L[j]? = some e := ⟨_, List.getElem?_eq_getElem (by rw [HN.out]; exact hlt)⟩
        obtain ⟨b, o, rfl, hbl, x0, x1, x2, x3⟩ := (HS.out.below (HB.out.trans (hb.mono HB.out.size))) j e he
        have HE := Lib.hid (filter_take (p := cnt r) he)
        have HL8 := Lib.hid (show ((L.take j).filter (cnt r)).length ≤ 1000 from Nat.le_trans (List.length_filter_le _ _) (by rw [List.length_take]; omega))
        have c0 : wr.cell? ⟨w.heap.size, 0, none⟩ = some (.int .i64 r.kinds) := ((bcell hb).1 _ _ HS1.out).trans HC0.out
        have hsz := Nat.lt_of_lt_of_le HS1.out hb.size
        have HHS := Lib.hid hsz
        clear hb he
        have n0 : (0 : Int) ≤ (j : Int) := by omega
        have n1 : (j : Int) < (n : Int) := by omega
        have hd : decide ((j : Int) < (n : Int)) = true := by rw [decide_eq_true_iff]; omega
        have hd2 : decide (j < n) = true := by rw [decide_eq_true_iff]; omega
        by_cases h1 : 1 ≤ e.kd ∧ e.kd ≤ 5
        · have HCS := Lib.hid (cnt_split r e)
          rw [decide_eq_true h1] at HCS
          have HW1 := Lib.hid (HW.out e.kd 1 5)
          rw [decide_eq_true h1] at HW1
          obtain ⟨q1, q2⟩ := h1
          have HT := Lib.hid (tmod_two r.kinds HK.out.1 e.kd.toNat)
          cases hy : decide (r.kinds / 2 ^ e.kd.toNat % 2 = 1) with
          | true =>
            rw [hy] at HT HCS
            have ht := HT.out
            clear hy
            go_upto_region 6 with fail
            go_quiet ((go_at_call 32; exact Calls.quiet_of_same ((HW1.out _).mono fun e w' ⟨a, b⟩ => ⟨a, b.symm⟩)))
            go_wp2_with (at_builtin; refine append_events rfl _ _ rfl (by rfl) (base := w1.heap.size) (L := (L.take j).filter (cnt r)) (X := [e]) (M := (L.take (j + 1)).filter (cnt r)) ((HR.out.drewN _).alloc _) (by rw [size_alloc]; exact Nat.le_succ_of_le HB2.out.size) HL8.out (by rfl) (evs_block (heap_last' _ _ rfl)) (by rfl) (by omega) (by omega) (by rw [HE.out, HCS.out]; rfl) ?_; intro g' c' w5 hrow5 hb5 _ _)
            exact ⟨⟨j + 1, by omega, by push_cast; rfl, hrow5, ((Below_drewN HB2.out _).alloc HB2.out.size _).trans hb5⟩, by simp [intOf]; omega⟩
          | false =>
            rw [hy] at HT HCS
            have ht := HT.out
            clear hy
            go_upto_region 6 with fail
            go_quiet ((go_at_call 32; exact Calls.quiet_of_same ((HW1.out _).mono fun e w' ⟨a, b⟩ => ⟨a, b.symm⟩)))
            go_wp2_with fail
            exact ⟨⟨j + 1, by omega, by push_cast; rfl, by rw [HE.out, HCS.out]; exact HR.out.drewN _, Below_drewN HB2.out _⟩, by simp [intOf]; omega⟩
        · have HCS := Lib.hid (cnt_split r e)
          rw [decide_eq_false h1] at HCS
          have HW1 := Lib.hid (HW.out e.kd 1 5)
          rw [decide_eq_false h1] at HW1
          clear h1
          go_upto_region 6 with fail
          go_quiet ((go_at_call 32; exact Calls.quiet_of_same ((HW1.out _).mono fun e w' ⟨a, b⟩ => ⟨a, b.symm⟩)))
          go_wp2_with fail
          exact ⟨⟨j + 1, by omega, by push_cast; rfl, by rw [HE.out, HCS.out]; exact HR.out.drewN _, Below_drewN HB2.out _⟩, by simp [intOf]; omega⟩
      · obtain rfl : j = n := by omega
        have hd : decide ((j : Int) < (j : Int)) = false := by simp
        have hd2 : decide (j < j) = false := by simp
        have HF := Lib.hid (show ERow wr w1.heap.size _ (counted r L) from (by rw [HC.out, ← take_all (j := j) (L := L) (by rw [HN.out]; omega)]; exact HR.out))
        go_wp2_with fail
        go_ret
        exact ⟨_, rfl, HF.out.mono HB.out.size, HB.out.trans (hb.mono HB.out.size)⟩
end Go.Proofs.Ythblehinmbgbdaa
