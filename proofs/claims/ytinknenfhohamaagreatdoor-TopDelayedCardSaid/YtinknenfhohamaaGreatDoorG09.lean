/- chosen with has, and Counted: the events that count. -/
import Derived.Test.YtinknenfhohamaaGreatDoorG08
namespace Go.Proofs.YtinknenfhohamaaGreatDoor
open Go.RowKit
set_option maxRecDepth 100000

theorem filter_take {p : Ev → Bool} {L : List Ev} {j : Nat} {e : Ev} (h : L[j]? = some e) : (L.take (j + 1)).filter p = if p e then (L.take j).filter p ++ [e] else (L.take j).filter p := by
  rw [take_more h, List.filter_append]
  cases hp : p e <;> simp [hp]
theorem take_all {L : List Ev} {j : Nat} (h : ¬ j < L.length) : L.take j = L := List.take_of_length_le (by omega)
set_option maxHeartbeats 1000000 in
theorem chosen_any (k : Int) (hk : 0 ≤ k ∧ k ≤ 62) (a : Option Addr) (c : Nat) (L : List Ev) (w : World) (hS : EvS w a L) (hL : L.length ≤ 1000) :
    Calls Tryz.prog 48 #[.slice a L.length c, .func (.func 49) #[.int .i64 k] #[]] w fun e w' => ∃ v, e = .returned v ∧ ERow w' w.heap.size v (L.filter (cnt ⟨k, 0, false⟩)) ∧ Below w.heap.size w w' := by
  obtain ⟨n, hn⟩ : ∃ n, L.length = n := ⟨_, rfl⟩
  have HN := Lib.hid hn
  have HS := Lib.hid hS
  rw [hn] at hL ⊢
  have HH := Lib.hid (fun e W => has_any k e W hk)
  clear hk hn hS
  go_enter Tryz.func48, Tryz.ntmps48
  go_wp2_with fail
  go_loopw [5, 7, 10] (fun v q i wx => ∃ j : Nat, j ≤ n ∧ i = .int .i64 j ∧ ERow wx w.heap.size v ((L.take j).filter (cnt ⟨k, 0, false⟩)) ∧ Below w.heap.size w wx) (fun _ _ i _ => n - (intOf i).toNat)
  case atStart => exact ⟨0, by omega, rfl, ERow.nil _ _, Below.refl _ _⟩
  case round =>
    obtain ⟨j, hj, rfl, hr, hb⟩ := hrel
    have HR := Lib.hid hr
    have HB := Lib.hid hb
    clear hr
    by_cases hlt : j < n
    · obtain ⟨e, he⟩ : ∃ e, L[j]? = some e := ⟨_, List.getElem?_eq_getElem (by rw [HN.out]; exact hlt)⟩
      obtain ⟨b, o, rfl, hbl, x0, x1, x2, x3⟩ := (HS.out.below hb) j e he
      have HE := Lib.hid (filter_take (p := cnt ⟨k, 0, false⟩) he)
      have HL8 := Lib.hid (show ((L.take j).filter (cnt ⟨k, 0, false⟩)).length ≤ 1000 from Nat.le_trans (List.length_filter_le _ _) (by rw [List.length_take]; omega))
      have HH1 := Lib.hid (fun W => HH.out e W)
      simp only [evV] at HH1
      generalize cnt ⟨k, 0, false⟩ e = y at HH1 HE
      clear hb he
      have n0 : (0 : Int) ≤ (j : Int) := by omega
      have n1 : (j : Int) < (n : Int) := by omega
      have hd : decide ((j : Int) < (n : Int)) = true := by rw [decide_eq_true_iff]; omega
      have hd2 : decide (j < n) = true := by rw [decide_eq_true_iff]; omega
      cases y with
      | true =>
        go_wp2_with fail
        refine (HH1.out _).mono ?_
        rintro r w1 ⟨rfl, hb1⟩
        have HB1 := Lib.hid (show Below wr.heap.size wr w1 from ((Below.refl wr.heap.size wr).alloc (Nat.le_refl _) _).trans (hb1.mono (by rw [size_alloc]; omega)))
        have HRB := Lib.hid (ERow.below HR.out HB1.out)
        have HBW := Lib.hid (HB.out.trans (HB1.out.mono HB.out.size))
        have hcs : ∀ q, w1.cell? ⟨wr.heap.size, q, none⟩ = #[Value.int .i64 e.tm, .int .i64 e.kd, .int .i64 e.a, .int .i64 e.b][q]? := by
          intro q
          rw [(bcell hb1).1 wr.heap.size q (by rw [size_alloc]; omega), Lib.cell_of_heap (heap_last _ _)]
        have c0 := hcs 0
        have c1 := hcs 1
        have c2 := hcs 2
        have c3 := hcs 3
        simp at c0 c1 c2 c3
        clear hcs hb1
        go_wp2_with (at_builtin; refine append_events rfl _ _ rfl (by rfl) (base := w.heap.size) (L := (L.take j).filter (cnt ⟨k, 0, false⟩)) (X := [e]) (M := (L.take (j + 1)).filter (cnt ⟨k, 0, false⟩)) (HRB.out.alloc _) (by rw [size_alloc]; exact Nat.le_succ_of_le HBW.out.size) HL8.out (by rfl) (evs_block (heap_last' _ _ rfl)) (by rfl) (by omega) (by omega) (by simpa using HE.out) ?_; intro g' c' w5 hrow5 hb5 _ _)
        exact ⟨⟨j + 1, by omega, by push_cast; rfl, hrow5, (HBW.out.alloc HBW.out.size _).trans hb5⟩, by simp [intOf]; omega⟩
      | false =>
        go_wp2_with fail
        refine (HH1.out _).mono ?_
        rintro r w1 ⟨rfl, hb1⟩
        have HB1 := Lib.hid (show Below wr.heap.size wr w1 from ((Below.refl wr.heap.size wr).alloc (Nat.le_refl _) _).trans (hb1.mono (by rw [size_alloc]; omega)))
        have HRB := Lib.hid (ERow.below HR.out HB1.out)
        have HBW := Lib.hid (HB.out.trans (HB1.out.mono HB.out.size))
        clear hb1
        go_wp2_with fail
        refine ⟨⟨j + 1, by omega, by push_cast; rfl, by have := HE.out; simp at this; rw [this]; exact HRB.out, HBW.out⟩, by simp [intOf]; omega⟩
    · obtain rfl : j = n := by omega
      have HF := Lib.hid (show ERow wr w.heap.size _ (L.filter (cnt ⟨k, 0, false⟩)) from (take_all (j := j) (L := L) (by rw [HN.out]; omega)) ▸ HR.out)
      have hd : decide ((j : Int) < (j : Int)) = false := by simp
      have hd2 : decide (j < j) = false := by simp
      go_wp2_with fail
      go_ret
      exact ⟨_, rfl, HF.out, hb⟩
theorem cnt_slack (r : Rel) : cnt r = cnt ⟨r.kinds, 0, false⟩ := rfl
set_option maxHeartbeats 1000000 in
theorem counted_any (r : Rel) (a : Option Addr) (c : Nat) (L : List Ev) (w : World) (hS : EvS w a L) (hL : L.length ≤ 1000) :
    Calls Tryz.prog 20 #[relV r, .slice a L.length c] w fun e w' => ∃ v, e = .returned v ∧ ERow w' w.heap.size v (counted r L) ∧ Below w.heap.size w w' := by
  have HV := Lib.hid (fun W => valid_any r W)
  simp only [relV] at HV ⊢
  cases hv : validR r with
  | false =>
    rw [hv] at HV
    have hc : counted r L = [] := by simp [counted, hv]
    rw [hc]
    clear hv hc
    go_enter Tryz.func20, Tryz.ntmps20
    go_wp2_with fail
    refine (HV.out _).mono ?_
    rintro e w1 ⟨rfl, hb⟩
    have HB := Lib.hid (show Below w.heap.size w w1 from ((Below.refl _ _).alloc (Nat.le_refl _) _).trans (hb.mono (by rw [size_alloc]; omega)))
    clear hb
    go_wp2_with fail
    go_ret
    exact ⟨_, rfl, ERow.nil _ _, HB.out⟩
  | true =>
    rw [hv] at HV
    have hc : counted r L = L.filter (cnt ⟨r.kinds, 0, false⟩) := by rw [counted, if_pos hv]; rfl
    rw [hc]
    have hk : 0 ≤ r.kinds ∧ r.kinds ≤ 62 := by rw [validR_iff] at hv; exact ⟨hv.1, hv.2.1⟩
    have HC := Lib.hid (fun W h => chosen_any r.kinds hk a c L W h hL)
    have HS := Lib.hid hS
    clear hv hc hS hk
    go_enter Tryz.func20, Tryz.ntmps20
    go_wp2_with fail
    refine (HV.out _).mono ?_
    rintro e w1 ⟨rfl, hb⟩
    have HB := Lib.hid (show Below w.heap.size w w1 from ((Below.refl _ _).alloc (Nat.le_refl _) _).trans (hb.mono (by rw [size_alloc]; omega)))
    have c0 : w1.cell? ⟨w.heap.size, 0, none⟩ = some (.int .i64 r.kinds) := by
      rw [(bcell hb).1 w.heap.size 0 (by rw [size_alloc]; omega), Lib.cell_of_heap (heap_last _ _)]; rfl
    clear hb
    go_wp2_with fail
    refine (HC.out _ (HS.out.below HB.out)).mono ?_
    rintro e w2 ⟨v, rfl, hr, hb⟩
    have HR := Lib.hid (hr.mono HB.out.size)
    have HB2 := Lib.hid (HB.out.trans (hb.mono HB.out.size))
    clear hr hb
    go_wp2_with fail
    go_ret
    exact ⟨_, rfl, HR.out, HB2.out⟩
end Go.Proofs.YtinknenfhohamaaGreatDoor
