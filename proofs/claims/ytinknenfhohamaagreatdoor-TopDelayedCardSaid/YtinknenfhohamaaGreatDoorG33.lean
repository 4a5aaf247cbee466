/- Whether events are keys. -/
import Derived.Test.YtinknenfhohamaaGreatDoorG26
import Derived.Test.YtinknenfhohamaaGreatDoorG08
import Derived.StillTailTactics
namespace Go.Proofs.YtinknenfhohamaaGreatDoor
open Go.RowKit
set_option maxRecDepth 100000

def KeyOk (e : Ev) : Prop := e.kd = 5 ∧ 0 ≤ e.tm ∧ e.tm ≤ 20000 ∧ 1 ≤ e.a ∧ e.a ≤ 255 ∧ e.b = 0
theorem wrong_any (x : Ev) (w : World) (h : KeyOk x) : Calls Tryz.prog 39 #[evV x] w fun e w' => e = .returned (.bool false) ∧ Below w.heap.size w w' := by
  obtain ⟨t, k, a, c⟩ := x
  obtain ⟨h1, h2, h3, h4, h5, h6⟩ := h
  simp only at h1 h2 h3 h4 h5 h6
  subst h1 h6
  simp only [evV]
  have d1 : decide (t < 0) = false := by rw [decide_eq_false_iff_not]; omega
  have d2 : decide (20000 < t) = false := by rw [decide_eq_false_iff_not]; omega
  have d3 : decide (a < 1) = false := by rw [decide_eq_false_iff_not]; omega
  have d4 : decide (255 < a) = false := by rw [decide_eq_false_iff_not]; omega
  clear h2 h3 h4 h5
  go_enter Tryz.func39, Tryz.ntmps39
  go_wp2_with fail
  go_ret
  exact ⟨rfl, (Below.refl _ _).alloc (Nat.le_refl _) _⟩
theorem diff_any (x y : Ev) (w : World) (hx : 0 ≤ x.tm ∧ x.tm ≤ 20000) (hy : 0 ≤ y.tm ∧ y.tm ≤ 20000) : Calls Tryz.prog 40 #[evV x, evV y] w fun e w' => e = .returned (.int .i64 (x.tm - y.tm)) ∧ Below w.heap.size w w' := by
  obtain ⟨t, k, a, c⟩ := x
  obtain ⟨t', k', a', c'⟩ := y
  simp only at hx hy
  simp only [evV]
  go_enter Tryz.func40, Tryz.ntmps40
  go_wp2_with fail
  go_ret
  exact ⟨rfl, ((Below.refl _ _).alloc (Nat.le_refl _) _).alloc (by rw [size_alloc]; omega) _⟩
set_option maxHeartbeats 1000000 in
theorem indexWrong_any (a : Option Addr) (c : Nat) (L : List Ev) (w : World) (hS : EvS w a L) (hL : L.length ≤ 64) (hk : ∀ e ∈ L, KeyOk e) :
    Calls Tryz.prog 94 #[.slice a L.length c, .func (.func 39) #[] #[]] w fun e w' => e = .returned (.int .i64 (-1)) ∧ Below w.heap.size w w' := by
  obtain ⟨m, hm⟩ : ∃ m, L.length = m := ⟨_, rfl⟩
  rw [hm] at hL ⊢
  have HM := Lib.hid hm
  have HS := Lib.hid hS
  have HK := Lib.hid hk
  clear hm hS hk
  go_enter Tryz.func94, Tryz.ntmps94
  go_wp2_with fail
  go_loopw [8] (fun i wx => ∃ j : Nat, j ≤ m ∧ i = .int .i64 j ∧ Below w.heap.size w wx) (fun i _ => m - (intOf i).toNat)
  case atStart => exact ⟨0, by omega, rfl, Below.refl _ _⟩
  case round =>
    obtain ⟨j, hj, rfl, hb⟩ := hrel
    have hsz := hb.size
    by_cases hlt : j < m
    · obtain ⟨s, hsj⟩ : ∃ s, L[j]? = some s := ⟨_, List.getElem?_eq_getElem (by rw [HM.out]; exact hlt)⟩
      obtain ⟨b, o, rfl, hbl, x0, x1, x2, x3⟩ := (HS.out.below hb) j s hsj
      have HLA := Lib.hid (wrong_any s wr (HK.out s (List.mem_of_getElem? hsj)))
      simp only [evV] at HLA
      have n0 : (0 : Int) ≤ (j : Int) := by omega
      have n1 : (j : Int) < (m : Int) := by omega
      have hd : decide ((j : Int) < (m : Int)) = true := by rw [decide_eq_true_iff]; omega
      have hd2 : decide (j < m) = true := by rw [decide_eq_true_iff]; omega
      clear hsj
      go_wp2_with fail
      refine HLA.out.mono ?_
      rintro e w1 ⟨rfl, hb1⟩
      have HFIN := Lib.hid (hb.trans (hb1.mono hsz))
      clear hb1
      go_wp2_with fail
      exact ⟨⟨j + 1, by omega, by push_cast; rfl, HFIN.out⟩, by simp [intOf]; omega⟩
    · obtain rfl : j = m := by omega
      have hd : decide ((j : Int) < (j : Int)) = false := by simp
      have hd2 : decide (j < j) = false := by simp
      go_wp2_with fail
      go_ret
      exact ⟨rfl, hb⟩
theorem containsWrong_any (a : Option Addr) (c : Nat) (L : List Ev) (w : World) (hS : EvS w a L) (hL : L.length ≤ 64) (hk : ∀ e ∈ L, KeyOk e) :
    Calls Tryz.prog 41 #[.slice a L.length c, .func (.func 39) #[] #[]] w fun e w' => e = .returned (.bool false) ∧ Below w.heap.size w w' := by
  have HC := Lib.hid (indexWrong_any a c L w hS hL hk)
  clear hS hL hk
  generalize L.length = m at *
  go_enter Tryz.func41, Tryz.ntmps41
  go_wp2_with fail
  refine HC.out.mono ?_
  rintro e w' ⟨rfl, hb⟩
  go_wp2_with fail
  go_ret
  exact ⟨rfl, hb⟩
set_option maxHeartbeats 1000000 in
theorem sorted_any (a : Option Addr) (c : Nat) (L : List Ev) (w : World) (hS : EvS w a L) (hL : L.length ≤ 64) (hk : ∀ e ∈ L, KeyOk e) (hA : AscK L) :
    Calls Tryz.prog 42 #[.slice a L.length c, .func (.func 40) #[] #[]] w fun e w' => e = .returned (.bool true) ∧ Below w.heap.size w w' := by
  obtain ⟨m, hm⟩ : ∃ m, L.length = m := ⟨_, rfl⟩
  rw [hm] at hL ⊢
  have HM := Lib.hid hm
  have HS := Lib.hid hS
  have HK := Lib.hid hk
  have HA := Lib.hid hA
  have hw0 : IntKind.i64.wrap ((m : Int) - 1) = (m : Int) - 1 := IntWalk.i64_in _ (by omega)
  clear hm hS hk hA
  go_enter Tryz.func42, Tryz.ntmps42
  go_wp2_with fail
  go_loopw [5] (fun i wx => ∃ z : Int, -1 ≤ z ∧ z < m ∧ i = .int .i64 z ∧ Below w.heap.size w wx) (fun i _ => (intOf i + 1).toNat)
  case atStart => exact ⟨_, by omega, by omega, rfl, Below.refl _ _⟩
  case round =>
    obtain ⟨z, hz1, hz2, rfl, hb⟩ := hrel
    have hsz := hb.size
    clear hw0
    by_cases hlt : 0 < z
    · obtain ⟨j, hj⟩ : ∃ j : Nat, z = (j : Int) + 1 := ⟨(z - 1).toNat, by omega⟩
      subst hj
      obtain ⟨s, hsj⟩ : ∃ s, L[j + 1]? = some s := ⟨_, List.getElem?_eq_getElem (by rw [HM.out]; omega)⟩
      obtain ⟨r, hrj⟩ : ∃ r, L[j]? = some r := ⟨_, List.getElem?_eq_getElem (by rw [HM.out]; omega)⟩
      obtain ⟨b, o, rfl, hbl, x0, x1, x2, x3⟩ := (HS.out.below hb) (j + 1) s hsj
      obtain ⟨b', o', hbo, -, y0, y1, y2, y3⟩ := (HS.out.below hb) j r hrj
      injection hbo with hbo
      injection hbo with e1 e2 _
      subst e1 e2
      have k1 := HK.out s (List.mem_of_getElem? hsj)
      have k2 := HK.out r (List.mem_of_getElem? hrj)
      have hle := HA.out j r s hrj hsj
      have HLA := Lib.hid (diff_any s r wr.drew ⟨k1.2.1, k1.2.2.1⟩ ⟨k2.2.1, k2.2.2.1⟩)
      simp only [evV] at HLA
      have hw1 : IntKind.i64.wrap (j : Int) = (j : Int) := IntWalk.i64_in _ (by omega)
      have n0 : (0 : Int) ≤ (j : Int) := by omega
      have n1 : (0 : Int) ≤ (j : Int) + 1 := by omega
      have n2 : (j : Int) + 1 < (m : Int) := by omega
      have n3 : (j : Int) < (m : Int) := by omega
      have n4 : ((j : Int) + 1).toNat = j + 1 := by omega
      have hd : decide ((0 : Int) < (j : Int) + 1) = true := by rw [decide_eq_true_iff]; omega
      have hd3 : decide (s.tm - r.tm < 0) = false := by rw [decide_eq_false_iff_not]; omega
      clear hsj hrj k1 k2 hle hlt hz1 hz2
      go_wp2_with fail
      go_still_tail 10, (by kernel_rfl)
      change wpList _ _ _ _ _ wr.drew
      go_wp2_with fail
      refine HLA.out.mono ?_
      rintro e w1 ⟨rfl, hb1⟩
      have HFIN := Lib.hid (hb.drew.trans (hb1.mono hsz))
      clear hb1
      go_wp2_with fail
      exact ⟨⟨_, by omega, by omega, rfl, HFIN.out⟩, by simp [intOf]; omega⟩
    · have hd : decide ((0 : Int) < z) = false := by rw [decide_eq_false_iff_not]; exact hlt
      go_wp2_with fail
      go_ret
      exact ⟨rfl, hb⟩
end Go.Proofs.YtinknenfhohamaaGreatDoor
