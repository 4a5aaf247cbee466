/- symMerge of the library's sort where one of the halves holds one place. -/
import Derived.Test.YtinknenfhohamaaGreatDoorG02
import Derived.Test.YtinknenfhohamaaGreatDoorG01
namespace Go.Proofs.YtinknenfhohamaaGreatDoor
open Go.RowKit
set_option maxRecDepth 100000

theorem get_mid (A R B : List Nat) (x i : Nat) (z : Nat) (h : R[i]? = some z) : (A ++ x :: (R ++ B))[A.length + 1 + i]? = some z := by
  rw [List.getElem?_append_right (by omega), show A.length + 1 + i - A.length = i + 1 by omega, List.getElem?_cons_succ, List.getElem?_append_left (List.getElem?_eq_some_iff.1 h).1]
  exact h
theorem drop_at {R : List Nat} {i z : Nat} (h : R[i]? = some z) : R.drop i = z :: R.drop (i + 1) :=
  (List.drop_eq_getElem_cons (List.getElem?_eq_some_iff.1 h).1).trans (by rw [(List.getElem?_eq_some_iff.1 h).2])
theorem take_at {R : List Nat} {i z : Nat} (h : R[i]? = some z) : R.take (i + 1) = R.take i ++ [z] := by rw [List.take_add_one, h]; rfl
theorem perm_mid (x : Nat) (R : List Nat) (u : Nat) : (R.take u ++ x :: R.drop u).Perm (x :: R) := by
  refine List.perm_middle.trans ?_
  rw [List.take_append_drop]
/-- The comparison in whatever world that only draws part from w. -/
theorem closure_at {bx gl o n c : Nat} {t : Nat → Int} {w : World} (hT : TimesAt w bx gl o n c t) (hn : n ≤ 1000) {i k : Nat} (hi : i < n) (hk : k < n) (m : Nat) :
    Calls Tryz.prog 51 #[.int .i64 (i : Int), .int .i64 (k : Int), .pointer (some ⟨bx, 0, none⟩)] (w.drewN m) fun e w' => e = .returned (.int .i64 (cmpI (t i) (t k))) ∧ ∃ q, w' = (w.drewN m).drewN q :=
  closure_any bx gl o n c t i k _ hT hi hk hn

set_option maxHeartbeats 2000000 in
theorem symMerge_one (g cap N bx gl o n c : Nat) (t : Nat → Int) (A R B : List Nat) (x a m b : Nat) (w : World) (hrow : IR w g (A ++ (x :: (R ++ B)))) (hT : TimesAt w bx gl o n c t) (_h1 : bx ≠ g) (_h2 : gl ≠ g) (ha : A.length = a) (hm : a + 1 = m) (hb : m + R.length = b) (hN : b + B.length = N) (hN2 : N ≤ 1000) (hn : n ≤ 1000)
    (hR : Srt t R) (hlow : ∀ y ∈ R, x < y) (hx : x < n) (hRn : ∀ y ∈ R, y < n) :
    Calls Tryz.prog 152 #[.slice (some ⟨g, 0, none⟩) N cap, .int .i64 a, .int .i64 m, .int .i64 b, .func (.func 51) #[] #[.pointer (some ⟨bx, 0, none⟩)]] w fun e w' => e = .returned (.tuple #[]) ∧ ∃ S, S.Perm (x :: R) ∧ Srt t S ∧ IR w' g (A ++ (S ++ B)) ∧ w.grownBy w' (some g) := by
  have HA := Lib.hid ha
  have HROW := Lib.hid hrow
  have HT := Lib.hid hT
  have HR := Lib.hid hR
  have HLOW := Lib.hid hlow
  have HRN := Lib.hid hRn
  have HX := Lib.hid hx
  obtain ⟨lr, hlr⟩ : ∃ lr, R.length = lr := ⟨_, rfl⟩
  have HLR := Lib.hid hlr
  rw [hlr] at hb
  have HM := Lib.hid hm
  have HB := Lib.hid hb
  have hma : (m : Int) - (a : Int) = 1 := by omega
  have hbN : b ≤ N := by omega
  have hmb : m ≤ b := by omega
  have haN : a < N := by omega
  have hax : w.cell? ⟨g, a, none⟩ = some (.int .i64 (x : Int)) := (hrow a x (by rw [← ha]; exact get_one _ _ _)).1
  clear ha hrow hT hR hlow hRn hx hlr hb hN
  go_enter Tryz.func152, Tryz.ntmps152
  go_wp2_with fail
  go_loopw [10, 11] (fun i j wx => ∃ (p q d : Nat), i = .int .i64 p ∧ j = .int .i64 q ∧ m ≤ p ∧ p ≤ q ∧ q ≤ b ∧ (∀ z ∈ R.take (p - m), t z < t x) ∧ (∀ z ∈ R.drop (q - m), ¬ t z < t x) ∧ wx = w.drewN d) (fun i j _ => (intOf j).toNat - (intOf i).toNat)
  case atStart => exact ⟨m, b, 0, rfl, rfl, by omega, hmb, by omega, by simp, by rw [List.drop_of_length_le (by have := HB.out; rw [HLR.out]; omega)]; simp, rfl⟩
  case round =>
    obtain ⟨p, q, d, rfl, rfl, hp, hpq, hqb, hlo, hhi, rfl⟩ := hrel
    have hp0 : (0 : Int) ≤ (p : Int) := by omega
    have hq0 : (0 : Int) ≤ (q : Int) := by omega
    by_cases hlt : p < q
    · have hd : decide ((p : Int) < (q : Int)) = true := by rw [decide_eq_true_iff]; omega
      have HTD : Hid (TimesAt (w.drewN d) bx gl o n c t) := Lib.hid HT.out
      have HRD : Hid (IR (w.drewN d) g (A ++ (x :: (R ++ B)))) := Lib.hid HROW.out
      have hax' : (w.drewN d).cell? ⟨g, a, none⟩ = some (.int .i64 (x : Int)) := hax
      obtain ⟨wd, hwd⟩ : ∃ wd, w.drewN d = wd := ⟨_, rfl⟩
      rw [hwd] at HTD HRD hax' ⊢
      have HWD := Lib.hid hwd
      clear hwd hax
      have hlt2 : (p : Int) < (q : Int) := by omega
      obtain ⟨h, hh⟩ : ∃ h : Nat, h = (p + q) / 2 := ⟨_, rfl⟩
      have e1 : ((p : Int) + (q : Int)) / 2 = (h : Int) := by omega
      obtain ⟨y, hy⟩ : ∃ y, R[h - m]? = some y := ⟨_, List.getElem?_eq_getElem (by have := HB.out; rw [HLR.out]; omega)⟩
      have hcy : wd.cell? ⟨g, h, none⟩ = some (.int .i64 (y : Int)) := (HRD.out h y (by have := get_mid A R B x (h - m) y hy; rw [HA.out, show a + 1 + (h - m) = h by omega] at this; exact this)).1
      have hyn := HRN.out y (List.mem_of_getElem? hy)
      have HC := Lib.hid (fun mm => closure_at HTD.out hn hyn HX.out mm)
      have hneg := cmpI_lt (t y) (t x)
      generalize cmpI (t y) (t x) = cv at *
      have i1 : (h : Int) < (N : Int) := by omega
      have i2 : (a : Int) < (N : Int) := by omega
      have i3 : (0 : Int) ≤ (h : Int) := by omega
      have i4 : (0 : Int) ≤ (a : Int) := by omega
      have d1 : decide (h < N) = true := by rw [decide_eq_true_iff]; omega
      have d2 : decide (a < N) = true := by rw [decide_eq_true_iff]; omega
      have hph : p ≤ h := by omega
      have hhq : h < q := by omega
      have hmh : m ≤ h := by omega
      have HLO := Lib.hid hlo
      have HHI := Lib.hid hhi
      have HY := Lib.hid hy
      clear hh hlo hhi hy hyn
      by_cases hxy : t y < t x
      · have hn1 : decide (cv < 0) = true := by rw [hneg]; exact decide_eq_true hxy
        have hn2 : cv < 0 := of_decide_eq_true hn1
        clear hneg
        go_upto_region 5 with fail
        go_quiet ((go_at_call 51; exact Calls.quiet_of (HC.out _)))
        go_wp2_with fail
        go_roundw
        case rel =>
          refine ⟨h + 1, q, d + nq, by push_cast; rfl, rfl, by omega, by omega, hqb, ?_, HHI.out, by rw [← HWD.out, World.drewN_drewN]⟩
          rw [show h + 1 - m = h - m + 1 by omega]
          exact srt_take_lt HR.out HY.out hxy
        case measure => simp [intOf]; omega
      · have hn1 : decide (cv < 0) = false := by rw [hneg]; exact decide_eq_false hxy
        have hn2 : ¬ cv < 0 := of_decide_eq_false hn1
        clear hneg
        go_upto_region 5 with fail
        go_quiet ((go_at_call 51; exact Calls.quiet_of (HC.out _)))
        go_wp2_with fail
        go_roundw
        case rel => exact ⟨p, h, d + nq, rfl, rfl, hp, hph, by omega, HLO.out, srt_drop_ge HR.out HY.out hxy, by rw [← HWD.out, World.drewN_drewN]⟩
        case measure => simp [intOf]; omega
    · obtain rfl : p = q := by omega
      have hd : decide ((p : Int) < (p : Int)) = false := by simp
      obtain ⟨u, hu⟩ : ∃ u, p = m + u := ⟨p - m, by omega⟩
      have hul : u ≤ lr := by have := HB.out; omega
      rw [show p - m = u by omega] at hlo hhi
      have HSRT := Lib.hid (srt_put (L := R.take u) (R := R.drop u) (x := x) (by rw [List.take_append_drop]; exact HR.out) (fun y hy => bf_of_lt (hlo y hy)) (fun y hy => bf_of_le (HLOW.out y (List.mem_of_mem_drop hy)) (hhi y hy)))
      obtain ⟨v, hv⟩ : ∃ v, v = a + u := ⟨_, rfl⟩
      have hv1 : (p : Int) - 1 = (v : Int) := by omega
      have hvN : v < N := by omega
      have HV := Lib.hid hv
      clear hlo hhi hlt hu
      go_wp2_with fail
      go_loopw [13] (fun k wx => ∃ (e kk : Nat), kk = a + e ∧ k = .int .i64 kk ∧ e ≤ u ∧ IR wx g (A ++ (R.take e ++ (x :: (R.drop e ++ B)))) ∧ w.grownBy wx (some g)) (fun k _ => v - (intOf k).toNat)
      case atStart => exact ⟨0, a, rfl, rfl, by omega, by simpa using HROW.out.drewN d, grown_drewN _ _ _⟩
      case round =>
        obtain ⟨e, kk, hkk, rfl, he, hrow, hgr⟩ := hrel
        by_cases hlt : e < u
        · obtain ⟨z, hz⟩ : ∃ z, R[e]? = some z := ⟨_, List.getElem?_eq_getElem (by rw [HLR.out]; omega)⟩
          have hform : A ++ (R.take e ++ (x :: (R.drop e ++ B))) = (A ++ R.take e) ++ x :: ([] ++ z :: (R.drop (e + 1) ++ B)) := by rw [drop_at hz]; simp [List.append_assoc]
          have hlen : (A ++ R.take e).length = kk := by rw [List.length_append, HA.out, List.length_take, HLR.out, hkk]; omega
          rw [hform] at hrow
          obtain ⟨k2, hk2⟩ : ∃ k2, k2 = kk + 1 := ⟨_, rfl⟩
          obtain ⟨vx, fx⟩ := hrow kk x (by rw [← hlen]; exact get_one _ _ _)
          obtain ⟨vz, fz⟩ := hrow k2 z (by rw [hk2, ← hlen]; exact get_two _ [] _ _ _)
          have hsw := hrow.swap
          rw [hlen, show kk + 1 + ([] : List Nat).length = k2 by rw [hk2]; rfl] at hsw
          have HSW : Hid (IR ((wr.setCell ⟨g, kk, none⟩ (.int .i64 (z : Int))).setCell ⟨g, k2, none⟩ (.int .i64 (x : Int))) g (A ++ (R.take (e + 1) ++ (x :: (R.drop (e + 1) ++ B))))) := Lib.hid (by rw [take_at hz]; simpa [List.append_assoc] using hsw)
          have HG := Lib.hid hgr
          have hlt2 : kk < v := by omega
          have e1 : (kk : Int) + 1 = (k2 : Int) := by omega
          have e2 : IntKind.i64.wrap (k2 : Int) = (k2 : Int) := IntWalk.i64_in _ (by omega)
          have e3 : IntKind.i64.wrap ((kk : Int) + 1) = (k2 : Int) := by rw [e1]; exact e2
          have i1 : (kk : Int) < (N : Int) := by omega
          have i2 : (k2 : Int) < (N : Int) := by omega
          have i3 : (0 : Int) ≤ (kk : Int) := by omega
          have i4 : (0 : Int) ≤ (k2 : Int) := by omega
          have i5 : (kk : Int) < (v : Int) := by omega
          have d1 : decide ((kk : Int) < (v : Int)) = true := by rw [decide_eq_true_iff]; omega
          have d2 : decide (kk < v) = true := by rw [decide_eq_true_iff]; omega
          have d3 : decide (kk < N) = true := by rw [decide_eq_true_iff]; omega
          have d4 : decide (k2 < N) = true := by rw [decide_eq_true_iff]; omega
          have hne : ¬ (kk = k2) := by omega
          have HKK := Lib.hid hkk
          have HK2 := Lib.hid hk2
          clear hform hlen hrow hgr hsw hz hkk hk2
          go_upto_region 11 with fail
          go_region
          go_wp2_with fail
          go_roundw
          case rel => exact ⟨e + 1, k2, by have := HKK.out; have := HK2.out; omega, rfl, by omega, HSW.out, grown_trans (grown_trans (grown_trans HG.out (grown_set _ _ _ _)) (grown_set _ _ _ _)) (grown_drewN _ 1 _)⟩
          case measure => have := HK2.out; simp [intOf]; omega
        · obtain rfl : e = u := by omega
          have hkv : kk = v := by omega
          subst hkv
          have hd1 : decide ((kk : Int) < (kk : Int)) = false := by simp
          have hd2 : decide (kk < kk) = false := by simp
          have HF : Hid (∃ S, S.Perm (x :: R) ∧ Srt t S ∧ IR wr g (A ++ (S ++ B)) ∧ w.grownBy wr (some g)) := Lib.hid ⟨_, perm_mid x R e, HSRT.out, by simpa [List.append_assoc] using hrow, hgr⟩
          clear hrow hgr hkk hv
          go_wp2_with fail
          exact bodyPost_ret (results_none rfl _ _ _) rfl ⟨rfl, HF.out⟩
end Go.Proofs.YtinknenfhohamaaGreatDoor
