/- symMerge of the library's sort where the right half holds one place. -/
import Derived.Test.YtinknenfhohamaaGreatDoorG03
namespace Go.Proofs.YtinknenfhohamaaGreatDoor
open Go.RowKit
set_option maxRecDepth 100000

theorem perm_last (x : Nat) (L : List Nat) (u : Nat) : (L.take u ++ x :: L.drop u).Perm (L ++ [x]) :=
  (perm_mid x L u).trans (List.perm_append_singleton x L).symm
theorem get_left {A L B : List Nat} {i z : Nat} (h : L[i]? = some z) : (A ++ (L ++ B))[A.length + i]? = some z := by
  rw [List.getElem?_append_right (by omega), show A.length + i - A.length = i by omega, List.getElem?_append_left (List.getElem?_eq_some_iff.1 h).1]
  exact h
set_option maxHeartbeats 2000000 in
theorem symMerge_last (g cap N bx gl o n c : Nat) (t : Nat → Int) (A L B : List Nat) (x a m b : Nat) (w : World) (hrow : IR w g (A ++ (L ++ (x :: B)))) (hT : TimesAt w bx gl o n c t) (_h1 : bx ≠ g) (_h2 : gl ≠ g) (ha : A.length = a) (hm : a + L.length = m) (hl2 : 2 ≤ L.length) (hb : m + 1 = b) (hN : b + B.length = N) (hN2 : N ≤ 1000) (hn : n ≤ 1000)
    (hL : Srt t L) (hlow : ∀ y ∈ L, y < x) (hx : x < n) (hLn : ∀ y ∈ L, y < n) :
    Calls Tryz.prog 152 #[.slice (some ⟨g, 0, none⟩) N cap, .int .i64 a, .int .i64 m, .int .i64 b, .func (.func 51) #[] #[.pointer (some ⟨bx, 0, none⟩)]] w fun e w' => e = .returned (.tuple #[]) ∧ ∃ S, S.Perm (L ++ [x]) ∧ Srt t S ∧ IR w' g (A ++ (S ++ B)) ∧ w.grownBy w' (some g) := by
  have HA := Lib.hid ha
  have HROW := Lib.hid hrow
  have HT := Lib.hid hT
  have HL := Lib.hid hL
  have HLOW := Lib.hid hlow
  have HLN := Lib.hid hLn
  have HX := Lib.hid hx
  obtain ⟨ll, hll⟩ : ∃ ll, L.length = ll := ⟨_, rfl⟩
  have HLL := Lib.hid hll
  rw [hll] at hm hl2
  have HM := Lib.hid hm
  have hma : ((m : Int) - (a : Int) == 1) = false := beq_eq_false_iff_ne.2 (by omega)
  have hma2 : ¬ ((m : Int) - (a : Int) = 1) := by omega
  have hma3 : decide ((m : Int) - (a : Int) = 1) = false := decide_eq_false hma2
  have hbm : (b : Int) - (m : Int) = 1 := by omega
  have hmN : m < N := by omega
  have ham : a ≤ m := by omega
  have hax : w.cell? ⟨g, m, none⟩ = some (.int .i64 (x : Int)) := (hrow m x (by
    have := get_one (A ++ L) B x
    rw [List.length_append, ha, hll, hm, List.append_assoc] at this; exact this)).1
  clear ha hrow hT hL hlow hLn hx hll hN
  go_enter Tryz.func152, Tryz.ntmps152
  go_wp2_with fail
  go_loopw [14, 15] (fun i j wx => ∃ (p q d : Nat), i = .int .i64 p ∧ j = .int .i64 q ∧ a ≤ p ∧ p ≤ q ∧ q ≤ m ∧ (∀ z ∈ L.take (p - a), ¬ t x < t z) ∧ (∀ z ∈ L.drop (q - a), t x < t z) ∧ wx = w.drewN d) (fun i j _ => (intOf j).toNat - (intOf i).toNat)
  case atStart => exact ⟨a, m, 0, rfl, rfl, by omega, ham, by omega, by simp, by rw [List.drop_of_length_le (by have := HM.out; rw [HLL.out]; omega)]; simp, rfl⟩
  case round =>
    obtain ⟨p, q, d, rfl, rfl, hp, hpq, hqb, hlo, hhi, rfl⟩ := hrel
    have hp0 : (0 : Int) ≤ (p : Int) := by omega
    have hq0 : (0 : Int) ≤ (q : Int) := by omega
    by_cases hlt : p < q
    · have hd : decide ((p : Int) < (q : Int)) = true := by rw [decide_eq_true_iff]; omega
      have HTD : Hid (TimesAt (w.drewN d) bx gl o n c t) := Lib.hid HT.out
      have HRD : Hid (IR (w.drewN d) g (A ++ (L ++ (x :: B)))) := Lib.hid HROW.out
      have hax' : (w.drewN d).cell? ⟨g, m, none⟩ = some (.int .i64 (x : Int)) := hax
      obtain ⟨wd, hwd⟩ : ∃ wd, w.drewN d = wd := ⟨_, rfl⟩
      rw [hwd] at HTD HRD hax' ⊢
      have HWD := Lib.hid hwd
      clear hwd hax
      have hlt2 : (p : Int) < (q : Int) := by omega
      obtain ⟨h, hh⟩ : ∃ h : Nat, h = (p + q) / 2 := ⟨_, rfl⟩
      have e1 : ((p : Int) + (q : Int)) / 2 = (h : Int) := by omega
      obtain ⟨y, hy⟩ : ∃ y, L[h - a]? = some y := ⟨_, List.getElem?_eq_getElem (by have := HM.out; rw [HLL.out]; omega)⟩
      have hcy : wd.cell? ⟨g, h, none⟩ = some (.int .i64 (y : Int)) := (HRD.out h y (by have := get_left (A := A) (B := x :: B) hy; rw [HA.out, show a + (h - a) = h by omega] at this; exact this)).1
      have hyn := HLN.out y (List.mem_of_getElem? hy)
      have HC := Lib.hid (fun mm => closure_at HTD.out hn HX.out hyn mm)
      have hneg := cmpI_lt (t x) (t y)
      generalize cmpI (t x) (t y) = cv at *
      have i1 : (h : Int) < (N : Int) := by omega
      have i2 : (m : Int) < (N : Int) := by omega
      have i3 : (0 : Int) ≤ (h : Int) := by omega
      have i4 : (0 : Int) ≤ (m : Int) := by omega
      have d1 : decide (h < N) = true := by rw [decide_eq_true_iff]; omega
      have d2 : decide (m < N) = true := by rw [decide_eq_true_iff]; omega
      have hph : p ≤ h := by omega
      have hhq : h < q := by omega
      have hah : a ≤ h := by omega
      have HLO := Lib.hid hlo
      have HHI := Lib.hid hhi
      have HY := Lib.hid hy
      clear hh hlo hhi hy hyn
      by_cases hxy : t x < t y
      · have hn1 : decide (cv < 0) = true := by rw [hneg]; exact decide_eq_true hxy
        have hn2 : cv < 0 := of_decide_eq_true hn1
        clear hneg
        go_upto_region 17 with fail
        go_quiet ((go_at_call 51; exact Calls.quiet_of (HC.out _)))
        go_wp2_with fail
        go_roundw
        case rel => exact ⟨p, h, d + nq, rfl, rfl, hp, hph, by omega, HLO.out, srt_drop_gt HL.out HY.out hxy, by rw [← HWD.out, World.drewN_drewN]⟩
        case measure => simp [intOf]; omega
      · have hn1 : decide (cv < 0) = false := by rw [hneg]; exact decide_eq_false hxy
        have hn2 : ¬ cv < 0 := of_decide_eq_false hn1
        clear hneg
        go_upto_region 17 with fail
        go_quiet ((go_at_call 51; exact Calls.quiet_of (HC.out _)))
        go_wp2_with fail
        go_roundw
        case rel =>
          refine ⟨h + 1, q, d + nq, by push_cast; rfl, rfl, by omega, by omega, hqb, ?_, HHI.out, by rw [← HWD.out, World.drewN_drewN]⟩
          rw [show h + 1 - a = h - a + 1 by omega]
          exact srt_take_le HL.out HY.out hxy
        case measure => simp [intOf]; omega
    · obtain rfl : p = q := by omega
      have hd : decide ((p : Int) < (p : Int)) = false := by simp
      obtain ⟨u, hu⟩ : ∃ u, p = a + u := ⟨p - a, by omega⟩
      have hul : u ≤ ll := by have := HM.out; omega
      rw [show p - a = u by omega] at hlo hhi
      have HSRT := Lib.hid (srt_put (L := L.take u) (R := L.drop u) (x := x) (by rw [List.take_append_drop]; exact HL.out) (fun y hy => bf_of_le (HLOW.out y (List.mem_of_mem_take hy)) (hlo y hy)) (fun y hy => bf_of_lt (hhi y hy)))
      have HU := Lib.hid hu
      clear hlo hhi hlt hu
      go_wp2_with fail
      go_loopw [17] (fun k wx => ∃ (r kk : Nat), kk = a + r ∧ k = .int .i64 kk ∧ u ≤ r ∧ r ≤ ll ∧ IR wx g (A ++ (L.take r ++ (x :: (L.drop r ++ B)))) ∧ w.grownBy wx (some g)) (fun k _ => (intOf k).toNat)
      case atStart => exact ⟨ll, m, by have := HM.out; omega, rfl, hul, by omega, by rw [← HLL.out, List.take_length, List.drop_length, List.nil_append]; exact HROW.out.drewN d, grown_drewN _ _ _⟩
      case round =>
        obtain ⟨r, kk, hkk, rfl, hur, hrl, hrow, hgr⟩ := hrel
        by_cases hlt : u < r
        · obtain ⟨r0, hr0⟩ : ∃ r0, r = r0 + 1 := ⟨r - 1, by omega⟩
          obtain ⟨z, hz⟩ : ∃ z, L[r0]? = some z := ⟨_, List.getElem?_eq_getElem (by rw [HLL.out]; omega)⟩
          have hform : A ++ (L.take r ++ (x :: (L.drop r ++ B))) = (A ++ L.take r0) ++ z :: ([] ++ x :: (L.drop r ++ B)) := by rw [hr0, take_at hz]; simp [List.append_assoc]
          obtain ⟨k2, hk2⟩ : ∃ k2, kk = k2 + 1 := ⟨kk - 1, by omega⟩
          have hlen : (A ++ L.take r0).length = k2 := by rw [List.length_append, HA.out, List.length_take, HLL.out]; omega
          rw [hform] at hrow
          obtain ⟨vz, fz⟩ := hrow k2 z (by rw [← hlen]; exact get_one _ _ _)
          obtain ⟨vx, fx⟩ := hrow kk x (by rw [hk2, ← hlen]; exact get_two _ [] _ _ _)
          have hsw := hrow.swap2
          rw [hlen, show k2 + 1 + ([] : List Nat).length = kk by rw [hk2]; rfl] at hsw
          have HSW : Hid (IR ((wr.setCell ⟨g, kk, none⟩ (.int .i64 (z : Int))).setCell ⟨g, k2, none⟩ (.int .i64 (x : Int))) g (A ++ (L.take r0 ++ (x :: (L.drop r0 ++ B))))) := Lib.hid (by rw [drop_at hz]; rw [hr0] at hsw; simpa [List.append_assoc] using hsw)
          have HG := Lib.hid hgr
          have hkm : kk ≤ m := by have := HM.out; omega
          have e1 : (kk : Int) - 1 = (k2 : Int) := by omega
          have e2 : IntKind.i64.wrap (k2 : Int) = (k2 : Int) := IntWalk.i64_in _ (by omega)
          have e3 : IntKind.i64.wrap ((kk : Int) - 1) = (k2 : Int) := by rw [e1]; exact e2
          have hpk : p < kk := by have := HU.out; omega
          have i1 : (kk : Int) < (N : Int) := by omega
          have i2 : (k2 : Int) < (N : Int) := by omega
          have i3 : (0 : Int) ≤ (kk : Int) := by omega
          have i4 : (0 : Int) ≤ (k2 : Int) := by omega
          have i5 : (p : Int) < (kk : Int) := by omega
          have d1 : decide ((p : Int) < (kk : Int)) = true := by rw [decide_eq_true_iff]; omega
          have d2 : decide (p < kk) = true := by rw [decide_eq_true_iff]; omega
          have d3 : decide (kk < N) = true := by rw [decide_eq_true_iff]; omega
          have d4 : decide (k2 < N) = true := by rw [decide_eq_true_iff]; omega
          have hne : ¬ (kk = k2) := by omega
          have HKK := Lib.hid hkk
          have HK2 := Lib.hid hk2
          have HR0 := Lib.hid hr0
          have hur0 : u ≤ r0 := by omega
          have hrl0 : r0 ≤ ll := by omega
          clear hform hlen hrow hgr hsw hz hkk hk2 hr0
          go_upto_region 23 with fail
          go_region
          go_wp2_with fail
          go_roundw
          case rel => exact ⟨r0, k2, by have := HKK.out; have := HK2.out; have := HR0.out; omega, rfl, hur0, hrl0, HSW.out, grown_trans (grown_trans (grown_trans HG.out (grown_set _ _ _ _)) (grown_set _ _ _ _)) (grown_drewN _ 1 _)⟩
          case measure => have := HK2.out; simp [intOf]; omega
        · obtain rfl : r = u := by omega
          have hkv : kk = p := by have := HU.out; omega
          subst hkv
          have hd1 : decide ((kk : Int) < (kk : Int)) = false := by simp
          have hd2 : decide (kk < kk) = false := by simp
          have HF : Hid (∃ S, S.Perm (L ++ [x]) ∧ Srt t S ∧ IR wr g (A ++ (S ++ B)) ∧ w.grownBy wr (some g)) := Lib.hid ⟨_, perm_last x L r, HSRT.out, by simpa [List.append_assoc] using hrow, hgr⟩
          clear hrow hgr hkk
          go_wp2_with fail
          exact bodyPost_ret (results_none rfl _ _ _) rfl ⟨rfl, HF.out⟩
end Go.Proofs.YtinknenfhohamaaGreatDoor
