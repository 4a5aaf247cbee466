/- The comparison of two events by their times, as a closure over the list. The insertion sort of the library, over places whose numbers ascend. -/
import Derived.Test.YtinknenfhohamaaGreatDoorG01
namespace Go.Proofs.YtinknenfhohamaaGreatDoor
open Go.RowKit
set_option maxRecDepth 100000

theorem ret_int {k : IntKind} {a b : Int} (h : a = b) : Ending.returned (Value.int k a) = .returned (.int k b) := by rw [h]
def cmpI (x y : Int) : Int := if x < y then -1 else if y < x then 1 else 0
theorem cmpI_lt (x y : Int) : decide (cmpI x y < 0) = decide (x < y) := by
  unfold cmpI
  by_cases h : x < y
  · simp [h]
  · by_cases h2 : y < x <;> simp [h, h2]
theorem isNaN_any (x : Int) (w : World) : Calls Tryz.prog 115 #[.int .i64 x] w fun e w' => e = .returned (.bool false) ∧ w = w' := by
  go_enter Tryz.func115, Tryz.ntmps115
  go_wp2_with fail
  go_ret
  exact ⟨rfl, rfl⟩
theorem compare_any (x y : Int) (w : World) : Calls Tryz.prog 52 #[.int .i64 x, .int .i64 y] w fun e w' => e = .returned (.int .i64 (cmpI x y)) ∧ w = w' := by
  rcases Int.lt_trichotomy x y with h | rfl | h
  · have e : cmpI x y = -1 := by unfold cmpI; rw [if_pos h]
    rw [e]
    go_enter Tryz.func52, Tryz.ntmps52
    go_wp2_with fail
    refine (isNaN_any x w).mono ?_
    rintro e w1 ⟨rfl, rfl⟩
    go_wp2_with fail
    refine (isNaN_any y w).mono ?_
    rintro e w1 ⟨rfl, rfl⟩
    go_wp2_with fail
    go_ret
    exact ⟨rfl, rfl⟩
  · have e : cmpI x x = 0 := by unfold cmpI; rw [if_neg (by omega), if_neg (by omega)]
    rw [e]
    go_enter Tryz.func52, Tryz.ntmps52
    go_wp2_with fail
    refine (isNaN_any x w).mono ?_
    rintro e w1 ⟨rfl, rfl⟩
    go_wp2_with fail
    refine (isNaN_any x w).mono ?_
    rintro e w1 ⟨rfl, rfl⟩
    go_wp2_with fail
    go_ret
    exact ⟨rfl, rfl⟩
  · have e : cmpI x y = 1 := by unfold cmpI; rw [if_neg (by omega), if_pos h]
    have h2 : ¬ x < y := by omega
    rw [e]
    go_enter Tryz.func52, Tryz.ntmps52
    go_wp2_with fail
    refine (isNaN_any x w).mono ?_
    rintro e w1 ⟨rfl, rfl⟩
    go_wp2_with fail
    refine (isNaN_any y w).mono ?_
    rintro e w1 ⟨rfl, rfl⟩
    go_wp2_with fail
    go_ret
    exact ⟨rfl, rfl⟩
/-- The times of a list of events in memory, behind the variable that the closure holds. -/
def TimesAt (W : World) (bx gl o n c : Nat) (t : Nat → Int) : Prop := W.cell? ⟨bx, 0, none⟩ = some (.slice (some ⟨gl, o, none⟩) n c) ∧ ∀ i, i < n → W.cell? ⟨gl, o + i * 4, none⟩ = some (.int .i64 (t i))
theorem TimesAt.grown {W W' : World} {bx gl o n c : Nat} {t : Nat → Int} {g : Nat} (h : TimesAt W bx gl o n c t) (hg : W.grownBy W' (some g)) (h1 : bx ≠ g) (h2 : gl ≠ g) : TimesAt W' bx gl o n c t :=
  ⟨hg.cell h.1 (by intro he; injection he with he; exact h1 he), fun i hi => hg.cell (h.2 i hi) (by intro he; injection he with he; exact h2 he)⟩
set_option maxHeartbeats 1000000 in
theorem closure_any (bx gl o n c : Nat) (t : Nat → Int) (i k : Nat) (w : World) (h : TimesAt w bx gl o n c t) (hi : i < n) (hk : k < n) (_hn : n ≤ 1000) :
    Calls Tryz.prog 51 #[.int .i64 i, .int .i64 k, .pointer (some ⟨bx, 0, none⟩)] w fun e w' => e = .returned (.int .i64 (cmpI (t i) (t k))) ∧ ∃ q, w' = w.drewN q := by
  obtain ⟨h1, h2⟩ := h
  have x1 := h2 i hi
  have x2 := h2 k hk
  have HC := Lib.hid (fun W => compare_any (t i) (t k) W)
  have i0 : (0 : Int) ≤ (i : Int) := by omega
  have k0 : (0 : Int) ≤ (k : Int) := by omega
  have i1 : (i : Int) < (n : Int) := by omega
  have k1 : (k : Int) < (n : Int) := by omega
  have d1 : decide (i < n) = true := by rw [decide_eq_true_iff]; omega
  have d2 : decide (k < n) = true := by rw [decide_eq_true_iff]; omega
  clear h2
  go_enter Tryz.func51, Tryz.ntmps51
  go_wp2_with fail
  go_quiet ((go_at_call 52; exact Calls.quiet_of_same ((HC.out _).mono fun e w' ⟨a, b⟩ => ⟨a, b.symm⟩)))
  go_wp2_with fail
  go_ret
  exact ⟨rfl, _, rfl⟩
end Go.Proofs.YtinknenfhohamaaGreatDoor

namespace Go.Proofs.YtinknenfhohamaaGreatDoor
open Go.RowKit
set_option maxRecDepth 100000

theorem perm_snoc {T S : List Nat} {k x : Nat} (h : T.Perm (S.take k)) (hx : S[k]? = some x) : (T ++ [x]).Perm (S.take (k + 1)) := by
  rw [List.take_add_one, hx]
  exact h.append_right [x]
theorem low_of {S : List Nat} {k x : Nat} (h : S.Pairwise (· < ·)) (hx : S[k]? = some x) : ∀ y ∈ S.take k, y < x := by
  intro y hy
  obtain ⟨i, hi⟩ := List.getElem?_of_mem hy
  rw [List.getElem?_take] at hi
  split at hi
  · obtain ⟨hi1, rfl⟩ := List.getElem?_eq_some_iff.1 hi
    obtain ⟨hx1, rfl⟩ := List.getElem?_eq_some_iff.1 hx
    exact List.pairwise_iff_getElem.1 h i k hi1 hx1 (by omega)
  · cases hi
theorem split_last {L : List Nat} (h : L ≠ []) : ∃ L0 y, L = L0 ++ [y] := ⟨L.dropLast, L.getLast h, (List.dropLast_concat_getLast h).symm⟩
set_option maxHeartbeats 2000000 in
theorem insSort_any (g cap N bx gl o n c : Nat) (t : Nat → Int) (A S B : List Nat) (a b : Nat) (w : World) (hrow : IR w g (A ++ (S ++ B))) (hT : TimesAt w bx gl o n c t) (h1 : bx ≠ g) (h2 : gl ≠ g) (ha : A.length = a) (hb : a + S.length = b) (hN : b + B.length = N) (hN2 : N ≤ 1000) (hn : n ≤ 1000)
    (hS : S.Pairwise (· < ·)) (hSn : ∀ x ∈ S, x < n) :
    Calls Tryz.prog 151 #[.slice (some ⟨g, 0, none⟩) N cap, .int .i64 a, .int .i64 b, .func (.func 51) #[] #[.pointer (some ⟨bx, 0, none⟩)]] w fun e w' => e = .returned (.tuple #[]) ∧ ∃ S', S'.Perm S ∧ Srt t S' ∧ IR w' g (A ++ (S' ++ B)) ∧ w.grownBy w' (some g) := by
  have HA := Lib.hid ha
  have HR := Lib.hid hrow
  have HT := Lib.hid hT
  have HSP := Lib.hid hS
  have HSN := Lib.hid hSn
  obtain ⟨ls, hls⟩ : ∃ ls, S.length = ls := ⟨_, rfl⟩
  have HLS := Lib.hid hls
  rw [hls] at hb
  have hbN : b ≤ N := by omega
  by_cases h0 : ls = 0
  · subst h0
    have hS0 : S = [] := List.length_eq_zero_iff.1 hls
    subst hS0
    obtain rfl : a = b := by omega
    have hd : decide ((a : Int) + 1 < (a : Int)) = false := by rw [decide_eq_false_iff_not]; omega
    clear hls hrow hT hS hSn ha hN
    go_enter Tryz.func151, Tryz.ntmps151
    go_wp2_with fail
    go_loopw [8] (fun i wx => i = .int .i64 ((a : Int) + 1) ∧ w = wx) (fun _ _ => 0)
    case atStart => exact ⟨rfl, rfl⟩
    case round =>
      obtain ⟨rfl, rfl⟩ := hrel
      go_wp2_with fail
      go_end0
      exact ⟨rfl, [], List.Perm.refl _, List.Pairwise.nil, HR.out, World.grownBy.refl _ _⟩
  · have hlb : a + ls = b := hb
    clear hls hrow hT hS hSn ha hN hb
    go_enter Tryz.func151, Tryz.ntmps151
    go_wp2_with fail
    go_loopw [8] (fun i wx => ∃ (k : Nat) (T : List Nat), 1 ≤ k ∧ k ≤ ls ∧ i = .int .i64 ((a : Int) + (k : Int)) ∧ T.Perm (S.take k) ∧ Srt t T ∧ IR wx g (A ++ (T ++ (S.drop k ++ B))) ∧ w.grownBy wx (some g)) (fun i _ => b - (intOf i).toNat)
    case atStart =>
      refine ⟨1, S.take 1, by omega, by omega, rfl, List.Perm.refl _, ?_, by rw [← List.append_assoc (S.take 1), List.take_append_drop]; exact HR.out, World.grownBy.refl _ _⟩
      match S with
      | [] => exact List.Pairwise.nil
      | x :: _ => exact List.pairwise_singleton _ _
    case round =>
      obtain ⟨k, T, hk1, hk2, rfl, hperm, hsrt, hrow, hgr⟩ := hrel
      obtain ⟨wo, rfl⟩ : ∃ wo, wo = wr := ⟨_, rfl⟩
      by_cases hlt : k < ls
      · obtain ⟨x, hx⟩ : ∃ x, S[k]? = some x := ⟨_, List.getElem?_eq_getElem (by rw [HLS.out]; exact hlt)⟩
        have hxd : S.drop k = x :: S.drop (k + 1) := (List.drop_eq_getElem_cons (by rw [HLS.out]; exact hlt)).trans (by rw [(List.getElem?_eq_some_iff.1 hx).2])
        have HXN := Lib.hid (HSN.out x (List.mem_of_getElem? hx))
        have hTl : T.length = k := by rw [hperm.length_eq, List.length_take, HLS.out]; omega
        have HLOW : Hid (∀ y ∈ T, y < x) := Lib.hid (fun y hy => low_of HSP.out hx y (hperm.mem_iff.1 hy))
        have HTN : Hid (∀ y ∈ T, y < n) := Lib.hid (fun y hy => HSN.out y (List.mem_of_mem_take (hperm.mem_iff.1 hy)))
        have HPS := Lib.hid (perm_snoc hperm hx)
        have HSRT := Lib.hid hsrt
        have HTL := Lib.hid hTl
        rw [hxd] at hrow
        have HROW := Lib.hid hrow
        have HG := Lib.hid hgr
        have hd : decide ((a : Int) + (k : Int) < (b : Int)) = true := by rw [decide_eq_true_iff]; omega
        have hlt2 : (a : Int) + (k : Int) < (b : Int) := by omega
        clear hx hxd hperm hsrt hTl hrow hgr
        go_wp2_with fail
        go_loopw [9] (fun j wx => ∃ (L R : List Nat) (p : Nat), T = L ++ R ∧ p = a + L.length ∧ j = .int .i64 (p : Int) ∧ IR wx g (A ++ (L ++ (x :: (R ++ (S.drop (k + 1) ++ B))))) ∧ (∀ y ∈ R, t x < t y) ∧ w.grownBy wx (some g)) (fun j _ => (intOf j).toNat - a)
        case atStart => exact ⟨T, [], a + k, by simp, by rw [HTL.out], by push_cast; rfl, by simpa using HROW.out, by simp, HG.out⟩
        case round =>
          obtain ⟨L, R, p, hLR, hp, rfl, hrow, hR, hgr⟩ := hrel
          have HFIN : Hid (∀ W, (L = [] ∨ ∃ L0 y, L = L0 ++ [y] ∧ ¬ t x < t y) → IR W g (A ++ (L ++ (x :: (R ++ (S.drop (k + 1) ++ B))))) → w.grownBy W (some g) →
              (∃ (k' : Nat) (T' : List Nat), 1 ≤ k' ∧ k' ≤ ls ∧ Value.int .i64 ((a : Int) + (k : Int) + 1) = .int .i64 ((a : Int) + (k' : Int)) ∧ T'.Perm (S.take k') ∧ Srt t T' ∧ IR W g (A ++ (T' ++ (S.drop k' ++ B))) ∧ w.grownBy W (some g))) := Lib.hid (by
            intro W hL hr hg
            refine ⟨k + 1, L ++ x :: R, by omega, by omega, by push_cast; rw [Int.add_assoc], ?_, ?_, by simpa [List.append_assoc] using hr, hg⟩
            · refine List.Perm.trans ?_ HPS.out
              rw [hLR, List.append_assoc]
              exact List.Perm.append_left L (List.perm_append_singleton x R).symm
            · refine ins_put (by rw [← hLR]; exact HSRT.out) ?_ hR hL
              intro y hy z hz
              rw [List.mem_singleton.1 hz]
              exact HLOW.out y (by rw [hLR]; exact List.mem_append_left _ hy))
          have HPL := Lib.hid hp
          have HLR := Lib.hid hLR
          have HROW := Lib.hid hrow
          have HRR := Lib.hid hR
          have HGR := Lib.hid hgr
          have hLk : L.length ≤ k := by have := HTL.out; rw [hLR, List.length_append] at this; omega
          by_cases hL0 : L = []
          · have hpa : p = a := by rw [hp, hL0]; rfl
            subst hpa
            have hd1 : decide ((p : Int) < (p : Int)) = false := by simp
            have hd2 : decide (p < p) = false := by simp
            clear hLR hp hrow hR hgr hLk
            go_upto_region 4 with fail
            go_quiet (fail)
            go_wp2_with fail
            exact ⟨HFIN.out _ (.inl hL0) (HROW.out.drewN _) (grown_trans HGR.out (grown_drewN _ _ _)), by simp [intOf]; omega⟩
          · obtain ⟨L0, y, hLy⟩ := split_last hL0
            obtain ⟨q, hq⟩ : ∃ q, q = a + L0.length := ⟨_, rfl⟩
            have hpq : p = q + 1 := by rw [hp, hLy, List.length_append]; simp; omega
            have hform : A ++ (L ++ (x :: (R ++ (S.drop (k + 1) ++ B)))) = (A ++ L0) ++ y :: ([] ++ x :: (R ++ (S.drop (k + 1) ++ B))) := by rw [hLy]; simp [List.append_assoc]
            have hlen : (A ++ L0).length = q := by rw [List.length_append, HA.out, hq]
            rw [hform] at hrow
            obtain ⟨vy, fy⟩ := hrow q y (by rw [← hlen]; exact get_one _ _ _)
            obtain ⟨vx, fx⟩ := hrow p x (by rw [hpq, ← hlen]; exact get_two _ [] _ _ _)
            have hsw := hrow.swap2
            rw [hlen] at hsw
            rw [show q + 1 + ([] : List Nat).length = p by rw [hpq]; rfl] at hsw
            have HSW : Hid (IR ((wr.setCell ⟨g, p, none⟩ (.int .i64 (y : Int))).setCell ⟨g, q, none⟩ (.int .i64 (x : Int))) g (A ++ (L0 ++ (x :: ((y :: R) ++ (S.drop (k + 1) ++ B)))))) := Lib.hid (by simpa [List.append_assoc] using hsw)
            have hyT : y ∈ T := by rw [hLR, hLy]; simp
            have HC : Hid (∀ m, Calls Tryz.prog 51 #[.int .i64 (x : Int), .int .i64 (y : Int), .pointer (some ⟨bx, 0, none⟩)] (wr.drewN m) fun e w' => e = .returned (.int .i64 (cmpI (t x) (t y))) ∧ ∃ q, w' = (wr.drewN m).drewN q) := Lib.hid (fun m =>
              closure_any bx gl o n c t x y (wr.drewN m) ((HT.out.grown HGR.out h1 h2).grown (grown_drewN _ _ (some g)) h1 h2) HXN.out (HTN.out y hyT) hn)
            have hlt4 := cmpI_lt (t x) (t y)
            generalize cmpI (t x) (t y) = cv at *
            have e1 : (p : Int) - 1 = (q : Int) := by omega
            have e2 : IntKind.i64.wrap (q : Int) = (q : Int) := IntWalk.i64_in _ (by omega)
            have e3 : IntKind.i64.wrap ((p : Int) - 1) = (q : Int) := by rw [e1]; exact e2
            have hpN : p < N := by omega
            have i1 : (p : Int) < (N : Int) := by omega
            have i2 : (q : Int) < (N : Int) := by omega
            have i3 : (0 : Int) ≤ (p : Int) := by omega
            have i4 : (0 : Int) ≤ (q : Int) := by omega
            have i5 : (a : Int) < (p : Int) := by omega
            have d1 : decide ((a : Int) < (p : Int)) = true := by rw [decide_eq_true_iff]; omega
            have d2 : decide (a < p) = true := by rw [decide_eq_true_iff]; omega
            have d3 : decide (p < N) = true := by rw [decide_eq_true_iff]; omega
            have d4 : decide (q < N) = true := by rw [decide_eq_true_iff]; omega
            have HLY := Lib.hid hLy
            have HQ := Lib.hid hq
            have hpq2 : ¬ (p = q) := by omega
            have HPQ := Lib.hid hpq
            clear hLR hp hrow hR hgr hLk hLy hq hpq hform hlen hsw hyT
            by_cases hxy : t x < t y
            · have hneg : decide (cv < 0) = true := by rw [hlt4]; exact decide_eq_true hxy
              have hneg2 : cv < 0 := of_decide_eq_true hneg
              clear hlt4
              go_upto_region 4 with fail
              go_quiet ((go_at_call 51; exact Calls.quiet_of (HC.out _)))
              go_upto_region 6 with fail
              go_region
              go_wp2_with fail
              go_roundw
              case rel =>
                refine ⟨L0, y :: R, q, by rw [HLR.out, HLY.out]; simp, HQ.out, rfl, HSW.out, ?_, ?_⟩
                · intro z hz
                  rcases List.mem_cons.1 hz with rfl | hz
                  · exact hxy
                  · exact HRR.out z hz
                · exact grown_trans (grown_trans (grown_trans (grown_trans HGR.out (grown_drewN _ nq _)) (grown_set _ _ _ _)) (grown_set _ _ _ _)) (grown_drewN _ 1 _)
              case measure => have := HPQ.out; have := HQ.out; simp [intOf]; omega
            · have hneg : decide (cv < 0) = false := by rw [hlt4]; exact decide_eq_false hxy
              have hneg2 : ¬ cv < 0 := of_decide_eq_false hneg
              clear hlt4
              go_upto_region 4 with fail
              go_quiet ((go_at_call 51; exact Calls.quiet_of (HC.out _)))
              go_wp2_with fail
              exact ⟨HFIN.out _ (.inr ⟨L0, y, HLY.out, hxy⟩) (HROW.out.drewN _) (grown_trans HGR.out (grown_drewN _ _ _)), by simp [intOf]; omega⟩
      · obtain rfl : k = ls := by omega
        have hfin : ∃ S', S'.Perm S ∧ Srt t S' ∧ IR wo g (A ++ (S' ++ B)) ∧ w.grownBy wo (some g) := by
          refine ⟨T, ?_, hsrt, ?_, hgr⟩
          · rw [← HLS.out, List.take_length] at hperm; exact hperm
          · rw [← HLS.out, List.drop_length, List.nil_append] at hrow; exact hrow
        have HF := Lib.hid hfin
        have hd : decide ((a : Int) + (k : Int) < (b : Int)) = false := by rw [decide_eq_false_iff_not]; omega
        clear hperm hsrt hrow hgr hfin
        go_wp2_with fail
        go_end0
        exact ⟨rfl, HF.out⟩
end Go.Proofs.YtinknenfhohamaaGreatDoor
