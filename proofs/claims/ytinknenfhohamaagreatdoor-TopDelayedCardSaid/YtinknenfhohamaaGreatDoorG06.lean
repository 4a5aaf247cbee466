/- The library's stable sort, over fewer than forty places whose numbers ascend. -/
import Derived.Test.YtinknenfhohamaaGreatDoorG05
namespace Go.Proofs.YtinknenfhohamaaGreatDoor
open Go.RowKit
set_option maxRecDepth 100000

theorem asc_low {S : List Nat} (h : S.Pairwise (· < ·)) (k : Nat) : Low (S.take k) (S.drop k) := by
  rw [← List.take_append_drop k S] at h
  exact (List.pairwise_append.1 h).2.2
set_option maxHeartbeats 2000000 in
theorem stable_any (g cap N bx gl o n c : Nat) (t : Nat → Int) (S : List Nat) (w : World) (hrow : IR w g S) (hT : TimesAt w bx gl o n c t) (h1 : bx ≠ g) (h2 : gl ≠ g) (hN : S.length = N) (hN2 : N < 40) (hn : n ≤ 1000) (hS : S.Pairwise (· < ·)) (hSn : ∀ x ∈ S, x < n) :
    Calls Tryz.prog 114 #[.slice (some ⟨g, 0, none⟩) N cap, .int .i64 N, .func (.func 51) #[] #[.pointer (some ⟨bx, 0, none⟩)]] w fun e w' => e = .returned (.tuple #[]) ∧ ∃ S', S'.Perm S ∧ Srt t S' ∧ IR w' g S' ∧ w.grownBy w' (some g) := by
  have HROW := Lib.hid hrow
  have HT := Lib.hid hT
  have HN := Lib.hid hN
  have HS := Lib.hid hS
  have HSN := Lib.hid hSn
  clear hrow hT hN hS hSn
  by_cases hlt : N < 20
  · have hd : decide ((20 : Int) ≤ (N : Int)) = false := by rw [decide_eq_false_iff_not]; omega
    have hd1 : ¬ ((20 : Int) ≤ (N : Int)) := by omega
    have hd2 : decide ((20 : Int) < (N : Int)) = false := by rw [decide_eq_false_iff_not]; omega
    have hd3 : ¬ ((20 : Int) < (N : Int)) := by omega
    have HI := Lib.hid (insSort_any g cap N bx gl o n c t [] S [] 0 N w (by simpa using HROW.out) HT.out h1 h2 rfl (by rw [HN.out]; omega) (by simp) (by omega) hn HS.out HSN.out)
    go_enter Tryz.func114, Tryz.ntmps114
    go_wp2_with fail
    go_loopw [7, 8] (fun a b wx => a = .int .i64 0 ∧ b = .int .i64 20 ∧ w = wx) (fun _ _ _ => 0)
    case atStart => exact ⟨rfl, rfl, rfl⟩
    case round =>
      obtain ⟨rfl, rfl, rfl⟩ := hrel
      go_wp2_with fail
      refine HI.out.mono ?_
      rintro e w1 ⟨rfl, S', hp, hs, hr, hg⟩
      have HF : Hid (∃ S', S'.Perm S ∧ Srt t S' ∧ IR w1 g S' ∧ w.grownBy w1 (some g)) := Lib.hid ⟨S', hp, hs, by simpa using hr, hg⟩
      clear hp hs hr hg
      go_wp2_with fail
      go_loopw [6, 7, 8] (fun s a b wx => s = .int .i64 20 ∧ w1 = wx) (fun _ _ _ _ => 0)
      case atStart => exact ⟨rfl, rfl⟩
      case round =>
        obtain ⟨rfl, rfl⟩ := hrel
        go_wp2_with fail
        go_end0
        exact ⟨rfl, HF.out⟩
  · have hd : decide ((20 : Int) ≤ (N : Int)) = true := by rw [decide_eq_true_iff]; omega
    have hd1 : (20 : Int) ≤ (N : Int) := by omega
    have hd2 : decide ((40 : Int) ≤ (N : Int)) = false := by rw [decide_eq_false_iff_not]; omega
    have hd3 : ¬ ((40 : Int) ≤ (N : Int)) := by omega
    have hd4 : decide ((40 : Int) < (N : Int)) = false := by rw [decide_eq_false_iff_not]; omega
    have hd5 : ¬ ((40 : Int) < (N : Int)) := by omega
    have hX : (S.take 20).length = 20 := by rw [List.length_take, HN.out]; omega
    have hY : 20 + (S.drop 20).length = N := by rw [List.length_drop, HN.out]; omega
    have HX := Lib.hid hX
    have HY := Lib.hid hY
    have HI := Lib.hid (insSort_any g cap N bx gl o n c t [] (S.take 20) (S.drop 20) 0 20 w (by rw [List.nil_append, List.take_append_drop]; exact HROW.out) HT.out h1 h2 rfl (by rw [hX]) (by exact hY) (by omega) hn (HS.out.sublist (List.take_sublist _ _)) (fun x hx => HSN.out x (List.mem_of_mem_take hx)))
    clear hX hY
    go_enter Tryz.func114, Tryz.ntmps114
    go_wp2_with fail
    go_loopw [7, 8] (fun a b wx => (a = .int .i64 0 ∧ b = .int .i64 20 ∧ w = wx) ∨ (a = .int .i64 20 ∧ b = .int .i64 40 ∧ ∃ X', X'.Perm (S.take 20) ∧ Srt t X' ∧ IR wx g (X' ++ S.drop 20) ∧ w.grownBy wx (some g))) (fun _ b _ => 40 - (intOf b).toNat)
    case atStart => exact .inl ⟨rfl, rfl, rfl⟩
    case round =>
      rcases hrel with ⟨rfl, rfl, rfl⟩ | ⟨rfl, rfl, X', hXp, hXs, hXr, hXg⟩
      · go_wp2_with fail
        refine HI.out.mono ?_
        rintro e w1 ⟨rfl, S', hp, hs, hr, hg⟩
        have HF : Hid (∃ X', X'.Perm (S.take 20) ∧ Srt t X' ∧ IR w1 g (X' ++ S.drop 20) ∧ w.grownBy w1 (some g)) := Lib.hid ⟨S', hp, hs, by simpa using hr, hg⟩
        clear hp hs hr hg
        go_wp2_with fail
        go_roundw
        case rel => exact .inr ⟨rfl, rfl, HF.out⟩
        case measure => simp [intOf]
      · have HXP := Lib.hid hXp
        have HXS := Lib.hid hXs
        have HXG := Lib.hid hXg
        have HT1 := Lib.hid (HT.out.grown hXg h1 h2)
        have HI2 := Lib.hid (insSort_any g cap N bx gl o n c t X' (S.drop 20) [] 20 N wr (by simpa using hXr) HT1.out h1 h2 (by rw [hXp.length_eq, HX.out]) HY.out (by simp) (by omega) hn (HS.out.sublist (List.drop_sublist _ _)) (fun x hx => HSN.out x (List.mem_of_mem_drop hx)))
        clear hXp hXs hXr hXg
        go_wp2_with fail
        refine HI2.out.mono ?_
        rintro e w1 ⟨rfl, Y', hp, hs, hr, hg⟩
        have HYP := Lib.hid hp
        have HYS := Lib.hid hs
        have HR1 : Hid (IR w1 g (X' ++ Y')) := Lib.hid (by simpa using hr)
        have HG1 := Lib.hid (grown_trans HXG.out hg)
        clear hp hs hr hg
        by_cases hN20 : N = 20
        · subst hN20
          have HF : Hid (∃ S', S'.Perm S ∧ Srt t S' ∧ IR w1 g S' ∧ w.grownBy w1 (some g)) := Lib.hid (by
            have hy0 : Y' = [] := List.length_eq_zero_iff.1 (by rw [HYP.out.length_eq]; have := HY.out; omega)
            have h20 : S.take 20 = S := List.take_of_length_le (by rw [HN.out]; omega)
            refine ⟨X', by have := HXP.out; rw [h20] at this; exact this, HXS.out, by have := HR1.out; rw [hy0, List.append_nil] at this; exact this, HG1.out⟩)
          go_wp2_with fail
          go_loopw [6, 7, 8] (fun s a b wx => s = .int .i64 20 ∧ w1 = wx) (fun _ _ _ _ => 0)
          case atStart => exact ⟨rfl, rfl⟩
          case round =>
            obtain ⟨rfl, rfl⟩ := hrel
            go_wp2_with fail
            go_end0
            exact ⟨rfl, HF.out⟩
        · have he : decide ((20 : Int) < (N : Int)) = true := by rw [decide_eq_true_iff]; omega
          have he1 : (20 : Int) < (N : Int) := by omega
          have HT2 := Lib.hid (HT.out.grown HG1.out h1 h2)
          have HMG := Lib.hid (symMerge_any g cap N bx gl o n c t h1 h2 (by omega) hn 1000 [] X' Y' [] 0 20 N w1 (by rw [HXP.out.length_eq, HYP.out.length_eq, HX.out]; have := HY.out; omega) (by simpa using HR1.out) HT2.out rfl (by rw [HXP.out.length_eq, HX.out]) (by rw [HYP.out.length_eq]; exact HY.out) (by simp) (by rw [HXP.out.length_eq, HX.out]; omega) (by rw [HYP.out.length_eq]; have := HY.out; omega) HXS.out HYS.out (low_perm (asc_low HS.out 20) HXP.out HYP.out) (fun x hx => HSN.out x (List.mem_of_mem_take (HXP.out.mem_iff.1 hx))) (fun x hx => HSN.out x (List.mem_of_mem_drop (HYP.out.mem_iff.1 hx))))
          go_wp2_with fail
          go_loopw [6, 7, 8] (fun s a b wx => (s = .int .i64 20 ∧ w1 = wx) ∨ (s = .int .i64 40 ∧ ∃ S', S'.Perm S ∧ Srt t S' ∧ IR wx g S' ∧ w.grownBy wx (some g))) (fun s _ _ _ => 40 - (intOf s).toNat)
          case atStart => exact .inl ⟨rfl, rfl⟩
          case round =>
            obtain ⟨wo, rfl⟩ : ∃ wo, wo = wr := ⟨_, rfl⟩
            rcases hrel with ⟨rfl, rfl⟩ | ⟨rfl, hfin⟩
            · go_wp2_with fail
              go_loopw [7, 8] (fun a b wx => a = .int .i64 0 ∧ b = .int .i64 40 ∧ w1 = wx) (fun _ _ _ => 0)
              case atStart => exact ⟨rfl, rfl, rfl⟩
              case round =>
                obtain ⟨rfl, rfl, rfl⟩ := hrel
                go_wp2_with fail
                refine HMG.out.mono ?_
                rintro e w2 ⟨rfl, S', hp, hs, hr, hg⟩
                have HF : Hid (∃ S', S'.Perm S ∧ Srt t S' ∧ IR w2 g S' ∧ w.grownBy w2 (some g)) := Lib.hid (by
                  refine ⟨S', hp.trans ?_, hs, by simpa using hr, grown_trans HG1.out hg⟩
                  have := HXP.out.append HYP.out
                  rw [List.take_append_drop] at this
                  exact this)
                clear hp hs hr hg
                go_wp2_with fail
                exact ⟨.inr ⟨rfl, HF.out⟩, by simp [intOf]⟩
            · have HF := Lib.hid hfin
              clear hfin
              go_wp2_with fail
              go_end0
              exact ⟨rfl, HF.out⟩
theorem sortStable_any (g cap N bx gl o n c : Nat) (t : Nat → Int) (S : List Nat) (w : World) (hrow : IR w g S) (hT : TimesAt w bx gl o n c t) (h1 : bx ≠ g) (h2 : gl ≠ g) (hN : S.length = N) (hN2 : N < 40) (hn : n ≤ 1000) (hS : S.Pairwise (· < ·)) (hSn : ∀ x ∈ S, x < n) :
    Calls Tryz.prog 50 #[.slice (some ⟨g, 0, none⟩) N cap, .func (.func 51) #[] #[.pointer (some ⟨bx, 0, none⟩)]] w fun e w' => e = .returned (.tuple #[]) ∧ ∃ S', S'.Perm S ∧ Srt t S' ∧ IR w' g S' ∧ w.grownBy w' (some g) := by
  have HC := Lib.hid (stable_any g cap N bx gl o n c t S w hrow hT h1 h2 hN hN2 hn hS hSn)
  clear hrow hT hN hS hSn
  go_enter Tryz.func50, Tryz.ntmps50
  go_wp2_with fail
  refine HC.out.mono ?_
  rintro e w1 ⟨rfl, hf⟩
  have HF := Lib.hid hf
  clear hf
  go_wp2_with fail
  go_end0
  exact ⟨rfl, HF.out⟩
end Go.Proofs.YtinknenfhohamaaGreatDoor
