/- slices.Index over a row of truth values. -/
import Derived.Test.YtinknenfhohamaaGreatDoorG11
namespace Go.Proofs.YtinknenfhohamaaGreatDoor
open Go.RowKit
set_option maxRecDepth 100000

/-- Truth values that a block holds from its head on. -/
def TR (W : World) (g : Nat) (L : List Bool) : Prop := ∀ (j : Nat) (x : Bool), L[j]? = some x → W.cell? ⟨g, j, none⟩ = some (.bool x)
def idxOf (v : Bool) (L : List Bool) : Int := match L.findIdx? (· == v) with
  | some i => (i : Int)
  | none => -1
theorem idxOf_hit {v : Bool} {L : List Bool} {j : Nat} (h : L[j]? = some v) (hp : ∀ k, k < j → L[k]? ≠ some v) : idxOf v L = (j : Int) := by
  have : L.findIdx? (· == v) = some j := by
    rw [List.findIdx?_eq_some_iff_getElem]
    obtain ⟨hl, he⟩ := List.getElem?_eq_some_iff.1 h
    refine ⟨hl, by simp [he], ?_⟩
    intro k hk
    have := hp k hk
    rw [List.getElem?_eq_getElem (by omega)] at this
    simpa using fun he => this (by rw [he])
  rw [idxOf, this]
theorem idxOf_miss {v : Bool} {L : List Bool} (hp : ∀ k, k < L.length → L[k]? ≠ some v) : idxOf v L = -1 := by
  have : L.findIdx? (· == v) = none := by
    rw [List.findIdx?_eq_none_iff]
    intro x hx
    obtain ⟨k, hk, he⟩ := List.getElem_of_mem hx
    have := hp k hk
    rw [List.getElem?_eq_getElem hk] at this
    cases hxv : (x == v) with
    | false => rfl
    | true => exact absurd (by rw [he, eq_of_beq hxv]) this
  rw [idxOf, this]
set_option maxHeartbeats 400000 in
theorem index_any (g c : Nat) (v : Bool) (L : List Bool) (w : World) (hT : TR w g L) (hL : L.length ≤ 1000) :
    Calls Tryz.prog 24 #[.slice (some ⟨g, 0, none⟩) L.length c, .bool v] w fun e w' => e = .returned (.int .i64 (idxOf v L)) ∧ w = w' := by
  obtain ⟨n, hn⟩ : ∃ n, L.length = n := ⟨_, rfl⟩
  have HN := Lib.hid hn
  rw [hn] at hL ⊢
  have HT := Lib.hid hT
  clear hT hn
  go_enter Tryz.func24, Tryz.ntmps24
  go_wp2_with fail
  go_loopw [5, 8] (fun _ i wx => ∃ j : Nat, j ≤ n ∧ i = .int .i64 j ∧ (∀ k, k < j → L[k]? ≠ some v) ∧ w = wx) (fun _ i _ => n - (intOf i).toNat)
  case atStart => exact ⟨0, by omega, rfl, fun k hk => by omega, rfl⟩
  case round =>
    obtain ⟨j, hj, rfl, hp, rfl⟩ := hrel
    have HP := Lib.hid hp
    clear hp
    by_cases hlt : j < n
    · obtain ⟨x, hx⟩ : ∃ x, L[j]? = some x := ⟨_, List.getElem?_eq_getElem (by rw [HN.out]; exact hlt)⟩
      have c0 := HT.out j x hx
      have HX := Lib.hid hx
      have n0 : (0 : Int) ≤ (j : Int) := by omega
      have n1 : (j : Int) < (n : Int) := by omega
      have hd : decide ((j : Int) < (n : Int)) = true := by rw [decide_eq_true_iff]; omega
      have hd2 : decide (j < n) = true := by rw [decide_eq_true_iff]; omega
      clear hx
      by_cases hv : v = x
      · have HV := Lib.hid (show idxOf v L = (j : Int) from idxOf_hit (by rw [HX.out, hv]) HP.out)
        have he : (v == x) = true := by rw [hv]; simp
        have HVX := Lib.hid hv
        clear hv
        go_wp2_with fail
        go_ret
        exact ⟨by rw [HV.out]; rfl, rfl⟩
      · have he : (v == x) = false := by cases v <;> cases x <;> simp_all
        have HQ := Lib.hid (show ∀ k, k < j + 1 → L[k]? ≠ some v from fun k hk => by
          rcases Nat.lt_or_ge k j with h1 | h1
          · exact HP.out k h1
          · obtain rfl : k = j := by omega
            rw [HX.out]; intro h; injection h with h; exact hv h.symm)
        clear hv
        go_wp2_with fail
        exact ⟨⟨j + 1, by omega, by push_cast; rfl, HQ.out, by trivial⟩, by simp [intOf]; omega⟩
    · obtain rfl : j = n := by omega
      have hd : decide ((j : Int) < (j : Int)) = false := by simp
      have hd2 : decide (j < j) = false := by simp
      have HV := Lib.hid (show idxOf v L = -1 from idxOf_miss (by rw [HN.out]; exact HP.out))
      go_wp2_with fail
      go_ret
      exact ⟨by rw [HV.out]; rfl, rfl⟩
end Go.Proofs.YtinknenfhohamaaGreatDoor
