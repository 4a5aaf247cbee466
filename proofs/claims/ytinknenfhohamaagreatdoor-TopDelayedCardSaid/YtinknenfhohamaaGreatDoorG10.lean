/- Counted of the reference. -/
import Derived.Test.YtinknenfhohamaaGreatDoorG09
namespace Go.Proofs.YtinknenfhohamaaGreatDoor
open Go.RowKit
set_option maxRecDepth 100000

theorem tmod_two (k : Int) (h : 0 ≤ k) (n : Nat) : ((k / 2 ^ n).tmod 2 == 1) = decide (k / 2 ^ n % 2 = 1) := by
  rw [Int.tmod_eq_emod_of_nonneg (Int.ediv_nonneg h (Int.pow_nonneg (by omega)))]
  rfl
theorem cnt_split (r : Rel) (e : Ev) : cnt r e = (decide (1 ≤ e.kd ∧ e.kd ≤ 5) && decide (r.kinds / 2 ^ e.kd.toNat % 2 = 1)) := rfl
theorem ERow.drewN {W : World} {base : Nat} {v : Value} {L : List Ev} (h : ERow W base v L) (n : Nat) : ERow (W.drewN n) base v L := h
end Go.Proofs.YtinknenfhohamaaGreatDoor
