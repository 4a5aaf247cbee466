/- Weaker, of the code and of the reference. -/
import Derived.Test.YtinknenfhohamaaGreatDoorG10
namespace Go.Proofs.YtinknenfhohamaaGreatDoor
open Go.RowKit
set_option maxRecDepth 100000

theorem andnot_bits : ∀ k l : Fin 63, (bits .andNot .i64 (l.val : Int) (k.val : Int) == 0) = decide (∀ i : Fin 6, (l.val : Int) / 2 ^ i.val % 2 = 1 → (k.val : Int) / 2 ^ i.val % 2 = 1) := by decide +kernel
theorem and_bits : ∀ k l : Fin 63, (bits .and .i64 (l.val : Int) (k.val : Int) == (l.val : Int)) = decide (∀ i : Fin 6, (l.val : Int) / 2 ^ i.val % 2 = 1 → (k.val : Int) / 2 ^ i.val % 2 = 1) := by decide +kernel
theorem weaker_split (a b : Rel) (x y : Bool) (hx : validR a = x) (hy : validR b = y) : weaker a b = (x && y && (decide (b.kinds = 0) || decide (∀ k : Fin 6, b.kinds / 2 ^ k.val % 2 = 1 → a.kinds / 2 ^ k.val % 2 = 1) && decide (a.slack ≤ b.slack) && (a.ord || !b.ord))) := by rw [weaker, hx, hy]
end Go.Proofs.YtinknenfhohamaaGreatDoor
