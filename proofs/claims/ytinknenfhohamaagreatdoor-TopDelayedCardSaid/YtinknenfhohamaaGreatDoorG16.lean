/- Compare of the reference. -/
import Derived.Test.YtinknenfhohamaaGreatDoorG15
namespace Go.Proofs.YtinknenfhohamaaGreatDoor
open Go.RowKit
set_option maxRecDepth 100000

theorem TmI.counted {L : List Ev} (h : TmI L) (r : Rel) : TmI (counted r L) := by
  intro e he
  unfold Go.Proofs.YtinknenfhohamaaGreatDoor.counted at he
  split at he
  · exact h e (List.mem_filter.1 he).1
  · cases he
theorem counted_len (r : Rel) (L : List Ev) : (counted r L).length ≤ L.length := by
  unfold counted
  split
  · exact List.length_filter_le _ _
  · simp
theorem firstBad_hit {r : Rel} {c d : List Ev} {j : Nat} (hj : j < c.length) (h : ∀ k, k < j → fits r c d k = true) (hb : fits r c d j = false) : firstBad r c d = some j := by
  unfold firstBad
  rw [List.find?_range_eq_some]
  refine ⟨by simp [hb], by simpa using hj, ?_⟩
  intro k hk
  simp [h k hk]
theorem compareR_hit {r : Rel} {x y : List Ev} (hr : validR r = true) {j : Nat} (h : firstBad r (counted r x) (counted r y) = some j) : compareR r x y = ((j : Int), false) := by rw [compareR, if_pos hr, h]
theorem compareR_len {r : Rel} {x y : List Ev} (hr : validR r = true) (h : firstBad r (counted r x) (counted r y) = none) (hl : (counted r x).length ≠ (counted r y).length) : compareR r x y = (((counted r x).length : Int), false) := by
  rw [compareR, if_pos hr, h]
  exact if_neg hl
theorem compareR_yes {r : Rel} {x y : List Ev} (hr : validR r = true) (h : firstBad r (counted r x) (counted r y) = none) (hl : (counted r x).length = (counted r y).length) : compareR r x y = (0, true) := by
  rw [compareR, if_pos hr, h]
  exact if_pos hl
theorem compareR_bad {r : Rel} (x y : List Ev) (hr : validR r = false) : compareR r x y = (0, false) := by rw [compareR, hr]; rfl
def cmpV (z : Int × Bool) : Value := .tuple #[.int .i64 z.1, .bool z.2]
theorem fits_ord {r : Rel} (ho : r.ord = true) (c d : List Ev) (i : Nat) : fits r c d i = (decide (i < d.length) && alike r (c.getD i default) (d.getD i default)) := by rw [fits, if_pos ho]
theorem fits_un {r : Rel} (ho : r.ord = false) (c d : List Ev) (i : Nat) : fits r c d i = partner r c d i := by rw [fits, if_neg (by simp [ho])]
theorem fits_step {r : Rel} {c d : List Ev} {j : Nat} (h : ∀ k, k < j → fits r c d k = true) (hj : fits r c d j = true) : ∀ k, k < j + 1 → fits r c d k = true := fun k hk => by
  rcases Nat.lt_or_ge k j with h1 | h1
  · exact h k h1
  · obtain rfl : k = j := by omega
    exact hj
end Go.Proofs.YtinknenfhohamaaGreatDoor
