/- partner of the reference. -/
import Derived.Test.YtinknenfhohamaaGreatDoorG14
import Derived.Test.YtinknenfhohamaaGreatDoorG13
namespace Go.Proofs.YtinknenfhohamaaGreatDoor
open Go.RowKit
set_option maxRecDepth 100000

/-- Times that the machine can hold. -/
def TmI (L : List Ev) : Prop := ∀ e ∈ L, I64 e.tm
theorem partner_hit {r : Rel} {c d : List Ev} {i j : Nat} (hj : j < d.length) (hc : cls (d.getD j default) = cls (c.getD i default)) (hr : rank d j = rank c i) : partner r c d i = near r (tmAt c i) (tmAt d j) := by
  obtain ⟨S, hS⟩ := sorted_exists d (cls (c.getD i default))
  have hat := hS.at hj hc
  rw [hr] at hat
  rw [Bool.eq_iff_iff, partner_iff hS]
  constructor
  · rintro ⟨k, hk, hn⟩
    rw [hat] at hk
    injection hk with hk
    rw [hk]; exact hn
  · intro h; exact ⟨j, hat, h⟩
theorem partner_miss {r : Rel} {c d : List Ev} {i : Nat} (h : ∀ j, j < d.length → ¬ (cls (d.getD j default) = cls (c.getD i default) ∧ rank d j = rank c i)) : partner r c d i = false := by
  unfold partner
  rw [List.any_eq_false]
  intro k hk
  have := h k (by simpa using hk)
  simp only [Bool.and_eq_true, decide_eq_true_eq]
  intro h2; exact this h2.1
end Go.Proofs.YtinknenfhohamaaGreatDoor
