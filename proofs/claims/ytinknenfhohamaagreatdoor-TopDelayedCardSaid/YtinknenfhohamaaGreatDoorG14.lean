/- rank of the reference. -/
import Derived.Test.YtinknenfhohamaaGreatDoorG12
namespace Go.Proofs.YtinknenfhohamaaGreatDoor
open Go.RowKit
set_option maxRecDepth 100000

/-- Whether event k stands ahead of event i among those of its class. -/
def ahead (L : List Ev) (i k : Nat) : Bool := decide (cls (L.getD k default) = cls (L.getD i default)) && (decide ((L.getD k default).tm < (L.getD i default).tm) || (decide ((L.getD k default).tm = (L.getD i default).tm) && decide (k < i)))
def rankTo (L : List Ev) (i j : Nat) : Nat := ((List.range j).filter (ahead L i)).length
theorem rankTo_next (L : List Ev) (i j : Nat) : rankTo L i (j + 1) = rankTo L i j + (if ahead L i j then 1 else 0) := by
  rw [rankTo, rankTo, List.range_succ, List.filter_append]
  cases h : ahead L i j <;> simp [h]
theorem rankTo_le (L : List Ev) (i j : Nat) : rankTo L i j ≤ j := by
  have := List.length_filter_le (ahead L i) (List.range j)
  rwa [List.length_range] at this
theorem rankTo_all (L : List Ev) (i : Nat) : rankTo L i L.length = rank L i := rfl
theorem getD_ev {L : List Ev} {j : Nat} {e : Ev} (h : L[j]? = some e) : L.getD j default = e := by rw [List.getD_eq_getElem?_getD, h]; rfl
end Go.Proofs.YtinknenfhohamaaGreatDoor
