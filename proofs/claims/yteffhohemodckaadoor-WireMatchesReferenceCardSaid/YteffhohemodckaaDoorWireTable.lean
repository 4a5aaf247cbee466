/- The table of package wire, out of what a row lists. -/
import Derived.Test.YteffhohemodckaaDoorRows
import Derived.Test.YteffhohemodckaaDoorWireSum
import Derived.Lib.LaidTab
namespace Go.Proofs.YteffhohemodckaaDoor

theorem gTab : Tryd.prog.globalNamed (Rows.wireRoundTripRow.named.headD default) = some 0 := by kernel_rfl
theorem gTabType : (Tryd.prog.globals[0]?).map (·.type) = some 52 := by kernel_rfl
theorem cellsTab : Tryd.prog.cellsOf 52 = 16 := by kernel_rfl
theorem cellsEl : Tryd.prog.cellsOf 43 = 1 := by kernel_rfl

def nibInts : List Int := [0, 274646895, 549293790, 820201905, 1098587580, 1361435347, 1640403810, 1905808397, 2197175160, 2460548119, 2722870694, 2987750089, 3280807620, 3553878443, 3811616794, 4084100981]
theorem nibInts_eq (i : Nat) (h : i < 16) : nibInts.getD i 0 = ((nibs.getD i 0 : Nat) : Int) := by
  have hall : ∀ j : Fin 16, nibInts.getD j.val 0 = ((nibs.getD j.val 0 : Nat) : Int) := by decide
  exact hall ⟨i, h⟩

/-- The table's cells, out of what a row lists. -/
theorem tableAt_of {W : World} (h : laidMetH Tryd.prog Rows.wireRoundTripRow.laid W) : TableAt W := by
  have ht : Lib.TabIs Tryd.prog W (Rows.wireRoundTripRow.named.headD default) .u32 nibInts :=
    Lib.tabIs_of_head (rest := []) gTab gTabType Tryd.underlying52 Tryd.underlying43 cellsEl cellsTab h
  intro i hi
  rw [ht.cell gTab i (by simpa [nibInts] using hi), nibInts_eq i hi]
theorem TableAt.lt {W : World} (h : TableAt W) : 0 < W.heap.size := by
  have h0 := h 0 (by omega)
  unfold World.cell? at h0
  by_cases hl : 0 < W.heap.size
  · exact hl
  · rw [Array.getElem?_eq_none (by omega)] at h0
    simp at h0
/-- A world for the witness: the settled one, the table's variable holding what its initialiser lays. -/
noncomputable def laidWorld (os : Os) : World :=
  { World.holding Tryd.prog os ⟨#[], #[], []⟩ with heap := (World.holding Tryd.prog os ⟨#[], #[], []⟩).heap.modify 0 fun
      | .cells _ t frozen => .cells (nibInts.map (Value.int .u32)).toArray t frozen
      | o => o }
end Go.Proofs.YteffhohemodckaaDoor
