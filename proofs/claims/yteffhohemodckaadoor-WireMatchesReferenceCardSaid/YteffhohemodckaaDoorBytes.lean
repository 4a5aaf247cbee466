/- Small facts on worlds: rows of bytes that the call owns, variables of one cell. No program in sight. -/
import Derived.Laws.IdiomStrings
import Derived.Laws.BytesArg
import Derived.RangeFuncBox
import Derived.RangeFuncNested
namespace Go.Proofs.YteffhohemodckaaDoor
open Go.RowKit

/-- Bytes as cells. -/
def bcs (l : List UInt8) : List Value := l.map fun b => Value.int .u8 (b.toNat : Int)
theorem bcs_append (a b : List UInt8) : bcs (a ++ b) = bcs a ++ bcs b := by simp [bcs]
theorem bcs_length (l : List UInt8) : (bcs l).length = l.length := by simp [bcs]
theorem bcs_snoc (l : List UInt8) (b : UInt8) : bcs (l ++ [b]) = bcs l ++ [Value.int .u8 (b.toNat : Int)] := by simp [bcs]

/-- The string of an owned row of bytes. -/
theorem convert_owned {P : Program} {src dst e : TypeId} (hs : P.underlying src = some (.slice e)) (he : P.underlying e = some (.int .u8)) (hd : P.underlying dst = some .string)
    {W : World} {base : Nat} {v : Value} {l : List UInt8} (h : W.ownsRow base e 1 v l.length (bcs l)) : (convert src dst v).run P W = .ok (.string ⟨l.toArray⟩) W := by
  rcases h.2 with ⟨rfl, h0⟩ | ⟨g, cap, cur, rfl, hg, hh, r⟩
  · have : l = [] := List.eq_nil_of_length_eq_zero h0
    subst this
    exact run_convert_bytes_nil W src e hs he 0 0 dst hd
  · refine run_convert_bytes_back W src dst e _ cap l hs he hd fun j hj => h.cells (by simp [Value.ownBlock]) j _ ?_
    simp [bcs, hj]

/-- A row stays owned while a variable of another type is stored into. -/
theorem ownsRow_setBox {W : World} {B base size n : Nat} {t e : TypeId} {u v : Value} {xs : List Value} (h : W.ownsRow base e size v n xs) (hb : Boxed W B t u) (hte : t ≠ e) (u' : Value) : (W.setCell ⟨B, 0, none⟩ u').ownsRow base e size v n xs :=
  h.kept (grownBy_setCell' W B u') (.inr (hb.not_row hte h).symm)
theorem below_setBox {B n₀ : Nat} {w W : World} (h : Below n₀ w W) (hB : n₀ ≤ B) (u : Value) : Below n₀ w (W.setCell ⟨B, 0, none⟩ u) := h.setCell (p := ⟨B, 0, none⟩) hB u
/-- That a variable lies in its block abides the turn of blocks that are no cells. -/
theorem ownFrom_box {β : Type} (B0 B : Nat) (t : TypeId) : OwnFrom B0 (fun (_ : β) W => ∃ u, Boxed W B t u) := by
  rintro s X Y row ⟨u, hu⟩ hg hrow
  refine ⟨u, hu.kept hg fun e' => ?_⟩
  obtain ⟨_, o, ho, hc⟩ := hrow B e'.symm
  rw [show X.heap[B]? = _ from hu] at ho; cases ho; cases hc
end Go.Proofs.YteffhohemodckaaDoor
