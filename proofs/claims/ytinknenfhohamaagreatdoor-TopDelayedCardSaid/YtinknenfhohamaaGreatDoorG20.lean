/- Rows of truth values that a call owns; slices.Index over none. -/
import Derived.Test.YtinknenfhohamaaGreatDoorG16
import Derived.Test.YtinknenfhohamaaGreatDoorG18
namespace Go.Proofs.YtinknenfhohamaaGreatDoor
open Go.RowKit
set_option maxRecDepth 100000

def bools (L : List Bool) : List Value := L.map Value.bool
/-- A row of truth values that the call owns. -/
def RowB (W : World) (B : Nat) (v : Value) (L : List Bool) : Prop := W.ownsRow B 4 1 v L.length (bools L)
theorem RowB.nil (W : World) (B : Nat) : RowB W B (.slice none 0 0) [] := World.ownsRow_nil _ _ _ _
theorem RowB.tr {W : World} {B : Nat} {L : List Bool} {g n c : Nat} (h : RowB W B (.slice (some ⟨g, 0, none⟩) n c) L) : TR W g L ∧ g < W.heap.size ∧ n = L.length := by
  have hl := (World.ownsRow.lt h g rfl).2
  refine ⟨?_, hl, ?_⟩
  · intro j x hj
    have hjl : j < L.length := (List.getElem?_eq_some_iff.1 hj).1
    rcases h.2 with ⟨h1, -⟩ | ⟨g', cap, cur, h1, -⟩
    · cases h1
    · injection h1 with h1 h2 h3
      have h' := h
      rw [h2] at h'
      have h1 := World.ownsRow.cellAt h' j (by simpa [bools] using hjl)
      rw [h1]
      simp [bools, hj]
  · rcases h.2 with ⟨h1, -⟩ | ⟨g', cap, cur, h1, -⟩
    · cases h1
    · injection h1
theorem Tryz.infoBool : (Tryz.prog.info? 4).map (fun i => (i.zero, i.size, i.bytes)) = some (some (.bool false), 1, 1) := by kernel_rfl
/-- A truth value appended, at the operation. -/
theorem append_bool {ops : Array Oper} {rest : List Oper} {o : Oper} {a : Act} {Q : Exit → Act → World → Prop} {w0 : World} (hgd : o.guard = none) (s x : Operand)
    (ho : o.op = .call { callee := .builtin .append, args := #[s, x], argTypes := #[69, 69] })
    {B : Nat} {v : Value} {L : List Bool} (hs : a.eval s = v) (hown : RowB w0 B v L) (hB : B ≤ w0.heap.size) (hlen : L.length ≤ 1000)
    {xb xc : Nat} {y : Bool} (hx : a.eval x = .slice (some ⟨xb, 0, none⟩) 1 xc) (hj : w0.cell? ⟨xb, 0, none⟩ = some (.bool y))
    (hK : ∀ v' w', RowB w' B v' (L ++ [y]) → w0.grownBy w' v.ownBlock → wpList Tryz.prog ops Q rest (a.put o.dst v') w') :
    wpList Tryz.prog ops Q (o :: rest) a w0 := by
  obtain ⟨i0, hi, hz0, hz1, hz2⟩ := info_parts Tryz.infoBool
  refine wpList_append_own_at _ hgd s x 69 ho B 4 i0 _ 1 1 Tryz.underlying69 hi hz0 hz1 hz2 rfl (by decide) v L.length (bools L) hs hown ⟨xb, 0, none⟩ 1 xc [.bool y] hx rfl ?_ (by intro u hu; simp at hu; subst hu; rfl) (by unfold maxLen; omega) (by omega) hB ?_
  · intro k u hk
    cases k with
    | zero =>
      simp at hk
      subst hk
      rw [Go.WideShapes.add_plain]
      exact hj
    | succ k => simp at hk
  · intro v' w' hown' hgr _ _
    refine hK v' w' ?_ hgr
    show w'.ownsRow B 4 1 v' (L ++ [y]).length (bools (L ++ [y]))
    have : bools (L ++ [y]) = bools L ++ [.bool y] := by simp [bools]
    rw [this, List.length_append]
    exact hown'
theorem index_nil (c : Nat) (v : Bool) (w : World) : Calls Tryz.prog 24 #[.slice none 0 c, .bool v] w fun e w' => e = .returned (.int .i64 (-1)) ∧ w = w' := by
  go_enter Tryz.func24, Tryz.ntmps24
  go_wp2_with fail
  go_loopw [5, 8] (fun _ i wx => i = .int .i64 0 ∧ w = wx) (fun _ _ _ => 0)
  case atStart => exact ⟨rfl, rfl⟩
  case round =>
    obtain ⟨rfl, rfl⟩ := hrel
    go_wp2_with fail
    go_ret
    exact ⟨rfl, rfl⟩
theorem idx_firstBad {r : Rel} {c d : List Ev} {F : List Bool} (hl : F.length = c.length) (hF : ∀ i, i < c.length → F[i]? = some (fits r c d i)) : idxOf false F = match firstBad r c d with | some i => (i : Int) | none => -1 := by
  cases hb : firstBad r c d with
  | none =>
    rw [firstBad_none] at hb
    exact idxOf_miss (fun k hk => by rw [hF k (by omega), hb k (by omega)]; simp)
  | some j =>
    unfold firstBad at hb
    rw [List.find?_range_eq_some] at hb
    obtain ⟨h1, h2, h3⟩ := hb
    have hj : j < c.length := by simpa using h2
    refine idxOf_hit (by rw [hF j hj]; simpa using h1) (fun k hk => ?_)
    rw [hF k (by omega)]
    have := h3 k hk
    simp at this
    simp [this]
end Go.Proofs.YtinknenfhohamaaGreatDoor
