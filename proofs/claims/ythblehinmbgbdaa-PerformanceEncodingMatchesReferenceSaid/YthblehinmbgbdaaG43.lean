/- append onto a row of events that the call owns, of whatever number of events; Near with its capacity. -/
import Derived.Test.YthblehinmbgbdaaG36
namespace Go.Proofs.Ythblehinmbgbdaa
open Go.RowKit
set_option maxRecDepth 100000

theorem own_events {W : World} {base : Nat} {v : Value} {L X : List Ev} {xa : Option Addr} {n c : Nat} (hown : ERow W base v L) (hX : EvS W xa X) (hn : X.length = n) (hbase : base ≤ W.heap.size) (hl : L.length ≤ 500) (hn2 : n ≤ 500) (ty : TypeId) :
    ∃ v' w', (Builtin.append_ #[25, 25] ty #[v, .slice xa n c]).run Try.prog W = .ok v' w' ∧ ERow w' base v' (L ++ X) ∧ Below base W w' := by
  obtain ⟨i0, hi, hz0, hz1, hz2⟩ := info_parts Try.infoEvent
  subst hn
  by_cases h0 : X.length = 0
  · have hX0 : X = [] := List.eq_nil_of_length_eq_zero h0
    have hs := src_events hX c
    subst hX0
    have hv : ∃ a m k, v = .slice a m k ∧ m ≤ k := by
      rcases hown.2 with ⟨h1, -⟩ | ⟨g, cap, cur, h1, -, -, h2, -⟩
      · exact ⟨_, _, _, h1, Nat.le_refl _⟩
      · exact ⟨_, _, _, h1, h2⟩
    obtain ⟨a, m, k, rfl, hmk⟩ := hv
    have := run_append_nothing (P := Try.prog) W 25 25 ty 52 i0 Try.underlying25 hi a m k hmk (.slice xa 0 c) (by rw [hz1]; exact hs)
    exact ⟨_, _, this, by simpa using hown, Below.refl _ _⟩
  · obtain ⟨ad, rfl⟩ : ∃ ad, xa = some ad := by
      cases X with
      | nil => exact absurd rfl h0
      | cons x X => obtain ⟨b, o, hb, -⟩ := hX 0 x rfl; exact ⟨_, hb⟩
    have hnews : ∀ j u, (evl X)[j]? = some u → W.cell? (ad.add j) = some u := by
      intro j u hj
      obtain ⟨s, h1, h2⟩ := evl_cell X j u hj
      obtain ⟨b, o, hbo, -⟩ := hX (j / 4) s h1
      injection hbo with hbo
      subst hbo
      exact evs_news hX j u hj
    obtain ⟨g, cap, w', hr, h1, h2, h3, h4⟩ := run_append_lies (P := Try.prog) W 25 ty base 52 i0 _ 4 32 Try.underlying25 hi hz0 hz1 hz2 rfl (by decide) v L.length (evl L) hown ad X.length c (evl X) (evl_length X) hnews (evl_one' X) (by omega) (by unfold maxLen; omega) (by omega) hbase _ rfl
    refine ⟨_, _, hr, ?_, (Below.refl _ _).grown h2 hbase (fun k hk => (hown.lt k hk).1)⟩
    show w'.ownsRow base _ 4 _ (L ++ X).length (evl (L ++ X))
    rw [List.length_append, evl_append]; exact h1
/-- The same at a step of a region that draws its order. -/
theorem step_own {ops : Array Oper} {o : Oper} {a : Act} {K : Act → World → Prop} {Q : Exit → Act → World → Prop} {E : Prop} {W : World} (hgd : o.guard = none) (s x : Operand)
    (ho : o.op = .call { callee := .builtin .append, args := #[s, x], argTypes := #[25, 25] })
    {base : Nat} {v : Value} {L X : List Ev} {xa : Option Addr} {n c : Nat} (hs : a.eval s = v) (hx : a.eval x = .slice xa n c) (hown : ERow W base v L) (hX : EvS W xa X) (hn : X.length = n) (hbase : base ≤ W.heap.size) (hl : L.length ≤ 500) (hn2 : n ≤ 500)
    (h : ∀ v' w', ERow w' base v' (L ++ X) → Below base W w' → K (a.put o.dst v') w') :
    if Region.wanted o (yielded ops a.tmps) = true then Oper.wp Try.prog o a W K Q else E := by
  have hw : Region.wanted o (yielded ops a.tmps) = true := by simp [Region.wanted, hgd]
  rw [if_pos hw]
  obtain ⟨v', w', hrun, h1, h2⟩ := own_events (c := c) hown hX hn hbase hl hn2 o.type
  unfold Oper.wp
  simp [execOp, ho, resolve, invoke, builtin, hs, hx, hrun, Result.andThen]
  exact h v' w' h1 h2
/-- The same at a plain region's list. -/
theorem list_own {ops : Array Oper} {rest : List Oper} {o : Oper} {a : Act} {Q : Exit → Act → World → Prop} {W : World} (hgd : o.guard = none) (s x : Operand)
    (ho : o.op = .call { callee := .builtin .append, args := #[s, x], argTypes := #[25, 25] })
    {base : Nat} {v : Value} {L X : List Ev} {xa : Option Addr} {n c : Nat} (hs : a.eval s = v) (hx : a.eval x = .slice xa n c) (hown : ERow W base v L) (hX : EvS W xa X) (hn : X.length = n) (hbase : base ≤ W.heap.size) (hl : L.length ≤ 500) (hn2 : n ≤ 500)
    (h : ∀ v' w', ERow w' base v' (L ++ X) → Below base W w' → wpList Try.prog ops Q rest (a.put o.dst v') w') :
    wpList Try.prog ops Q (o :: rest) a W := by
  refine wpList_plain hgd fun K hK => ?_
  obtain ⟨v', w', hrun, h1, h2⟩ := own_events (c := c) hown hX hn hbase hl hn2 o.type
  unfold Oper.wp
  simp [execOp, ho, resolve, invoke, builtin, hs, hx, hrun, Result.andThen]
  exact hK _ _ (h v' w' h1 h2)
theorem near_c {s m : Int} {a : Option Addr} {n c : Nat} {X : List Ev} {a2 : Option Addr} {n2 c2 : Nat} {N : List Int} {w : World} (hX : Pf w a n X) (hn : n ≤ 30) (hs : 0 ≤ s ∧ s ≤ 100) (hS : Sml m X) (hm : m ≤ 1000) (hN : InS w a2 N) (hl : N.length = n2) (hI : InI N) (hl2 : n2 ≤ 9223372036854775807) :
    Calls Try.prog 13 #[.slice a n c, .int .i64 s, .slice a2 n2 c2] w fun e w' => ∃ a' c', e = .returned (.slice a' n c') ∧ n ≤ c' ∧ Pf w' a' n (nearOf s N X) ∧ Below w.heap.size w w' := by
  obtain ⟨h1, rfl, h3, h4⟩ := hX
  subst hl
  refine (near_any a c X s a2 c2 N w h1 hN hn hs (fun e he => by have := hS e he; omega) hI hl2).mono ?_
  rintro e w' ⟨v, rfl, hr, hb⟩
  obtain ⟨a', c', rfl, hle, hS', -⟩ := hr.isSlice
  rw [nearOf_length] at hle ⊢
  exact ⟨a', c', rfl, hle, ⟨hS', nearOf_length s N X, h3, (nearOf_sml hs.1 hS (by omega)).evI (by omega)⟩, hb⟩
end Go.Proofs.Ythblehinmbgbdaa
