/- What the walks of the statements on performances share: performances in memory, the calls on them. -/
import Derived.Test.YthblehinmbgbdaaG35
namespace Go.Proofs.Ythblehinmbgbdaa
open Go.RowKit
set_option maxRecDepth 100000

/-- A performance that a slice holds. -/
structure Pf (W : World) (a : Option Addr) (n : Nat) (X : List Ev) : Prop where
  s : EvS W a X
  l : X.length = n
  b : n < 40
  i : EvI X
theorem Pf.below {W W' : World} {a : Option Addr} {n : Nat} {X : List Ev} (h : Pf W a n X) (hb : Below W.heap.size W W') : Pf W' a n X := ⟨h.s.below hb, h.l, h.b, h.i⟩
/-- A relation in a block. -/
def Rl (W : World) (g : Nat) (r : Rel) : Prop := W.heap[g]? = some (.cells #[.int .i64 r.kinds, .int .i64 r.slack, .bool r.ord] 23 (0, 0))
theorem Rl.below {W W' : World} {g : Nat} {r : Rel} (h : Rl W g r) (hb : Below W.heap.size W W') : Rl W' g r := (hb.block _ (Array.getElem?_eq_some_iff.1 h).1).trans h
theorem Rl.cells {W : World} {g : Nat} {r : Rel} (h : Rl W g r) : W.cell? ⟨g, 0, none⟩ = some (.int .i64 r.kinds) ∧ W.cell? ⟨g, 1, none⟩ = some (.int .i64 r.slack) ∧ W.cell? ⟨g, 2, none⟩ = some (.bool r.ord) :=
  ⟨by rw [Lib.cell_of_heap h]; rfl, by rw [Lib.cell_of_heap h]; rfl, by rw [Lib.cell_of_heap h]; rfl⟩
/-- Three integers in a block. -/
def Tr3 (W : World) (g : Nat) (x y z : Int) : Prop := W.heap[g]? = some (.cells #[.int .i64 x, .int .i64 y, .int .i64 z] 24 (0, 0))
theorem Tr3.below {W W' : World} {g : Nat} {x y z : Int} (h : Tr3 W g x y z) (hb : Below W.heap.size W W') : Tr3 W' g x y z := (hb.block _ (Array.getElem?_eq_some_iff.1 h).1).trans h
theorem Tr3.cells {W : World} {g : Nat} {x y z : Int} (h : Tr3 W g x y z) : W.cell? ⟨g, 0, none⟩ = some (.int .i64 x) ∧ W.cell? ⟨g, 1, none⟩ = some (.int .i64 y) ∧ W.cell? ⟨g, 2, none⟩ = some (.int .i64 z) :=
  ⟨by rw [Lib.cell_of_heap h]; rfl, by rw [Lib.cell_of_heap h]; rfl, by rw [Lib.cell_of_heap h]; rfl⟩
theorem agree_b {k s : Int} {o : Bool} {a : Option Addr} {n c : Nat} {X : List Ev} {a' : Option Addr} {n' c' : Nat} {Y : List Ev} {w : World} {b : Bool} (hX : Pf w a n X) (hY : Pf w a' n' Y) (hb : agr ⟨k, s, o⟩ X Y = b) :
    Calls Try.prog 29 #[.agg #[.int .i64 k, .int .i64 s, .bool o], .slice a n c, .slice a' n' c'] w fun e w' => e = .returned (.bool b) ∧ Below w.heap.size w w' := by
  obtain ⟨h1, rfl, h3, h4⟩ := hX
  obtain ⟨g1, rfl, g3, g4⟩ := hY
  subst hb
  exact agree_any ⟨k, s, o⟩ a c X a' c' Y w h1 g1 h3 g3 h4 g4
theorem compare_b {k s : Int} {o : Bool} {a : Option Addr} {n c : Nat} {X : List Ev} {a' : Option Addr} {n' c' : Nat} {Y : List Ev} {w : World} {i : Int} {b : Bool} (hX : Pf w a n X) (hY : Pf w a' n' Y) (hb : compareR ⟨k, s, o⟩ X Y = (i, b)) :
    Calls Try.prog 23 #[.agg #[.int .i64 k, .int .i64 s, .bool o], .slice a n c, .slice a' n' c'] w fun e w' => e = .returned (.tuple #[.int .i64 i, .bool b]) ∧ Below w.heap.size w w' := by
  obtain ⟨h1, rfl, h3, h4⟩ := hX
  obtain ⟨g1, rfl, g3, g4⟩ := hY
  have := compare_in ⟨k, s, o⟩ a c X a' c' Y w h1 g1 h3 g3 h4 g4
  rw [hb] at this
  exact this
theorem counted_b {k s : Int} {o : Bool} {a : Option Addr} {n c : Nat} {X : List Ev} {w : World} (hX : Pf w a n X) :
    Calls Try.prog 21 #[.agg #[.int .i64 k, .int .i64 s, .bool o], .slice a n c] w fun e w' => ∃ a' c', e = .returned (.slice a' (counted ⟨k, s, o⟩ X).length c') ∧ Pf w' a' (counted ⟨k, s, o⟩ X).length (counted ⟨k, s, o⟩ X) ∧ Below w.heap.size w w' := by
  obtain ⟨h1, rfl, h3, h4⟩ := hX
  refine (counted_any ⟨k, s, o⟩ a c X w h1 (by omega)).mono ?_
  rintro e w' ⟨v, rfl, hr, hb⟩
  obtain ⟨a', c', rfl, -, hS, -⟩ := hr.isSlice
  have hl : (counted ⟨k, s, o⟩ X).length ≤ X.length := by
    unfold counted
    split
    · exact List.length_filter_le _ _
    · simp
  refine ⟨a', c', rfl, ⟨hS, rfl, by omega, fun e he => ?_⟩, hb⟩
  unfold counted at he
  split at he
  · exact h4 e (List.mem_filter.1 he).1
  · cases he
theorem encode_b {a : Option Addr} {n c : Nat} {X : List Ev} {w : World} (hX : Pf w a n X) :
    Calls Try.prog 25 #[.slice a n c] w fun e w' => e = .returned (encV (encodeR X)) ∧ Below w.heap.size w w' := by
  obtain ⟨h1, rfl, h3, h4⟩ := hX
  exact encode_any a c X w h1 (by omega)
theorem some_b {a : Option Addr} {n c : Nat} {Q : List Qd} {w : World} (hX : QdS w a Q) (hn : Q.length = n) (hI : QdI Q) (hl : n ≤ 9223372036854775807) :
    Calls Try.prog 12 #[.slice a n c] w fun e w' => ∃ a' n' c', e = .returned (.slice a' n' c') ∧ n' ≤ 30 ∧ Pf w' a' n' (someOf Q) ∧ Below w.heap.size w w' := by
  subst hn
  refine (some_any a c Q w hX hI hl).mono ?_
  rintro e w' ⟨v, rfl, hr, hb⟩
  obtain ⟨a', c', rfl, -, hS, -⟩ := hr.isSlice
  have h30 := someOf_length Q
  exact ⟨a', _, c', rfl, h30, ⟨hS, rfl, by omega, (someOf_facts Q).2.evI (by omega)⟩, hb⟩
theorem near_b {s m : Int} {a : Option Addr} {n c : Nat} {X : List Ev} {a2 : Option Addr} {n2 c2 : Nat} {N : List Int} {w : World} (hX : Pf w a n X) (hn : n ≤ 30) (hs : 0 ≤ s ∧ s ≤ 100) (hS : Sml m X) (hm : m ≤ 1000) (hN : InS w a2 N) (hl : N.length = n2) (hI : InI N) (hl2 : n2 ≤ 9223372036854775807) :
    Calls Try.prog 13 #[.slice a n c, .int .i64 s, .slice a2 n2 c2] w fun e w' => ∃ a' c', e = .returned (.slice a' n c') ∧ Pf w' a' n (nearOf s N X) ∧ Below w.heap.size w w' := by
  obtain ⟨h1, rfl, h3, h4⟩ := hX
  subst hl
  refine (near_any a c X s a2 c2 N w h1 hN hn hs (fun e he => by have := hS e he; omega) hI hl2).mono ?_
  rintro e w' ⟨v, rfl, hr, hb⟩
  obtain ⟨a', c', rfl, -, hS', -⟩ := hr.isSlice
  rw [nearOf_length]
  exact ⟨a', c', rfl, ⟨hS', nearOf_length s N X, h3, (nearOf_sml hs.1 hS (by omega)).evI (by omega)⟩, hb⟩
theorem InS.below {W W1 : World} {a : Option Addr} {N : List Int} (h : InS W a N) (hw : Below W.heap.size W W1) : InS W1 a N := by
  intro i s hi
  obtain ⟨b, o, ha, hb, h0⟩ := h i s hi
  exact ⟨b, o, ha, Nat.lt_of_lt_of_le hb hw.size, ((bcell hw).1 b _ hb).trans h0⟩
end Go.Proofs.Ythblehinmbgbdaa
