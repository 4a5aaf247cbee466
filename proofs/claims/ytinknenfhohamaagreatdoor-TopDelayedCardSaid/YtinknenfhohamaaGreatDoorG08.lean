/- Rows of events that a call owns: what they hold, appending to them, storing into them. Small functions over events: of, class, Alike, has, Same. -/
import Derived.Test.YtinknenfhohamaaGreatDoorG07
import Derived.Deep.AppendLies
import Derived.Maps.AppendAt
import Derived.Lib.Builder
import Derived.Deep.DrawnRows
import Derived.Laws.StructEq
import Derived.Laws.Rows
namespace Go.Proofs.YtinknenfhohamaaGreatDoor
open Go.RowKit
set_option maxRecDepth 100000

theorem bcell {W w1 : World} (hb : Below W.heap.size W w1) : (∀ b o, b < W.heap.size → w1.cell? ⟨b, o, none⟩ = W.cell? ⟨b, o, none⟩) ∧ (∀ b o, b < W.heap.size → w1.frozen? ⟨b, o, none⟩ = W.frozen? ⟨b, o, none⟩) :=
  ⟨fun b o h => hb.cell (p := ⟨b, o, none⟩) h, fun b o h => hb.frozen (p := ⟨b, o, none⟩) h⟩
theorem heap_last (w : World) (o : Obj) : (w.alloc o).heap[w.heap.size]? = some o := by
  show (w.heap.push o)[w.heap.size]? = some o
  exact Array.getElem?_push_size
theorem take_more {α : Type} {l : List α} {j : Nat} {x : α} (h : l[j]? = some x) : l.take (j + 1) = l.take j ++ [x] := by rw [List.take_add_one, h]; rfl
def evAt (W : World) (b o : Nat) (x : Ev) : Prop :=
  W.cell? ⟨b, o, none⟩ = some (.int .i64 x.tm) ∧ W.cell? ⟨b, o + 1, none⟩ = some (.int .i64 x.kd) ∧ W.cell? ⟨b, o + 2, none⟩ = some (.int .i64 x.a) ∧ W.cell? ⟨b, o + 3, none⟩ = some (.int .i64 x.b)
/-- Events that a slice holds. -/
def EvS (W : World) (a : Option Addr) (L : List Ev) : Prop := ∀ i x, L[i]? = some x → ∃ b o, a = some ⟨b, o, none⟩ ∧ b < W.heap.size ∧ evAt W b (o + i * 4) x
theorem evAt.below {W W1 : World} {b o : Nat} {x : Ev} (h : evAt W b o x) (hb : b < W.heap.size) (hw : Below W.heap.size W W1) : evAt W1 b o x :=
  ⟨((bcell hw).1 b _ hb).trans h.1, ((bcell hw).1 b _ hb).trans h.2.1, ((bcell hw).1 b _ hb).trans h.2.2.1, ((bcell hw).1 b _ hb).trans h.2.2.2⟩
theorem EvS.below {W W1 : World} {a : Option Addr} {L : List Ev} (h : EvS W a L) (hw : Below W.heap.size W W1) : EvS W1 a L := by
  intro i s hi
  obtain ⟨b, o, ha, hb, hs⟩ := h i s hi
  exact ⟨b, o, ha, Nat.lt_of_lt_of_le hb hw.size, hs.below hb hw⟩
theorem EvS.nil (W : World) (a : Option Addr) : EvS W a [] := by intro i s hi; simp at hi
theorem heap_last' (w : World) (o : Obj) {g : Nat} (h : w.heap.size = g) : (w.alloc o).heap[g]? = some o := by subst h; exact heap_last w o
theorem heap_prev' (w : World) (o o2 : Obj) {g : Nat} (h : w.heap.size = g) : ((w.alloc o).alloc o2).heap[g]? = some o := by
  subst h
  have := heap_last w o
  have h2 : w.heap.size < (w.alloc o).heap.size := by rw [size_alloc]; omega
  show ((w.alloc o).heap.push o2)[w.heap.size]? = some o
  rw [Array.getElem?_push_lt h2, ← this, Array.getElem?_eq_getElem h2]
theorem Tryz.infoEvent : (Tryz.prog.info? 28).map (fun i => (i.zero, i.size, i.bytes)) = some (some (.agg #[.int .i64 0, .int .i64 0, .int .i64 0, .int .i64 0]), 4, 32) := by kernel_rfl
/-- A event's cells. -/
def evc (s : Ev) : List Value := [.int .i64 s.tm, .int .i64 s.kd, .int .i64 s.a, .int .i64 s.b]
def evl : List Ev → List Value
  | [] => []
  | s :: L => evc s ++ evl L
theorem evl_length (L : List Ev) : (evl L).length = L.length * 4 := by
  induction L with
  | nil => rfl
  | cons s L ih => rw [evl, List.length_append, ih, List.length_cons]; simp [evc]; omega
theorem evl_append (L M : List Ev) : evl (L ++ M) = evl L ++ evl M := by
  induction L with
  | nil => rfl
  | cons s L ih => rw [List.cons_append, evl, evl, ih, List.append_assoc]
theorem evl_one (s : Ev) : evl [s] = evc s := by simp [evl]
theorem evl_at : ∀ (L : List Ev) (i : Nat) (s : Ev), L[i]? = some s → ∀ j, j < 4 → (evl L)[i * 4 + j]? = (evc s)[j]?
  | [], i, s, h, _, _ => by simp at h
  | t :: L, 0, s, h, j, hj => by
    simp at h
    subst h
    rw [evl, List.getElem?_append_left (by simp [evc]; omega)]
    simp
  | t :: L, i + 1, s, h, j, hj => by
    rw [evl, List.getElem?_append_right (by simp [evc]; omega)]
    have := evl_at L i s (by simpa using h) j hj
    rw [← this]
    congr 1
    simp [evc]; omega
theorem evl_cell (L : List Ev) (j : Nat) (u : Value) (h : (evl L)[j]? = some u) : ∃ s, L[j / 4]? = some s ∧ (evc s)[j % 4]? = some u := by
  have hl : j < (evl L).length := by
    rcases Nat.lt_or_ge j (evl L).length with h1 | h1
    · exact h1
    · rw [List.getElem?_eq_none h1] at h; cases h
  rw [evl_length] at hl
  have hi : j / 4 < L.length := by omega
  refine ⟨L[j / 4], List.getElem?_eq_getElem hi, ?_⟩
  have := evl_at L (j / 4) L[j / 4] (List.getElem?_eq_getElem hi) (j % 4) (by omega)
  rw [show j / 4 * 4 + j % 4 = j by omega, h] at this
  exact this.symm
theorem evl_one' (L : List Ev) : ∀ u ∈ evl L, u.oneCell' = true := by
  induction L with
  | nil => intro u hu; cases hu
  | cons s L ih =>
    intro u hu
    rw [evl, List.mem_append] at hu
    rcases hu with hu | hu
    · simp [evc] at hu
      rcases hu with rfl | rfl | rfl | rfl <;> rfl
    · exact ih u hu

/-- A row of events that the call owns. -/
def ERow (W : World) (base : Nat) (v : Value) (L : List Ev) : Prop := W.ownsRow base 28 4 v L.length (evl L)
theorem ERow.alloc {W : World} {base : Nat} {v : Value} {L : List Ev} (h : ERow W base v L) (o : Obj) : ERow (W.alloc o) base v L := World.ownsRow.alloc h o
theorem ERow.drew {W : World} {base : Nat} {v : Value} {L : List Ev} (h : ERow W base v L) : ERow W.drew base v L := h
theorem ERow.nil (W : World) (base : Nat) : ERow W base (.slice none 0 0) [] := World.ownsRow_nil _ _ _ _
theorem ERow.empty {W : World} {base g : Nat} (h : W.heap[g]? = some (.cells #[] 28 (0, 0))) (hb : base ≤ g) : ERow W base (.slice (some ⟨g, 0, none⟩) 0 0) [] :=
  ⟨rfl, .inr ⟨g, 0, #[], rfl, hb, h, Nat.le_refl _, Nat.zero_le _, rfl, rfl⟩⟩
theorem ERow.mono {W : World} {b base : Nat} {v : Value} {L : List Ev} (h : ERow W base v L) (hb : b ≤ base) : ERow W b v L := by
  refine ⟨h.1, ?_⟩
  rcases h.2 with h2 | ⟨g, cap, cur, h1, h2, h3⟩
  · exact .inl h2
  · exact .inr ⟨g, cap, cur, h1, Nat.le_trans hb h2, h3⟩
theorem ERow.below {W W' : World} {base : Nat} {v : Value} {L : List Ev} (h : ERow W base v L) (hb : Below W.heap.size W W') : ERow W' base v L := by
  refine ⟨h.1, ?_⟩
  rcases h.2 with h2 | ⟨g, cap, cur, h1, h2, h3, h4⟩
  · exact .inl h2
  · refine .inr ⟨g, cap, cur, h1, h2, ?_, h4⟩
    have hlt := (h.lt g (by rw [h1]; rfl)).2
    rw [hb.block g hlt]; exact h3
theorem ERow.form {W : World} {base : Nat} {v : Value} {L : List Ev} (h : ERow W base v L) (hn : 0 < L.length) : ∃ g cap, v = .slice (some ⟨g, 0, none⟩) L.length cap ∧ base ≤ g ∧ g < W.heap.size := World.ownsRow.form h hn
theorem ERow.isSlice {W : World} {base : Nat} {v : Value} {L : List Ev} (h : ERow W base v L) : ∃ a c, v = .slice a L.length c ∧ L.length ≤ c ∧ EvS W a L ∧ (a = none → c = 0) := by
  rcases h.2 with ⟨h2, h3⟩ | ⟨g, cap, cur, h1, h2, h3, h4, h5, h6, h7⟩
  · have : L = [] := List.eq_nil_of_length_eq_zero h3
    subst this
    exact ⟨none, 0, h2, Nat.le_refl _, EvS.nil _ _, fun _ => rfl⟩
  · refine ⟨_, cap, h1, h4, ?_, fun h => by cases h⟩
    subst h1
    have hlt := (h.lt g rfl).2
    intro i s hi
    have hil : i < L.length := (List.getElem?_eq_some_iff.1 hi).1
    have key : ∀ j, j < 4 → W.cell? ⟨g, 0 + i * 4 + j, none⟩ = (evc s)[j]? := by
      intro j hj
      rw [Nat.zero_add, ← evl_at L i s hi j hj]
      exact World.ownsRow.cellAt h (i * 4 + j) (by omega)
    exact ⟨g, 0, rfl, hlt, key 0 (by omega), key 1 (by omega), key 2 (by omega), key 3 (by omega)⟩
theorem ERow.sts {W : World} {base g c : Nat} {L : List Ev} (h : ERow W base (.slice (some ⟨g, 0, none⟩) L.length c) L) : EvS W (some ⟨g, 0, none⟩) L := by
  obtain ⟨a, c', h1, -, h2, -⟩ := h.isSlice
  injection h1 with h1 _ _
  rw [h1]; exact h2

theorem evs_news {W : World} {xb xo : Nat} {X : List Ev} (h : EvS W (some ⟨xb, xo, none⟩) X) (j : Nat) (u : Value) (hj : (evl X)[j]? = some u) : W.cell? (Addr.add ⟨xb, xo, none⟩ j) = some u := by
  obtain ⟨s, h1, h2⟩ := evl_cell X j u hj
  obtain ⟨b, o, hbo, -, c0, c1, c2, c3⟩ := h (j / 4) s h1
  injection hbo with hbo
  injection hbo with e1 e2 _
  subst e1 e2
  rw [Go.WideShapes.add_plain, show xo + j = xo + j / 4 * 4 + j % 4 by omega]
  generalize hq : j % 4 = q at *
  have hq4 : q < 4 := by omega
  rcases q with _ | _ | _ | _ | q
  · exact c0.trans h2
  · exact c1.trans h2
  · exact c2.trans h2
  · exact c3.trans h2
  · omega
/-- Several events appended. -/
theorem append_events {ops : Array Oper} {rest : List Oper} {o : Oper} {a : Act} {Q : Exit → Act → World → Prop} {w0 : World} (hgd : o.guard = none) (s x : Operand)
    (ho : o.op = .call { callee := .builtin .append, args := #[s, x], argTypes := #[24, 24] })
    {base : Nat} {v : Value} {L : List Ev} (hs : a.eval s = v) (hown : ERow w0 base v L) (hbase : base ≤ w0.heap.size) (hlen : L.length ≤ 1000)
    {xb xo m xc : Nat} (hx : a.eval x = .slice (some ⟨xb, xo, none⟩) m xc) {X : List Ev} (hX : EvS w0 (some ⟨xb, xo, none⟩) X) (hXl : X.length = m) (hm : 0 < m) (hm2 : m ≤ 1000) {M : List Ev} (hM : M = L ++ X)
    (h : ∀ g cap w', ERow w' base (.slice (some ⟨g, 0, none⟩) M.length cap) M → Below base w0 w' → w0.grownBy w' v.ownBlock → (v.ownBlock = some g ∨ g = w0.heap.size) →
      wpList Tryz.prog ops Q rest (a.put o.dst (.slice (some ⟨g, 0, none⟩) M.length cap)) w') :
    wpList Tryz.prog ops Q (o :: rest) a w0 := by
  obtain ⟨i0, hi, hz0, hz1, hz2⟩ := info_parts Tryz.infoEvent
  subst hXl
  refine wpList_append_lies _ hgd s x 24 ho base 28 i0 _ 4 32 Tryz.underlying24 hi hz0 hz1 hz2 rfl (by decide) v L.length (evl L) hs hown ⟨xb, xo, none⟩ X.length xc (evl X) hx (evl_length X) (evs_news hX) (evl_one' X) hm (by unfold maxLen; omega) (by omega) hbase _ rfl ?_
  intro g cap w1 hown' hgrow hat hlt
  have hl : M.length = L.length + X.length := by rw [hM, List.length_append]
  rw [← hl] at hown' ⊢
  refine h g cap w1 ?_ ((Below.refl _ _).grown hgrow hbase (fun k hk => (hown.lt k hk).1)) hgrow hat
  show w1.ownsRow base _ 4 _ M.length (evl M)
  rw [hM, evl_append, ← hM]; exact hown'
/-- The same at a step of a region that draws its order. -/
theorem step_append_events {ops : Array Oper} {o : Oper} {a : Act} {K : Act → World → Prop} {Q : Exit → Act → World → Prop} {E : Prop} {w0 : World} (hgd : o.guard = none) (s x : Operand)
    (ho : o.op = .call { callee := .builtin .append, args := #[s, x], argTypes := #[24, 24] })
    {base : Nat} {v : Value} {L : List Ev} (hs : a.eval s = v) (hown : ERow w0 base v L) (hbase : base ≤ w0.heap.size) (hlen : L.length ≤ 1000)
    {xb xo m xc : Nat} (hx : a.eval x = .slice (some ⟨xb, xo, none⟩) m xc) {X : List Ev} (hX : EvS w0 (some ⟨xb, xo, none⟩) X) (hXl : X.length = m) (hm : 0 < m) (hm2 : m ≤ 1000) {M : List Ev} (hM : M = L ++ X)
    (h : ∀ g cap w', ERow w' base (.slice (some ⟨g, 0, none⟩) M.length cap) M → Below base w0 w' → w0.grownBy w' v.ownBlock → (v.ownBlock = some g ∨ g = w0.heap.size) →
      K (a.put o.dst (.slice (some ⟨g, 0, none⟩) M.length cap)) w') :
    if Region.wanted o (yielded ops a.tmps) = true then Oper.wp Tryz.prog o a w0 K Q else E := by
  obtain ⟨i0, hi, hz0, hz1, hz2⟩ := info_parts Tryz.infoEvent
  subst hXl
  refine step_append_lies _ hgd s x 24 ho base 28 i0 _ 4 32 Tryz.underlying24 hi hz0 hz1 hz2 rfl (by decide) v L.length (evl L) hs hown ⟨xb, xo, none⟩ X.length xc (evl X) hx (evl_length X) (evs_news hX) (evl_one' X) hm (by unfold maxLen; omega) (by omega) hbase _ rfl ?_
  intro g cap w1 hown' hgrow hat hlt
  have hl : M.length = L.length + X.length := by rw [hM, List.length_append]
  rw [← hl] at hown' ⊢
  refine h g cap w1 ?_ ((Below.refl _ _).grown hgrow hbase (fun k hk => (hown.lt k hk).1)) hgrow hat
  show w1.ownsRow base _ 4 _ M.length (evl M)
  rw [hM, evl_append, ← hM]; exact hown'
/-- Nothing appended, at a step of a region. -/
theorem step_append_enil {ops : Array Oper} {o : Oper} {a : Act} {K : Act → World → Prop} {Q : Exit → Act → World → Prop} {E : Prop} {w0 : World} (hgd : o.guard = none) (s x : Operand)
    (ho : o.op = .call { callee := .builtin .append, args := #[s, x], argTypes := #[24, 24] })
    {base : Nat} {v : Value} {L : List Ev} (hs : a.eval s = v) (hown : ERow w0 base v L) (hx : a.eval x = .slice none 0 0) (h : K (a.put o.dst v) w0) :
    if Region.wanted o (yielded ops a.tmps) = true then Oper.wp Tryz.prog o a w0 K Q else E := by
  have hw : Region.wanted o (yielded ops a.tmps) = true := by simp [Region.wanted, hgd]
  rw [if_pos hw]
  obtain ⟨i0, hi, hz0, hz1, hz2⟩ := info_parts Tryz.infoEvent
  have hrun := run_append_owned_none (P := Tryz.prog) (w := w0) base 24 o.type 28 i0 4 Tryz.underlying24 hi v L.length (evl L) hown
  unfold Oper.wp
  simp [execOp, ho, resolve, invoke, builtin, hs, hx, hrun, Result.andThen]
  exact h
theorem EvS.alloc {W : World} {a : Option Addr} {L : List Ev} (h : EvS W a L) (o : Obj) : EvS (W.alloc o) a L := h.below ((Below.refl _ _).alloc (Nat.le_refl _) _)
theorem EvS.drew {W : World} {a : Option Addr} {L : List Ev} (h : EvS W a L) : EvS W.drew a L := h
/-- A event in a new block. -/
theorem evs_block {W : World} {g : Nat} {s : Ev} (h : W.heap[g]? = some (.cells #[.int .i64 s.tm, .int .i64 s.kd, .int .i64 s.a, .int .i64 s.b] 28 (0, 0))) : EvS W (some ⟨g, 0, none⟩) [s] := by
  intro i t hi
  match i, hi with
  | 0, hi =>
    simp at hi
    subst hi
    refine ⟨g, 0, rfl, ?_, ?_⟩
    · rcases Nat.lt_or_ge g W.heap.size with h1 | h1
      · exact h1
      · rw [Array.getElem?_eq_none h1] at h; cases h
    · refine ⟨?_, ?_, ?_, ?_⟩ <;> (rw [Lib.cell_of_heap h]; rfl)

theorem evl_set_len (L : List Ev) (j : Nat) (u : Value) : ((evl L).set j u).length = L.length * 4 := by rw [List.length_set, evl_length]
theorem evl_set : ∀ (L : List Ev) (i k : Nat) (b c : Ev) (u : Value), L[i]? = some b → k < 4 → evc c = (evc b).set k u → (evl L).set (i * 4 + k) u = evl (L.set i c)
  | [], i, _, _, _, _, h, _, _ => by simp at h
  | t :: L, 0, k, b, c, u, h, hk, hc => by
    simp at h
    subst h
    rw [evl, List.set_cons_zero, evl, hc, List.set_append_left _ _ (by simp [evc]; omega)]
    simp
  | t :: L, i + 1, k, b, c, u, h, hk, hc => by
    rw [evl, List.set_cons_succ, evl, ← evl_set L i k b c u (by simpa using h) hk hc, List.set_append_right _ _ (by simp [evc]; omega)]
    congr 2
    simp [evc]; omega
/-- A number of a event is set. -/
theorem ERow.store {W : World} {base g c : Nat} {L : List Ev} (h : ERow W base (.slice (some ⟨g, 0, none⟩) L.length c) L) (i k : Nat) (b d : Ev) (u : Value) (hi : L[i]? = some b) (hk : k < 4) (hd : evc d = (evc b).set k u) :
    ERow (W.setCell ⟨g, i * 4 + k, none⟩ u) base (.slice (some ⟨g, 0, none⟩) L.length c) (L.set i d) := by
  have := (World.ownsRow.stored h (i * 4 + k) u).1
  rw [evl_set L i k b d u hi hk hd] at this
  unfold ERow
  rw [List.length_set]
  exact this
theorem ERow.cells {W : World} {base g c : Nat} {L : List Ev} (h : ERow W base (.slice (some ⟨g, 0, none⟩) L.length c) L) : ∀ j, W.frozen? ⟨g, j, none⟩ = false := fun j => World.ownsRow.frozenAt h j
end Go.Proofs.YtinknenfhohamaaGreatDoor

namespace Go.Proofs.YtinknenfhohamaaGreatDoor
open Go.RowKit
set_option maxRecDepth 100000

def clsV (e : Ev) : Value := .agg #[.int .i64 e.kd, .int .i64 e.a, .int .i64 e.b]
theorem of_any (e : Ev) (w : World) : Calls Tryz.prog 21 #[evV e] w fun r w' => r = .returned (clsV e) ∧ Below w.heap.size w w' := by
  simp only [evV, clsV]
  go_enter Tryz.func21, Tryz.ntmps21
  go_wp2_with fail
  refine bodyPost_ret (v := .agg #[.int .i64 e.kd, .int .i64 e.a, .int .i64 e.b]) (results_cell_row (p := 2) (ty := 71) rfl _ _ (w.heap.size + 1) 71 #[.int .i64 e.kd, .int .i64 e.a, .int .i64 e.b] (0, 0) _ (by rfl) (heap_last' _ _ (size_alloc _ _)) Tryz.underlying71 rfl (by kernel_rfl)) rfl ⟨rfl, ?_⟩
  exact ((Below.refl w.heap.size w).alloc (Nat.le_refl _) _).alloc (by rw [size_alloc]; omega) _
theorem odd_bits1 : ∀ k : Fin 63, (bits .and .i64 (k.val : Int) 1 == 1) = decide ((k.val : Int) % 2 = 1) := by decide +kernel
theorem odd_bits (k : Int) (h : 0 ≤ k ∧ k ≤ 62) (n : Nat) : (bits .and .i64 (k / 2 ^ n) 1 == 1) = decide (k / 2 ^ n % 2 = 1) := by
  have h0 : 0 ≤ k / 2 ^ n := Int.ediv_nonneg h.1 (Int.pow_nonneg (by omega))
  have h1 : k / 2 ^ n ≤ k := Int.ediv_le_self _ h.1
  have := odd_bits1 ⟨(k / 2 ^ n).toNat, by omega⟩
  simpa only [Int.toNat_of_nonneg h0] using this
theorem has_any (k : Int) (e : Ev) (w : World) (hk : 0 ≤ k ∧ k ≤ 62) : Calls Tryz.prog 49 #[.int .i64 k, evV e] w fun r w' => r = .returned (.bool (cnt ⟨k, 0, false⟩ e)) ∧ Below w.heap.size w w' := by
  simp only [evV]
  have HB := Lib.hid ((Below.refl w.heap.size w).alloc (Nat.le_refl _) (.cells #[.int .i64 e.tm, .int .i64 e.kd, .int .i64 e.a, .int .i64 e.b] 28))
  have HV := Lib.hid (show cnt ⟨k, 0, false⟩ e = (decide (1 ≤ e.kd ∧ e.kd ≤ 5) && decide (k / 2 ^ e.kd.toNat % 2 = 1)) from rfl)
  have HW := Lib.hid (fun (n a b : Int) W => within_any n a b W)
  by_cases h1 : 1 ≤ e.kd ∧ e.kd ≤ 5
  · have d1 : decide (1 ≤ e.kd ∧ e.kd ≤ 5) = true := decide_eq_true h1
    have HW1 := Lib.hid (HW.out e.kd 1 5)
    rw [d1] at HW1 HV
    have HK := Lib.hid hk
    clear hk
    go_enter Tryz.func49, Tryz.ntmps49
    go_wp2_with fail
    refine (HW1.out _).mono ?_
    rintro r w1 ⟨rfl, rfl⟩
    go_wp2_with fail
    go_ret
    exact ⟨by rw [HV.out, odd_bits _ HK.out e.kd.toNat]; rfl, HB.out⟩
  · have d1 : decide (1 ≤ e.kd ∧ e.kd ≤ 5) = false := decide_eq_false h1
    have HW1 := Lib.hid (HW.out e.kd 1 5)
    rw [d1] at HW1 HV
    go_enter Tryz.func49, Tryz.ntmps49
    go_wp2_with fail
    refine (HW1.out _).mono ?_
    rintro r w1 ⟨rfl, rfl⟩
    go_wp2_with fail
    go_ret
    exact ⟨by rw [HV.out]; rfl, HB.out⟩
theorem heap_back (w : World) (o2 o : Obj) {g : Nat} (h : w.heap[g]? = some o) : (w.alloc o2).heap[g]? = some o := by
  have hl : g < w.heap.size := by
    rcases Nat.lt_or_ge g w.heap.size with h1 | h1
    · exact h1
    · rw [Array.getElem?_eq_none h1] at h; cases h
  show (w.heap.push o2)[g]? = some o
  rw [Array.getElem?_push_lt hl, ← h, Array.getElem?_eq_getElem hl]
end Go.Proofs.YtinknenfhohamaaGreatDoor
