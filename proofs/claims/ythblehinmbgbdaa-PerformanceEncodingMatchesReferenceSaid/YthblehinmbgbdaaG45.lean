/- PerformanceMatchesReference: all functions agree with the reference implementation. -/
import Derived.Test.YthblehinmbgbdaaG43
import Derived.Test.YthblehinmbgbdaaG10
import Derived.Test.YthblehinmbgbdaaG16
import Derived.Test.YthblehinmbgbdaaG39
import Derived.Deep.RegionHeld3
import Derived.Deep.CutBlock
import Derived.Deep.CutRange
namespace Go.Proofs.Ythblehinmbgbdaa
open Go.RowKit
set_option maxRecDepth 100000

theorem Try.infoRow : (Try.prog.info? 25).map (fun i => (i.zero, i.size, i.bytes)) = some (some (.slice none 0 0), 1, 24) := by kernel_rfl
/-- Some rows of events in a block. -/
def PRows (W : World) (g m : Nat) : Prop := ∀ j, j < m → ∃ a n c X, W.cell? ⟨g, j, none⟩ = some (.slice a n c) ∧ Pf W a n X
theorem PRows.below {W W' : World} {g m : Nat} (h : PRows W g m) (hg : g < W.heap.size) (hb : Below W.heap.size W W') : PRows W' g m := by
  intro j hj
  obtain ⟨a, n, c, X, h1, h2⟩ := h j hj
  exact ⟨a, n, c, X, (hb.cell (p := ⟨g, j, none⟩) hg).trans h1, h2.below hb⟩
/-- Four relations in a block. -/
def QRels (W : World) (g : Nat) : Prop := ∀ j, j < 4 → ∃ r : Rel, W.cell? ⟨g, j * 3, none⟩ = some (.int .i64 r.kinds) ∧ W.cell? ⟨g, j * 3 + 1, none⟩ = some (.int .i64 r.slack) ∧ W.cell? ⟨g, j * 3 + 2, none⟩ = some (.bool r.ord)
theorem QRels.below {W W' : World} {g : Nat} (h : QRels W g) (hg : g < W.heap.size) (hb : Below W.heap.size W W') : QRels W' g := by
  intro j hj
  obtain ⟨r, h1, h2, h3⟩ := h j hj
  exact ⟨r, (hb.cell (p := ⟨g, j * 3, none⟩) hg).trans h1, (hb.cell (p := ⟨g, j * 3 + 1, none⟩) hg).trans h2, (hb.cell (p := ⟨g, j * 3 + 2, none⟩) hg).trans h3⟩
/-- One row more. -/
theorem table_more {W : World} {g gs : Nat} {v0 v1 v2 x : Value} (h : W.heap[g]? = some (.cells #[v0, v1, v2] 25 (0, 0))) (h0 : v0.oneCell' = true) (h1 : v1.oneCell' = true) (h2 : v2.oneCell' = true) (hs : W.heap[gs]? = some (.cells #[x] 25 (0, 0))) (hx : x.oneCell' = true) (ty : TypeId) :
    ∃ cap w', (Builtin.append_ #[31, 31] ty #[.slice (some ⟨g, 0, none⟩) 3 3, .slice (some ⟨gs, 0, none⟩) 1 1]).run Try.prog W = .ok (.slice (some ⟨W.heap.size, 0, none⟩) 4 cap) w' ∧ Below W.heap.size W w' ∧ W.heap.size < w'.heap.size ∧ ∀ (j : Nat) (u : Value), [v0, v1, v2, x][j]? = some u → w'.cell? ⟨W.heap.size, j, none⟩ = some u := by
  obtain ⟨i0, hi, hz0, hz1, hz2⟩ := info_parts Try.infoRow
  have ho : (Builtin.firstCells 1 3 (.slice (some ⟨g, 0, none⟩) 3 3)).run Try.prog W.drew = .ok #[v0, v1, v2] W.drew :=
    (Src.ofSlice (P := Try.prog) (size := 1) (e' := 25) W Try.underlying31 ⟨g, 0, none⟩ 3 3 [v0, v1, v2] rfl (by
      intro j u hj
      rw [Go.WideShapes.add_plain, Lib.cell_of_heap h]
      simpa using hj) (by
      intro u hu
      simp only [List.mem_cons, List.not_mem_nil, or_false] at hu
      rcases hu with rfl | rfl | rfl <;> assumption)).cellsD
  have hsrc : Src Try.prog 1 31 (.slice (some ⟨gs, 0, none⟩) 1 1) 1 [x] W := Src.ofSlice (e' := 25) W Try.underlying31 ⟨gs, 0, none⟩ 1 1 [x] rfl (by
      intro j u hj
      rw [Go.WideShapes.add_plain, Lib.cell_of_heap hs]
      simpa using hj) (by
      intro u hu
      rw [List.mem_singleton.1 hu]; exact hx)
  have hr := run_append_grow_src (P := Try.prog) W 31 31 ty 25 i0 _ Try.underlying31 hi hz0 (some ⟨g, 0, none⟩) 3 3 [v0, v1, v2] (by rw [hz1]; exact ho) (.slice (some ⟨gs, 0, none⟩) 1 1) 1 [x] (by rw [hz1]; exact hsrc) (by omega) (by omega) (by rw [hz2]; exact growslice_fits (by omega) (by omega))
  refine ⟨_, _, hr, ((Below.refl W.heap.size W).drew).alloc (Nat.le_refl _) _, by simp, ?_⟩
  intro j u hj
  have hj4 : j < 4 := by have := (List.getElem?_eq_some_iff.1 hj).1; simpa using this
  show (World.alloc W.drew _).cell? ⟨W.drew.heap.size, j, none⟩ = _
  rw [Lib.cell_of_heap (heap_last W.drew _), Array.getElem?_append_left (by simpa using hj4)]
  simpa using hj
/-- The same at a step of a region that draws its order. -/
theorem step_table {ops : Array Oper} {o : Oper} {a : Act} {K : Act → World → Prop} {Q : Exit → Act → World → Prop} {E : Prop} {W : World} (hgd : o.guard = none) (s y : Operand)
    (ho : o.op = .call { callee := .builtin .append, args := #[s, y], argTypes := #[31, 31] })
    {g gs : Nat} {v0 v1 v2 x : Value} (hs : a.eval s = .slice (some ⟨g, 0, none⟩) 3 3) (hx : a.eval y = .slice (some ⟨gs, 0, none⟩) 1 1) (h : W.heap[g]? = some (.cells #[v0, v1, v2] 25 (0, 0))) (h0 : v0.oneCell' = true) (h1 : v1.oneCell' = true) (h2 : v2.oneCell' = true) (hss : W.heap[gs]? = some (.cells #[x] 25 (0, 0))) (hxx : x.oneCell' = true)
    (hk : ∀ cap w' gN, Below W.heap.size W w' → W.heap.size = gN → gN < w'.heap.size → (∀ (j : Nat) (u : Value), [v0, v1, v2, x][j]? = some u → w'.cell? ⟨gN, j, none⟩ = some u) → K (a.put o.dst (.slice (some ⟨gN, 0, none⟩) 4 cap)) w') :
    if Region.wanted o (yielded ops a.tmps) = true then Oper.wp Try.prog o a W K Q else E := by
  have hw : Region.wanted o (yielded ops a.tmps) = true := by simp [Region.wanted, hgd]
  rw [if_pos hw]
  obtain ⟨cap, w', hrun, k1, k2, k3⟩ := table_more h h0 h1 h2 hss hxx o.type
  unfold Oper.wp
  simp [execOp, ho, resolve, invoke, builtin, hs, hx, hrun, Result.andThen]
  exact hk cap w' _ k1 rfl k2 k3
/-- A row of events that the call owns, or an empty slice without room. -/
def OwnE (W : World) (base : Nat) (v : Value) (L : List Ev) : Prop := ERow W base v L ∨ (∃ a, v = .slice a 0 0 ∧ L = [])
theorem OwnE.isSlice {W : World} {base : Nat} {v : Value} {L : List Ev} (h : OwnE W base v L) : ∃ a c, v = .slice a L.length c ∧ EvS W a L := by
  rcases h with h | ⟨a, h1, h2⟩
  · obtain ⟨a, c, h1, -, h2, -⟩ := ERow.isSlice h
    exact ⟨a, c, h1, h2⟩
  · subst h2
    exact ⟨a, 0, h1, EvS.nil _ _⟩
theorem own2_events {W : World} {base : Nat} {v : Value} {L X : List Ev} {xa : Option Addr} {n c : Nat} (hown : OwnE W base v L) (hX : EvS W xa X) (hn : X.length = n) (hbase : base ≤ W.heap.size) (hl : L.length ≤ 500) (hn2 : n ≤ 500) (ty : TypeId) :
    ∃ v' w', (Builtin.append_ #[25, 25] ty #[v, .slice xa n c]).run Try.prog W = .ok v' w' ∧ OwnE w' base v' (L ++ X) ∧ Below base W w' := by
  rcases hown with h | ⟨a, rfl, rfl⟩
  · obtain ⟨v', w', h1, h2, h3⟩ := own_events (c := c) h hX hn hbase hl hn2 ty
    exact ⟨v', w', h1, .inl h2, h3⟩
  · subst hn
    by_cases h0 : X.length = 0
    · obtain ⟨i0, hi, hz0, hz1, hz2⟩ := info_parts Try.infoEvent
      have hX0 : X = [] := List.eq_nil_of_length_eq_zero h0
      have hs := src_events hX c
      subst hX0
      have := run_append_nothing (P := Try.prog) W 25 25 ty 52 i0 Try.underlying25 hi a 0 0 (Nat.le_refl _) (.slice xa 0 c) (by rw [hz1]; exact hs)
      exact ⟨_, _, this, .inr ⟨a, rfl, rfl⟩, Below.refl _ _⟩
    · obtain ⟨a', c', w', h1, h2, h3, h4⟩ := tight_events (A := []) (c := 0) (EvS.nil W a) (src_events hX c) rfl rfl (by simp; omega) ty
      exact ⟨_, w', h1, .inl ((h4 (by omega)).mono hbase), h3.mono hbase⟩
theorem step_own2 {ops : Array Oper} {o : Oper} {a : Act} {K : Act → World → Prop} {Q : Exit → Act → World → Prop} {E : Prop} {W : World} (hgd : o.guard = none) (s x : Operand)
    (ho : o.op = .call { callee := .builtin .append, args := #[s, x], argTypes := #[25, 25] })
    {base : Nat} {v : Value} {L X : List Ev} {xa : Option Addr} {n c : Nat} (hs : a.eval s = v) (hx : a.eval x = .slice xa n c) (hown : OwnE W base v L) (hX : EvS W xa X) (hn : X.length = n) (hbase : base ≤ W.heap.size) (hl : L.length ≤ 500) (hn2 : n ≤ 500)
    (h : ∀ v' w', OwnE w' base v' (L ++ X) → Below base W w' → K (a.put o.dst v') w') :
    if Region.wanted o (yielded ops a.tmps) = true then Oper.wp Try.prog o a W K Q else E := by
  have hw : Region.wanted o (yielded ops a.tmps) = true := by simp [Region.wanted, hgd]
  rw [if_pos hw]
  obtain ⟨v', w', hrun, h1, h2⟩ := own2_events (c := c) hown hX hn hbase hl hn2 o.type
  unfold Oper.wp
  simp [execOp, ho, resolve, invoke, builtin, hs, hx, hrun, Result.andThen]
  exact h v' w' h1 h2
theorem refCompare_b {k s : Int} {o : Bool} {a : Option Addr} {n c : Nat} {X : List Ev} {a' : Option Addr} {n' c' : Nat} {Y : List Ev} {w : World} {i : Int} {b : Bool} (hX : Pf w a n X) (hY : Pf w a' n' Y) (hb : compareR ⟨k, s, o⟩ X Y = (i, b)) :
    Calls Try.prog 24 #[.agg #[.int .i64 k, .int .i64 s, .bool o], .slice a n c, .slice a' n' c'] w fun e w' => e = .returned (.tuple #[.int .i64 i, .bool b]) ∧ Below w.heap.size w w' := by
  obtain ⟨h1, rfl, h3, h4⟩ := hX
  obtain ⟨g1, rfl, g3, g4⟩ := hY
  have := refCompare_any ⟨k, s, o⟩ a c X a' c' Y w h1 g1 (by omega) (by omega) h4.tm g4.tm
  rw [hb] at this
  exact this
theorem refCounted_b {k s : Int} {o : Bool} {a : Option Addr} {n c : Nat} {X : List Ev} {w : World} (hX : Pf w a n X) :
    Calls Try.prog 22 #[.agg #[.int .i64 k, .int .i64 s, .bool o], .slice a n c] w fun e w' => ∃ a' c', e = .returned (.slice a' (counted ⟨k, s, o⟩ X).length c') ∧ Pf w' a' (counted ⟨k, s, o⟩ X).length (counted ⟨k, s, o⟩ X) ∧ Below w.heap.size w w' := by
  obtain ⟨h1, rfl, h3, h4⟩ := hX
  refine (refCounted_any ⟨k, s, o⟩ a c X w h1 (by omega)).mono ?_
  rintro e w' ⟨v, rfl, hr, hb⟩
  obtain ⟨a', c', rfl, -, hS, -⟩ := hr.isSlice
  have hl := counted_len ⟨k, s, o⟩ X
  refine ⟨a', c', rfl, ⟨hS, rfl, by omega, fun e he => ?_⟩, hb⟩
  unfold counted at he
  split at he
  · exact h4 e (List.mem_filter.1 he).1
  · cases he
theorem same_b {a : Option Addr} {n c : Nat} {X : List Ev} {a' : Option Addr} {n' c' : Nat} {w : World} (hX : Pf w a n X) (hY : Pf w a' n' X) :
    Calls Try.prog 20 #[.slice a n c, .slice a' n' c'] w fun e w' => e = .returned (.bool true) ∧ Below w.heap.size w w' := by
  obtain ⟨h1, rfl, h3, h4⟩ := hX
  obtain ⟨g1, rfl, g3, g4⟩ := hY
  have := same_any a c X a' c' X w h1 g1 (by omega) (by omega)
  rwa [decide_eq_true rfl] at this
theorem validR_b {k s : Int} {o b : Bool} (w : World) (hb : validR ⟨k, s, o⟩ = b) :
    Calls Try.prog 18 #[.agg #[.int .i64 k, .int .i64 s, .bool o]] w fun e w' => e = .returned (.bool b) ∧ Below w.heap.size w w' := by
  have := valid_any ⟨k, s, o⟩ w
  rw [hb] at this
  exact this
theorem refValidR_b {k s : Int} {o b : Bool} (w : World) (hb : validR ⟨k, s, o⟩ = b) :
    Calls Try.prog 19 #[.agg #[.int .i64 k, .int .i64 s, .bool o]] w fun e w' => e = .returned (.bool b) ∧ Below w.heap.size w w' := by
  have := refValid_any ⟨k, s, o⟩ w
  rw [hb] at this
  exact this
theorem weakR_b {k s k' s' : Int} {o o' b : Bool} (w : World) (hb : weaker ⟨k, s, o⟩ ⟨k', s', o'⟩ = b) :
    Calls Try.prog 16 #[.agg #[.int .i64 k, .int .i64 s, .bool o], .agg #[.int .i64 k', .int .i64 s', .bool o']] w fun e w' => e = .returned (.bool b) ∧ Below w.heap.size w w' := by
  have := weaker_any ⟨k, s, o⟩ ⟨k', s', o'⟩ w
  rw [hb] at this
  exact this
theorem refWeakR_b {k s k' s' : Int} {o o' b : Bool} (w : World) (hb : weaker ⟨k, s, o⟩ ⟨k', s', o'⟩ = b) :
    Calls Try.prog 17 #[.agg #[.int .i64 k, .int .i64 s, .bool o], .agg #[.int .i64 k', .int .i64 s', .bool o']] w fun e w' => e = .returned (.bool b) ∧ Below w.heap.size w w' := by
  have := refWeaker_any ⟨k, s, o⟩ ⟨k', s', o'⟩ w
  rw [hb] at this
  exact this
attribute [local irreducible] agr relOf someOf nearOf weaker validR compareR counted
set_option maxHeartbeats 8000000 in
theorem mat_any (q t : Rel) (x y z x' y' z' : Int) (ar : Option Addr) (cr : Nat) (R : List Ev) (al : Option Addr) (cl : Nat) (Q : List Qd) (a1 : Option Addr) (c1 : Nat) (N1 : List Int) (which : Int) (w : World) (hx : I64 x) (hy : I64 y) (hz : I64 z) (hx' : I64 x') (hy' : I64 y') (hz' : I64 z')
    (hR : EvS w ar R) (hRI : EvI R) (hRc : R.length ≤ cr) (hRm : cr ≤ 9223372036854775807) (hRn : ar = none → cr = 0) (hQ : QdS w al Q) (hQI : QdI Q) (hQl : Q.length ≤ 9223372036854775807) (hN1 : InS w a1 N1) (hI1 : InI N1) (hl1 : N1.length ≤ 9223372036854775807) (hwh : I64 which) :
    Calls Try.prog 3 #[relV q, relV t, .agg #[.int .i64 x, .int .i64 y, .int .i64 z], .agg #[.int .i64 x', .int .i64 y', .int .i64 z'], .slice ar R.length cr, .slice al Q.length cl, .slice a1 N1.length c1, .int .i64 which] w fun e w' => e = .returned (.bool true) ∧ Below w.heap.size w w' := by
  obtain ⟨nr, hnr⟩ : ∃ n, R.length = n := ⟨_, rfl⟩
  obtain ⟨nq, hnq⟩ : ∃ n, Q.length = n := ⟨_, rfl⟩
  obtain ⟨n1, hn1⟩ : ∃ n, N1.length = n := ⟨_, rfl⟩
  obtain ⟨r, hr⟩ : ∃ r, relOf x y z = r := ⟨_, rfl⟩
  obtain ⟨s, hs⟩ : ∃ r, relOf x' y' z' = r := ⟨_, rfl⟩
  obtain ⟨A, hA⟩ : ∃ A, someOf Q = A := ⟨_, rfl⟩
  obtain ⟨C, hC⟩ : ∃ C, nearOf 4 N1 A = C := ⟨_, rfl⟩
  obtain ⟨kb, hkb⟩ : ∃ l, min nr 30 = l := ⟨_, rfl⟩
  have HAS : Hid (Sml 240 A) := Lib.hid (by rw [← hA]; exact (someOf_facts Q).2)
  have HPR : Hid (∀ W, Below w.heap.size w W → Pf W ar kb (R.take kb)) := Lib.hid (fun W hW => ⟨(hR.below hW).take kb, by rw [List.length_take]; omega, by omega, fun e he => hRI e (List.mem_of_mem_take he)⟩)
  have hmm : ∀ wx, (Builtin.min_ #[3, 3] 3 #[.int .i64 (nr : Int), .int .i64 30]).run Try.prog wx = .ok (.int .i64 (kb : Int)) wx := fun wx => by rw [run_min2, show min (nr : Int) 30 = (kb : Int) by omega]
  have HSA := Lib.hid (fun W => sane_any W)
  have HRL : Hid (∀ W, Calls Try.prog 15 #[.agg #[.int .i64 x, .int .i64 y, .int .i64 z]] W fun e w' => e = .returned (.agg #[.int .i64 r.kinds, .int .i64 r.slack, .bool r.ord]) ∧ Below W.heap.size W w') := Lib.hid (fun W => by
    have := relation_any x y z W hx hy hz
    rw [hr] at this
    exact this)
  have HSR : Hid (∀ W, Calls Try.prog 15 #[.agg #[.int .i64 x', .int .i64 y', .int .i64 z']] W fun e w' => e = .returned (.agg #[.int .i64 s.kinds, .int .i64 s.slack, .bool s.ord]) ∧ Below W.heap.size W w') := Lib.hid (fun W => by
    have := relation_any x' y' z' W hx' hy' hz'
    rw [hs] at this
    exact this)
  have HSM : Hid (∀ W, Below w.heap.size w W → Calls Try.prog 12 #[.slice al nq cl] W fun e w' => ∃ a' n' c', e = .returned (.slice a' n' c') ∧ n' ≤ 30 ∧ Pf w' a' n' A ∧ Below W.heap.size W w') := Lib.hid (fun W hW => by
    have := some_b (c := cl) (hQ.below hW) hnq hQI (by omega)
    rwa [hA] at this)
  have HN1 : Hid (∀ (a : Option Addr) (n c : Nat) W, Below w.heap.size w W → Pf W a n A → n ≤ 30 → Calls Try.prog 13 #[.slice a n c, .int .i64 4, .slice a1 n1 c1] W fun e w' => ∃ a' c', e = .returned (.slice a' n c') ∧ n ≤ c' ∧ Pf w' a' n C ∧ Below W.heap.size W w') := Lib.hid (fun a n c W hW h hn => by
    have := near_c (c := c) (c2 := c1) h hn (s := 4) (by omega) HAS.out (by omega) (hN1.below hW) hn1 hI1 (by omega)
    rwa [hC] at this)
  have HPW := Lib.hid (fun (n : Int) W h1 h2 => pickL_any which n W hwh h1 h2)
  rw [hnr] at hRc ⊢
  rw [hnq, hn1]
  have k0 : (0 : Int) ≤ (kb : Int) := by omega
  have k1 : (kb : Int) ≤ (nr : Int) := by omega
  have k2 : (kb : Int) ≤ (cr : Int) := by omega
  have k3 : ¬ ((cr : Int) < (kb : Int)) := by omega
  have k4 : kb ≤ cr := by omega
  clear hR hRI
  clear hQ hQI hQl hx hy hz hx' hy' hz' hN1 hI1 hl1 hnq hn1 hr hs hA hC hwh hnr hkb
  obtain ⟨rk, rs, ro⟩ := r
  obtain ⟨sk, ss, so⟩ := s
  obtain ⟨qk, qs, qo⟩ := q
  obtain ⟨tk, ts, tO⟩ := t
  simp only [relV] at HRL HSR ⊢
  have HB := Lib.hid (Below.refl w.heap.size w)
  obtain ⟨w01, hw01⟩ : ∃ xx, w.alloc (.cells #[.int .i64 qk, .int .i64 qs, .bool qo] 23) = xx := ⟨_, rfl⟩
  obtain ⟨g5, hg5⟩ : ∃ xx, w.heap.size = xx := ⟨_, rfl⟩
  have hb : Below w.heap.size w w01 := by rw [← hw01]; exact (Below.refl _ _).alloc (Nat.le_refl _) _
  have HQ : Hid (Rl w01 g5 ⟨qk, qs, qo⟩) := Lib.hid (by rw [← hw01, ← hg5]; exact heap_last _ _)
  have HB := Lib.hid (HB.out.trans (hb.mono HB.out.size))
  clear hb
  obtain ⟨w02, hw02⟩ : ∃ xx, w01.alloc (.cells #[.int .i64 tk, .int .i64 ts, .bool tO] 23) = xx := ⟨_, rfl⟩
  obtain ⟨g6, hg6⟩ : ∃ xx, w01.heap.size = xx := ⟨_, rfl⟩
  have hb : Below w01.heap.size w01 w02 := by rw [← hw02]; exact (Below.refl _ _).alloc (Nat.le_refl _) _
  have HT : Hid (Rl w02 g6 ⟨tk, ts, tO⟩) := Lib.hid (by rw [← hw02, ← hg6]; exact heap_last _ _)
  have HB := Lib.hid (HB.out.trans (hb.mono HB.out.size))
  have HQ := Lib.hid (HQ.out.below hb)
  clear hb
  obtain ⟨w03, hw03⟩ : ∃ xx, w02.alloc (.cells #[.int .i64 x, .int .i64 y, .int .i64 z] 24) = xx := ⟨_, rfl⟩
  obtain ⟨g7, hg7⟩ : ∃ xx, w02.heap.size = xx := ⟨_, rfl⟩
  have hb : Below w02.heap.size w02 w03 := by rw [← hw03]; exact (Below.refl _ _).alloc (Nat.le_refl _) _
  have HX : Hid (Tr3 w03 g7 x y z) := Lib.hid (by rw [← hw03, ← hg7]; exact heap_last _ _)
  have HB := Lib.hid (HB.out.trans (hb.mono HB.out.size))
  have HQ := Lib.hid (HQ.out.below hb)
  have HT := Lib.hid (HT.out.below hb)
  clear hb
  obtain ⟨w04, hw04⟩ : ∃ xx, w03.alloc (.cells #[.int .i64 x', .int .i64 y', .int .i64 z'] 24) = xx := ⟨_, rfl⟩
  obtain ⟨g8, hg8⟩ : ∃ xx, w03.heap.size = xx := ⟨_, rfl⟩
  have hb : Below w03.heap.size w03 w04 := by rw [← hw04]; exact (Below.refl _ _).alloc (Nat.le_refl _) _
  have HY : Hid (Tr3 w04 g8 x' y' z') := Lib.hid (by rw [← hw04, ← hg8]; exact heap_last _ _)
  have HB := Lib.hid (HB.out.trans (hb.mono HB.out.size))
  have HQ := Lib.hid (HQ.out.below hb)
  have HT := Lib.hid (HT.out.below hb)
  have HX := Lib.hid (HX.out.below hb)
  clear hb
  go_enter Try.func3, Try.ntmps3
  go_wp2_with fail
  refine (HSA.out _).mono ?_
  rintro e w1 ⟨rfl, hb⟩
  have HB := Lib.hid (HB.out.trans (hb.mono HB.out.size))
  have HQ := Lib.hid (HQ.out.below hb)
  have HT := Lib.hid (HT.out.below hb)
  have HX := Lib.hid (HX.out.below hb)
  have HY := Lib.hid (HY.out.below hb)
  clear hb
  clear hw01 hg5 hw02 hg6 hw03 hg7 hw04 hg8
  go_upto_region 2 with fail
  go_cut [4] (fun v wx => v = .slice ar kb cr ∧ wx = w1)
  case first =>
    cases ar with
    | none =>
      obtain rfl : cr = 0 := hRn rfl
      obtain rfl : nr = 0 := by omega
      obtain rfl : kb = 0 := by omega
      go_wp2_with fail
      go_meet
      exact ⟨rfl, rfl⟩
    | some a =>
      obtain ⟨q1, q2, q3⟩ := a
      clear hRn
      go_wp2_with fail
      go_meet
      exact ⟨rfl, rfl⟩
  case rest =>
  obtain ⟨rfl, hwc⟩ := hcut
  subst hwc
  clear hmm hRn k0 k1 k2 k3 k4 hRc hRm
  have HPR := Lib.hid (HPR.out _ HB.out)
  go_wp2_with fail
  refine (HSM.out _ HB.out).mono ?_
  rintro e w3 ⟨aA, nA, cA, rfl, hn30, hpA, hb⟩
  have HB := Lib.hid (HB.out.trans (hb.mono HB.out.size))
  have HQ := Lib.hid (HQ.out.below hb)
  have HT := Lib.hid (HT.out.below hb)
  have HX := Lib.hid (HX.out.below hb)
  have HY := Lib.hid (HY.out.below hb)
  have HPR := Lib.hid (HPR.out.below hb)
  have HPA := Lib.hid hpA
  clear hb hpA
  go_wp2_with fail
  refine (HN1.out _ _ _ _ HB.out HPA.out hn30).mono ?_
  rintro e w4 ⟨aC, cC, rfl, hncC, hpC, hb⟩
  have HB := Lib.hid (HB.out.trans (hb.mono HB.out.size))
  have HQ := Lib.hid (HQ.out.below hb)
  have HT := Lib.hid (HT.out.below hb)
  have HX := Lib.hid (HX.out.below hb)
  have HY := Lib.hid (HY.out.below hb)
  have HPR := Lib.hid (HPR.out.below hb)
  have HPA := Lib.hid (HPA.out.below hb)
  have HPC := Lib.hid hpC
  clear hb hpC
  clear HSM HN1 HAS HSA
  obtain ⟨w5, hw5⟩ : ∃ xx, w4.alloc (.cells #[.slice ar kb cr, .slice aA nA cA, .slice aC nA cC] 25) = xx := ⟨_, rfl⟩
  obtain ⟨gT, hgT⟩ : ∃ xx, w4.heap.size = xx := ⟨_, rfl⟩
  have hb : Below w4.heap.size w4 w5 := by rw [← hw5]; exact (Below.refl _ _).alloc (Nat.le_refl _) _
  have HTB : Hid (w5.heap[gT]? = some (.cells #[.slice ar kb cr, .slice aA nA cA, .slice aC nA cC] 25 (0, 0))) := Lib.hid (by rw [← hw5, ← hgT]; exact heap_last _ _)
  have HB := Lib.hid (HB.out.trans (hb.mono HB.out.size))
  have HQ := Lib.hid (HQ.out.below hb)
  have HT := Lib.hid (HT.out.below hb)
  have HX := Lib.hid (HX.out.below hb)
  have HY := Lib.hid (HY.out.below hb)
  have HPR := Lib.hid (HPR.out.below hb)
  have HPA := Lib.hid (HPA.out.below hb)
  have HPC := Lib.hid (HPC.out.below hb)
  clear hb
  go_upto_if 50 with fail
  clear hw5 hgT
  have HGT : Hid (gT < w5.heap.size) := Lib.hid (Array.getElem?_eq_some_iff.1 HTB.out).1
  go_cut [20] (fun v wx => ∃ g m c, v = .slice (some ⟨g, 0, none⟩) m c ∧ m ≤ 4 ∧ g < wx.heap.size ∧ PRows wx g m ∧ Below w5.heap.size w5 wx)
  case first =>
    by_cases hn0 : nA = 0
    · have q0 : decide ((nA : Int) > 0) = false := by rw [decide_eq_false_iff_not]; omega
      have q1 : decide (0 < nA) = false := by rw [decide_eq_false_iff_not]; omega
      have q2 : ¬ ((0 : Int) < (nA : Int)) := by omega
      clear hn0
      go_wp2_with fail
      go_meet
      refine ⟨gT, 3, 3, rfl, by omega, HGT.out, ?_, Below.refl _ _⟩
      intro j hj
      match j, hj with
      | 0, _ => exact ⟨ar, kb, cr, _, by rw [Lib.cell_of_heap HTB.out]; rfl, HPR.out⟩
      | 1, _ => exact ⟨aA, nA, cA, _, by rw [Lib.cell_of_heap HTB.out]; rfl, HPA.out⟩
      | 2, _ => exact ⟨aC, nA, cC, _, by rw [Lib.cell_of_heap HTB.out]; rfl, HPC.out⟩
    · have q0 : decide ((nA : Int) > 0) = true := by rw [decide_eq_true_iff]; omega
      have q1 : decide (0 < nA) = true := by rw [decide_eq_true_iff]; omega
      have q2 : (0 : Int) < (nA : Int) := by omega
      go_upto_region 7 with fail
      clear q0 q1 q2
      go_wp2_with fail
      refine (HPW.out (nA : Int) _ (by omega) (by omega)).mono ?_
      rintro e _ ⟨rfl, rfl⟩
      obtain ⟨kk, ek, k0, k1⟩ := pick_small (c := which) (n := (nA : Int)) (by omega)
      rw [ek]
      clear ek
      obtain ⟨k, rfl⟩ : ∃ k : Nat, kk = k := ⟨kk.toNat, by omega⟩
      obtain ⟨e, he⟩ : ∃ e, C[k]? = some e := ⟨_, List.getElem?_eq_getElem (by rw [HPC.out.l]; omega)⟩
      obtain ⟨bC, oC, rfl, hbC, y0, y1, y2, y3⟩ := HPC.out.s k e he
      have HCL := Lib.hid HPC.out.l
      have HCS7 := Lib.hid HPC.out.s
      clear y0 y1 y2 y3 hbC he HPW
      have kb0 : (0 : Int) ≤ (k : Int) := by omega
      have kb1 : (k : Int) ≤ (cC : Int) := by omega
      have kb2 : (k : Int) ≤ (nA : Int) := by omega
      have kb3 : k ≤ cC := by omega
      have kb5 : (nA : Int) ≤ (cC : Int) := by omega
      have kb6 : (k : Int) < (nA : Int) := by omega
      obtain ⟨j, hj⟩ : ∃ j, k + 1 = j := ⟨_, rfl⟩
      have HJ := Lib.hid hj
      have hwk : IntKind.i64.wrap ((k : Int) + 1) = (j : Int) := by rw [IntKind.wrap_i64]; omega
      have jb1 : (j : Int) ≤ (nA : Int) := by omega
      have jb2 : (j : Int) ≤ (cC : Int) := by omega
      have jb3 : (0 : Int) ≤ (j : Int) := by omega
      have jb4 : j ≤ cC := by omega
      clear hj
      have HTL : Hid ((C.take k).length = k) := Lib.hid (by rw [List.length_take, HCL.out]; omega)
      have HDL : Hid ((C.drop j).length = nA - j) := Lib.hid (by rw [List.length_drop, HCL.out])
      have HTK : Hid (∀ W, Below w5.heap.size w5 W → EvS W (some ⟨bC, oC, none⟩) (C.take k)) := Lib.hid (fun W hW => (HCS7.out.below hW).take k)
      have HTD : Hid ((C.take k ++ C.drop j).length = nA - 1) := Lib.hid (by rw [List.length_append, HTL.out, HDL.out]; have := HJ.out; omega)
      by_cases hck : cC = j
      · obtain rfl : cC = nA := by omega
        subst hck
        have HDL : Hid ((C.drop cC).length = 0) := Lib.hid (by rw [HDL.out]; omega)
        have HDK : Hid (∀ W, Below w5.heap.size w5 W → EvS W (some ⟨bC, oC, none⟩) (C.drop cC)) := Lib.hid (fun W _ => by rw [List.eq_nil_of_length_eq_zero HDL.out]; exact EvS.nil _ _)
        go_upto_region 8 with fail
        go_region_held3 (fun _ => True) (go_keep)
          ((first
            | (refine step_own2 (by rfl) _ _ (by rfl) (base := w5.heap.size) (L := []) (X := C.take k) (xa := some ⟨bC, oC, none⟩) (n := k) (by rfl) (by rfl) (.inr ⟨_, rfl, rfl⟩) (HTK.out _ (((Below.refl w5.heap.size w5).alloc (Nat.le_refl _) _).drew)) HTL.out (by simp) (by simp) (by omega) ?_
               intro v8 w8 hr8 hb8
               have HR8 := Lib.hid hr8
               have HB8 := Lib.hid ((((Below.refl w5.heap.size w5).alloc (Nat.le_refl _) _).drew).trans hb8)
               clear hr8 hb8)
            | (refine step_own2 (by rfl) _ _ (by rfl) (base := w5.heap.size) (L := [] ++ C.take k) (X := C.drop cC) (xa := some ⟨bC, oC, none⟩) (n := 0) (by rfl) (by rfl) HR8.out (HDK.out _ HB8.out) HDL.out HB8.out.size (by rw [List.nil_append, HTL.out]; omega) (by omega) ?_
               intro v9 w9 hr9 hb9
               have HR9 := Lib.hid hr9
               have HB9 := Lib.hid (HB8.out.trans hb9)
               clear hr9 hb9
               have HR9 := Lib.hid (show OwnE w9 w5.heap.size v9 (C.take k ++ C.drop cC) from HR9.out)
               obtain ⟨aD, cD, rfl, hsD⟩ := HR9.out.isSlice
               have HPD : Hid (Pf w9 aD (cC - 1) (C.take k ++ C.drop cC)) := Lib.hid ⟨hsD, HTD.out, by have := HPC.out.b; omega, fun f hf => by
                 rcases List.mem_append.1 hf with hf | hf
                 · exact HPC.out.i f (List.mem_of_mem_take hf)
                 · exact HPC.out.i f (List.mem_of_mem_drop hf)⟩
               rw [HTD.out]
               clear hsD)
            | (refine step_table (by rfl) _ _ (by rfl) (by rfl) (by rfl) ((((HB9.out.alloc HB9.out.size _).block _ HGT.out)).trans HTB.out) (by rfl) (by rfl) (by rfl) (heap_last w9 _) (by rfl) ?_
               intro cN w10 gN hb10 hgN hgN2 hcN
               have hb11 : Below w9.heap.size w9 w10 := ((Below.refl w9.heap.size w9).alloc (Nat.le_refl _) _).trans (hb10.mono (by simp))
               have HB10 := Lib.hid (HB9.out.trans (hb11.mono HB9.out.size))
               have HPD := Lib.hid (HPD.out.below hb11)
               have HCN := Lib.hid hcN
               have HGN := Lib.hid hgN2
               clear hb10 hgN hgN2 hcN hb11)))
        all_goals
          try (rename_i hheld; clear hheld)
          go_wp2_with fail
          go_meet
          refine ⟨gN, 4, cN, rfl, Nat.le_refl _, HGN.out, ?_, HB10.out⟩
          intro i hi
          match i, hi with
          | 0, _ => exact ⟨_, _, _, _, HCN.out 0 _ rfl, HPR.out.below HB10.out⟩
          | 1, _ => exact ⟨_, _, _, _, HCN.out 1 _ rfl, HPA.out.below HB10.out⟩
          | 2, _ => exact ⟨_, _, _, _, HCN.out 2 _ rfl, HPC.out.below HB10.out⟩
          | 3, _ => exact ⟨_, _, _, _, HCN.out 3 _ rfl, HPD.out⟩
      · have HDK : Hid (∀ W, Below w5.heap.size w5 W → EvS W (some ⟨bC, oC + j * 4, none⟩) (C.drop j)) := Lib.hid (fun W hW => (HCS7.out.below hW).dropE j)
        go_upto_region 8 with fail
        go_region_held3 (fun _ => True) (go_keep)
          ((first
            | (refine step_own2 (by rfl) _ _ (by rfl) (base := w5.heap.size) (L := []) (X := C.take k) (xa := some ⟨bC, oC, none⟩) (n := k) (by rfl) (by rfl) (.inr ⟨_, rfl, rfl⟩) (HTK.out _ (((Below.refl w5.heap.size w5).alloc (Nat.le_refl _) _).drew)) HTL.out (by simp) (by simp) (by omega) ?_
               intro v8 w8 hr8 hb8
               have HR8 := Lib.hid hr8
               have HB8 := Lib.hid ((((Below.refl w5.heap.size w5).alloc (Nat.le_refl _) _).drew).trans hb8)
               clear hr8 hb8)
            | (refine step_own2 (by rfl) _ _ (by rfl) (base := w5.heap.size) (L := [] ++ C.take k) (X := C.drop j) (xa := some ⟨bC, oC + j * 4, none⟩) (n := nA - j) (by rfl) (by rfl) HR8.out (HDK.out _ HB8.out) HDL.out HB8.out.size (by rw [List.nil_append, HTL.out]; omega) (by omega) ?_
               intro v9 w9 hr9 hb9
               have HR9 := Lib.hid hr9
               have HB9 := Lib.hid (HB8.out.trans hb9)
               clear hr9 hb9
               have HR9 := Lib.hid (show OwnE w9 w5.heap.size v9 (C.take k ++ C.drop j) from HR9.out)
               obtain ⟨aD, cD, rfl, hsD⟩ := HR9.out.isSlice
               have HPD : Hid (Pf w9 aD (nA - 1) (C.take k ++ C.drop j)) := Lib.hid ⟨hsD, HTD.out, by have := HPC.out.b; omega, fun f hf => by
                 rcases List.mem_append.1 hf with hf | hf
                 · exact HPC.out.i f (List.mem_of_mem_take hf)
                 · exact HPC.out.i f (List.mem_of_mem_drop hf)⟩
               rw [HTD.out]
               clear hsD)
            | (refine step_table (by rfl) _ _ (by rfl) (by rfl) (by rfl) ((((HB9.out.alloc HB9.out.size _).block _ HGT.out)).trans HTB.out) (by rfl) (by rfl) (by rfl) (heap_last w9 _) (by rfl) ?_
               intro cN w10 gN hb10 hgN hgN2 hcN
               have hb11 : Below w9.heap.size w9 w10 := ((Below.refl w9.heap.size w9).alloc (Nat.le_refl _) _).trans (hb10.mono (by simp))
               have HB10 := Lib.hid (HB9.out.trans (hb11.mono HB9.out.size))
               have HPD := Lib.hid (HPD.out.below hb11)
               have HCN := Lib.hid hcN
               have HGN := Lib.hid hgN2
               clear hb10 hgN hgN2 hcN hb11)))
        all_goals
          try (rename_i hheld; clear hheld)
          go_wp2_with fail
          go_meet
          refine ⟨gN, 4, cN, rfl, Nat.le_refl _, HGN.out, ?_, HB10.out⟩
          intro i hi
          match i, hi with
          | 0, _ => exact ⟨_, _, _, _, HCN.out 0 _ rfl, HPR.out.below HB10.out⟩
          | 1, _ => exact ⟨_, _, _, _, HCN.out 1 _ rfl, HPA.out.below HB10.out⟩
          | 2, _ => exact ⟨_, _, _, _, HCN.out 2 _ rfl, HPC.out.below HB10.out⟩
          | 3, _ => exact ⟨_, _, _, _, HCN.out 3 _ rfl, HPD.out⟩
  case rest =>
    obtain ⟨gP, m, cP, rfl, hm4, hgP, hPRw, hbP⟩ := hcut
    obtain ⟨w6, hw6⟩ : ∃ w6, wc = w6 := ⟨_, rfl⟩
    rw [hw6] at hgP hPRw hbP ⊢
    clear hw6
    have HB := Lib.hid (HB.out.trans (hbP.mono HB.out.size))
    have HQ := Lib.hid (HQ.out.below hbP)
    have HT := Lib.hid (HT.out.below hbP)
    have HX := Lib.hid (HX.out.below hbP)
    have HY := Lib.hid (HY.out.below hbP)
    have HPRW := Lib.hid hPRw
    have HGP := Lib.hid hgP
    clear hPRw hbP hgP HTB HGT HPR HPA HPC HPW hn30 hncC
    go_upto_region 9 with fail
    go_cut [22] (fun v wx => ∃ g, v = .slice (some ⟨g, 0, none⟩) 4 4 ∧ g < wx.heap.size ∧ QRels wx g ∧ Below w6.heap.size w6 wx)
    case first =>
      have HBD : Hid (Below w6.heap.size w6 (w6.drewN 1)) := Lib.hid (Below_drewN (Below.refl _ _) 1)
      obtain ⟨a0, a1, a2⟩ := HQ.out.cells
      simp only at a0 a1 a2
      obtain ⟨b0, b1, b2⟩ := HT.out.cells
      simp only at b0 b1 b2
      obtain ⟨d0, d1, d2⟩ := HX.out.cells
      obtain ⟨f0, f1, f2⟩ := HY.out.cells
      go_region_held3 (fun w' => w'.cell? ⟨g5, 0, none⟩ = some (.int .i64 qk) ∧ w'.cell? ⟨g5, 1, none⟩ = some (.int .i64 qs) ∧ w'.cell? ⟨g5, 2, none⟩ = some (.bool qo) ∧ w'.cell? ⟨g6, 0, none⟩ = some (.int .i64 tk) ∧ w'.cell? ⟨g6, 1, none⟩ = some (.int .i64 ts) ∧ w'.cell? ⟨g6, 2, none⟩ = some (.bool tO) ∧ w'.cell? ⟨g7, 0, none⟩ = some (.int .i64 x) ∧ w'.cell? ⟨g7, 1, none⟩ = some (.int .i64 y) ∧ w'.cell? ⟨g7, 2, none⟩ = some (.int .i64 z) ∧ w'.cell? ⟨g8, 0, none⟩ = some (.int .i64 x') ∧ w'.cell? ⟨g8, 1, none⟩ = some (.int .i64 y') ∧ w'.cell? ⟨g8, 2, none⟩ = some (.int .i64 z')) (go_keep)
        ((first
          | (go_at_call_of 15 (Value.agg #[.int .i64 x, .int .i64 y, .int .i64 z])
             first
               | (have HZ := Lib.hid HB1B.out; refine (HRL.out _).mono ?_; rintro e w7 ⟨rfl, hb⟩; have HB2 := Lib.hid (HB1B.out.trans (hb.mono HB1B.out.size)); obtain ⟨za0, za1, za2⟩ := (HQ.out.below HB2.out).cells; simp only at za0 za1 za2; obtain ⟨zb0, zb1, zb2⟩ := (HT.out.below HB2.out).cells; simp only at zb0 zb1 zb2; obtain ⟨zd0, zd1, zd2⟩ := (HX.out.below HB2.out).cells; obtain ⟨zf0, zf1, zf2⟩ := (HY.out.below HB2.out).cells; clear hb HZ)
               | (refine (HRL.out _).mono ?_; rintro e w1A ⟨rfl, hb⟩; have HB1A := Lib.hid (HBD.out.trans (hb.mono HBD.out.size)); obtain ⟨ya0, ya1, ya2⟩ := (HQ.out.below HB1A.out).cells; simp only at ya0 ya1 ya2; obtain ⟨yb0, yb1, yb2⟩ := (HT.out.below HB1A.out).cells; simp only at yb0 yb1 yb2; obtain ⟨yd0, yd1, yd2⟩ := (HX.out.below HB1A.out).cells; obtain ⟨yf0, yf1, yf2⟩ := (HY.out.below HB1A.out).cells; clear hb))
          | (go_at_call_of 15 (Value.agg #[.int .i64 x', .int .i64 y', .int .i64 z'])
             first
               | (have HZ := Lib.hid HB1A.out; refine (HSR.out _).mono ?_; rintro e w7 ⟨rfl, hb⟩; have HB2 := Lib.hid (HB1A.out.trans (hb.mono HB1A.out.size)); obtain ⟨za0, za1, za2⟩ := (HQ.out.below HB2.out).cells; simp only at za0 za1 za2; obtain ⟨zb0, zb1, zb2⟩ := (HT.out.below HB2.out).cells; simp only at zb0 zb1 zb2; obtain ⟨zd0, zd1, zd2⟩ := (HX.out.below HB2.out).cells; obtain ⟨zf0, zf1, zf2⟩ := (HY.out.below HB2.out).cells; clear hb HZ)
               | (refine (HSR.out _).mono ?_; rintro e w1B ⟨rfl, hb⟩; have HB1B := Lib.hid (HBD.out.trans (hb.mono HBD.out.size)); obtain ⟨ya0, ya1, ya2⟩ := (HQ.out.below HB1B.out).cells; simp only at ya0 ya1 ya2; obtain ⟨yb0, yb1, yb2⟩ := (HT.out.below HB1B.out).cells; simp only at yb0 yb1 yb2; obtain ⟨yd0, yd1, yd2⟩ := (HX.out.below HB1B.out).cells; obtain ⟨yf0, yf1, yf2⟩ := (HY.out.below HB1B.out).cells; clear hb))))
      all_goals
        rename_i hheld
        clear hheld
        go_wp2_with fail
        go_meet
        refine ⟨_, rfl, by simp, ?_, HB2.out.alloc HB2.out.size _⟩
        intro i hi
        match i, hi with
        | 0, _ => exact ⟨⟨qk, qs, qo⟩, by rw [Lib.cell_of_heap (heap_last w7 _)]; rfl, by rw [Lib.cell_of_heap (heap_last w7 _)]; rfl, by rw [Lib.cell_of_heap (heap_last w7 _)]; rfl⟩
        | 1, _ => exact ⟨⟨tk, ts, tO⟩, by rw [Lib.cell_of_heap (heap_last w7 _)]; rfl, by rw [Lib.cell_of_heap (heap_last w7 _)]; rfl, by rw [Lib.cell_of_heap (heap_last w7 _)]; rfl⟩
        | 2, _ => exact ⟨⟨rk, rs, ro⟩, by rw [Lib.cell_of_heap (heap_last w7 _)]; rfl, by rw [Lib.cell_of_heap (heap_last w7 _)]; rfl, by rw [Lib.cell_of_heap (heap_last w7 _)]; rfl⟩
        | 3, _ => exact ⟨⟨sk, ss, so⟩, by rw [Lib.cell_of_heap (heap_last w7 _)]; rfl, by rw [Lib.cell_of_heap (heap_last w7 _)]; rfl, by rw [Lib.cell_of_heap (heap_last w7 _)]; rfl⟩
    case rest =>
    obtain ⟨gH, rfl, hgH, hQR, hbH⟩ := hcut
    obtain ⟨w9, hw9⟩ : ∃ w9, wc = w9 := ⟨_, rfl⟩
    rw [hw9] at hgH hQR hbH ⊢
    clear hw9
    have HB := Lib.hid (HB.out.trans (hbH.mono HB.out.size))
    have HPRW := Lib.hid (HPRW.out.below HGP.out hbH)
    have HGP := Lib.hid (Nat.lt_of_lt_of_le HGP.out hbH.size)
    have HQR := Lib.hid hQR
    have HGH := Lib.hid hgH
    clear hQR hgH hbH HQ HT HX HY HRL HSR
    go_wp2_with fail
    go_loopw [77] (fun i wx => ∃ j : Nat, j ≤ 4 ∧ i = .int .i64 j ∧ Below w9.heap.size w9 wx) (fun i _ => 4 - (intOf i).toNat)
    case atStart => exact ⟨0, by omega, rfl, Below.refl _ _⟩
    case round =>
      obtain ⟨j, hj, rfl, hb⟩ := hrel
      obtain ⟨wo, rfl⟩ : ∃ wo, wo = wr := ⟨_, rfl⟩
      have HLj := Lib.hid hb
      clear hb
      have nj : (0 : Int) ≤ (j : Int) := by omega
      by_cases hlt : j < 4
      · have pj1 : (j : Int) < 4 := by omega
        have pj2 : decide ((j : Int) < 4) = true := by rw [decide_eq_true_iff]; omega
        have pj3 : decide (j < 4) = true := by rw [decide_eq_true_iff]; omega
        obtain ⟨⟨rk, rs, ro⟩, x0, x1, x2⟩ := (HQR.out.below HGH.out HLj.out) j hlt
        simp only at x0 x1 x2
        obtain ⟨vr, hvr⟩ : ∃ b, validR ⟨rk, rs, ro⟩ = b := ⟨_, rfl⟩
        have HVR := Lib.hid hvr
        clear hvr
        obtain ⟨wA, hwA⟩ : ∃ xx, wo.alloc (.cells #[.int .i64 rk, .int .i64 rs, .bool ro] 23) = xx := ⟨_, rfl⟩
        obtain ⟨gA, hgA⟩ : ∃ xx, wo.heap.size = xx := ⟨_, rfl⟩
        have hb : Below wo.heap.size wo wA := by rw [← hwA]; exact (Below.refl _ _).alloc (Nat.le_refl _) _
        have HR : Hid (Rl wA gA ⟨rk, rs, ro⟩) := Lib.hid (by rw [← hwA, ← hgA]; exact heap_last _ _)
        have HLA := Lib.hid (HLj.out.trans (hb.mono HLj.out.size))
        clear hb
        go_wp2_with fail
        clear hwA hgA x0 x1 x2
        go_loopw [83] (fun i wx => ∃ i2 : Nat, i2 ≤ 4 ∧ i = .int .i64 i2 ∧ Below wA.heap.size wA wx) (fun i _ => 4 - (intOf i).toNat)
        case atStart => exact ⟨0, by omega, rfl, Below.refl _ _⟩
        case round =>
          obtain ⟨i2, hi2, rfl, hb⟩ := hrel
          obtain ⟨wp, rfl⟩ : ∃ wo, wo = wr := ⟨_, rfl⟩
          have HLi2 := Lib.hid hb
          clear hb
          have ni2 : (0 : Int) ≤ (i2 : Int) := by omega
          by_cases hlt : i2 < 4
          · have pi21 : (i2 : Int) < 4 := by omega
            have pi22 : decide ((i2 : Int) < 4) = true := by rw [decide_eq_true_iff]; omega
            have pi23 : decide (i2 < 4) = true := by rw [decide_eq_true_iff]; omega
            obtain ⟨⟨tk, ts, tO⟩, x0, x1, x2⟩ := (HQR.out.below HGH.out (HLA.out.trans (HLi2.out.mono HLA.out.size))) i2 hlt
            simp only at x0 x1 x2
            obtain ⟨wv, hwv⟩ : ∃ b, weaker ⟨rk, rs, ro⟩ ⟨tk, ts, tO⟩ = b := ⟨_, rfl⟩
            have HWV := Lib.hid hwv
            clear hwv
            obtain ⟨wB, hwB⟩ : ∃ xx, wp.alloc (.cells #[.int .i64 tk, .int .i64 ts, .bool tO] 23) = xx := ⟨_, rfl⟩
            obtain ⟨gB, hgB⟩ : ∃ xx, wp.heap.size = xx := ⟨_, rfl⟩
            have hb : Below wp.heap.size wp wB := by rw [← hwB]; exact (Below.refl _ _).alloc (Nat.le_refl _) _
            have HRB : Hid (Rl wB gB ⟨tk, ts, tO⟩) := Lib.hid (by rw [← hwB, ← hgB]; exact heap_last _ _)
            have HLB := Lib.hid (HLi2.out.trans (hb.mono HLi2.out.size))
            have HRA := Lib.hid (HR.out.below HLB.out)
            clear hb
            go_upto_region 16 with fail
            clear hwB hgB x0 x1 x2
            have HC0 := Lib.hid (Below_drewN (Below.refl wB.heap.size wB) 1)
            have hbb : (wv != wv) = false := bne_self_eq_false wv
            refine region_quietC (C := Below wB.heap.size wB) (by kernel_rfl) (by kernel_rfl) HC0.out ?_
            repeat (
              first
                | go_big_quiet_skip
                | (go_big_quiet_want
                   go_big_quiet_op
                   first
                     | go_big_quiet_on
                     | (apply Exists.intro
                        refine ⟨fun wx hx => ?_, ?_⟩
                        · first
                          | (go_at_call 16; exact (weakR_b _ HWV.out).mono fun z w' h => ⟨h.1, hx.trans (h.2.mono hx.size)⟩)
                          | (go_at_call 17; exact (refWeakR_b _ HWV.out).mono fun z w' h => ⟨h.1, hx.trans (h.2.mono hx.size)⟩)
                          | (obtain ⟨c0, c1, c2⟩ := (HRA.out.below hx).cells; obtain ⟨d0, d1, d2⟩ := (HRB.out.below hx).cells; go_simp; exact rfl)
                        go_big_quiet_on)))
            refine wpQuiet_nil ?_
            intro w99 hw99
            have HLB := Lib.hid (HLB.out.trans (hw99.mono HLB.out.size))
            clear hw99
            go_wp2_with fail
            go_roundw
            case rel => exact ⟨i2 + 1, by omega, by push_cast; rfl, HLB.out⟩
            case measure => simp [intOf]; omega
          · obtain rfl : i2 = 4 := by omega
            clear hlt
            have HLA := Lib.hid (HLA.out.trans (HLi2.out.mono HLA.out.size))
            have HR := Lib.hid (HR.out.below HLi2.out)
            clear HLi2
            go_wp2_with fail
            go_loopw [27] (fun i wx => ∃ i3 : Nat, i3 ≤ m ∧ i = .int .i64 i3 ∧ Below wp.heap.size wp wx) (fun i _ => m - (intOf i).toNat)
            case atStart => exact ⟨0, by omega, rfl, Below.refl _ _⟩
            case round =>
              obtain ⟨i3, hi3, rfl, hb⟩ := hrel
              obtain ⟨wq, rfl⟩ : ∃ wo, wo = wr := ⟨_, rfl⟩
              have HLi3 := Lib.hid hb
              clear hb
              have ni3 : (0 : Int) ≤ (i3 : Int) := by omega
              by_cases hlt : i3 < m
              · have pi31 : (i3 : Int) < (m : Int) := by omega
                have pi32 : decide ((i3 : Int) < (m : Int)) = true := by rw [decide_eq_true_iff]; omega
                have pi33 : decide (i3 < m) = true := by rw [decide_eq_true_iff]; omega
                obtain ⟨aX, nX, cX, X, hcX, hpX⟩ := (HPRW.out.below HGP.out (HLA.out.trans (HLi3.out.mono HLA.out.size))) i3 hlt
                have HPX := Lib.hid hpX
                clear hpX
                have HR3 := Lib.hid (HR.out.below HLi3.out)
                obtain ⟨x0, x1, x2⟩ := HR3.out.cells
                simp only at x0 x1 x2
                have hgP3 := Nat.lt_of_lt_of_le HGP.out (HLA.out.trans (HLi3.out.mono HLA.out.size)).size
                have HGP3 := Lib.hid hgP3
                have HCX := Lib.hid hcX
                have hbb : (vr != vr) = false := bne_self_eq_false vr
                have HBD : Hid (Below wq.heap.size wq (wq.drewN 1)) := Lib.hid (Below_drewN (Below.refl _ _) 1)
                obtain ⟨K, hK⟩ : ∃ K, counted ⟨rk, rs, ro⟩ X = K := ⟨_, rfl⟩
                obtain ⟨nK, hnK⟩ : ∃ n, K.length = n := ⟨_, rfl⟩
                have HCA : Hid (∀ W, Below wq.heap.size wq W → Calls Try.prog 21 #[.agg #[.int .i64 rk, .int .i64 rs, .bool ro], .slice aX nX cX] W fun e w' => ∃ a' c', e = .returned (.slice a' nK c') ∧ Pf w' a' nK K ∧ Below W.heap.size W w') := Lib.hid (fun W hW => by
                  have := counted_b (k := rk) (s := rs) (o := ro) (c := cX) (HPX.out.below hW)
                  rwa [hK, hnK] at this)
                have HCB : Hid (∀ W, Below wq.heap.size wq W → Calls Try.prog 22 #[.agg #[.int .i64 rk, .int .i64 rs, .bool ro], .slice aX nX cX] W fun e w' => ∃ a' c', e = .returned (.slice a' nK c') ∧ Pf w' a' nK K ∧ Below W.heap.size W w') := Lib.hid (fun W hW => by
                  have := refCounted_b (k := rk) (s := rs) (o := ro) (c := cX) (HPX.out.below hW)
                  rwa [hK, hnK] at this)
                clear hK hnK hgP3
                go_upto_region 22 with fail
                go_region_held3 (fun w' => w'.cell? ⟨gA, 0, none⟩ = some (.int .i64 rk) ∧ w'.cell? ⟨gA, 1, none⟩ = some (.int .i64 rs) ∧ w'.cell? ⟨gA, 2, none⟩ = some (.bool ro) ∧ w'.cell? ⟨gP, i3, none⟩ = some (.slice aX nX cX)) (go_keep)
                  ((first
                    | (go_at_call 18
                       first
                         | (have HZ := Lib.hid HB1B.out; refine (validR_b _ HVR.out).mono ?_; rintro e w2 ⟨rfl, hb⟩; have HB2 := Lib.hid (HZ.out.trans (hb.mono HZ.out.size)); obtain ⟨e0, e1, e2⟩ := (HR3.out.below HB2.out).cells; simp only at e0 e1 e2; have e3 := (Below.cell (p := ⟨gP, i3, none⟩) HB2.out HGP3.out).trans HCX.out; clear hb HZ)
                         | (refine (validR_b _ HVR.out).mono ?_; rintro e w1A ⟨rfl, hb⟩; have HB1A := Lib.hid (HBD.out.trans (hb.mono HBD.out.size)); obtain ⟨d0, d1, d2⟩ := (HR3.out.below HB1A.out).cells; simp only at d0 d1 d2; have d3 := (Below.cell (p := ⟨gP, i3, none⟩) HB1A.out HGP3.out).trans HCX.out; clear hb))
                    | (go_at_call 19
                       first
                         | (have HZ := Lib.hid HB1A.out; refine (refValidR_b _ HVR.out).mono ?_; rintro e w2 ⟨rfl, hb⟩; have HB2 := Lib.hid (HZ.out.trans (hb.mono HZ.out.size)); obtain ⟨e0, e1, e2⟩ := (HR3.out.below HB2.out).cells; simp only at e0 e1 e2; have e3 := (Below.cell (p := ⟨gP, i3, none⟩) HB2.out HGP3.out).trans HCX.out; clear hb HZ)
                         | (refine (refValidR_b _ HVR.out).mono ?_; rintro e w1B ⟨rfl, hb⟩; have HB1B := Lib.hid (HBD.out.trans (hb.mono HBD.out.size)); obtain ⟨d0, d1, d2⟩ := (HR3.out.below HB1B.out).cells; simp only at d0 d1 d2; have d3 := (Below.cell (p := ⟨gP, i3, none⟩) HB1B.out HGP3.out).trans HCX.out; clear hb))
                    | (go_at_call 21
                       first
                         | (refine (HCA.out _ HB3B.out).mono ?_; rintro e w4 ⟨a4A, c4A, rfl, hp, hb⟩; have HP4A := Lib.hid hp; have HP4B := Lib.hid (HP3B.out.below hb); have HB4 := Lib.hid (HB3B.out.trans (hb.mono HB3B.out.size)); obtain ⟨g0, g1, g2⟩ := (HR3.out.below HB4.out).cells; simp only at g0 g1 g2; have g3 := (Below.cell (p := ⟨gP, i3, none⟩) HB4.out HGP3.out).trans HCX.out; clear hp hb)
                         | (refine (HCA.out _ HB2.out).mono ?_; rintro e w3A ⟨a4A, c4A, rfl, hp, hb⟩; have HP3A := Lib.hid hp; have HB3A := Lib.hid (HB2.out.trans (hb.mono HB2.out.size)); obtain ⟨f0, f1, f2⟩ := (HR3.out.below HB3A.out).cells; simp only at f0 f1 f2; have f3 := (Below.cell (p := ⟨gP, i3, none⟩) HB3A.out HGP3.out).trans HCX.out; clear hp hb))
                    | (go_at_call 22
                       first
                         | (refine (HCB.out _ HB3A.out).mono ?_; rintro e w4 ⟨a4B, c4B, rfl, hp, hb⟩; have HP4B := Lib.hid hp; have HP4A := Lib.hid (HP3A.out.below hb); have HB4 := Lib.hid (HB3A.out.trans (hb.mono HB3A.out.size)); obtain ⟨g0, g1, g2⟩ := (HR3.out.below HB4.out).cells; simp only at g0 g1 g2; have g3 := (Below.cell (p := ⟨gP, i3, none⟩) HB4.out HGP3.out).trans HCX.out; clear hp hb)
                         | (refine (HCB.out _ HB2.out).mono ?_; rintro e w3B ⟨a4B, c4B, rfl, hp, hb⟩; have HP3B := Lib.hid hp; have HB3B := Lib.hid (HB2.out.trans (hb.mono HB2.out.size)); obtain ⟨f0, f1, f2⟩ := (HR3.out.below HB3B.out).cells; simp only at f0 f1 f2; have f3 := (Below.cell (p := ⟨gP, i3, none⟩) HB3B.out HGP3.out).trans HCX.out; clear hp hb))
                    | (go_at_call 20
                       (refine (same_b HP4A.out HP4B.out).mono ?_; rintro e w5 ⟨rfl, hb⟩; have HB5 := Lib.hid (HB4.out.trans (hb.mono HB4.out.size)); obtain ⟨h0, h1, h2⟩ := (HR3.out.below HB5.out).cells; simp only at h0 h1 h2; have h3 := (Below.cell (p := ⟨gP, i3, none⟩) HB5.out HGP3.out).trans HCX.out; clear hb))))
                all_goals
                  rename_i hheld
                  clear hheld
                  have HL5 := Lib.hid (HLi3.out.trans (HB5.out.mono HLi3.out.size))
                  have HPX := Lib.hid (HPX.out.below HB5.out)
                  have HR5 := Lib.hid (HR3.out.below HB5.out)
                  have HCX5 : Hid (w5.cell? ⟨gP, i3, none⟩ = some (.slice aX nX cX)) := Lib.hid ((Below.cell (p := ⟨gP, i3, none⟩) HB5.out HGP3.out).trans HCX.out)
                  have HGP5 := Lib.hid (Nat.lt_of_lt_of_le HGP3.out HB5.out.size)
                  have HP5 := Lib.hid (HPRW.out.below HGP.out (HLA.out.trans (HL5.out.mono HLA.out.size)))
                  clear hcX HCX x0 x1 x2
                  go_wp2_with fail
                  go_loopw [28] (fun i wx => ∃ i4 : Nat, i4 ≤ m ∧ i = .int .i64 i4 ∧ Below w5.heap.size w5 wx) (fun i _ => m - (intOf i).toNat)
                  case atStart => exact ⟨0, by omega, rfl, Below.refl _ _⟩
                  case round =>
                    obtain ⟨i4, hi4, rfl, hb⟩ := hrel
                    obtain ⟨wu, rfl⟩ : ∃ wo, wo = wr := ⟨_, rfl⟩
                    have HLi4 := Lib.hid hb
                    clear hb
                    have ni4 : (0 : Int) ≤ (i4 : Int) := by omega
                    by_cases hlt : i4 < m
                    · have pi41 : (i4 : Int) < (m : Int) := by omega
                      have pi42 : decide ((i4 : Int) < (m : Int)) = true := by rw [decide_eq_true_iff]; omega
                      have pi43 : decide (i4 < m) = true := by rw [decide_eq_true_iff]; omega
                      obtain ⟨aY, nY, cY, Y, hcY, hpY⟩ := (HP5.out.below HGP5.out HLi4.out) i4 hlt
                      have HPY := Lib.hid hpY
                      have HCY := Lib.hid hcY
                      have HPX6 := Lib.hid (HPX.out.below HLi4.out)
                      have HR6 := Lib.hid (HR5.out.below HLi4.out)
                      have HCX6 : Hid (wu.cell? ⟨gP, i3, none⟩ = some (.slice aX nX cX)) := Lib.hid ((Below.cell (p := ⟨gP, i3, none⟩) HLi4.out HGP5.out).trans HCX5.out)
                      have HGP6 := Lib.hid (Nat.lt_of_lt_of_le HGP5.out HLi4.out.size)
                      obtain ⟨ci, cb, hcc⟩ : ∃ (i : Int) (b : Bool), compareR ⟨rk, rs, ro⟩ X Y = (i, b) := ⟨_, _, rfl⟩
                      have HCC := Lib.hid hcc
                      clear hpY hcY hcc
                      have hbi : (ci != ci) = false := bne_self_eq_false ci
                      have hbc : (cb != cb) = false := bne_self_eq_false cb
                      have HC0 := Lib.hid (Below_drewN (Below.refl wu.heap.size wu) 1)
                      go_upto_region 27 with fail
                      refine region_quietC (C := Below wu.heap.size wu) (by kernel_rfl) (by kernel_rfl) HC0.out ?_
                      repeat (
                        first
                          | go_big_quiet_skip
                          | (go_big_quiet_want
                             go_big_quiet_op
                             first
                               | go_big_quiet_on
                               | (apply Exists.intro
                                  refine ⟨fun wx hx => ?_, ?_⟩
                                  · first
                                    | (go_at_call 23; exact (compare_b (HPX6.out.below hx) (HPY.out.below hx) HCC.out).mono fun z w' h => ⟨h.1, hx.trans (h.2.mono hx.size)⟩)
                                    | (obtain ⟨c0, c1, c2⟩ := (HR6.out.below hx).cells; have d0 := (Below.cell (p := ⟨gP, i3, none⟩) hx HGP6.out).trans HCX6.out; have d1 := (Below.cell (p := ⟨gP, i4, none⟩) hx HGP6.out).trans HCY.out; go_simp; exact rfl)
                                  go_big_quiet_on)))
                      refine wpQuiet_nil ?_
                      intro w99 hw99
                      have HL7 := Lib.hid hw99
                      clear hw99
                      have HPX7 := Lib.hid (HPX6.out.below HL7.out)
                      have HPY7 := Lib.hid (HPY.out.below HL7.out)
                      have HR7 := Lib.hid (HR6.out.below HL7.out)
                      have HCX7 : Hid (w99.cell? ⟨gP, i3, none⟩ = some (.slice aX nX cX)) := Lib.hid ((Below.cell (p := ⟨gP, i3, none⟩) HL7.out HGP6.out).trans HCX6.out)
                      have HCY7 : Hid (w99.cell? ⟨gP, i4, none⟩ = some (.slice aY nY cY)) := Lib.hid ((Below.cell (p := ⟨gP, i4, none⟩) HL7.out HGP6.out).trans HCY.out)
                      have HGP7 := Lib.hid (Nat.lt_of_lt_of_le HGP6.out HL7.out.size)
                      have HLi4 := Lib.hid (HLi4.out.trans (HL7.out.mono HLi4.out.size))
                      have HC0 := Lib.hid (Below_drewN (Below.refl w99.heap.size w99) 1)
                      clear HL7
                      go_upto_region 28 with fail
                      refine region_quietC (C := Below w99.heap.size w99) (by kernel_rfl) (by kernel_rfl) HC0.out ?_
                      repeat (
                        first
                          | go_big_quiet_skip
                          | (go_big_quiet_want
                             go_big_quiet_op
                             first
                               | go_big_quiet_on
                               | (apply Exists.intro
                                  refine ⟨fun wx hx => ?_, ?_⟩
                                  · first
                                    | (go_at_call 24; exact (refCompare_b (HPX7.out.below hx) (HPY7.out.below hx) HCC.out).mono fun z w' h => ⟨h.1, hx.trans (h.2.mono hx.size)⟩)
                                    | (obtain ⟨c0, c1, c2⟩ := (HR7.out.below hx).cells; have d0 := (Below.cell (p := ⟨gP, i3, none⟩) hx HGP7.out).trans HCX7.out; have d1 := (Below.cell (p := ⟨gP, i4, none⟩) hx HGP7.out).trans HCY7.out; go_simp; exact rfl)
                                  go_big_quiet_on)))
                      refine wpQuiet_nil ?_
                      intro w98 hw98
                      have HLi4 := Lib.hid (HLi4.out.trans (hw98.mono HLi4.out.size))
                      clear hw98
                      go_wp2_with fail
                      go_roundw
                      case rel => exact ⟨i4 + 1, by omega, by push_cast; rfl, HLi4.out⟩
                      case measure => simp [intOf]; omega
                    · obtain rfl : i4 = m := by omega
                      have HL5 := Lib.hid (HL5.out.trans (HLi4.out.mono HL5.out.size))
                      have f1 : ¬ ((i4 : Int) < (i4 : Int)) := by omega
                      have f2 : decide ((i4 : Int) < (i4 : Int)) = false := by rw [decide_eq_false_iff_not]; omega
                      clear hlt
                      go_wp2_with fail
                      go_roundw
                      case rel => exact ⟨i3 + 1, by omega, by push_cast; rfl, HL5.out⟩
                      case measure => simp [intOf]; omega
              · obtain rfl : i3 = m := by omega
                have HLA := Lib.hid (HLA.out.trans (HLi3.out.mono HLA.out.size))
                have f1 : ¬ ((i3 : Int) < (i3 : Int)) := by omega
                have f2 : decide ((i3 : Int) < (i3 : Int)) = false := by rw [decide_eq_false_iff_not]; omega
                clear hlt
                go_wp2_with fail
                go_roundw
                case rel => exact ⟨j + 1, by omega, by push_cast; rfl, HLA.out⟩
                case measure => simp [intOf]; omega
      · obtain rfl : j = 4 := by omega
        have HB := Lib.hid (HB.out.trans (HLj.out.mono HB.out.size))
        clear hlt
        go_wp2_with fail
        go_ret
        exact ⟨rfl, HB.out⟩
end Go.Proofs.Ythblehinmbgbdaa
