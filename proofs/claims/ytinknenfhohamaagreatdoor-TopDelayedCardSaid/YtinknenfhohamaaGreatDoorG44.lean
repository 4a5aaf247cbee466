/- The value of a cell of the fixed document. -/
import Derived.Test.YtinknenfhohamaaGreatDoorG43
import Derived.Test.YtinknenfhohamaaGreatDoorG29
namespace Go.Proofs.YtinknenfhohamaaGreatDoor
open Go.RowKit Go.Shelf
set_option maxRecDepth 100000

/-- Two integers in boxes. -/
def TwoOnes (W : World) (q1 q2 : Nat) : Prop := W.heap[q1]? = some (.cells #[.int .i64 1] 3 (0, 0)) ∧ W.heap[q2]? = some (.cells #[.int .i64 1] 3 (0, 0))
theorem TwoOnes.below {W W' : World} {q1 q2 : Nat} (h : TwoOnes W q1 q2) (hb : Below W.heap.size W W') : TwoOnes W' q1 q2 := ⟨FunAt.below h.1 hb, FunAt.below h.2 hb⟩
theorem eqCell0 (q1 q2 : Nat) (w : World) (hq : TwoOnes w q1 q2) : Calls Tryz.prog 28 #[.agg #[.int .i64 0, .int .i64 0, .bool false, .int .i64 5, .int .i64 0, .int .i64 0], .pointer (some ⟨q1, 0, none⟩), .pointer (some ⟨q2, 0, none⟩)] w fun e w' => e = .returned (.bool false) ∧ Below w.heap.size w w' := by
  have HQ := Lib.hid hq
  have l1 : q1 < w.heap.size := (Array.getElem?_eq_some_iff.1 hq.1).1
  have l2 : q2 < w.heap.size := (Array.getElem?_eq_some_iff.1 hq.2).1
  have z1 : ∀ o', (w.alloc o').cell? ⟨q1, 0, none⟩ = some (.int .i64 1) := fun o' => by rw [alloc_cell1 w o' q1 0 l1]; exact cell_of_one HQ.out.1
  have z2 : ∀ o', (w.alloc o').cell? ⟨q2, 0, none⟩ = some (.int .i64 1) := fun o' => by rw [alloc_cell1 w o' q2 0 l2]; exact cell_of_one HQ.out.2
  clear hq
  go_enter Tryz.func28, Tryz.ntmps28
  go_wp2_with fail
  go_ret
  exact ⟨rfl, (Below.refl _ _).alloc (Nat.le_refl _) _⟩
theorem eqCell1 (q1 q2 : Nat) (w : World) (hq : TwoOnes w q1 q2) : Calls Tryz.prog 28 #[.agg #[.int .i64 0, .int .i64 1, .bool false, .int .i64 7, .int .i64 0, .int .i64 0], .pointer (some ⟨q1, 0, none⟩), .pointer (some ⟨q2, 0, none⟩)] w fun e w' => e = .returned (.bool false) ∧ Below w.heap.size w w' := by
  have HQ := Lib.hid hq
  have l1 : q1 < w.heap.size := (Array.getElem?_eq_some_iff.1 hq.1).1
  have l2 : q2 < w.heap.size := (Array.getElem?_eq_some_iff.1 hq.2).1
  have z1 : ∀ o', (w.alloc o').cell? ⟨q1, 0, none⟩ = some (.int .i64 1) := fun o' => by rw [alloc_cell1 w o' q1 0 l1]; exact cell_of_one HQ.out.1
  have z2 : ∀ o', (w.alloc o').cell? ⟨q2, 0, none⟩ = some (.int .i64 1) := fun o' => by rw [alloc_cell1 w o' q2 0 l2]; exact cell_of_one HQ.out.2
  clear hq
  go_enter Tryz.func28, Tryz.ntmps28
  go_wp2_with fail
  go_ret
  exact ⟨rfl, (Below.refl _ _).alloc (Nat.le_refl _) _⟩
theorem eqCell2 (q1 q2 : Nat) (w : World) (hq : TwoOnes w q1 q2) : Calls Tryz.prog 28 #[.agg #[.int .i64 1, .int .i64 1, .bool true, .int .i64 0, .int .i64 0, .int .i64 0], .pointer (some ⟨q1, 0, none⟩), .pointer (some ⟨q2, 0, none⟩)] w fun e w' => e = .returned (.bool true) ∧ Below w.heap.size w w' := by
  have HQ := Lib.hid hq
  have l1 : q1 < w.heap.size := (Array.getElem?_eq_some_iff.1 hq.1).1
  have l2 : q2 < w.heap.size := (Array.getElem?_eq_some_iff.1 hq.2).1
  have z1 : ∀ o', (w.alloc o').cell? ⟨q1, 0, none⟩ = some (.int .i64 1) := fun o' => by rw [alloc_cell1 w o' q1 0 l1]; exact cell_of_one HQ.out.1
  have z2 : ∀ o', (w.alloc o').cell? ⟨q2, 0, none⟩ = some (.int .i64 1) := fun o' => by rw [alloc_cell1 w o' q2 0 l2]; exact cell_of_one HQ.out.2
  clear hq
  go_enter Tryz.func28, Tryz.ntmps28
  go_wp2_with fail
  go_ret
  exact ⟨rfl, (Below.refl _ _).alloc (Nat.le_refl _) _⟩
theorem indexEq_any (gc q1 q2 : Nat) (w : World) (hc : CelAt w gc) (hq : TwoOnes w q1 q2) :
    Calls Tryz.prog 27 #[.slice (some ⟨gc, 0, none⟩) 3 3, .func (.func 28) #[] #[.pointer (some ⟨q1, 0, none⟩), .pointer (some ⟨q2, 0, none⟩)]] w fun e w' => e = .returned (.int .i64 2) ∧ Below w.heap.size w w' := by
  have Hw := Lib.hid hc
  have HQ := Lib.hid hq
  have x0 : w.cell? ⟨gc, 0, none⟩ = some (.int .i64 0) := Hw.out.cell 0
  have x1 : w.cell? ⟨gc, 1, none⟩ = some (.int .i64 0) := Hw.out.cell 1
  have x2 : w.cell? ⟨gc, 2, none⟩ = some (.bool false) := Hw.out.cell 2
  have x3 : w.cell? ⟨gc, 3, none⟩ = some (.int .i64 5) := Hw.out.cell 3
  have x4 : w.cell? ⟨gc, 4, none⟩ = some (.int .i64 0) := Hw.out.cell 4
  have x5 : w.cell? ⟨gc, 5, none⟩ = some (.int .i64 0) := Hw.out.cell 5
  clear hc hq
  go_enter Tryz.func27, Tryz.ntmps27
  go_wp2_with fail
  refine wp_loop_rounds 4 ?_
  rw [rounds_succ]
  go_wp2_with fail
  refine (eqCell0 q1 q2 w HQ.out).mono ?_
  rintro e w1 ⟨rfl, hb1⟩
  have HB1 := Lib.hid hb1
  have Hw1 := Lib.hid (Hw.out.below hb1)
  have HQ1 := Lib.hid (HQ.out.below hb1)
  have y0 : w1.cell? ⟨gc, 6, none⟩ = some (.int .i64 0) := Hw1.out.cell 6
  have y1 : w1.cell? ⟨gc, 7, none⟩ = some (.int .i64 1) := Hw1.out.cell 7
  have y2 : w1.cell? ⟨gc, 8, none⟩ = some (.bool false) := Hw1.out.cell 8
  have y3 : w1.cell? ⟨gc, 9, none⟩ = some (.int .i64 7) := Hw1.out.cell 9
  have y4 : w1.cell? ⟨gc, 10, none⟩ = some (.int .i64 0) := Hw1.out.cell 10
  have y5 : w1.cell? ⟨gc, 11, none⟩ = some (.int .i64 0) := Hw1.out.cell 11
  clear hb1 x0 x1 x2 x3 x4 x5
  go_wp2_with fail
  rw [rounds_succ]
  go_wp2_with fail
  refine (eqCell1 q1 q2 w1 HQ1.out).mono ?_
  rintro e w2 ⟨rfl, hb2⟩
  have HB2 := Lib.hid (HB1.out.trans (hb2.mono HB1.out.size))
  have Hw2 := Lib.hid (Hw1.out.below hb2)
  have HQ2 := Lib.hid (HQ1.out.below hb2)
  have z0 : w2.cell? ⟨gc, 12, none⟩ = some (.int .i64 1) := Hw2.out.cell 12
  have z1 : w2.cell? ⟨gc, 13, none⟩ = some (.int .i64 1) := Hw2.out.cell 13
  have z2 : w2.cell? ⟨gc, 14, none⟩ = some (.bool true) := Hw2.out.cell 14
  have z3 : w2.cell? ⟨gc, 15, none⟩ = some (.int .i64 0) := Hw2.out.cell 15
  have z4 : w2.cell? ⟨gc, 16, none⟩ = some (.int .i64 0) := Hw2.out.cell 16
  have z5 : w2.cell? ⟨gc, 17, none⟩ = some (.int .i64 0) := Hw2.out.cell 17
  clear hb2 y0 y1 y2 y3 y4 y5
  go_wp2_with fail
  rw [rounds_succ]
  go_wp2_with fail
  refine (eqCell2 q1 q2 w2 HQ2.out).mono ?_
  rintro e w3 ⟨rfl, hb3⟩
  have HB3 := Lib.hid (HB2.out.trans (hb3.mono HB2.out.size))
  clear hb3 z0 z1 z2 z3 z4 z5
  go_wp2_with fail
  go_ret
  exact ⟨rfl, HB3.out⟩
/-- A row of integers that a call owns. -/
def IRow (W : World) (base : Nat) (v : Value) (L : List Int) : Prop := W.ownsRow base 3 1 v L.length (L.map (Value.int .i64))
theorem IRow.nil (W : World) (base : Nat) : IRow W base (.slice none 0 0) [] := World.ownsRow_nil _ _ _ _
theorem IRow.below {W W' : World} {base : Nat} {v : Value} {L : List Int} (h : IRow W base v L) (hb : Below W.heap.size W W') : IRow W' base v L := by
  refine ⟨h.1, ?_⟩
  rcases h.2 with h2 | ⟨g, cap, cur, h1, h2, h3, h4⟩
  · exact .inl h2
  · refine .inr ⟨g, cap, cur, h1, h2, ?_, h4⟩
    have hlt := (World.ownsRow.lt h g (by rw [h1]; rfl)).2
    rw [hb.block g hlt]; exact h3
theorem IRow.alloc {W : World} {base : Nat} {v : Value} {L : List Int} (h : IRow W base v L) (o : Obj) : IRow (W.alloc o) base v L := World.ownsRow.alloc h o
theorem IRow.form {W : World} {base : Nat} {v : Value} {L : List Int} (h : IRow W base v L) (hn : 0 < L.length) : ∃ g cap, v = .slice (some ⟨g, 0, none⟩) L.length cap ∧ base ≤ g ∧ g < W.heap.size := World.ownsRow.form h hn
theorem IRow.get {W : World} {base g c : Nat} {L : List Int} (h : IRow W base (.slice (some ⟨g, 0, none⟩) L.length c) L) (i : Nat) (x : Int) (hi : L[i]? = some x) : W.cell? ⟨g, i, none⟩ = some (.int .i64 x) := by
  have := World.ownsRow.cellAt h i (by rw [Nat.mul_one]; exact (List.getElem?_eq_some_iff.1 hi).1)
  rw [this, List.getElem?_map, hi]; rfl
theorem IRow.mono {W : World} {b base : Nat} {v : Value} {L : List Int} (h : IRow W base v L) (hb : b ≤ base) : IRow W b v L := by
  refine ⟨h.1, ?_⟩
  rcases h.2 with h2 | ⟨g, cap, cur, h1, h2, h3⟩
  · exact .inl h2
  · exact .inr ⟨g, cap, cur, h1, Nat.le_trans hb h2, h3⟩
theorem infoIntC : (Tryz.prog.info? 3).map (fun i => (i.zero, i.size, i.bytes)) = some (some (.int .i64 0), 1, 8) := by kernel_rfl
/-- One integer appended. -/
theorem append_int {ops : Array Oper} {rest : List Oper} {o : Oper} {a : Act} {Q : Exit → Act → World → Prop} {w0 : World} (hgd : o.guard = none) (s x : Operand)
    (ho : o.op = .call { callee := .builtin .append, args := #[s, x], argTypes := #[76, 76] })
    {base : Nat} {v : Value} {L : List Int} (hs : a.eval s = v) (hown : IRow w0 base v L) (hbase : base ≤ w0.heap.size) (hlen : L.length ≤ 1000)
    {xb : Nat} (hx : a.eval x = .slice (some ⟨xb, 0, none⟩) 1 1) {n : Int} (hX : w0.heap[xb]? = some (.cells #[.int .i64 n] 3 (0, 0)))
    (h : ∀ g cap w', IRow w' base (.slice (some ⟨g, 0, none⟩) (L.length + 1) cap) (L ++ [n]) → Below base w0 w' →
      wpList Tryz.prog ops Q rest (a.put o.dst (.slice (some ⟨g, 0, none⟩) (L.length + 1) cap)) w') :
    wpList Tryz.prog ops Q (o :: rest) a w0 := by
  obtain ⟨i0, hi, hz0, hz1, hz2⟩ := info_parts infoIntC
  refine wpList_append_lies _ hgd s x 76 ho base 3 i0 _ 1 8 Tryz.underlying76 hi hz0 hz1 hz2 rfl (by decide) v L.length (L.map (Value.int .i64)) hs hown ⟨xb, 0, none⟩ 1 1 [.int .i64 n] hx rfl (fun j u hj => ?_) (fun u hu => ?_) (by omega) (by unfold maxLen; omega) (by omega) hbase _ rfl ?_
  · rcases j with _ | j
    · simp at hj; subst hj; rw [Go.WideShapes.add_plain, Lib.cell_of_heap hX]; rfl
    · simp at hj
  · rw [List.mem_singleton] at hu; subst hu; rfl
  · intro g cap w1 hown' hgrow hat hlt
    refine h g cap w1 ?_ ((Below.refl _ _).grown hgrow hbase (fun k hk => (World.ownsRow.lt hown k hk).1))
    show w1.ownsRow base _ 1 _ (L ++ [n]).length ((L ++ [n]).map (Value.int .i64))
    rw [List.length_append, List.map_append]
    exact hown'
theorem max_lit (n : Int) (h : -1000000000000 ≤ n) : ∀ (ats : Array TypeId) (ty : TypeId) (wx : World), (Builtin.max_ ats ty #[.int .i64 n, .int .i64 (-1000000000000)]).run Tryz.prog wx = .ok (.int .i64 n) wx := fun ats ty wx => by rw [run_max2, Int.max_eq_left h]
theorem min_lit (n : Int) (h : n ≤ 1000000000000) : ∀ (ats : Array TypeId) (ty : TypeId) (wx : World), (Builtin.min_ ats ty #[.int .i64 n, .int .i64 1000000000000]).run Tryz.prog wx = .ok (.int .i64 n) wx := fun ats ty wx => by rw [run_min2, Int.min_eq_left h]
set_option maxHeartbeats 2000000 in
theorem values_any (gl gc : Nat) (w : World) (hd : DocAt w gl gc) : Calls Tryz.prog 30 #[.agg #[.slice (some ⟨gl, 0, none⟩) 1 1, .slice (some ⟨gc, 0, none⟩) 3 3, .int .i64 0, .string { data := #[] }]] w fun e w' => ∃ g cap, e = .returned (.slice (some ⟨g, 0, none⟩) 3 cap) ∧ IRow w' w.heap.size (.slice (some ⟨g, 0, none⟩) 3 cap) [5, 7, 12] ∧ Below w.heap.size w w' := by
  obtain ⟨w1, hw1⟩ : ∃ w1, w.alloc (.cells #[.slice (some ⟨gl, 0, none⟩) 1 1, .slice (some ⟨gc, 0, none⟩) 3 3, .int .i64 0, .string { data := #[] }] 84) = w1 := ⟨_, rfl⟩
  obtain ⟨bx, hbx⟩ : ∃ bx, w.heap.size = bx := ⟨_, rfl⟩
  have hb1 : Below w.heap.size w w1 := by rw [← hw1]; exact (Below.refl _ _).alloc (Nat.le_refl _) _
  have hd1 : DocAt w1 gl gc := by rw [← hw1]; exact hd.alloc _
  have hx1 : w1.heap[bx]? = some (.cells #[.slice (some ⟨gl, 0, none⟩) 1 1, .slice (some ⟨gc, 0, none⟩) 3 3, .int .i64 0, .string { data := #[] }] 84 (0, 0)) := by rw [← hw1]; exact heap_last' _ _ hbx
  have HB1 := Lib.hid hb1
  have HX1 := Lib.hid hx1
  have HC1 := Lib.hid hd1.c
  have b1 : w1.cell? ⟨bx, 1, none⟩ = some (.slice (some ⟨gc, 0, none⟩) 3 3) := by rw [Lib.cell_of_heap hx1]; rfl
  have x0 : w1.cell? ⟨gc, 0, none⟩ = some (.int .i64 0) := HC1.out.cell 0
  have x1 : w1.cell? ⟨gc, 1, none⟩ = some (.int .i64 0) := HC1.out.cell 1
  have x2 : w1.cell? ⟨gc, 2, none⟩ = some (.bool false) := HC1.out.cell 2
  have x3 : w1.cell? ⟨gc, 3, none⟩ = some (.int .i64 5) := HC1.out.cell 3
  have x4 : w1.cell? ⟨gc, 4, none⟩ = some (.int .i64 0) := HC1.out.cell 4
  have x5 : w1.cell? ⟨gc, 5, none⟩ = some (.int .i64 0) := HC1.out.cell 5
  clear hd hb1 hd1 hx1
  go_enter Tryz.func30, Tryz.ntmps30
  go_wp2_with fail
  refine wp_loop_rounds 4 ?_
  rw [rounds_succ]
  go_upto_region 13 with fail
  clear hw1 hbx
  obtain ⟨wA, hwA⟩ : ∃ wA, (w1.alloc (.cells #[.int .i64 0, .int .i64 0, .bool false, .int .i64 5, .int .i64 0, .int .i64 0] 42)).alloc (.cells #[.int .i64 5] 3) = wA := ⟨_, rfl⟩
  have HKA := Lib.hid (show wA.heap[w1.heap.size + 1]? = some (.cells #[.int .i64 5] 3 (0, 0)) by rw [← hwA]; exact heap_last' _ _ (size_alloc _ _))
  have HBA := Lib.hid (show Below w1.heap.size w1 wA by rw [← hwA]; exact ((Below.refl _ _).alloc (Nat.le_refl _) _).alloc (by rw [size_alloc]; omega) _)
  have hm1 := max_lit 5 (by omega)
  have hm2 := min_lit 5 (by omega)
  clear x0 x1 x2 x3 x4 x5
  go_wp2_with (at_builtin; refine append_int rfl _ _ rfl (by rfl) (base := w1.heap.size) (L := []) (n := 5) (IRow.nil _ _) HBA.out.size (by simp) (by rfl) HKA.out ?_; intro g1 k1 w2 hr2 hb2; have HR2 := Lib.hid (show IRow w2 w1.heap.size (.slice (some ⟨g1, 0, none⟩) 1 k1) [5] from hr2); have HB2 := Lib.hid (HBA.out.trans hb2); clear hr2 hb2 hwA hm1 hm2 b1)
  rw [rounds_succ]
  have HC2 := Lib.hid (HC1.out.below HB2.out)
  have b2 : w2.cell? ⟨bx, 1, none⟩ = some (.slice (some ⟨gc, 0, none⟩) 3 3) := by rw [Lib.cell_of_heap ((HB2.out.block bx (Array.getElem?_eq_some_iff.1 HX1.out).1).trans HX1.out)]; rfl
  have y0 : w2.cell? ⟨gc, 6, none⟩ = some (.int .i64 0) := HC2.out.cell 6
  have y1 : w2.cell? ⟨gc, 7, none⟩ = some (.int .i64 1) := HC2.out.cell 7
  have y2 : w2.cell? ⟨gc, 8, none⟩ = some (.bool false) := HC2.out.cell 8
  have y3 : w2.cell? ⟨gc, 9, none⟩ = some (.int .i64 7) := HC2.out.cell 9
  have y4 : w2.cell? ⟨gc, 10, none⟩ = some (.int .i64 0) := HC2.out.cell 10
  have y5 : w2.cell? ⟨gc, 11, none⟩ = some (.int .i64 0) := HC2.out.cell 11
  clear HKA HBA
  go_upto_region 13 with fail
  obtain ⟨wB, hwB⟩ : ∃ wB, (w2.alloc (.cells #[.int .i64 0, .int .i64 1, .bool false, .int .i64 7, .int .i64 0, .int .i64 0] 42)).alloc (.cells #[.int .i64 7] 3) = wB := ⟨_, rfl⟩
  have HKB := Lib.hid (show wB.heap[w2.heap.size + 1]? = some (.cells #[.int .i64 7] 3 (0, 0)) by rw [← hwB]; exact heap_last' _ _ (size_alloc _ _))
  have HBB := Lib.hid (show Below w2.heap.size w2 wB by rw [← hwB]; exact ((Below.refl _ _).alloc (Nat.le_refl _) _).alloc (by rw [size_alloc]; omega) _)
  have HBC := Lib.hid (HB2.out.trans (HBB.out.mono HB2.out.size))
  have HRB := Lib.hid (HR2.out.below HBB.out)
  have hm1 := max_lit 7 (by omega)
  have hm2 := min_lit 7 (by omega)
  clear y0 y1 y2 y3 y4 y5
  go_wp2_with (at_builtin; refine append_int rfl _ _ rfl (by rfl) (base := w1.heap.size) (L := [5]) (n := 7) HRB.out HBC.out.size (by simp) (by rfl) HKB.out ?_; intro g2 k2 w3 hr3 hb3; have HR3 := Lib.hid (show IRow w3 w1.heap.size (.slice (some ⟨g2, 0, none⟩) 2 k2) [5, 7] from hr3); have HB3 := Lib.hid (HBC.out.trans hb3); clear hr3 hb3 hwB hm1 hm2 b2)
  rw [rounds_succ]
  have HC3 := Lib.hid (HC1.out.below HB3.out)
  have HX3 := Lib.hid ((HB3.out.block bx (Array.getElem?_eq_some_iff.1 HX1.out).1).trans HX1.out)
  have b3 : w3.cell? ⟨bx, 1, none⟩ = some (.slice (some ⟨gc, 0, none⟩) 3 3) := by rw [Lib.cell_of_heap HX3.out]; rfl
  have z0 : w3.cell? ⟨gc, 12, none⟩ = some (.int .i64 1) := HC3.out.cell 12
  have z1 : w3.cell? ⟨gc, 13, none⟩ = some (.int .i64 1) := HC3.out.cell 13
  have z2 : w3.cell? ⟨gc, 14, none⟩ = some (.bool true) := HC3.out.cell 14
  have z3 : w3.cell? ⟨gc, 15, none⟩ = some (.int .i64 0) := HC3.out.cell 15
  have z4 : w3.cell? ⟨gc, 16, none⟩ = some (.int .i64 0) := HC3.out.cell 16
  have z5 : w3.cell? ⟨gc, 17, none⟩ = some (.int .i64 0) := HC3.out.cell 17
  clear HKB HBB HBC HRB
  go_upto_region 7 with fail
  obtain ⟨w4, hw4⟩ : ∃ w4, w3.alloc (.cells #[.int .i64 1, .int .i64 1, .bool true, .int .i64 0, .int .i64 0, .int .i64 0] 42) = w4 := ⟨_, rfl⟩
  obtain ⟨b5, hb5⟩ : ∃ b5, w3.heap.size = b5 := ⟨_, rfl⟩
  have hb4 : Below w3.heap.size w3 w4 := by rw [← hw4]; exact (Below.refl _ _).alloc (Nat.le_refl _) _
  have hbox : w4.heap[b5]? = some (.cells #[.int .i64 1, .int .i64 1, .bool true, .int .i64 0, .int .i64 0, .int .i64 0] 42 (0, 0)) := by rw [← hw4]; exact heap_last' _ _ hb5
  have HC4 := Lib.hid (HC3.out.below hb4)
  have HR4 := Lib.hid (HR3.out.below hb4)
  have HB4 := Lib.hid (HB3.out.trans (hb4.mono HB3.out.size))
  have b4 : w4.cell? ⟨bx, 1, none⟩ = some (.slice (some ⟨gc, 0, none⟩) 3 3) := by rw [Lib.cell_of_heap ((HB4.out.block bx (Array.getElem?_eq_some_iff.1 HX1.out).1).trans HX1.out)]; rfl
  have v0 : w4.cell? ⟨b5, 0, none⟩ = some (.int .i64 1) := by rw [Lib.cell_of_heap hbox]; rfl
  have v1 : w4.cell? ⟨b5, 1, none⟩ = some (.int .i64 1) := by rw [Lib.cell_of_heap hbox]; rfl
  have v2 : w4.cell? ⟨b5, 2, none⟩ = some (.bool true) := by rw [Lib.cell_of_heap hbox]; rfl
  have v3 : w4.cell? ⟨b5, 3, none⟩ = some (.int .i64 0) := by rw [Lib.cell_of_heap hbox]; rfl
  have v4 : w4.cell? ⟨b5, 4, none⟩ = some (.int .i64 0) := by rw [Lib.cell_of_heap hbox]; rfl
  have v5 : w4.cell? ⟨b5, 5, none⟩ = some (.int .i64 0) := by rw [Lib.cell_of_heap hbox]; rfl
  have x0 : w4.cell? ⟨gc, 0, none⟩ = some (.int .i64 0) := HC4.out.cell 0
  have x1 : w4.cell? ⟨gc, 1, none⟩ = some (.int .i64 0) := HC4.out.cell 1
  have x2 : w4.cell? ⟨gc, 2, none⟩ = some (.bool false) := HC4.out.cell 2
  have x3 : w4.cell? ⟨gc, 3, none⟩ = some (.int .i64 5) := HC4.out.cell 3
  have x4 : w4.cell? ⟨gc, 4, none⟩ = some (.int .i64 0) := HC4.out.cell 4
  have x5 : w4.cell? ⟨gc, 5, none⟩ = some (.int .i64 0) := HC4.out.cell 5
  have y0 : w4.cell? ⟨gc, 6, none⟩ = some (.int .i64 0) := HC4.out.cell 6
  have y1 : w4.cell? ⟨gc, 7, none⟩ = some (.int .i64 1) := HC4.out.cell 7
  have y2 : w4.cell? ⟨gc, 8, none⟩ = some (.bool false) := HC4.out.cell 8
  have y3 : w4.cell? ⟨gc, 9, none⟩ = some (.int .i64 7) := HC4.out.cell 9
  have y4 : w4.cell? ⟨gc, 10, none⟩ = some (.int .i64 0) := HC4.out.cell 10
  have y5 : w4.cell? ⟨gc, 11, none⟩ = some (.int .i64 0) := HC4.out.cell 11
  have o0 : w4.cell? ⟨g2, 0, none⟩ = some (.int .i64 5) := IRow.get (L := [5, 7]) HR4.out 0 5 rfl
  have o1 : w4.cell? ⟨g2, 1, none⟩ = some (.int .i64 7) := IRow.get (L := [5, 7]) HR4.out 1 7 rfl
  have l1 : gc < w4.heap.size := (Array.getElem?_eq_some_iff.1 HC4.out).1
  have l2 : b5 < w4.heap.size := (Array.getElem?_eq_some_iff.1 hbox).1
  have l3 : g2 < w4.heap.size := World.block_lt_of_cell? _ _ o0
  have l4 : bx < w4.heap.size := World.block_lt_of_cell? _ _ b4
  have r1 := alloc_cell1 w4
  have r2 := alloc_cell2 w4
  have HY0 := Lib.hid (fun W => within_yes 0 0 1 W (by omega))
  have HY1 := Lib.hid (fun W => within_yes 1 0 1 W (by omega))
  rw [hw4, hb5]
  clear hw4 hb5 hb4 hbox b3 z0 z1 z2 z3 z4 z5
  go_wp2_with fail
  refine wp_loop_rounds 3 ?_
  rw [rounds_succ]
  go_wp2_with fail
  refine (HY0.out _).mono ?_
  rintro e w' ⟨rfl, rfl⟩
  go_wp2_with fail
  refine (HY0.out _).mono ?_
  rintro e w' ⟨rfl, rfl⟩
  go_wp2_with fail
  rw [rounds_succ]
  go_wp2_with fail
  refine (HY0.out _).mono ?_
  rintro e w' ⟨rfl, rfl⟩
  go_wp2_with fail
  refine (HY1.out _).mono ?_
  rintro e w' ⟨rfl, rfl⟩
  go_wp2_with fail
  rw [rounds_succ]
  go_upto_region 13 with fail
  obtain ⟨wD, hwD⟩ : ∃ wD, ((w4.alloc (.cells #[.int .i64 0, .int .i64 0, .bool false, .int .i64 5, .int .i64 0, .int .i64 0] 42)).alloc (.cells #[.int .i64 0, .int .i64 1, .bool false, .int .i64 7, .int .i64 0, .int .i64 0] 42)).alloc (.cells #[.int .i64 12] 3) = wD := ⟨_, rfl⟩
  have HKD := Lib.hid (show wD.heap[w4.heap.size + 1 + 1]? = some (.cells #[.int .i64 12] 3 (0, 0)) by rw [← hwD]; exact heap_last' _ _ (by rw [size_alloc, size_alloc]))
  have HBD := Lib.hid (show Below w4.heap.size w4 wD by rw [← hwD]; exact (((Below.refl _ _).alloc (Nat.le_refl _) _).alloc (by rw [size_alloc]; omega) _).alloc (by rw [size_alloc, size_alloc]; omega) _)
  have HBE := Lib.hid (HB4.out.trans (HBD.out.mono HB4.out.size))
  have HRD := Lib.hid (HR4.out.below HBD.out)
  have hm1 := max_lit 12 (by omega)
  have hm2 := min_lit 12 (by omega)
  clear x0 x1 x2 x3 x4 x5 y0 y1 y2 y3 y4 y5 o0 o1 v0 v1 v2 v3 v4 v5 b4 r1 r2 l1 l2 l3 l4
  go_wp2_with (at_builtin; refine append_int rfl _ _ rfl (by rfl) (base := w1.heap.size) (L := [5, 7]) (n := 12) HRD.out HBE.out.size (by simp) (by rfl) HKD.out ?_; intro g3 k3 w6 hr6 hb6; have HR6 := Lib.hid (show IRow w6 w1.heap.size (.slice (some ⟨g3, 0, none⟩) 3 k3) [5, 7, 12] from hr6); have HB6 := Lib.hid (HBE.out.trans hb6); clear hr6 hb6 hwD hm1 hm2)
  rw [rounds_succ]
  go_wp2_with fail
  go_ret
  exact ⟨g3, k3, rfl, HR6.out.mono HB1.out.size, HB1.out.trans (HB6.out.mono HB1.out.size)⟩
/-- The value of the last cell. -/
theorem value_any (gl gc : Nat) (w : World) (hd : DocAt w gl gc) : Calls Tryz.prog 10 #[.agg #[.slice (some ⟨gl, 0, none⟩) 1 1, .slice (some ⟨gc, 0, none⟩) 3 3, .int .i64 0, .string { data := #[] }], .int .i64 1, .int .i64 1] w fun e w' => e = .returned (.tuple #[.int .i64 12, .bool true]) ∧ Below w.heap.size w w' := by
  obtain ⟨w1, hw1⟩ : ∃ w1, ((w.alloc (.cells #[.slice (some ⟨gl, 0, none⟩) 1 1, .slice (some ⟨gc, 0, none⟩) 3 3, .int .i64 0, .string { data := #[] }] 45)).alloc (.cells #[.int .i64 1] 3)).alloc (.cells #[.int .i64 1] 3) = w1 := ⟨_, rfl⟩
  have hb1 : Below w.heap.size w w1 := by rw [← hw1]; exact (((Below.refl _ _).alloc (Nat.le_refl _) _).alloc (by rw [size_alloc]; omega) _).alloc (by rw [size_alloc, size_alloc]; omega) _
  have hd1 : DocAt w1 gl gc := hd.below hb1
  have hx1 : w1.heap[w.heap.size]? = some (.cells #[.slice (some ⟨gl, 0, none⟩) 1 1, .slice (some ⟨gc, 0, none⟩) 3 3, .int .i64 0, .string { data := #[] }] 45 (0, 0)) := by rw [← hw1]; exact allocs_heap [_, _, _] w 0 _ rfl
  have hq1 : TwoOnes w1 (w.heap.size + 1) (w.heap.size + 1 + 1) := by rw [← hw1]; exact ⟨allocs_heap [_, _, _] w 1 _ rfl, allocs_heap [_, _, _] w 2 _ rfl⟩
  have HB1 := Lib.hid hb1
  have HD1 := Lib.hid hd1
  have HX1 := Lib.hid hx1
  have HI := Lib.hid (indexEq_any gc (w.heap.size + 1) (w.heap.size + 1 + 1) w1 hd1.c hq1)
  have b1 : w1.cell? ⟨w.heap.size, 1, none⟩ = some (.slice (some ⟨gc, 0, none⟩) 3 3) := by rw [Lib.cell_of_heap hx1]; rfl
  clear hd hb1 hd1 hx1 hq1
  go_enter Tryz.func10, Tryz.ntmps10
  go_wp2_with fail
  refine HI.out.mono ?_
  rintro e w2 ⟨rfl, hb2⟩
  have HB2 := Lib.hid (HB1.out.trans (hb2.mono HB1.out.size))
  have HX2 := Lib.hid ((hb2.block _ (Array.getElem?_eq_some_iff.1 HX1.out).1).trans HX1.out)
  have HD2 := Lib.hid (HD1.out.below hb2)
  have HV := Lib.hid (validDoc_any gl gc w2 HD2.out)
  have d0 : w2.cell? ⟨w.heap.size, 0, none⟩ = some (.slice (some ⟨gl, 0, none⟩) 1 1) := by rw [Lib.cell_of_heap HX2.out]; rfl
  have d1 : w2.cell? ⟨w.heap.size, 1, none⟩ = some (.slice (some ⟨gc, 0, none⟩) 3 3) := by rw [Lib.cell_of_heap HX2.out]; rfl
  have d2 : w2.cell? ⟨w.heap.size, 2, none⟩ = some (.int .i64 0) := by rw [Lib.cell_of_heap HX2.out]; rfl
  have d3 : w2.cell? ⟨w.heap.size, 3, none⟩ = some (.string { data := #[] }) := by rw [Lib.cell_of_heap HX2.out]; rfl
  clear hb2 hw1 b1 HI
  go_wp2_with fail
  refine HV.out.mono ?_
  rintro e w3 ⟨rfl, hb3⟩
  have HB3 := Lib.hid (HB2.out.trans (hb3.mono HB2.out.size))
  have HX3 := Lib.hid ((hb3.block _ (Array.getElem?_eq_some_iff.1 HX2.out).1).trans HX2.out)
  have HD3 := Lib.hid (HD2.out.below hb3)
  have HVA := Lib.hid (values_any gl gc w3 HD3.out)
  clear hb3 d0 d1 d2 d3 HV
  have d0 : w3.cell? ⟨w.heap.size, 0, none⟩ = some (.slice (some ⟨gl, 0, none⟩) 1 1) := by rw [Lib.cell_of_heap HX3.out]; rfl
  have d1 : w3.cell? ⟨w.heap.size, 1, none⟩ = some (.slice (some ⟨gc, 0, none⟩) 3 3) := by rw [Lib.cell_of_heap HX3.out]; rfl
  have d2 : w3.cell? ⟨w.heap.size, 2, none⟩ = some (.int .i64 0) := by rw [Lib.cell_of_heap HX3.out]; rfl
  have d3 : w3.cell? ⟨w.heap.size, 3, none⟩ = some (.string { data := #[] }) := by rw [Lib.cell_of_heap HX3.out]; rfl
  go_wp2_with fail
  refine HVA.out.mono ?_
  rintro e w4 ⟨g, cap, rfl, hr, hb4⟩
  have HB4 := Lib.hid (HB3.out.trans (hb4.mono HB3.out.size))
  have o2 : w4.cell? ⟨g, 2, none⟩ = some (.int .i64 12) := IRow.get (L := [5, 7, 12]) hr 2 12 rfl
  clear hb4 hr d0 d1 d2 d3 HVA
  go_wp2_with fail
  go_ret2
  exact ⟨rfl, HB4.out⟩
end Go.Proofs.YtinknenfhohamaaGreatDoor
