/- The fixed document of awake is valid. -/
import Derived.Test.YtinknenfhohamaaGreatDoorG41
import Derived.Deep.Cut
namespace Go.Proofs.YtinknenfhohamaaGreatDoor
open Go.RowKit Go.Shelf
set_option maxRecDepth 100000

/-- The document's lines and cells. -/
structure DocAt (W : World) (gl gc : Nat) : Prop where
  l : W.heap[gl]? = some (.cells #[.string { data := #[65, 98] }, .int .i64 2] 39 (0, 0))
  c : CelAt W gc
theorem DocAt.below {W W' : World} {gl gc : Nat} (h : DocAt W gl gc) (hb : Below W.heap.size W W') : DocAt W' gl gc := ⟨(hb.block gl (Array.getElem?_eq_some_iff.1 h.l).1).trans h.l, h.c.below hb⟩
theorem DocAt.alloc {W : World} {gl gc : Nat} (h : DocAt W gl gc) (o : Obj) : DocAt (W.alloc o) gl gc := h.below ((Below.refl _ _).alloc (Nat.le_refl _) _)
/-- Two blocks have been laid. -/
def TwoNew (A : World) (x y : Obj) (g h : Nat) (Z : World) : Prop := Z.heap[g]? = some x ∧ Z.heap[h]? = some y ∧ Below A.heap.size A Z
theorem alloc_cell1 (w : World) : ∀ (o : Obj) (b i : Nat), b < w.heap.size → (w.alloc o).cell? ⟨b, i, none⟩ = w.cell? ⟨b, i, none⟩ := fun o b _ h => World.cell?_of_block (Below.heap_alloc w o b h)
theorem alloc_cell2 (w : World) : ∀ (o o' : Obj) (b i : Nat), b < w.heap.size → ((w.alloc o).alloc o').cell? ⟨b, i, none⟩ = w.cell? ⟨b, i, none⟩ := fun o o' b i h => (alloc_cell1 (w.alloc o) o' b i (by rw [size_alloc]; omega)).trans (alloc_cell1 w o b i h)
set_option maxHeartbeats 1000000 in
theorem validDoc_any (gl gc : Nat) (w : World) (hd : DocAt w gl gc) : Calls Tryz.prog 29 #[.agg #[.slice (some ⟨gl, 0, none⟩) 1 1, .slice (some ⟨gc, 0, none⟩) 3 3, .int .i64 0, .string { data := #[] }]] w fun e w' => e = .returned (.bool true) ∧ Below w.heap.size w w' := by
  obtain ⟨w1, hw1⟩ : ∃ w1, w.alloc (.cells #[.slice (some ⟨gl, 0, none⟩) 1 1, .slice (some ⟨gc, 0, none⟩) 3 3, .int .i64 0, .string { data := #[] }] 45) = w1 := ⟨_, rfl⟩
  obtain ⟨bx, hbx⟩ : ∃ bx, w.heap.size = bx := ⟨_, rfl⟩
  have hb1 : Below w.heap.size w w1 := by rw [← hw1]; exact (Below.refl _ _).alloc (Nat.le_refl _) _
  have hd1 : DocAt w1 gl gc := by rw [← hw1]; exact hd.alloc _
  have hx1 : w1.heap[bx]? = some (.cells #[.slice (some ⟨gl, 0, none⟩) 1 1, .slice (some ⟨gc, 0, none⟩) 3 3, .int .i64 0, .string { data := #[] }] 45 (0, 0)) := by rw [← hw1]; exact heap_last' _ _ hbx
  have HB1 := Lib.hid hb1
  have HX1 := Lib.hid hx1
  have HD1 := Lib.hid hd1
  have HC1 := Lib.hid hd1.c
  have b1 : w1.cell? ⟨bx, 1, none⟩ = some (.slice (some ⟨gc, 0, none⟩) 3 3) := by rw [Lib.cell_of_heap hx1]; rfl
  have x0 : w1.cell? ⟨gc, 0, none⟩ = some (.int .i64 0) := HC1.out.cell 0
  have x1 : w1.cell? ⟨gc, 1, none⟩ = some (.int .i64 0) := HC1.out.cell 1
  have x2 : w1.cell? ⟨gc, 2, none⟩ = some (.bool false) := HC1.out.cell 2
  have x3 : w1.cell? ⟨gc, 3, none⟩ = some (.int .i64 5) := HC1.out.cell 3
  have x4 : w1.cell? ⟨gc, 4, none⟩ = some (.int .i64 0) := HC1.out.cell 4
  have x5 : w1.cell? ⟨gc, 5, none⟩ = some (.int .i64 0) := HC1.out.cell 5
  have y0 : w1.cell? ⟨gc, 6, none⟩ = some (.int .i64 0) := HC1.out.cell 6
  have y1 : w1.cell? ⟨gc, 7, none⟩ = some (.int .i64 1) := HC1.out.cell 7
  have y2 : w1.cell? ⟨gc, 8, none⟩ = some (.bool false) := HC1.out.cell 8
  have y3 : w1.cell? ⟨gc, 9, none⟩ = some (.int .i64 7) := HC1.out.cell 9
  have y4 : w1.cell? ⟨gc, 10, none⟩ = some (.int .i64 0) := HC1.out.cell 10
  have y5 : w1.cell? ⟨gc, 11, none⟩ = some (.int .i64 0) := HC1.out.cell 11
  clear hd hb1 hd1 hx1
  go_enter Tryz.func29, Tryz.ntmps29
  go_wp2_with fail
  refine wp_loop_rounds 3 ?_
  rw [rounds_succ]
  go_upto_region 5 with fail
  clear hw1 hbx
  go_cut [5, 6] (fun x y wx => ∃ g h, x = .pointer (some ⟨g, 0, none⟩) ∧ y = .pointer (some ⟨h, 0, none⟩) ∧ TwoNew w1 (.cells #[.int .i64 0, .int .i64 0, .bool false, .int .i64 5, .int .i64 0, .int .i64 0] 42 (0, 0)) (.cells #[.int .i64 0, .int .i64 1, .bool false, .int .i64 7, .int .i64 0, .int .i64 0] 42 (0, 0)) g h wx)
  case first =>
    have l1 : bx < w1.heap.size := (Array.getElem?_eq_some_iff.1 HX1.out).1
    have l2 : gc < w1.heap.size := (Array.getElem?_eq_some_iff.1 HC1.out).1
    have r1 := alloc_cell1 w1
    have r2 := alloc_cell2 w1
    go_region
    all_goals
      go_wp2_with fail
      go_meet
      refine ⟨_, _, rfl, rfl, ?_, ?_, (((Below.refl _ _).alloc (Nat.le_refl _) _).alloc (by rw [size_alloc]; omega) _).drew⟩
      · first | exact heap_last' _ _ (by rw [size_alloc]) | exact heap_prev' _ _ _ rfl
      · first | exact heap_last' _ _ (by rw [size_alloc]) | exact heap_prev' _ _ _ rfl
  case rest =>
  obtain ⟨g, h, rfl, rfl, hg, hh, hb⟩ := hcut
  have HB2 := Lib.hid (HB1.out.trans (hb.mono HB1.out.size))
  have HC2 := Lib.hid (HC1.out.below hb)
  have HX2 := Lib.hid ((hb.block bx (Array.getElem?_eq_some_iff.1 HX1.out).1).trans HX1.out)
  have HD2 := Lib.hid (HD1.out.below hb)
  have p0 : wc.cell? ⟨g, 0, none⟩ = some (.int .i64 0) := by rw [Lib.cell_of_heap hg]; rfl
  have p1 : wc.cell? ⟨g, 1, none⟩ = some (.int .i64 0) := by rw [Lib.cell_of_heap hg]; rfl
  have p2 : wc.cell? ⟨g, 2, none⟩ = some (.bool false) := by rw [Lib.cell_of_heap hg]; rfl
  have p3 : wc.cell? ⟨g, 3, none⟩ = some (.int .i64 5) := by rw [Lib.cell_of_heap hg]; rfl
  have p4 : wc.cell? ⟨g, 4, none⟩ = some (.int .i64 0) := by rw [Lib.cell_of_heap hg]; rfl
  have p5 : wc.cell? ⟨g, 5, none⟩ = some (.int .i64 0) := by rw [Lib.cell_of_heap hg]; rfl
  have q0 : wc.cell? ⟨h, 0, none⟩ = some (.int .i64 0) := by rw [Lib.cell_of_heap hh]; rfl
  have q1 : wc.cell? ⟨h, 1, none⟩ = some (.int .i64 1) := by rw [Lib.cell_of_heap hh]; rfl
  have q2 : wc.cell? ⟨h, 2, none⟩ = some (.bool false) := by rw [Lib.cell_of_heap hh]; rfl
  have q3 : wc.cell? ⟨h, 3, none⟩ = some (.int .i64 7) := by rw [Lib.cell_of_heap hh]; rfl
  have q4 : wc.cell? ⟨h, 4, none⟩ = some (.int .i64 0) := by rw [Lib.cell_of_heap hh]; rfl
  have q5 : wc.cell? ⟨h, 5, none⟩ = some (.int .i64 0) := by rw [Lib.cell_of_heap hh]; rfl
  clear hg hh hb b1 x0 x1 x2 x3 x4 x5 y0 y1 y2 y3 y4 y5
  have b2 : wc.cell? ⟨bx, 1, none⟩ = some (.slice (some ⟨gc, 0, none⟩) 3 3) := by rw [Lib.cell_of_heap HX2.out]; rfl
  go_wp2_with fail
  rw [rounds_succ]
  have x0 : wc.cell? ⟨gc, 6, none⟩ = some (.int .i64 0) := HC2.out.cell 6
  have x1 : wc.cell? ⟨gc, 7, none⟩ = some (.int .i64 1) := HC2.out.cell 7
  have x2 : wc.cell? ⟨gc, 8, none⟩ = some (.bool false) := HC2.out.cell 8
  have x3 : wc.cell? ⟨gc, 9, none⟩ = some (.int .i64 7) := HC2.out.cell 9
  have x4 : wc.cell? ⟨gc, 10, none⟩ = some (.int .i64 0) := HC2.out.cell 10
  have x5 : wc.cell? ⟨gc, 11, none⟩ = some (.int .i64 0) := HC2.out.cell 11
  have y0 : wc.cell? ⟨gc, 12, none⟩ = some (.int .i64 1) := HC2.out.cell 12
  have y1 : wc.cell? ⟨gc, 13, none⟩ = some (.int .i64 1) := HC2.out.cell 13
  have y2 : wc.cell? ⟨gc, 14, none⟩ = some (.bool true) := HC2.out.cell 14
  have y3 : wc.cell? ⟨gc, 15, none⟩ = some (.int .i64 0) := HC2.out.cell 15
  have y4 : wc.cell? ⟨gc, 16, none⟩ = some (.int .i64 0) := HC2.out.cell 16
  have y5 : wc.cell? ⟨gc, 17, none⟩ = some (.int .i64 0) := HC2.out.cell 17
  clear p0 p1 p2 p3 p4 p5 q0 q1 q2 q3 q4 q5
  go_upto_region 5 with fail
  obtain ⟨wo, rfl⟩ : ∃ wo : World, wo = wc := ⟨_, rfl⟩
  go_cut [5, 6] (fun x y wx => ∃ g h, x = .pointer (some ⟨g, 0, none⟩) ∧ y = .pointer (some ⟨h, 0, none⟩) ∧ TwoNew wo (.cells #[.int .i64 0, .int .i64 1, .bool false, .int .i64 7, .int .i64 0, .int .i64 0] 42 (0, 0)) (.cells #[.int .i64 1, .int .i64 1, .bool true, .int .i64 0, .int .i64 0, .int .i64 0] 42 (0, 0)) g h wx)
  case first =>
    have l1 : bx < wo.heap.size := (Array.getElem?_eq_some_iff.1 HX2.out).1
    have l2 : gc < wo.heap.size := (Array.getElem?_eq_some_iff.1 HC2.out).1
    have r1 := alloc_cell1 wo
    have r2 := alloc_cell2 wo
    go_region
    all_goals
      go_wp2_with fail
      go_meet
      refine ⟨_, _, rfl, rfl, ?_, ?_, (((Below.refl _ _).alloc (Nat.le_refl _) _).alloc (by rw [size_alloc]; omega) _).drew⟩
      · first | exact heap_last' _ _ (by rw [size_alloc]) | exact heap_prev' _ _ _ rfl
      · first | exact heap_last' _ _ (by rw [size_alloc]) | exact heap_prev' _ _ _ rfl
  case rest =>
  obtain ⟨g2, h2, rfl, rfl, hg, hh, hb⟩ := hcut
  have HB3 := Lib.hid (HB2.out.trans (hb.mono HB2.out.size))
  have HX3 := Lib.hid ((hb.block bx (Array.getElem?_eq_some_iff.1 HX2.out).1).trans HX2.out)
  have HD3 := Lib.hid (HD2.out.below hb)
  have p0 : wc.cell? ⟨g2, 0, none⟩ = some (.int .i64 0) := by rw [Lib.cell_of_heap hg]; rfl
  have p1 : wc.cell? ⟨g2, 1, none⟩ = some (.int .i64 1) := by rw [Lib.cell_of_heap hg]; rfl
  have p2 : wc.cell? ⟨g2, 2, none⟩ = some (.bool false) := by rw [Lib.cell_of_heap hg]; rfl
  have p3 : wc.cell? ⟨g2, 3, none⟩ = some (.int .i64 7) := by rw [Lib.cell_of_heap hg]; rfl
  have p4 : wc.cell? ⟨g2, 4, none⟩ = some (.int .i64 0) := by rw [Lib.cell_of_heap hg]; rfl
  have p5 : wc.cell? ⟨g2, 5, none⟩ = some (.int .i64 0) := by rw [Lib.cell_of_heap hg]; rfl
  have q0 : wc.cell? ⟨h2, 0, none⟩ = some (.int .i64 1) := by rw [Lib.cell_of_heap hh]; rfl
  have q1 : wc.cell? ⟨h2, 1, none⟩ = some (.int .i64 1) := by rw [Lib.cell_of_heap hh]; rfl
  have q2 : wc.cell? ⟨h2, 2, none⟩ = some (.bool true) := by rw [Lib.cell_of_heap hh]; rfl
  have q3 : wc.cell? ⟨h2, 3, none⟩ = some (.int .i64 0) := by rw [Lib.cell_of_heap hh]; rfl
  have q4 : wc.cell? ⟨h2, 4, none⟩ = some (.int .i64 0) := by rw [Lib.cell_of_heap hh]; rfl
  have q5 : wc.cell? ⟨h2, 5, none⟩ = some (.int .i64 0) := by rw [Lib.cell_of_heap hh]; rfl
  clear hg hh hb b2 x0 x1 x2 x3 x4 x5 y0 y1 y2 y3 y4 y5
  have b3 : wc.cell? ⟨bx, 1, none⟩ = some (.slice (some ⟨gc, 0, none⟩) 3 3) := by rw [Lib.cell_of_heap HX3.out]; rfl
  have b4 : wc.cell? ⟨bx, 0, none⟩ = some (.slice (some ⟨gl, 0, none⟩) 1 1) := by rw [Lib.cell_of_heap HX3.out]; rfl
  have HAL := Lib.hid (allLine_any gl wc HD3.out.l)
  go_wp2_with fail
  rw [rounds_succ]
  clear p0 p1 p2 p3 p4 p5 q0 q1 q2 q3 q4 q5
  go_wp2_with fail
  refine HAL.out.mono ?_
  rintro e w4 ⟨rfl, hb4⟩
  have HB4 := Lib.hid (HB3.out.trans (hb4.mono HB3.out.size))
  have HX4 := Lib.hid ((hb4.block bx (Array.getElem?_eq_some_iff.1 HX3.out).1).trans HX3.out)
  have HD4 := Lib.hid (HD3.out.below hb4)
  have HAC := Lib.hid (allCell_any gc w4 HD4.out.c)
  have b5 : w4.cell? ⟨bx, 1, none⟩ = some (.slice (some ⟨gc, 0, none⟩) 3 3) := by rw [Lib.cell_of_heap HX4.out]; rfl
  clear hb4 b3 b4 HAL
  go_wp2_with fail
  refine HAC.out.mono ?_
  rintro e w5 ⟨rfl, hb5⟩
  have HB5 := Lib.hid (HB4.out.trans (hb5.mono HB4.out.size))
  have HX5 := Lib.hid ((hb5.block bx (Array.getElem?_eq_some_iff.1 HX4.out).1).trans HX4.out)
  have HRA := Lib.hid (isRaster_any gl gc w5)
  have d0 : w5.cell? ⟨bx, 0, none⟩ = some (.slice (some ⟨gl, 0, none⟩) 1 1) := by rw [Lib.cell_of_heap HX5.out]; rfl
  have d1 : w5.cell? ⟨bx, 1, none⟩ = some (.slice (some ⟨gc, 0, none⟩) 3 3) := by rw [Lib.cell_of_heap HX5.out]; rfl
  have d2 : w5.cell? ⟨bx, 2, none⟩ = some (.int .i64 0) := by rw [Lib.cell_of_heap HX5.out]; rfl
  have d3 : w5.cell? ⟨bx, 3, none⟩ = some (.string { data := #[] }) := by rw [Lib.cell_of_heap HX5.out]; rfl
  clear hb5 b5 HAC
  go_wp2_with fail
  refine HRA.out.mono ?_
  rintro e w6 ⟨rfl, hb6⟩
  have HB6 := Lib.hid (HB5.out.trans (hb6.mono HB5.out.size))
  clear hb6 d0 d1 d2 d3 HRA
  go_wp2_with fail
  go_ret
  exact ⟨rfl, HB6.out⟩
end Go.Proofs.YtinknenfhohamaaGreatDoor
