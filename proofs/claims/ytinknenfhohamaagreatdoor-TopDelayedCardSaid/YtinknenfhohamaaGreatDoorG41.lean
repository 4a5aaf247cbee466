/- The fixed document of awake: its cells are valid. -/
import Derived.Test.YtinknenfhohamaaGreatDoorG40
namespace Go.Proofs.YtinknenfhohamaaGreatDoor
open Go.RowKit Go.Shelf
set_option maxRecDepth 100000

theorem within_yes (n a b : Int) (w : World) (h : a ≤ n ∧ n ≤ b) : Calls Tryz.prog 59 #[.int .i64 n, .int .i64 a, .int .i64 b] w fun e w' => e = .returned (.bool true) ∧ w = w' :=
  (within_c n a b w).mono fun e w' ⟨h1, h2⟩ => ⟨by rw [h1, decide_eq_true h], h2⟩
theorem isCell0 (w : World) : Calls Tryz.prog 57 #[.agg #[.int .i64 0, .int .i64 0, .bool false, .int .i64 5, .int .i64 0, .int .i64 0]] w fun e w' => e = .returned (.bool true) ∧ Below w.heap.size w w' := by
  have H0 := Lib.hid (fun W => within_yes 0 (0) 31 W (by omega))
  have H1 := Lib.hid (fun W => within_yes 0 (0) 31 W (by omega))
  have H2 := Lib.hid (fun W => within_yes 5 (-1000000) 1000000 W (by omega))
  go_enter Tryz.func57, Tryz.ntmps57
  go_wp2_with fail
  refine (H0.out _).mono ?_
  rintro e w1 ⟨rfl, rfl⟩
  go_wp2_with fail
  refine (H1.out _).mono ?_
  rintro e w1 ⟨rfl, rfl⟩
  go_wp2_with fail
  refine (H2.out _).mono ?_
  rintro e w1 ⟨rfl, rfl⟩
  go_wp2_with fail
  go_ret
  exact ⟨rfl, (Below.refl _ _).alloc (Nat.le_refl _) _⟩
theorem isCell1 (w : World) : Calls Tryz.prog 57 #[.agg #[.int .i64 0, .int .i64 1, .bool false, .int .i64 7, .int .i64 0, .int .i64 0]] w fun e w' => e = .returned (.bool true) ∧ Below w.heap.size w w' := by
  have H0 := Lib.hid (fun W => within_yes 0 (0) 31 W (by omega))
  have H1 := Lib.hid (fun W => within_yes 1 (0) 31 W (by omega))
  have H2 := Lib.hid (fun W => within_yes 7 (-1000000) 1000000 W (by omega))
  go_enter Tryz.func57, Tryz.ntmps57
  go_wp2_with fail
  refine (H0.out _).mono ?_
  rintro e w1 ⟨rfl, rfl⟩
  go_wp2_with fail
  refine (H1.out _).mono ?_
  rintro e w1 ⟨rfl, rfl⟩
  go_wp2_with fail
  refine (H2.out _).mono ?_
  rintro e w1 ⟨rfl, rfl⟩
  go_wp2_with fail
  go_ret
  exact ⟨rfl, (Below.refl _ _).alloc (Nat.le_refl _) _⟩
theorem isCell2 (w : World) : Calls Tryz.prog 57 #[.agg #[.int .i64 1, .int .i64 1, .bool true, .int .i64 0, .int .i64 0, .int .i64 0]] w fun e w' => e = .returned (.bool true) ∧ Below w.heap.size w w' := by
  have H0 := Lib.hid (fun W => within_yes 1 (0) 31 W (by omega))
  have H1 := Lib.hid (fun W => within_yes 1 (0) 31 W (by omega))
  have H2 := Lib.hid (fun W => within_yes 0 (0) 1 W (by omega))
  have H3 := Lib.hid (fun W => within_yes 0 (0) 1 W (by omega))
  go_enter Tryz.func57, Tryz.ntmps57
  go_wp2_with fail
  refine (H0.out _).mono ?_
  rintro e w1 ⟨rfl, rfl⟩
  go_wp2_with fail
  refine (H1.out _).mono ?_
  rintro e w1 ⟨rfl, rfl⟩
  go_wp2_with fail
  refine (H2.out _).mono ?_
  rintro e w1 ⟨rfl, rfl⟩
  go_wp2_with fail
  refine (H3.out _).mono ?_
  rintro e w1 ⟨rfl, rfl⟩
  go_wp2_with fail
  go_ret
  exact ⟨rfl, (Below.refl _ _).alloc (Nat.le_refl _) _⟩
theorem notCell_any (r c v t l : Int) (s : Bool) (p : Nat) (w : World) (HI : Hid (∀ W, Calls Tryz.prog 57 #[.agg #[.int .i64 r, .int .i64 c, .bool s, .int .i64 v, .int .i64 t, .int .i64 l]] W fun e w' => e = .returned (.bool true) ∧ Below W.heap.size W w')) (hq : w.heap[p]? = some (.cells #[.func (.func 57) #[] #[]] 81 (0, 0))) :
    Calls Tryz.prog 122 #[.agg #[.int .i64 r, .int .i64 c, .bool s, .int .i64 v, .int .i64 t, .int .i64 l], .pointer (some ⟨p, 0, none⟩)] w fun e w' => e = .returned (.bool false) ∧ Below w.heap.size w w' := by
  have HQ := Lib.hid hq
  have hlt := (Array.getElem?_eq_some_iff.1 hq).1
  have zz : ∀ o', (w.alloc o').cell? ⟨p, 0, none⟩ = some (.func (.func 57) #[] #[]) := fun o' => by rw [Lib.cell_of_heap ((Below.heap_alloc w o' p hlt).trans HQ.out)]; rfl
  clear hq
  go_enter Tryz.func122, Tryz.ntmps122
  go_wp2_with fail
  refine (HI.out _).mono ?_
  rintro e w1 ⟨rfl, hb1⟩
  have HB1 := Lib.hid (below_after hb1)
  clear hb1 zz
  go_wp2_with fail
  go_ret
  exact ⟨rfl, HB1.out⟩
/-- The three cells in a block. -/
def cellsA : Array Value := #[.int .i64 0, .int .i64 0, .bool false, .int .i64 5, .int .i64 0, .int .i64 0, .int .i64 0, .int .i64 1, .bool false, .int .i64 7, .int .i64 0, .int .i64 0, .int .i64 1, .int .i64 1, .bool true, .int .i64 0, .int .i64 0, .int .i64 0]
def CelAt (W : World) (gc : Nat) : Prop := W.heap[gc]? = some (.cells cellsA 42 (0, 0))
theorem CelAt.below {W W' : World} {gc : Nat} (h : CelAt W gc) (hb : Below W.heap.size W W') : CelAt W' gc := (hb.block gc (Array.getElem?_eq_some_iff.1 h).1).trans h
theorem CelAt.alloc {W : World} {gc : Nat} (h : CelAt W gc) (o : Obj) : CelAt (W.alloc o) gc := h.below ((Below.refl _ _).alloc (Nat.le_refl _) _)
theorem CelAt.cell {W : World} {gc : Nat} (h : CelAt W gc) (i : Nat) : W.cell? ⟨gc, i, none⟩ = cellsA[i]? := Lib.cell_of_heap h i
theorem FunAt.below {W W' : World} {p : Nat} {v : Value} {t : TypeId} (h : W.heap[p]? = some (.cells #[v] t (0, 0))) (hb : Below W.heap.size W W') : W'.heap[p]? = some (.cells #[v] t (0, 0)) := (hb.block p (Array.getElem?_eq_some_iff.1 h).1).trans h
set_option maxHeartbeats 400000 in
theorem indexCell_any (gc p : Nat) (w : World) (hc : CelAt w gc) (hq : w.heap[p]? = some (.cells #[.func (.func 57) #[] #[]] 81 (0, 0))) :
    Calls Tryz.prog 27 #[.slice (some ⟨gc, 0, none⟩) 3 3, .func (.func 122) #[] #[.pointer (some ⟨p, 0, none⟩)]] w fun e w' => e = .returned (.int .i64 (-1)) ∧ Below w.heap.size w w' := by
  have Hw := Lib.hid hc
  have HQ := Lib.hid hq
  have x0 : w.cell? ⟨gc, 0, none⟩ = some (.int .i64 0) := Hw.out.cell 0
  have x1 : w.cell? ⟨gc, 1, none⟩ = some (.int .i64 0) := Hw.out.cell 1
  have x2 : w.cell? ⟨gc, 2, none⟩ = some (.bool false) := Hw.out.cell 2
  have x3 : w.cell? ⟨gc, 3, none⟩ = some (.int .i64 5) := Hw.out.cell 3
  have x4 : w.cell? ⟨gc, 4, none⟩ = some (.int .i64 0) := Hw.out.cell 4
  have x5 : w.cell? ⟨gc, 5, none⟩ = some (.int .i64 0) := Hw.out.cell 5
  clear hc hq
  go_enter Tryz.func27, Tryz.ntmps27
  go_wp2_with fail
  refine wp_loop_rounds 4 ?_
  rw [rounds_succ]
  go_wp2_with fail
  refine (notCell_any _ _ _ _ _ _ p w (Lib.hid isCell0) HQ.out).mono ?_
  rintro e w1 ⟨rfl, hb1⟩
  have HB1 := Lib.hid hb1
  have Hw1 := Lib.hid (Hw.out.below hb1)
  have y0 : w1.cell? ⟨gc, 6, none⟩ = some (.int .i64 0) := Hw1.out.cell 6
  have y1 : w1.cell? ⟨gc, 7, none⟩ = some (.int .i64 1) := Hw1.out.cell 7
  have y2 : w1.cell? ⟨gc, 8, none⟩ = some (.bool false) := Hw1.out.cell 8
  have y3 : w1.cell? ⟨gc, 9, none⟩ = some (.int .i64 7) := Hw1.out.cell 9
  have y4 : w1.cell? ⟨gc, 10, none⟩ = some (.int .i64 0) := Hw1.out.cell 10
  have y5 : w1.cell? ⟨gc, 11, none⟩ = some (.int .i64 0) := Hw1.out.cell 11
  clear hb1 x0 x1 x2 x3 x4 x5
  go_wp2_with fail
  rw [rounds_succ]
  go_wp2_with fail
  refine (notCell_any _ _ _ _ _ _ p w1 (Lib.hid isCell1) (FunAt.below HQ.out HB1.out)).mono ?_
  rintro e w2 ⟨rfl, hb2⟩
  have HB2 := Lib.hid (HB1.out.trans (hb2.mono HB1.out.size))
  have Hw2 := Lib.hid (Hw1.out.below hb2)
  have z0 : w2.cell? ⟨gc, 12, none⟩ = some (.int .i64 1) := Hw2.out.cell 12
  have z1 : w2.cell? ⟨gc, 13, none⟩ = some (.int .i64 1) := Hw2.out.cell 13
  have z2 : w2.cell? ⟨gc, 14, none⟩ = some (.bool true) := Hw2.out.cell 14
  have z3 : w2.cell? ⟨gc, 15, none⟩ = some (.int .i64 0) := Hw2.out.cell 15
  have z4 : w2.cell? ⟨gc, 16, none⟩ = some (.int .i64 0) := Hw2.out.cell 16
  have z5 : w2.cell? ⟨gc, 17, none⟩ = some (.int .i64 0) := Hw2.out.cell 17
  clear hb2 y0 y1 y2 y3 y4 y5
  go_wp2_with fail
  rw [rounds_succ]
  go_wp2_with fail
  refine (notCell_any _ _ _ _ _ _ p w2 (Lib.hid isCell2) (FunAt.below HQ.out HB2.out)).mono ?_
  rintro e w3 ⟨rfl, hb3⟩
  have HB3 := Lib.hid (HB2.out.trans (hb3.mono HB2.out.size))
  clear hb3 z0 z1 z2 z3 z4 z5
  go_wp2_with fail
  rw [rounds_succ]
  go_wp2_with fail
  go_ret
  exact ⟨rfl, HB3.out⟩
theorem containsCell_any (gc p : Nat) (w : World) (hc : CelAt w gc) (hq : w.heap[p]? = some (.cells #[.func (.func 57) #[] #[]] 81 (0, 0))) :
    Calls Tryz.prog 121 #[.slice (some ⟨gc, 0, none⟩) 3 3, .func (.func 122) #[] #[.pointer (some ⟨p, 0, none⟩)]] w fun e w' => e = .returned (.bool false) ∧ Below w.heap.size w w' := by
  have HN := Lib.hid (indexCell_any gc p w hc hq)
  clear hc hq
  go_enter Tryz.func121, Tryz.ntmps121
  go_wp2_with fail
  refine HN.out.mono ?_
  rintro e w1 ⟨rfl, hb1⟩
  go_wp2_with fail
  go_ret
  exact ⟨rfl, hb1⟩
theorem allCell_any (gc : Nat) (w : World) (hc : CelAt w gc) :
    Calls Tryz.prog 56 #[.slice (some ⟨gc, 0, none⟩) 3 3, .func (.func 57) #[] #[]] w fun e w' => e = .returned (.bool true) ∧ Below w.heap.size w w' := by
  have HN := Lib.hid (containsCell_any gc w.heap.size (w.alloc (.cells #[.func (.func 57) #[] #[]] 81)) (hc.alloc _) (heap_last _ _))
  clear hc
  go_enter Tryz.func56, Tryz.ntmps56
  go_wp2_with fail
  refine HN.out.mono ?_
  rintro e w1 ⟨rfl, hb1⟩
  have HB1 := Lib.hid (below_after hb1)
  clear hb1
  go_wp2_with fail
  go_ret
  exact ⟨rfl, HB1.out⟩
/-- Trim of the empty text. -/
theorem trim_empty (w : World) : Calls Tryz.prog 78 #[.string { data := #[] }, .string { data := #[48, 49] }] w fun e w' => e = .returned (.string { data := #[] }) ∧ w = w' := by
  go_enter Tryz.func78, Tryz.ntmps78
  go_wp2_with fail
  go_ret
  exact ⟨rfl, rfl⟩
theorem isRaster_any (gl gc : Nat) (w : World) : Calls Tryz.prog 58 #[.agg #[.slice (some ⟨gl, 0, none⟩) 1 1, .slice (some ⟨gc, 0, none⟩) 3 3, .int .i64 0, .string { data := #[] }]] w fun e w' => e = .returned (.bool true) ∧ Below w.heap.size w w' := by
  have H0 := Lib.hid (fun W => within_yes 0 0 32 W (by omega))
  have HT := Lib.hid (fun W => trim_empty W)
  go_enter Tryz.func58, Tryz.ntmps58
  go_wp2_with fail
  refine (H0.out _).mono ?_
  rintro e w1 ⟨rfl, rfl⟩
  go_wp2_with fail
  refine (HT.out _).mono ?_
  rintro e w1 ⟨rfl, rfl⟩
  go_wp2_with fail
  go_quiet (fail)
  go_wp2_with fail
  go_ret
  exact ⟨rfl, Below_drewN ((Below.refl _ _).alloc (Nat.le_refl _) _) _⟩
end Go.Proofs.YtinknenfhohamaaGreatDoor
