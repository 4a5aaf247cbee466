/- The fixed document of awake: its lines and cells are valid. -/
import Derived.Test.YtinknenfhohamaaGreatDoorG37
import Derived.Test.YtinknenfhohamaaGreatDoorG28
import Derived.Deep.RegionWith
namespace Go.Proofs.YtinknenfhohamaaGreatDoor
open Go.RowKit Go.Shelf
set_option maxRecDepth 100000

theorem box_after {w w1 : World} {o : Obj} (hb : Below (w.alloc o).heap.size (w.alloc o) w1) : w1.heap[w.heap.size]? = some o := (hb.block _ (by rw [size_alloc]; omega)).trans (heap_last _ _)
theorem below_after {w w1 : World} {o : Obj} (hb : Below (w.alloc o).heap.size (w.alloc o) w1) : Below w.heap.size w w1 := ((Below.refl _ _).alloc (Nat.le_refl _) _).trans (hb.mono (by rw [size_alloc]; omega))
theorem within_c (n a b : Int) (w : World) : Calls Tryz.prog 59 #[.int .i64 n, .int .i64 a, .int .i64 b] w fun e w' => e = .returned (.bool (decide (a ≤ n ∧ n ≤ b))) ∧ w = w' := by
  go_enter Tryz.func59, Tryz.ntmps59
  by_cases h1 : a ≤ n
  · go_wp2_with fail
    go_ret
    exact ⟨by simp [h1], rfl⟩
  · go_wp2_with fail
    go_ret
    have h2 : decide (a ≤ n) = false := by rw [decide_eq_false_iff_not]; omega
    exact ⟨by rw [h2]; rfl, rfl⟩
theorem within_a (n a b : Int) (w : World) : Calls Tryz.prog 72 #[.int .i64 n, .int .i64 a, .int .i64 b] w fun e w' => e = .returned (.bool (decide (a ≤ n ∧ n ≤ b))) ∧ w = w' := by
  go_enter Tryz.func72, Tryz.ntmps72
  by_cases h1 : a ≤ n
  · go_wp2_with fail
    go_ret
    exact ⟨by simp [h1], rfl⟩
  · go_wp2_with fail
    go_ret
    have h2 : decide (a ≤ n) = false := by rw [decide_eq_false_iff_not]; omega
    exact ⟨by rw [h2]; rfl, rfl⟩
def otherB (x : Nat) : Bool := decide ((x : Int) < 32) || decide ((126 : Int) < (x : Int))
theorem other_any (x : Nat) (w : World) : Calls Tryz.prog 119 #[.int .i32 (x : Int)] w fun e w' => e = .returned (.bool (otherB x)) ∧ w = w' := by
  have HO := Lib.hid (show otherB x = (decide ((x : Int) < 32) || decide ((126 : Int) < (x : Int))) from rfl)
  obtain ⟨d1, h1⟩ : ∃ d1, decide ((x : Int) < 32) = d1 := ⟨_, rfl⟩
  obtain ⟨d2, h2⟩ : ∃ d2, decide ((126 : Int) < (x : Int)) = d2 := ⟨_, rfl⟩
  rw [h1, h2] at HO
  cases d1 <;> cases d2
  all_goals
    go_enter Tryz.func119, Tryz.ntmps119
    go_wp2_with fail
    go_ret
    exact ⟨by rw [HO.out]; rfl, rfl⟩
theorem idx_ab : Lib.idxFunc otherB true { data := #[65, 98] } = -1 := by decide +kernel
def lineV : Value := .agg #[.string { data := #[65, 98] }, .int .i64 2]
theorem isLine_any (w : World) : Calls Tryz.prog 55 #[.agg #[.string { data := #[65, 98] }, .int .i64 2]] w fun e w' => e = .returned (.bool true) ∧ Below w.heap.size w w' := by
  have hi := fun W => strings_IndexFunc 119 #[] (enters_of Tryz.func119 (by kernel_rfl) rfl) otherB { data := #[65, 98] } W (fun W' x hb => (other_any x W').mono fun e w' ⟨h1, h2⟩ => ⟨h1, 0, h2 ▸ rfl⟩)
  simp only [idx_ab] at hi
  have HI := Lib.hid hi
  have hw := fun W => within_c 2 0 7 W
  rw [show decide ((0 : Int) ≤ 2 ∧ (2 : Int) ≤ 7) = true from rfl] at hw
  have HW := Lib.hid hw
  clear hi hw
  go_enter Tryz.func55, Tryz.ntmps55
  go_wp2_with fail
  refine (HI.out _).mono ?_
  rintro e w1 ⟨rfl, hb1⟩
  have HB1 := Lib.hid (below_after hb1)
  have x1 : w1.cell? ⟨w.heap.size, 1, none⟩ = some (.int .i64 2) := by rw [Lib.cell_of_heap (box_after hb1)]; rfl
  clear hb1
  go_wp2_with fail
  refine (HW.out _).mono ?_
  rintro e w2 ⟨rfl, rfl⟩
  go_wp2_with fail
  go_ret
  exact ⟨rfl, HB1.out⟩
/-- The closure of all over lines. -/
theorem notLine_any (q : Nat) (w : World) (hq : w.heap[q]? = some (.cells #[.func (.func 55) #[] #[]] 132 (0, 0))) : Calls Tryz.prog 118 #[.agg #[.string { data := #[65, 98] }, .int .i64 2], .pointer (some ⟨q, 0, none⟩)] w fun e w' => e = .returned (.bool false) ∧ Below w.heap.size w w' := by
  have HQ := Lib.hid hq
  have hlt := (Array.getElem?_eq_some_iff.1 hq).1
  have zz : ∀ o', (w.alloc o').cell? ⟨q, 0, none⟩ = some (.func (.func 55) #[] #[]) := fun o' => by rw [Lib.cell_of_heap ((Below.heap_alloc w o' q hlt).trans HQ.out)]; rfl
  have HI := Lib.hid (fun W => isLine_any W)
  clear hq
  go_enter Tryz.func118, Tryz.ntmps118
  go_wp2_with fail
  refine (HI.out _).mono ?_
  rintro e w1 ⟨rfl, hb1⟩
  have HB1 := Lib.hid (below_after hb1)
  clear hb1 zz
  go_wp2_with fail
  go_ret
  exact ⟨rfl, HB1.out⟩
theorem indexLine_any (gl q : Nat) (w : World) (hl : w.heap[gl]? = some (.cells #[.string { data := #[65, 98] }, .int .i64 2] 39 (0, 0))) (hq : w.heap[q]? = some (.cells #[.func (.func 55) #[] #[]] 132 (0, 0))) :
    Calls Tryz.prog 155 #[.slice (some ⟨gl, 0, none⟩) 1 1, .func (.func 118) #[] #[.pointer (some ⟨q, 0, none⟩)]] w fun e w' => e = .returned (.int .i64 (-1)) ∧ Below w.heap.size w w' := by
  have HN := Lib.hid (notLine_any q w hq)
  have x0 : w.cell? ⟨gl, 0, none⟩ = some (.string { data := #[65, 98] }) := by rw [Lib.cell_of_heap hl]; rfl
  have x1 : w.cell? ⟨gl, 1, none⟩ = some (.int .i64 2) := by rw [Lib.cell_of_heap hl]; rfl
  clear hl hq
  go_enter Tryz.func155, Tryz.ntmps155
  go_wp2_with fail
  refine wp_loop_rounds 2 ?_
  rw [rounds_succ]
  go_wp2_with fail
  refine HN.out.mono ?_
  rintro e w1 ⟨rfl, hb1⟩
  have HB1 := Lib.hid hb1
  clear hb1 x0 x1
  go_wp2_with fail
  rw [rounds_succ]
  go_wp2_with fail
  go_ret
  exact ⟨rfl, HB1.out⟩
theorem containsLine_any (gl q : Nat) (w : World) (hl : w.heap[gl]? = some (.cells #[.string { data := #[65, 98] }, .int .i64 2] 39 (0, 0))) (hq : w.heap[q]? = some (.cells #[.func (.func 55) #[] #[]] 132 (0, 0))) :
    Calls Tryz.prog 117 #[.slice (some ⟨gl, 0, none⟩) 1 1, .func (.func 118) #[] #[.pointer (some ⟨q, 0, none⟩)]] w fun e w' => e = .returned (.bool false) ∧ Below w.heap.size w w' := by
  have HN := Lib.hid (indexLine_any gl q w hl hq)
  clear hl hq
  go_enter Tryz.func117, Tryz.ntmps117
  go_wp2_with fail
  refine HN.out.mono ?_
  rintro e w1 ⟨rfl, hb1⟩
  go_wp2_with fail
  go_ret
  exact ⟨rfl, hb1⟩
theorem allLine_any (gl : Nat) (w : World) (hl : w.heap[gl]? = some (.cells #[.string { data := #[65, 98] }, .int .i64 2] 39 (0, 0))) :
    Calls Tryz.prog 54 #[.slice (some ⟨gl, 0, none⟩) 1 1, .func (.func 55) #[] #[]] w fun e w' => e = .returned (.bool true) ∧ Below w.heap.size w w' := by
  have HN := Lib.hid (containsLine_any gl w.heap.size (w.alloc (.cells #[.func (.func 55) #[] #[]] 132)) ((Below.heap_alloc w _ gl (Array.getElem?_eq_some_iff.1 hl).1).trans hl) (heap_last _ _))
  clear hl
  go_enter Tryz.func54, Tryz.ntmps54
  go_wp2_with fail
  refine HN.out.mono ?_
  rintro e w1 ⟨rfl, hb1⟩
  have HB1 := Lib.hid (below_after hb1)
  clear hb1
  go_wp2_with fail
  go_ret
  exact ⟨rfl, HB1.out⟩
end Go.Proofs.YtinknenfhohamaaGreatDoor
