/- Package abstraction: the small functions and the table of kinds. Package abstraction: Valid at the one step. -/
import Derived.Test.YtinknenfhohamaaGreatDoorG44
import Derived.Laws.CopyOwn
import Derived.Deep.QuietTactic
import Derived.BigQuiet
namespace Go.Proofs.YtinknenfhohamaaGreatDoor
open Go.RowKit Go.Shelf
set_option maxRecDepth 100000

theorem must_any (w : World) : Calls Tryz.prog 34 #[.bool true] w fun e w' => e = .returned (.tuple #[]) ∧ w = w' := by
  go_enter Tryz.func34, Tryz.ntmps34
  go_wp2_with fail
  go_end0
  exact ⟨rfl, rfl⟩
theorem none_any (w : World) : Calls Tryz.prog 80 #[.int .i64 0] w fun e w' => e = .returned (.bool true) ∧ w = w' := by
  go_enter Tryz.func80, Tryz.ntmps80
  go_wp2_with fail
  go_ret
  exact ⟨rfl, rfl⟩
theorem index1_any (q : Nat) (w : World) (h : w.cell? ⟨q, 0, none⟩ = some (.int .i64 1)) : Calls Tryz.prog 128 #[.slice (some ⟨q, 0, none⟩) 1 1, .int .i64 1] w fun e w' => e = .returned (.int .i64 0) ∧ w = w' := by
  go_enter Tryz.func128, Tryz.ntmps128
  go_wp2_with fail
  refine wp_loop_rounds 2 ?_
  rw [rounds_succ]
  go_wp2_with fail
  go_ret
  exact ⟨rfl, rfl⟩
theorem contains1_any (q : Nat) (w : World) (h : w.cell? ⟨q, 0, none⟩ = some (.int .i64 1)) : Calls Tryz.prog 75 #[.slice (some ⟨q, 0, none⟩) 1 1, .int .i64 1] w fun e w' => e = .returned (.bool true) ∧ w = w' := by
  have HI := Lib.hid (index1_any q w h)
  clear h
  go_enter Tryz.func75, Tryz.ntmps75
  go_wp2_with fail
  refine HI.out.mono ?_
  rintro e w1 ⟨rfl, rfl⟩
  go_wp2_with fail
  go_ret
  exact ⟨rfl, rfl⟩
theorem each_any (g : Nat) (w : World) : Calls Tryz.prog 81 #[.func (.func g) #[] #[]] w fun e w' => ∃ f, e = .returned (.func (.func 143) #[] #[.pointer (some ⟨f, 0, none⟩)]) ∧ w'.heap[f]? = some (.cells #[.func (.func g) #[] #[]] 150 (0, 0)) ∧ w.heap.size ≤ f ∧ Below w.heap.size w w' := by
  go_enter Tryz.func81, Tryz.ntmps81
  go_wp2_with fail
  go_ret
  exact ⟨_, rfl, heap_last' _ _ rfl, Nat.le_refl _, (Below.refl _ _).alloc (Nat.le_refl _) _⟩
/-- The table of kinds. -/
def kindsCs (q1 f1 q2 f2 q3 f3 q4 f4 q5 q6 : Nat) : Array Value :=
  #[.slice none 0 0, .nilFunc, .nilFunc, .slice (some ⟨q1, 0, none⟩) 1 1, .func (.func 80) #[] #[], .func (.func 143) #[] #[.pointer (some ⟨f1, 0, none⟩)],
    .slice (some ⟨q2, 0, none⟩) 1 1, .func (.func 80) #[] #[], .func (.func 143) #[] #[.pointer (some ⟨f2, 0, none⟩)],
    .slice (some ⟨q3, 0, none⟩) 2 2, .func (.func 84) #[] #[], .func (.func 143) #[] #[.pointer (some ⟨f3, 0, none⟩)],
    .slice (some ⟨q4, 0, none⟩) 1 1, .func (.func 86) #[] #[], .func (.func 143) #[] #[.pointer (some ⟨f4, 0, none⟩)],
    .slice (some ⟨q5, 0, none⟩) 2 2, .func (.func 80) #[] #[], .func (.func 88) #[] #[],
    .slice (some ⟨q6, 0, none⟩) 8 8, .func (.func 80) #[] #[], .func (.func 89) #[] #[]]
/-- What the first kind's entry points to. -/
def KindAt (W : World) (q1 f1 : Nat) : Prop := W.heap[q1]? = some (.cells #[.int .i64 1] 3 (0, 0)) ∧ W.heap[f1]? = some (.cells #[.func (.func 82) #[] #[]] 150 (0, 0))
theorem KindAt.below {W W' : World} {q f : Nat} (h : KindAt W q f) (hb : Below W.heap.size W W') : KindAt W' q f := ⟨(hb.block q (Array.getElem?_eq_some_iff.1 h.1).1).trans h.1, (hb.block f (Array.getElem?_eq_some_iff.1 h.2).1).trans h.2⟩
theorem infoKinds : (Tryz.prog.info? 110).map (·.size) = some 21 := by kernel_rfl
set_option maxHeartbeats 1000000 in
theorem kinds_any (w : World) : Calls Tryz.prog 37 #[] w fun e w' => ∃ q1 f1 q2 f2 q3 f3 q4 f4 q5 q6, e = .returned (.agg (kindsCs q1 f1 q2 f2 q3 f3 q4 f4 q5 q6)) ∧ KindAt w' q1 f1 ∧ Below w.heap.size w w' := by
  have HEA := Lib.hid each_any
  obtain ⟨w1, hw1⟩ : ∃ w1, (w.alloc (.cells #[.slice none 0 0, .nilFunc, .nilFunc, .slice none 0 0, .nilFunc, .nilFunc, .slice none 0 0, .nilFunc, .nilFunc, .slice none 0 0, .nilFunc, .nilFunc, .slice none 0 0, .nilFunc, .nilFunc, .slice none 0 0, .nilFunc, .nilFunc, .slice none 0 0, .nilFunc, .nilFunc] 110)).alloc (.cells #[.int .i64 1] 3) = w1 := ⟨_, rfl⟩
  have hs1 : w1.heap.size = w.heap.size + 1 + 1 := by rw [← hw1, size_alloc, size_alloc]
  obtain ⟨a0, ha0⟩ : ∃ a0, w.heap.size = a0 := ⟨_, rfl⟩
  have hb1 : Below w.heap.size w w1 := by rw [← hw1]; exact ((Below.refl _ _).alloc (Nat.le_refl _) _).alloc (by rw [size_alloc]; omega) _
  have hz1 : w1.heap[a0]? = some (.cells #[.slice none 0 0, .nilFunc, .nilFunc, .slice none 0 0, .nilFunc, .nilFunc, .slice none 0 0, .nilFunc, .nilFunc, .slice none 0 0, .nilFunc, .nilFunc, .slice none 0 0, .nilFunc, .nilFunc, .slice none 0 0, .nilFunc, .nilFunc, .slice none 0 0, .nilFunc, .nilFunc] 110 (0, 0)) := by rw [← hw1, ← ha0]; exact allocs_heap [_, _] w 0 _ rfl
  have hq1 : w1.heap[a0 + 1]? = some (.cells #[.int .i64 1] 3 (0, 0)) := by rw [← hw1, ← ha0]; exact allocs_heap [_, _] w 1 _ rfl
  have HB1 := Lib.hid hb1
  have HZ1 := Lib.hid hz1
  have HQ1 := Lib.hid hq1
  clear hb1 hz1 hq1
  go_enter Tryz.func37, Tryz.ntmps37
  go_wp2_with fail
  refine (HEA.out _ _).mono ?_
  rintro e w2 ⟨f1, rfl, hf1, hl1, hb2⟩
  have HK2 := Lib.hid (show KindAt w2 (a0 + 1) f1 from ⟨(hb2.block _ (Array.getElem?_eq_some_iff.1 HQ1.out).1).trans HQ1.out, hf1⟩)
  have HB2 := Lib.hid (HB1.out.trans (hb2.mono HB1.out.size))
  have HZ2 := Lib.hid ((hb2.block a0 (Array.getElem?_eq_some_iff.1 HZ1.out).1).trans HZ1.out)
  clear hb2 hf1
  obtain ⟨w3, hw3⟩ : ∃ w3, w2.alloc (.cells #[.int .i64 1] 3) = w3 := ⟨_, rfl⟩
  have hb3 : Below w2.heap.size w2 w3 := by rw [← hw3]; exact (Below.refl _ _).alloc (Nat.le_refl _) _
  go_wp2_with fail
  refine (HEA.out _ _).mono ?_
  rintro e w4 ⟨f2, rfl, _, _, hb4⟩
  have hc4 := hb3.trans (hb4.mono hb3.size)
  have HK4 := Lib.hid (HK2.out.below hc4)
  have HB4 := Lib.hid (HB2.out.trans (hc4.mono HB2.out.size))
  have HZ4 := Lib.hid ((hc4.block a0 (Array.getElem?_eq_some_iff.1 HZ2.out).1).trans HZ2.out)
  clear hb3 hb4 hc4 hw3
  obtain ⟨w5, hw5⟩ : ∃ w5, w4.alloc (.cells #[.int .i64 3, .int .i64 5] 3) = w5 := ⟨_, rfl⟩
  have hb5 : Below w4.heap.size w4 w5 := by rw [← hw5]; exact (Below.refl _ _).alloc (Nat.le_refl _) _
  go_wp2_with fail
  refine (HEA.out _ _).mono ?_
  rintro e w6 ⟨f3, rfl, _, _, hb6⟩
  have hc6 := hb5.trans (hb6.mono hb5.size)
  have HK6 := Lib.hid (HK4.out.below hc6)
  have HB6 := Lib.hid (HB4.out.trans (hc6.mono HB4.out.size))
  have HZ6 := Lib.hid ((hc6.block a0 (Array.getElem?_eq_some_iff.1 HZ4.out).1).trans HZ4.out)
  clear hb5 hb6 hc6 hw5
  obtain ⟨w7, hw7⟩ : ∃ w7, w6.alloc (.cells #[.int .i64 2] 3) = w7 := ⟨_, rfl⟩
  have hb7 : Below w6.heap.size w6 w7 := by rw [← hw7]; exact (Below.refl _ _).alloc (Nat.le_refl _) _
  go_wp2_with fail
  refine (HEA.out _ _).mono ?_
  rintro e w8 ⟨f4, rfl, _, _, hb8⟩
  have hc8 := hb7.trans (hb8.mono hb7.size)
  have HK8 := Lib.hid (HK6.out.below hc8)
  have HB8 := Lib.hid (HB6.out.trans (hc8.mono HB6.out.size))
  have HZ8 := Lib.hid ((hc8.block a0 (Array.getElem?_eq_some_iff.1 HZ6.out).1).trans HZ6.out)
  clear hb7 hb8 hc8 hw7
  obtain ⟨w9, hw9⟩ : ∃ w9, (w8.alloc (.cells #[.int .i64 6, .int .i64 7] 3)).alloc (.cells #[.int .i64 1, .int .i64 2, .int .i64 3, .int .i64 4, .int .i64 5, .int .i64 6, .int .i64 7, .int .i64 8] 3) = w9 := ⟨_, rfl⟩
  have hb9 : Below w8.heap.size w8 w9 := by rw [← hw9]; exact ((Below.refl _ _).alloc (Nat.le_refl _) _).alloc (by rw [size_alloc]; omega) _
  have HK9 := Lib.hid (HK8.out.below hb9)
  have HB9 := Lib.hid (HB8.out.trans (hb9.mono HB8.out.size))
  have HZ9 := Lib.hid ((hb9.block a0 (Array.getElem?_eq_some_iff.1 HZ8.out).1).trans HZ8.out)
  clear hb9
  have HF := Lib.hid (show f1 ≠ a0 by omega)
  have HI := Lib.hid infoKinds
  have hold : (#[.slice none 0 0, .nilFunc, .nilFunc, .slice none 0 0, .nilFunc, .nilFunc, .slice none 0 0, .nilFunc, .nilFunc, .slice none 0 0, .nilFunc, .nilFunc, .slice none 0 0, .nilFunc, .nilFunc, .slice none 0 0, .nilFunc, .nilFunc, .slice none 0 0, .nilFunc, .nilFunc] : Array Value).size = (kindsCs (a0 + 1) f1 w2.heap.size f2 w4.heap.size f3 w6.heap.size f4 w8.heap.size (w8.heap.size + 1)).size := rfl
  have HO := Lib.hid hold
  have hall : ((kindsCs (a0 + 1) f1 w2.heap.size f2 w4.heap.size f3 w6.heap.size f4 w8.heap.size (w8.heap.size + 1)) : Array Value).all (·.oneCell') = true := by simp [kindsCs, Value.oneCell']
  have HA := Lib.hid hall
  clear hold hall
  go_wp2_with (refine wpList_store_row (by rfl) 110 (.tmp 0) (.tmp 17) (by rfl) a0 (kindsCs (a0 + 1) f1 w2.heap.size f2 w4.heap.size f3 w6.heap.size f4 w8.heap.size (w8.heap.size + 1)) (by rfl) (by rfl) _ _ HZ9.out HI.out HO.out HA.out ?_)
  exact bodyPost_ret (v := .agg (kindsCs (a0 + 1) f1 w2.heap.size f2 w4.heap.size f3 w6.heap.size f4 w8.heap.size (w8.heap.size + 1))) (results_cell_row (p := 0) (ty := 110) rfl _ _ a0 _ _ (0, 0) _ (by rfl) (setRow_heap _ _ _ _ _ _ HZ9.out) Tryz.underlying110 rfl HI.out) rfl ⟨_, _, _, _, _, _, _, _, _, _, rfl, ⟨(setRow_other _ _ _ _ (by omega)).trans HK9.out.1, (setRow_other _ _ _ _ HF.out).trans HK9.out.2⟩, below_setRow HB9.out (by omega) _⟩
end Go.Proofs.YtinknenfhohamaaGreatDoor

namespace Go.Proofs.YtinknenfhohamaaGreatDoor
open Go.RowKit Go.Shelf
set_option maxRecDepth 100000

theorem below_drewN {B : Nat} {w w1 : World} (h : Below B w w1) (n : Nat) : Below B w (w1.drewN n) := ⟨h.os, h.tape, h.output, h.size, h.block⟩
/-- The captured variables of Valid's closure. -/
structure KAt (W : World) (ka kb : Nat) : Prop where
  kb : W.heap[kb]? = some (.cells #[.int .i64 1] 3 (0, 0))
  ka : ∃ q1 f1 q2 f2 q3 f3 q4 f4 q5 q6, W.heap[ka]? = some (.cells (kindsCs q1 f1 q2 f2 q3 f3 q4 f4 q5 q6) 110 (0, 0)) ∧ KindAt W q1 f1
theorem KAt.below {W W' : World} {ka kb : Nat} (h : KAt W ka kb) (hb : Below W.heap.size W W') : KAt W' ka kb := by
  refine ⟨(hb.block kb (Array.getElem?_eq_some_iff.1 h.kb).1).trans h.kb, ?_⟩
  obtain ⟨q1, f1, q2, f2, q3, f3, q4, f4, q5, q6, h1, h2⟩ := h.ka
  exact ⟨q1, f1, q2, f2, q3, f3, q4, f4, q5, q6, (hb.block ka (Array.getElem?_eq_some_iff.1 h1).1).trans h1, h2.below hb⟩
theorem KAt.alloc {W : World} {ka kb : Nat} (h : KAt W ka kb) (o : Obj) : KAt (W.alloc o) ka kb := h.below ((Below.refl _ _).alloc (Nat.le_refl _) _)

set_option maxHeartbeats 1000000 in
theorem valid1_any (ka kb : Nat) (w : World) (h : KAt w ka kb) : Calls Tryz.prog 74 #[.agg #[.int .i64 1, .int .i64 0], .pointer (some ⟨ka, 0, none⟩), .pointer (some ⟨kb, 0, none⟩)] w fun e w' => e = .returned (.bool false) ∧ Below w.heap.size w w' := by
  obtain ⟨w1, hw1⟩ : ∃ w1, w.alloc (.cells #[.int .i64 1, .int .i64 0] 51) = w1 := ⟨_, rfl⟩
  obtain ⟨bx, hbx⟩ : ∃ bx, w.heap.size = bx := ⟨_, rfl⟩
  have hb1 : Below w.heap.size w w1 := by rw [← hw1]; exact (Below.refl _ _).alloc (Nat.le_refl _) _
  have hx1 : w1.heap[bx]? = some (.cells #[.int .i64 1, .int .i64 0] 51 (0, 0)) := by rw [← hw1]; exact heap_last' _ _ hbx
  obtain ⟨hkb, q1, f1, q2, f2, q3, f3, q4, f4, q5, q6, hka, hq, hf⟩ := h.below hb1
  have x0 : w1.cell? ⟨bx, 0, none⟩ = some (.int .i64 1) := by rw [Lib.cell_of_heap hx1]; rfl
  have x1 : w1.cell? ⟨bx, 1, none⟩ = some (.int .i64 0) := by rw [Lib.cell_of_heap hx1]; rfl
  have y0 : w1.cell? ⟨kb, 0, none⟩ = some (.int .i64 1) := by rw [Lib.cell_of_heap hkb]; rfl
  have y1 : w1.cell? ⟨ka, 3, none⟩ = some (.slice (some ⟨q1, 0, none⟩) 1 1) := by rw [Lib.cell_of_heap hka]; rfl
  have y2 : w1.cell? ⟨ka, 4, none⟩ = some (.func (.func 80) #[] #[]) := by rw [Lib.cell_of_heap hka]; rfl
  have HW := Lib.hid (show ∀ W, Calls Tryz.prog 72 #[.int .i64 1, .int .i64 1, .int .i64 6] W fun e w' => e = .returned (.bool true) ∧ w' = W from fun W => (within_a 1 1 6 W).mono fun e w' ⟨a, b⟩ => ⟨a, b.symm⟩)
  have HC := Lib.hid (show ∀ n, Calls Tryz.prog 75 #[.slice (some ⟨q1, 0, none⟩) 1 1, .int .i64 1] (w1.drewN n) fun e w' => e = .returned (.bool true) ∧ w' = w1.drewN n from fun n => (contains1_any q1 (w1.drewN n) (cell_of_one hq)).mono fun e w' ⟨a, b⟩ => ⟨a, b.symm⟩)
  have HN := Lib.hid (show ∀ W, Calls Tryz.prog 80 #[.int .i64 0] W fun e w' => e = .returned (.bool true) ∧ w' = W from fun W => (none_any W).mono fun e w' ⟨a, b⟩ => ⟨a, b.symm⟩)
  have HB1 := Lib.hid hb1
  clear hb1 hx1 hkb hka hq hf h
  go_enter Tryz.func74, Tryz.ntmps74
  go_wp2_with fail
  go_quiet ((first | (go_at_call 72; exact Calls.quiet_of_same (HW.out _)) | (go_at_call 75; exact Calls.quiet_of_same (HC.out _)) | (go_at_call 80; exact Calls.quiet_of_same (HN.out _))))
  go_wp2_with fail
  go_ret
  exact ⟨rfl, below_drewN HB1.out _⟩
set_option maxHeartbeats 1000000 in
theorem indexStep_any (ka kb g : Nat) (w : World) (h : KAt w ka kb) (hg : w.heap[g]? = some (.cells #[.int .i64 1, .int .i64 0] 51 (0, 0))) : Calls Tryz.prog 127 #[.slice (some ⟨g, 0, none⟩) 1 1, .func (.func 74) #[] #[.pointer (some ⟨ka, 0, none⟩), .pointer (some ⟨kb, 0, none⟩)]] w fun e w' => e = .returned (.int .i64 (-1)) ∧ Below w.heap.size w w' := by
  have HV := Lib.hid (valid1_any ka kb w h)
  have x0 : w.cell? ⟨g, 0, none⟩ = some (.int .i64 1) := by rw [Lib.cell_of_heap hg]; rfl
  have x1 : w.cell? ⟨g, 1, none⟩ = some (.int .i64 0) := by rw [Lib.cell_of_heap hg]; rfl
  clear h hg
  go_enter Tryz.func127, Tryz.ntmps127
  go_wp2_with fail
  refine wp_loop_rounds 2 ?_
  rw [rounds_succ]
  go_wp2_with fail
  refine HV.out.mono ?_
  rintro e w1 ⟨rfl, hb1⟩
  have HB1 := Lib.hid hb1
  clear hb1 x0 x1
  go_wp2_with fail
  rw [rounds_succ]
  go_wp2_with fail
  go_ret
  exact ⟨rfl, HB1.out⟩
set_option maxHeartbeats 1000000 in
theorem containsStep_any (ka kb g : Nat) (w : World) (h : KAt w ka kb) (hg : w.heap[g]? = some (.cells #[.int .i64 1, .int .i64 0] 51 (0, 0))) : Calls Tryz.prog 73 #[.slice (some ⟨g, 0, none⟩) 1 1, .func (.func 74) #[] #[.pointer (some ⟨ka, 0, none⟩), .pointer (some ⟨kb, 0, none⟩)]] w fun e w' => e = .returned (.bool false) ∧ Below w.heap.size w w' := by
  have HV := Lib.hid (indexStep_any ka kb g w h hg)
  clear h hg
  go_enter Tryz.func73, Tryz.ntmps73
  go_wp2_with fail
  refine HV.out.mono ?_
  rintro e w1 ⟨rfl, hb1⟩
  have HB1 := Lib.hid hb1
  clear hb1
  go_wp2_with fail
  go_ret
  exact ⟨rfl, HB1.out⟩
set_option maxHeartbeats 1000000 in
theorem validAp_any (g : Nat) (w : World) (hg : w.heap[g]? = some (.cells #[.int .i64 1, .int .i64 0] 51 (0, 0))) : Calls Tryz.prog 35 #[.int .i64 1, .slice (some ⟨g, 0, none⟩) 1 1] w fun e w' => e = .returned (.bool true) ∧ Below w.heap.size w w' := by
  obtain ⟨w1, hw1⟩ : ∃ w1, w.alloc (.cells #[.int .i64 1] 3) = w1 := ⟨_, rfl⟩
  obtain ⟨kb, hkb⟩ : ∃ kb, w.heap.size = kb := ⟨_, rfl⟩
  have hb1 : Below w.heap.size w w1 := by rw [← hw1]; exact (Below.refl _ _).alloc (Nat.le_refl _) _
  have hx1 : w1.heap[kb]? = some (.cells #[.int .i64 1] 3 (0, 0)) := by rw [← hw1]; exact heap_last' _ _ hkb
  have HB1 := Lib.hid hb1
  have HX1 := Lib.hid hx1
  have HG1 := Lib.hid ((hb1.block g (Array.getElem?_eq_some_iff.1 hg).1).trans hg)
  clear hb1 hx1 hg
  go_enter Tryz.func35, Tryz.ntmps35
  go_wp2_with fail
  refine (kinds_any w1).mono ?_
  rintro e w2 ⟨q1, f1, q2, f2, q3, f3, q4, f4, q5, q6, rfl, hK, hb2⟩
  obtain ⟨ka, hka⟩ : ∃ ka, w2.heap.size = ka := ⟨_, rfl⟩
  obtain ⟨w3, hw3⟩ : ∃ w3, w2.alloc (.cells #[.slice none 0 0, .nilFunc, .nilFunc, .slice none 0 0, .nilFunc, .nilFunc, .slice none 0 0, .nilFunc, .nilFunc, .slice none 0 0, .nilFunc, .nilFunc, .slice none 0 0, .nilFunc, .nilFunc, .slice none 0 0, .nilFunc, .nilFunc, .slice none 0 0, .nilFunc, .nilFunc] 110) = w3 := ⟨_, rfl⟩
  obtain ⟨w4, hw4⟩ : ∃ w4, w3.setRow ka (kindsCs q1 f1 q2 f2 q3 f3 q4 f4 q5 q6) = w4 := ⟨_, rfl⟩
  have hb3 : Below w2.heap.size w2 w3 := by rw [← hw3]; exact (Below.refl _ _).alloc (Nat.le_refl _) _
  have hz3 : w3.heap[ka]? = some (.cells #[.slice none 0 0, .nilFunc, .nilFunc, .slice none 0 0, .nilFunc, .nilFunc, .slice none 0 0, .nilFunc, .nilFunc, .slice none 0 0, .nilFunc, .nilFunc, .slice none 0 0, .nilFunc, .nilFunc, .slice none 0 0, .nilFunc, .nilFunc, .slice none 0 0, .nilFunc, .nilFunc] 110 (0, 0)) := by rw [← hw3]; exact heap_last' _ _ hka
  have hb4 : Below w2.heap.size w2 w4 := by rw [← hw4]; exact below_setRow hb3 (by omega) _
  have hk4 : w4.heap[ka]? = some (.cells (kindsCs q1 f1 q2 f2 q3 f3 q4 f4 q5 q6) 110 (0, 0)) := by rw [← hw4]; exact setRow_heap _ _ _ _ _ _ hz3
  have hbb := hb2.trans (hb4.mono hb2.size)
  have HB4 := Lib.hid (HB1.out.trans (hbb.mono HB1.out.size))
  have HG4 := Lib.hid ((hbb.block g (Array.getElem?_eq_some_iff.1 HG1.out).1).trans HG1.out)
  have HX4 := Lib.hid ((hbb.block kb (Array.getElem?_eq_some_iff.1 HX1.out).1).trans HX1.out)
  have HK4 := Lib.hid (show KAt w4 ka kb from ⟨HX4.out, ⟨q1, f1, q2, f2, q3, f3, q4, f4, q5, q6, hk4, hK.below hb4⟩⟩)
  have y0 : w4.cell? ⟨kb, 0, none⟩ = some (.int .i64 1) := cell_of_one HX4.out
  have HZ3 := Lib.hid hz3
  have HI := Lib.hid infoKinds
  have hold : (#[.slice none 0 0, .nilFunc, .nilFunc, .slice none 0 0, .nilFunc, .nilFunc, .slice none 0 0, .nilFunc, .nilFunc, .slice none 0 0, .nilFunc, .nilFunc, .slice none 0 0, .nilFunc, .nilFunc, .slice none 0 0, .nilFunc, .nilFunc, .slice none 0 0, .nilFunc, .nilFunc] : Array Value).size = (kindsCs q1 f1 q2 f2 q3 f3 q4 f4 q5 q6).size := rfl
  have HO := Lib.hid hold
  have hall : ((kindsCs q1 f1 q2 f2 q3 f3 q4 f4 q5 q6) : Array Value).all (·.oneCell') = true := by simp [kindsCs, Value.oneCell']
  have HA := Lib.hid hall
  have HW := Lib.hid (show ∀ W, Calls Tryz.prog 72 #[.int .i64 1, .int .i64 1, .int .i64 8] W fun e w' => e = .returned (.bool true) ∧ W = w' from within_a 1 1 8)
  clear hold hall hb3 hz3 hb4 hk4 hbb hb2 hK
  go_wp2_with (refine wpList_store_row (by rfl) 110 (.tmp 5) (.tmp 6) (by rfl) ka (kindsCs q1 f1 q2 f2 q3 f3 q4 f4 q5 q6) (by rfl) (by rfl) _ _ HZ3.out HI.out HO.out HA.out ?_; rw [hw4])
  refine (HW.out _).mono ?_
  rintro e w5 ⟨rfl, rfl⟩
  go_wp2_with fail
  refine (containsStep_any ka kb g w4 HK4.out HG4.out).mono ?_
  rintro e w5 ⟨rfl, hb5⟩
  have HB5 := Lib.hid (HB4.out.trans (hb5.mono HB4.out.size))
  clear hb5 y0
  go_wp2_with fail
  go_ret
  exact ⟨rfl, HB5.out⟩
end Go.Proofs.YtinknenfhohamaaGreatDoor
