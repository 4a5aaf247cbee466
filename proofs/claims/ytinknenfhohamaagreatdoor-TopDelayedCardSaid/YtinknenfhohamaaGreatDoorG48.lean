/- Package abstraction: the reader at the text of the fixed property. -/
import Derived.Test.YtinknenfhohamaaGreatDoorG47
import Derived.Test.YtinknenfhohamaaGreatDoorG38
import Derived.Test.YtinknenfhohamaaGreatDoorG37
import Derived.Test.YtinknenfhohamaaGreatDoorG40
namespace Go.Proofs.YtinknenfhohamaaGreatDoor
open Go.RowKit Go.Shelf
set_option maxRecDepth 100000

/-- The text. -/
def txt : ByteArray := ⟨#[2, 4, 65, 98]⟩
theorem int_txt : intOut [2, 4, 65, 98] 0 = (1, 1, 0) := by decide +kernel
theorem str_txt : strOut [2, 4, 65, 98] 1 = ([65, 98], 4, 0) := by decide +kernel
/-- Nothing has turned but block b. -/
structure Only (b : Nat) (w w' : World) : Prop where
  os : w'.os = w.os
  tape : w'.tape = w.tape
  output : w'.output = w.output
  size : w'.heap.size = w.heap.size
  block : ∀ k, k ≠ b → w'.heap[k]? = w.heap[k]?
theorem Only.below {b B : Nat} {w w' : World} (h : Only b w w') (hB : B ≤ b) : Below B w w' := ⟨h.os, h.tape, h.output, by rw [h.size]; exact Nat.le_refl _, fun k hk => h.block k (by omega)⟩
theorem only_set {b o n : Nat} {v : Value} (w : World) : Only b w ((w.drewN n).setCell ⟨b, o, none⟩ v) :=
  ⟨rfl, rfl, rfl, by simp [World.setCell], fun k hk => Below.heap_setCell _ _ _ _ (by simpa using fun e => hk e)⟩
theorem set_at {b o n : Nat} {v : Value} {w : World} {cs : Array Value} {T : TypeId} (h : w.heap[b]? = some (.cells cs T (0, 0))) : ((w.drewN n).setCell ⟨b, o, none⟩ v).heap[b]? = some (.cells (cs.set! o v) T (0, 0)) := by
  simp [World.setCell, Array.getElem?_modify, h]

set_option maxHeartbeats 1000000 in
theorem number_any (rb : Nat) (w : World) (h : w.heap[rb]? = some (.cells #[.string txt, .int .i64 0] 144 (0, 0))) :
    Calls Tryz.prog 76 #[.pointer (some ⟨rb, 0, none⟩), .int .i64 0, .int .i64 64] w fun e w' => e = .returned (.int .i64 1) ∧ w'.heap[rb]? = some (.cells #[.string txt, .int .i64 1] 144 (0, 0)) ∧ Only rb w w' := by
  have hi := fun W => int_any txt 0 W (by decide)
  rw [show txt.data.toList = [2, 4, 65, 98] from rfl, int_txt, intV] at hi
  have HI := Lib.hid hi
  have HW := Lib.hid (show ∀ W, Calls Tryz.prog 72 #[.int .i64 1, .int .i64 0, .int .i64 64] W fun e w' => e = .returned (.bool true) ∧ W = w' from within_a 1 0 64)
  have x0 : w.cell? ⟨rb, 0, none⟩ = some (.string txt) := by rw [Lib.cell_of_heap h]; rfl
  have x1 : w.cell? ⟨rb, 1, none⟩ = some (.int .i64 0) := by rw [Lib.cell_of_heap h]; rfl
  have f1 : w.frozen? ⟨rb, 1, none⟩ = false := Lib.frozen_of_heap h 1
  have H := Lib.hid h
  clear hi h
  go_enter Tryz.func76, Tryz.ntmps76
  go_wp2_with fail
  go_quiet ((go_at_call 129; exact Calls.quiet_of_same ((HI.out _).mono fun e w' ⟨a, b⟩ => ⟨a, b.symm⟩)))
  go_wp2_with fail
  refine (HW.out _).mono ?_
  rintro e w5 ⟨rfl, rfl⟩
  go_wp2_with fail
  refine (must_any _).mono ?_
  rintro e w5 ⟨rfl, rfl⟩
  go_wp2_with fail
  go_ret
  exact ⟨rfl, set_at H.out, only_set w⟩

set_option maxHeartbeats 1000000 in
theorem rtext_any (rb : Nat) (w : World) (h : w.heap[rb]? = some (.cells #[.string txt, .int .i64 1] 144 (0, 0))) :
    Calls Tryz.prog 77 #[.pointer (some ⟨rb, 0, none⟩)] w fun e w' => e = .returned (.string { data := #[65, 98] }) ∧ w'.heap[rb]? = some (.cells #[.string txt, .int .i64 4] 144 (0, 0)) ∧ Only rb w w' := by
  have hi := fun W => str_any txt 1 W (by decide)
  rw [show txt.data.toList = [2, 4, 65, 98] from rfl, str_txt, strV] at hi
  have HI := Lib.hid hi
  have x0 : w.cell? ⟨rb, 0, none⟩ = some (.string txt) := by rw [Lib.cell_of_heap h]; rfl
  have x1 : w.cell? ⟨rb, 1, none⟩ = some (.int .i64 1) := by rw [Lib.cell_of_heap h]; rfl
  have f1 : w.frozen? ⟨rb, 1, none⟩ = false := Lib.frozen_of_heap h 1
  have H := Lib.hid h
  clear hi h
  go_enter Tryz.func77, Tryz.ntmps77
  go_wp2_with fail
  go_quiet ((go_at_call 130; exact Calls.quiet_of_same ((HI.out _).mono fun e w' ⟨a, b⟩ => ⟨a, b.symm⟩)))
  go_wp2_with fail
  refine (must_any _).mono ?_
  rintro e w5 ⟨rfl, rfl⟩
  go_wp2_with fail
  go_ret
  exact ⟨rfl, set_at H.out, only_set w⟩

/-- What a line's text must not hold. -/
def otherA (x : Nat) : Bool := !decide ((32 : Int) ≤ wrap64 (x : Int) ∧ wrap64 (x : Int) ≤ 126)
theorem otherA_any (x : Nat) (w : World) : Calls Tryz.prog 139 #[.int .i32 (x : Int)] w fun e w' => e = .returned (.bool (otherA x)) ∧ w = w' := by
  obtain ⟨d, hd⟩ : ∃ d, decide ((32 : Int) ≤ wrap64 (x : Int) ∧ wrap64 (x : Int) ≤ 126) = d := ⟨_, rfl⟩
  have ho : otherA x = !d := by rw [otherA, hd]
  rw [ho]
  have hw := within_a (wrap64 (x : Int)) 32 126 w
  rw [hd] at hw
  have HW := Lib.hid hw
  clear hw hd ho
  cases d
  all_goals
    go_enter Tryz.func139, Tryz.ntmps139
    go_wp2_with fail
    refine HW.out.mono ?_
    rintro e w1 ⟨rfl, rfl⟩
    go_wp2_with fail
    go_ret
    exact ⟨rfl, rfl⟩
theorem idxA_ab : Lib.idxFunc otherA true { data := #[65, 98] } = -1 := by decide +kernel
theorem abLine_any (w : World) : Calls Tryz.prog 138 #[.string { data := #[65, 98] }, .func (.func 139) #[] #[]] w fun e w' => e = .returned (.bool false) ∧ Below w.heap.size w w' := by
  have h := strings_ContainsFunc 139 #[] (enters_of Tryz.func139 (by kernel_rfl) rfl) otherA { data := #[65, 98] } w (fun W' x hb => (otherA_any x W').mono fun e w' ⟨h1, h2⟩ => ⟨h1, 0, h2 ▸ rfl⟩)
  rw [idxA_ab] at h
  exact h

/-- All that lay, but block b, lies as it lay. -/
structure But (b : Nat) (w w' : World) : Prop where
  os : w'.os = w.os
  tape : w'.tape = w.tape
  output : w'.output = w.output
  size : w.heap.size ≤ w'.heap.size
  block : ∀ k, k < w.heap.size → k ≠ b → w'.heap[k]? = w.heap[k]?
theorem But.trans {b : Nat} {x y z : World} (h : But b x y) (k : But b y z) : But b x z := ⟨k.os.trans h.os, k.tape.trans h.tape, k.output.trans h.output, Nat.le_trans h.size k.size, fun i hi hb => (k.block i (Nat.lt_of_lt_of_le hi h.size) hb).trans (h.block i hi hb)⟩
theorem But.of_below {b : Nat} {w w' : World} (h : Below w.heap.size w w') : But b w w' := ⟨h.os, h.tape, h.output, h.size, fun k hk _ => h.block k hk⟩
theorem Only.but {b : Nat} {w w' : World} (h : Only b w w') : But b w w' := ⟨h.os, h.tape, h.output, by rw [h.size]; exact Nat.le_refl _, fun k _ hb => h.block k hb⟩
theorem But.setCell {b c o : Nat} {v : Value} {w w' : World} (h : But b w w') (hc : w.heap.size ≤ c) : But b w (w'.setCell ⟨c, o, none⟩ v) :=
  ⟨h.os, h.tape, h.output, by simpa [World.setCell] using h.size, fun k hk hb => (Below.heap_setCell _ _ _ _ (by simp; omega)).trans (h.block k hk hb)⟩
theorem But.setRow {b g : Nat} {cs : Array Value} {w w' : World} (h : But b w w') (hg : w.heap.size ≤ g) : But b w (w'.setRow g cs) :=
  ⟨h.os, h.tape, h.output, by rw [size_setRow]; exact h.size, fun k hk hb => (setRow_other _ _ _ _ (by omega)).trans (h.block k hk hb)⟩
theorem But.below {b B : Nat} {w w' : World} (h : But b w w') (hB : B ≤ b) (hs : B ≤ w.heap.size) : Below B w w' := ⟨h.os, h.tape, h.output, h.size, fun k hk => h.block k (by omega) (by omega)⟩

set_option maxHeartbeats 1000000 in
theorem line_any (rb : Nat) (w : World) (h : w.heap[rb]? = some (.cells #[.string txt, .int .i64 1] 144 (0, 0))) :
    Calls Tryz.prog 79 #[.pointer (some ⟨rb, 0, none⟩), .int .i64 1, .slice none 0 0] w fun e w' => e = .returned (.agg #[.string { data := #[65, 98] }, .slice none 0 0]) ∧ w'.heap[rb]? = some (.cells #[.string txt, .int .i64 4] 144 (0, 0)) ∧ But rb w w' := by
  obtain ⟨n, hn⟩ : ∃ n, w.heap.size = n := ⟨_, rfl⟩
  obtain ⟨w1, hw1⟩ : ∃ w1, (w.alloc (.cells #[.string { data := #[] }, .slice none 0 0] 147)).alloc (.cells #[.string { data := #[] }, .slice none 0 0] 147) = w1 := ⟨_, rfl⟩
  have hb1 : Below w.heap.size w w1 := by rw [← hw1]; exact ((Below.refl _ _).alloc (Nat.le_refl _) _).alloc (by rw [size_alloc]; omega) _
  have hs1 : w1.heap.size = n + 1 + 1 := by rw [← hw1, size_alloc, size_alloc, hn]
  have hr1 : w1.heap[n]? = some (.cells #[.string { data := #[] }, .slice none 0 0] 147 (0, 0)) := by rw [← hw1, ← hn]; exact allocs_heap [_, _] w 0 _ rfl
  have ht1 : w1.heap[n + 1]? = some (.cells #[.string { data := #[] }, .slice none 0 0] 147 (0, 0)) := by rw [← hw1, ← hn]; exact allocs_heap [_, _] w 1 _ rfl
  have hlt : rb < w.heap.size := (Array.getElem?_eq_some_iff.1 h).1
  have HB1 := Lib.hid (But.of_below (b := rb) hb1)
  have HS1 := Lib.hid hs1
  have HLT := Lib.hid hlt
  have HN := Lib.hid hn
  have HR1 := Lib.hid hr1
  have HT1 := Lib.hid ht1
  have HT := Lib.hid (rtext_any rb w1 ((hb1.block rb hlt).trans h))
  have HL := Lib.hid abLine_any
  clear hb1 hs1 hr1 ht1 hlt h
  go_enter Tryz.func79, Tryz.ntmps79
  go_wp2_with fail
  refine HT.out.mono ?_
  rintro e w2 ⟨rfl, hrb2, ho2⟩
  have l1 := HLT.out
  have l2 := HN.out
  have hr2 := (ho2.block n (by omega)).trans HR1.out
  have ht2 := (ho2.block (n + 1) (by omega)).trans HT1.out
  have c0 : w2.cell? ⟨n + 1, 0, none⟩ = some (.string { data := #[] }) := by rw [Lib.cell_of_heap ht2]; rfl
  have f0 : w2.frozen? ⟨n + 1, 0, none⟩ = false := Lib.frozen_of_heap ht2 0
  obtain ⟨w3, hw3⟩ : ∃ w3, w2.setCell ⟨n + 1, 0, none⟩ (.string { data := #[65, 98] }) = w3 := ⟨_, rfl⟩
  have ht3 : w3.heap[n + 1]? = some (.cells #[.string { data := #[65, 98] }, .slice none 0 0] 147 (0, 0)) := by rw [← hw3]; exact set_at (n := 0) ht2
  have hr3 : w3.heap[n]? = some (.cells #[.string { data := #[] }, .slice none 0 0] 147 (0, 0)) := by rw [← hw3]; exact (Below.heap_setCell _ _ _ _ (by simp)).trans hr2
  have hrb3 : w3.heap[rb]? = some (.cells #[.string txt, .int .i64 4] 144 (0, 0)) := by rw [← hw3]; exact (Below.heap_setCell _ _ _ _ (by simp; omega)).trans hrb2
  have hb3 : But rb w w3 := by rw [← hw3]; exact (HB1.out.trans ho2.but).setCell (by omega)
  have HT3 := Lib.hid ht3
  have HR3 := Lib.hid hr3
  have HRB3 := Lib.hid hrb3
  have HB3 := Lib.hid hb3
  have d0 : w3.cell? ⟨n + 1, 0, none⟩ = some (.string { data := #[65, 98] }) := by rw [Lib.cell_of_heap ht3]; rfl
  clear l1 l2 hr2 ht2 ht3 hr3 hrb3 hb3 ho2 hrb2 hw1
  go_wp2_with fail
  refine (HL.out _).mono ?_
  rintro e w4 ⟨rfl, hb4⟩
  have HT4 := Lib.hid ((hb4.block (n + 1) (Array.getElem?_eq_some_iff.1 HT3.out).1).trans HT3.out)
  have HR4 := Lib.hid ((hb4.block n (Array.getElem?_eq_some_iff.1 HR3.out).1).trans HR3.out)
  have HRB4 := Lib.hid ((hb4.block rb (Array.getElem?_eq_some_iff.1 HRB3.out).1).trans HRB3.out)
  have HB4 := Lib.hid (HB3.out.trans (But.of_below hb4))
  clear hb4 d0 c0 f0
  go_wp2_with fail
  refine (must_any _).mono ?_
  rintro e w5 ⟨rfl, rfl⟩
  have d0 : w4.cell? ⟨n + 1, 0, none⟩ = some (.string { data := #[65, 98] }) := by rw [Lib.cell_of_heap HT4.out]; rfl
  have d1 : w4.cell? ⟨n + 1, 1, none⟩ = some (.slice none 0 0) := by rw [Lib.cell_of_heap HT4.out]; rfl
  have HI := Lib.hid (show (Tryz.prog.info? 147).map (·.size) = some 2 by kernel_rfl)
  have HA := Lib.hid (show (#[.string { data := #[65, 98] }, .slice none 0 0] : Array Value).all (·.oneCell') = true by simp [Value.oneCell'])
  go_wp2_with (refine wpList_store_row (by rfl) 147 (.tmp 6) (.tmp 24) (by rfl) n #[.string { data := #[65, 98] }, .slice none 0 0] (by rfl) (by rfl) _ _ HR4.out HI.out (by rfl) HA.out ?_)
  exact bodyPost_ret (v := .agg #[.string { data := #[65, 98] }, .slice none 0 0]) (results_cell_row (p := 6) (ty := 147) rfl _ _ n _ _ (0, 0) _ (by rfl) (setRow_heap _ _ _ _ _ _ HR4.out) Tryz.underlying147 rfl HI.out) rfl ⟨rfl, (setRow_other _ _ _ _ (by have := HLT.out; have := HN.out; omega)).trans HRB4.out, HB4.out.setRow (by have := HN.out; omega)⟩
end Go.Proofs.YtinknenfhohamaaGreatDoor
