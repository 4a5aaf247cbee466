/- The computer's memory: one block of 516 cells; the small functions of the computer. -/
import Derived.Test.YtinknenfhohamaaGreatDoorG26
import Derived.Test.YtinknenfhohamaaGreatDoorG08
import Derived.OneCell
import Derived.Deep.QuietTactic
import Derived.BigQuiet
namespace Go.Proofs.YtinknenfhohamaaGreatDoor
open Go.RowKit
set_option maxRecDepth 100000

/-- A block that holds a processor whose cells are known. -/
def PrB (W : World) (b : Nat) (f : Nat → Value) : Prop := ∃ cs : Array Value, W.heap[b]? = some (.cells cs 61 (0, 0)) ∧ ∀ i, i < 516 → cs[i]? = some (f i)
theorem PrB.cell {W : World} {b : Nat} {f : Nat → Value} (h : PrB W b f) (i : Nat) (hi : i < 516) : W.cell? ⟨b, i, none⟩ = some (f i) := by
  obtain ⟨cs, h1, h2⟩ := h
  rw [Lib.cell_of_heap h1, h2 i hi]
theorem PrB.free {W : World} {b : Nat} {f : Nat → Value} (h : PrB W b f) (i : Nat) : W.frozen? ⟨b, i, none⟩ = false := by
  obtain ⟨cs, h1, h2⟩ := h
  exact Lib.frozen_of_heap h1 i
theorem PrB.lt {W : World} {b : Nat} {f : Nat → Value} (h : PrB W b f) : b < W.heap.size := by
  obtain ⟨cs, h1, h2⟩ := h
  exact (Array.getElem?_eq_some_iff.1 h1).1
theorem PrB.same {W W' : World} {b : Nat} {f : Nat → Value} (h : PrB W b f) (hs : W'.heap[b]? = W.heap[b]?) : PrB W' b f := by
  obtain ⟨cs, h1, h2⟩ := h
  exact ⟨cs, hs.trans h1, h2⟩
def updF (f : Nat → Value) (i : Nat) (v : Value) : Nat → Value := fun j => if j = i then v else f j
theorem updF_same (f : Nat → Value) (i : Nat) (v : Value) : updF f i v i = v := if_pos rfl
theorem updF_other (f : Nat → Value) {i j : Nat} (v : Value) (h : j ≠ i) : updF f i v j = f j := if_neg h
theorem heap_setCell_at (W : World) (b i : Nat) (cs : Array Value) (t : TypeId) (fz : Nat × Nat) (v : Value) (h : W.heap[b]? = some (.cells cs t fz)) : (W.setCell ⟨b, i, none⟩ v).heap[b]? = some (.cells (cs.setIfInBounds i v) t fz) := by
  obtain ⟨hlt, hk⟩ := Array.getElem?_eq_some_iff.1 h
  show (W.heap.modify b _)[b]? = _
  rw [Array.getElem?_eq_getElem (by rw [Array.size_modify]; exact hlt), Array.getElem_modify_self, hk]
  rfl
theorem PrB.set {W : World} {b : Nat} {f : Nat → Value} (h : PrB W b f) (i : Nat) (v : Value) : PrB (W.setCell ⟨b, i, none⟩ v) b (updF f i v) := by
  obtain ⟨cs, h1, h2⟩ := h
  refine ⟨_, heap_setCell_at W b i cs _ _ v h1, fun j hj => ?_⟩
  rw [Array.getElem?_setIfInBounds]
  by_cases e : i = j
  · subst e
    have := (Array.getElem?_eq_some_iff.1 (h2 i hj)).1
    rw [if_pos rfl, if_pos this, updF_same]
  · rw [if_neg e, updF_other f v (fun h => e h.symm), h2 j hj]
/-- A step that turns the processor alone. -/
def Own (b : Nat) (A B : World) : Prop := (∃ cs : Array Value, A.heap[b]? = some (.cells cs 61 (0, 0))) ∧ A.grownBy B (some b)
theorem PrB.has {W : World} {b : Nat} {f : Nat → Value} (h : PrB W b f) : ∃ cs : Array Value, W.heap[b]? = some (.cells cs 61 (0, 0)) := ⟨h.choose, h.choose_spec.1⟩
theorem Own.trans {b : Nat} {A B C : World} (h : Own b A B) (k : Own b B C) : Own b A C := ⟨h.1, grown_trans h.2 k.2⟩
theorem Own.of_below {b : Nat} {A B : World} {f : Nat → Value} (hp : PrB A b f) (h : Below A.heap.size A B) : Own b A B := ⟨hp.has, ⟨h.os, h.tape, h.output, h.size, fun k hk _ => h.block k hk⟩⟩
theorem Own.set {b : Nat} {A : World} {f : Nat → Value} (hp : PrB A b f) (i : Nat) (v : Value) : Own b A (A.setCell ⟨b, i, none⟩ v) := ⟨hp.has, ⟨rfl, rfl, rfl, by simp, fun k _ hk => Below.heap_setCell _ _ _ k (fun e => hk (by rw [e]))⟩⟩
theorem Own.refl {b : Nat} {A : World} {f : Nat → Value} (hp : PrB A b f) : Own b A A := Own.of_below hp (Below.refl _ _)
theorem Own.drew {b : Nat} {A B : World} (h : Own b A B) : Own b A B.drew := ⟨h.1, ⟨h.2.os, h.2.tape, h.2.output, h.2.size, h.2.block⟩⟩
theorem Own.drewN {b : Nat} {A B : World} (h : Own b A B) (n : Nat) : Own b A (B.drewN n) := ⟨h.1, ⟨h.2.os, h.2.tape, h.2.output, by simpa using h.2.size, fun k hk hr => by simpa using h.2.block k hk hr⟩⟩
theorem Own.below {b : Nat} {A B : World} (h : Own b A B) : Below b A B := ⟨h.2.os, h.2.tape, h.2.output, h.2.size, fun k hk => h.2.block k (Nat.lt_trans hk (Array.getElem?_eq_some_iff.1 h.1.choose_spec).1) (fun e => by cases e; omega)⟩
theorem Own.other {b : Nat} {A B : World} (h : Own b A B) {k : Nat} {cs : Array Value} {t : TypeId} {z : Nat × Nat} (hk : A.heap[k]? = some (.cells cs t z)) (ht : t ≠ 61) : B.heap[k]? = some (.cells cs t z) := by
  rw [h.2.block k (Array.getElem?_eq_some_iff.1 hk).1, hk]
  intro e
  cases e
  obtain ⟨cs', h'⟩ := h.1
  rw [hk] at h'
  cases h'
  exact ht rfl
theorem PrB.drew {W : World} {b : Nat} {f : Nat → Value} (h : PrB W b f) : PrB W.drew b f := h.same rfl
theorem PrB.drewN {W : World} {b : Nat} {f : Nat → Value} (h : PrB W b f) (n : Nat) : PrB (W.drewN n) b f := h.same (by simp)
theorem PrB.alloc {W : World} {b : Nat} {f : Nat → Value} (h : PrB W b f) (o : Obj) : PrB (W.alloc o) b f := h.same (Lib.alloc_old W o b h.lt)

/-- An event in a new block. -/
theorem event_any (b : Nat) (f : Nat → Value) (k x y t : Int) (W : World) (hp : PrB W b f) (ht : f 515 = .int .i64 t) (hx : 0 ≤ x ∧ x ≤ 255) (hy : 0 ≤ y ∧ y ≤ 255) :
    Calls Tryz.prog 46 #[.pointer (some ⟨b, 0, none⟩), .int .i64 k, .int .u8 x, .int .u8 y] W fun e w' => e = .returned (.pointer (some ⟨W.heap.size, 0, none⟩)) ∧ w' = W.alloc (.cells #[.int .i64 t, .int .i64 k, .int .i64 x, .int .i64 y] 28) := by
  have h5 : W.cell? ⟨b, 515, none⟩ = some (.int .i64 t) := by rw [hp.cell 515 (by omega), ht]
  clear hp ht
  go_enter Tryz.func46, Tryz.ntmps46
  go_wp2_with fail
  go_ret
  exact ⟨rfl, rfl⟩
/-- A function that sets the accumulator, the counter or the memory. -/
def SetPost (W : World) (b : Nat) (f : Nat → Value) (i : Nat) (v : Value) (e : Ending) (w' : World) : Prop := e = .returned (.tuple #[]) ∧ PrB w' b (updF f i v) ∧ Own b W w'
theorem SetPost.mk {W w' : World} {b : Nat} {f : Nat → Value} (hp : PrB W b f) (i : Nat) (v : Value) (n : Nat) (h : w' = (W.setCell ⟨b, i, none⟩ v).drewN n) : SetPost W b f i v (.returned (.tuple #[])) w' := by
  subst h
  exact ⟨rfl, (hp.set i v).drewN n, (Own.set hp i v).drewN n⟩
/-- LDA. -/
theorem op2_any (b : Nat) (f : Nat → Value) (n m a : Int) (W : World) (hp : PrB W b f) (ha : f 513 = .int .u8 a) :
    Calls Tryz.prog 97 #[.pointer (some ⟨b, 0, none⟩), .int .u8 n, .int .u8 m] W (SetPost W b f 513 (.int .u8 m)) := by
  have h5 : W.cell? ⟨b, 513, none⟩ = some (.int .u8 a) := by rw [hp.cell 513 (by omega), ha]
  have h6 := hp.free 513
  have HP := Lib.hid hp
  clear hp ha
  go_enter Tryz.func97, Tryz.ntmps97
  go_wp2_with fail
  exact bodyPost_end (results_none rfl _ _ _) rfl (SetPost.mk HP.out 513 _ 0 rfl)
/-- ADD. -/
theorem op6_any (b : Nat) (f : Nat → Value) (n m a s : Int) (W : World) (hp : PrB W b f) (ha : f 513 = .int .u8 a) (hs : IntKind.u8.wrap (a + m) = s) :
    Calls Tryz.prog 101 #[.pointer (some ⟨b, 0, none⟩), .int .u8 n, .int .u8 m] W (SetPost W b f 513 (.int .u8 s)) := by
  have h5 : W.cell? ⟨b, 513, none⟩ = some (.int .u8 a) := by rw [hp.cell 513 (by omega), ha]
  have h6 := hp.free 513
  have HP := Lib.hid hp
  clear hp ha
  go_enter Tryz.func101, Tryz.ntmps101
  go_wp2_with fail
  exact bodyPost_end (results_none rfl _ _ _) rfl (SetPost.mk HP.out 513 _ 0 rfl)
/-- STA. -/
theorem op3_any (b : Nat) (f : Nat → Value) (n m a x : Int) (k : Nat) (W : World) (hp : PrB W b f) (ha : f 513 = .int .u8 a) (hn : n = k) (hk : k < 256) (hx : f (1 + k) = .int .u8 x) :
    Calls Tryz.prog 98 #[.pointer (some ⟨b, 0, none⟩), .int .u8 n, .int .u8 m] W (SetPost W b f (1 + k) (.int .u8 a)) := by
  subst hn
  have h5 : W.cell? ⟨b, 513, none⟩ = some (.int .u8 a) := by rw [hp.cell 513 (by omega), ha]
  have h6 : W.cell? ⟨b, 1 + k, none⟩ = some (.int .u8 x) := by rw [hp.cell (1 + k) (by omega), hx]
  have h7 := hp.free (1 + k)
  have hlt := hp.lt
  have n0 : (0 : Int) ≤ (k : Int) := by omega
  have n1 : (k : Int) < 256 := by omega
  have n2 : decide ((k : Int) < 256) = true := by rw [decide_eq_true_iff]; omega
  have n3 : decide (k < 256) = true := by rw [decide_eq_true_iff]; omega
  have HP := Lib.hid hp
  clear hp ha hx
  go_enter Tryz.func98, Tryz.ntmps98
  go_region
  all_goals
    go_wp2_with fail
    exact bodyPost_end (results_none rfl _ _ _) rfl (SetPost.mk HP.out (1 + k) _ 1 rfl)
/-- The tests of the jumps. -/
theorem op8_any (a : Int) (W : World) : Calls Tryz.prog 104 #[.int .u8 a] W fun e w' => e = .returned (.bool true) ∧ W = w' := by
  go_enter Tryz.func104, Tryz.ntmps104
  go_wp2_with fail
  go_ret
  exact ⟨rfl, rfl⟩
theorem op9_any (a : Int) (W : World) : Calls Tryz.prog 105 #[.int .u8 a] W fun e w' => e = .returned (.bool (a == 0)) ∧ W = w' := by
  go_enter Tryz.func105, Tryz.ntmps105
  go_wp2_with fail
  go_ret
  exact ⟨rfl, rfl⟩
theorem SetPost.mk2 {W w' : World} {b : Nat} {f : Nat → Value} (hp : PrB W b f) (i : Nat) (v : Value) (n : Nat) (h : w' = (W.drewN n).setCell ⟨b, i, none⟩ v) : SetPost W b f i v (.returned (.tuple #[])) w' := by
  subst h
  exact ⟨rfl, (hp.drewN n).set i v, ((Own.refl hp).drewN n).trans (Own.set (hp.drewN n) i v)⟩
/-- Nothing is set. -/
def NoPost (W : World) (b : Nat) (f : Nat → Value) (e : Ending) (w' : World) : Prop := e = .returned (.tuple #[]) ∧ PrB w' b f ∧ Own b W w'
theorem NoPost.mk {W : World} {b : Nat} {f : Nat → Value} (hp : PrB W b f) (n : Nat) : NoPost W b f (.returned (.tuple #[])) (W.drewN n) := ⟨rfl, hp.drewN n, (Own.refl hp).drewN n⟩
/-- The jumps. -/
theorem jump8_any (b q : Nat) (f : Nat → Value) (n m a c : Int) (W : World) (hp : PrB W b f) (ha : f 513 = .int .u8 a) (hc : f 514 = .int .u8 c) (hq : W.heap[q]? = some (.cells #[.func (.func 104) #[] #[]] 159 (0, 0))) :
    Calls Tryz.prog 150 #[.pointer (some ⟨b, 0, none⟩), .int .u8 n, .int .u8 m, .pointer (some ⟨q, 0, none⟩)] W (SetPost W b f 514 (.int .u8 n)) := by
  have h5 : W.cell? ⟨b, 513, none⟩ = some (.int .u8 a) := by rw [hp.cell 513 (by omega), ha]
  have h6 : W.cell? ⟨b, 514, none⟩ = some (.int .u8 c) := by rw [hp.cell 514 (by omega), hc]
  have h7 := hp.free 514
  have h8 : W.cell? ⟨q, 0, none⟩ = some (.func (.func 104) #[] #[]) := cell_of_one hq
  have HP := Lib.hid hp
  clear hp ha hc hq
  go_enter Tryz.func150, Tryz.ntmps150
  go_wp2_with fail
  go_quiet ((go_at_call 104; exact Calls.quiet_of_same ((op8_any _ _).mono fun e w' ⟨a, b⟩ => ⟨a, b.symm⟩)))
  go_wp2_with fail
  exact bodyPost_end (results_none rfl _ _ _) rfl (SetPost.mk2 HP.out 514 _ _ rfl)
theorem jump9_yes (b q : Nat) (f : Nat → Value) (n m c : Int) (W : World) (hp : PrB W b f) (ha : f 513 = .int .u8 0) (hc : f 514 = .int .u8 c) (hq : W.heap[q]? = some (.cells #[.func (.func 105) #[] #[]] 159 (0, 0))) :
    Calls Tryz.prog 150 #[.pointer (some ⟨b, 0, none⟩), .int .u8 n, .int .u8 m, .pointer (some ⟨q, 0, none⟩)] W (SetPost W b f 514 (.int .u8 n)) := by
  have h5 : W.cell? ⟨b, 513, none⟩ = some (.int .u8 0) := by rw [hp.cell 513 (by omega), ha]
  have h6 : W.cell? ⟨b, 514, none⟩ = some (.int .u8 c) := by rw [hp.cell 514 (by omega), hc]
  have h7 := hp.free 514
  have h8 : W.cell? ⟨q, 0, none⟩ = some (.func (.func 105) #[] #[]) := cell_of_one hq
  have HP := Lib.hid hp
  clear hp ha hc hq
  go_enter Tryz.func150, Tryz.ntmps150
  go_wp2_with fail
  go_quiet ((go_at_call 105; exact Calls.quiet_of_same ((op9_any _ _).mono fun e w' ⟨a, b⟩ => ⟨a, b.symm⟩)))
  go_wp2_with fail
  exact bodyPost_end (results_none rfl _ _ _) rfl (SetPost.mk2 HP.out 514 _ _ rfl)
theorem jump9_no (b q : Nat) (f : Nat → Value) (n m a : Int) (W : World) (hp : PrB W b f) (ha : f 513 = .int .u8 a) (h0 : a ≠ 0) (hq : W.heap[q]? = some (.cells #[.func (.func 105) #[] #[]] 159 (0, 0))) :
    Calls Tryz.prog 150 #[.pointer (some ⟨b, 0, none⟩), .int .u8 n, .int .u8 m, .pointer (some ⟨q, 0, none⟩)] W (NoPost W b f) := by
  have h5 : W.cell? ⟨b, 513, none⟩ = some (.int .u8 a) := by rw [hp.cell 513 (by omega), ha]
  have h8 : W.cell? ⟨q, 0, none⟩ = some (.func (.func 105) #[] #[]) := cell_of_one hq
  have h9 : (a == 0) = false := beq_eq_false_iff_ne.2 h0
  have HP := Lib.hid hp
  clear hp ha hq h0
  go_enter Tryz.func150, Tryz.ntmps150
  go_wp2_with fail
  go_quiet ((go_at_call 105; exact Calls.quiet_of_same ((op9_any _ _).mono fun e w' ⟨a, b⟩ => ⟨a, b.symm⟩)))
  go_wp2_with fail
  exact bodyPost_end (results_none rfl _ _ _) rfl (NoPost.mk HP.out _)
end Go.Proofs.YtinknenfhohamaaGreatDoor
