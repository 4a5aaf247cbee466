/- The text property of the fixed document. -/
import Derived.Test.YtinknenfhohamaaGreatDoorG43
import Derived.MapKept
import Derived.RangeFuncRecord
namespace Go.Proofs.YtinknenfhohamaaGreatDoor
open Go.RowKit Go.Shelf Go.MapKept
set_option maxRecDepth 100000

/-- An entry more in a map of functions. -/
theorem insert_fn (w : World) (r : Nat) (es : Array MapEntry) (clock : Nat) (k : Int) (v : Value) (h : w.heap[r]? = some (.map es clock)) (hf : Instr.findNow (.int .i64) (.int .i64 k) es.toList 0 = some none) :
    (Instr.mapUpdate 88 (.map (some r)) (.int .i64 k) v).run Tryz.prog w = .ok () (w.putObj r (.map (es.push ⟨.int .i64 k, v, clock⟩) (clock + 1))) := by
  have h1 := run_checkKey (w := w) (k := .int .i64 k) Tryz.underlying3 (by simp [IsKey]) false 9999
  have h2 := run_findKey (w := w) Tryz.underlying3 hf
  unfold Instr.mapUpdate
  simp only [Sem.run_bind, run_underlying Tryz.underlying88, Result.andThen_ok]
  simp only [getObj, Sem.run, h, Result.andThen_ok, Sem.run_bind, h1, h2, setObj]
  rfl
theorem lookup_fn (w : World) (r : Nat) (es : Array MapEntry) (clock i : Nat) (k : Int) (v : Value) (h : w.heap[r]? = some (.map es clock)) (hf : Instr.findNow (.int .i64) (.int .i64 k) es.toList 0 = some (some (i, v))) :
    (Instr.lookup 88 (.map (some r)) (.int .i64 k) true).run Tryz.prog w = .ok (.tuple #[v, .bool true]) w := by
  have h1 := fun b => run_checkKey (w := w) (k := .int .i64 k) Tryz.underlying3 (by simp [IsKey]) b 9999
  have h2 := run_findKey (w := w) Tryz.underlying3 hf
  unfold Instr.lookup
  simp only [Sem.run_bind, run_underlying Tryz.underlying88, Result.andThen_ok]
  simp only [getObj, Sem.run, h, Result.andThen_ok, Sem.run_bind, Sem.run_pure, h1, h2]
  rfl
def propsA : Array MapEntry := #[⟨.int .i64 1, .func (.func 60) #[] #[], 0⟩, ⟨.int .i64 2, .func (.func 63) #[] #[], 1⟩, ⟨.int .i64 3, .func (.func 64) #[] #[], 2⟩, ⟨.int .i64 4, .func (.func 66) #[] #[], 3⟩, ⟨.int .i64 5, .func (.func 67) #[] #[], 4⟩, ⟨.int .i64 6, .func (.func 68) #[] #[], 5⟩, ⟨.int .i64 7, .func (.func 70) #[] #[], 6⟩, ⟨.int .i64 8, .func (.func 71) #[] #[], 7⟩]
theorem make_fn : ∀ w, (Instr.makeMap 88 none).run Tryz.prog w = .ok (.map (some w.heap.size)) (w.alloc (.map #[] 0)) := fun _ => rfl
theorem putObj_at (w : World) (r : Nat) (o o' : Obj) (h : w.heap[r]? = some o) : (w.putObj r o').heap[r]? = some o' := World.putObj_heap_same (Array.getElem?_eq_some_iff.1 h).1
theorem below_putObj {B : Nat} {w w1 : World} (h : Below B w w1) {r : Nat} (hr : B ≤ r) (o : Obj) : Below B w (w1.putObj r o) := ⟨h.os, h.tape, h.output, by simpa using h.size, fun k hk => (World.putObj_heap_other (by omega)).trans (h.block k hk)⟩
set_option maxHeartbeats 1000000 in
theorem properties_any (w : World) : Calls Tryz.prog 31 #[] w fun e w' => ∃ m, e = .returned (.map (some m)) ∧ w'.heap[m]? = some (.map propsA 8) ∧ Below w.heap.size w w' := by
  have hmk := make_fn
  obtain ⟨r, hr⟩ : ∃ r, w.heap.size = r := ⟨_, rfl⟩
  obtain ⟨w0, hw0⟩ : ∃ w0, w.alloc (.map #[] 0) = w0 := ⟨_, rfl⟩
  have h0 : w0.heap[r]? = some (.map #[] 0) := by rw [← hw0]; exact heap_last' _ _ hr
  have b0 : Below w.heap.size w w0 := by rw [← hw0]; exact (Below.refl _ _).alloc (Nat.le_refl _) _
  obtain ⟨w1, hw1⟩ : ∃ w1, w0.putObj r (.map #[⟨.int .i64 1, .func (.func 60) #[] #[], 0⟩] 1) = w1 := ⟨_, rfl⟩
  have i1 : (Instr.mapUpdate 88 (.map (some r)) (.int .i64 1) (.func (.func 60) #[] #[])).run Tryz.prog w0 = .ok () w1 := by rw [← hw1]; exact insert_fn w0 r _ 0 1 _ h0 rfl
  have h1 : w1.heap[r]? = some (.map #[⟨.int .i64 1, .func (.func 60) #[] #[], 0⟩] 1) := by rw [← hw1]; exact putObj_at _ _ _ _ h0
  have b1 : Below w.heap.size w w1 := by rw [← hw1]; exact below_putObj b0 (by omega) _
  obtain ⟨w2, hw2⟩ : ∃ w2, w1.putObj r (.map #[⟨.int .i64 1, .func (.func 60) #[] #[], 0⟩, ⟨.int .i64 2, .func (.func 63) #[] #[], 1⟩] 2) = w2 := ⟨_, rfl⟩
  have i2 : (Instr.mapUpdate 88 (.map (some r)) (.int .i64 2) (.func (.func 63) #[] #[])).run Tryz.prog w1 = .ok () w2 := by rw [← hw2]; exact insert_fn w1 r _ 1 2 _ h1 rfl
  have h2 : w2.heap[r]? = some (.map #[⟨.int .i64 1, .func (.func 60) #[] #[], 0⟩, ⟨.int .i64 2, .func (.func 63) #[] #[], 1⟩] 2) := by rw [← hw2]; exact putObj_at _ _ _ _ h1
  have b2 : Below w.heap.size w w2 := by rw [← hw2]; exact below_putObj b1 (by omega) _
  obtain ⟨w3, hw3⟩ : ∃ w3, w2.putObj r (.map #[⟨.int .i64 1, .func (.func 60) #[] #[], 0⟩, ⟨.int .i64 2, .func (.func 63) #[] #[], 1⟩, ⟨.int .i64 3, .func (.func 64) #[] #[], 2⟩] 3) = w3 := ⟨_, rfl⟩
  have i3 : (Instr.mapUpdate 88 (.map (some r)) (.int .i64 3) (.func (.func 64) #[] #[])).run Tryz.prog w2 = .ok () w3 := by rw [← hw3]; exact insert_fn w2 r _ 2 3 _ h2 rfl
  have h3 : w3.heap[r]? = some (.map #[⟨.int .i64 1, .func (.func 60) #[] #[], 0⟩, ⟨.int .i64 2, .func (.func 63) #[] #[], 1⟩, ⟨.int .i64 3, .func (.func 64) #[] #[], 2⟩] 3) := by rw [← hw3]; exact putObj_at _ _ _ _ h2
  have b3 : Below w.heap.size w w3 := by rw [← hw3]; exact below_putObj b2 (by omega) _
  obtain ⟨w4, hw4⟩ : ∃ w4, w3.putObj r (.map #[⟨.int .i64 1, .func (.func 60) #[] #[], 0⟩, ⟨.int .i64 2, .func (.func 63) #[] #[], 1⟩, ⟨.int .i64 3, .func (.func 64) #[] #[], 2⟩, ⟨.int .i64 4, .func (.func 66) #[] #[], 3⟩] 4) = w4 := ⟨_, rfl⟩
  have i4 : (Instr.mapUpdate 88 (.map (some r)) (.int .i64 4) (.func (.func 66) #[] #[])).run Tryz.prog w3 = .ok () w4 := by rw [← hw4]; exact insert_fn w3 r _ 3 4 _ h3 rfl
  have h4 : w4.heap[r]? = some (.map #[⟨.int .i64 1, .func (.func 60) #[] #[], 0⟩, ⟨.int .i64 2, .func (.func 63) #[] #[], 1⟩, ⟨.int .i64 3, .func (.func 64) #[] #[], 2⟩, ⟨.int .i64 4, .func (.func 66) #[] #[], 3⟩] 4) := by rw [← hw4]; exact putObj_at _ _ _ _ h3
  have b4 : Below w.heap.size w w4 := by rw [← hw4]; exact below_putObj b3 (by omega) _
  obtain ⟨w5, hw5⟩ : ∃ w5, w4.putObj r (.map #[⟨.int .i64 1, .func (.func 60) #[] #[], 0⟩, ⟨.int .i64 2, .func (.func 63) #[] #[], 1⟩, ⟨.int .i64 3, .func (.func 64) #[] #[], 2⟩, ⟨.int .i64 4, .func (.func 66) #[] #[], 3⟩, ⟨.int .i64 5, .func (.func 67) #[] #[], 4⟩] 5) = w5 := ⟨_, rfl⟩
  have i5 : (Instr.mapUpdate 88 (.map (some r)) (.int .i64 5) (.func (.func 67) #[] #[])).run Tryz.prog w4 = .ok () w5 := by rw [← hw5]; exact insert_fn w4 r _ 4 5 _ h4 rfl
  have h5 : w5.heap[r]? = some (.map #[⟨.int .i64 1, .func (.func 60) #[] #[], 0⟩, ⟨.int .i64 2, .func (.func 63) #[] #[], 1⟩, ⟨.int .i64 3, .func (.func 64) #[] #[], 2⟩, ⟨.int .i64 4, .func (.func 66) #[] #[], 3⟩, ⟨.int .i64 5, .func (.func 67) #[] #[], 4⟩] 5) := by rw [← hw5]; exact putObj_at _ _ _ _ h4
  have b5 : Below w.heap.size w w5 := by rw [← hw5]; exact below_putObj b4 (by omega) _
  obtain ⟨w6, hw6⟩ : ∃ w6, w5.putObj r (.map #[⟨.int .i64 1, .func (.func 60) #[] #[], 0⟩, ⟨.int .i64 2, .func (.func 63) #[] #[], 1⟩, ⟨.int .i64 3, .func (.func 64) #[] #[], 2⟩, ⟨.int .i64 4, .func (.func 66) #[] #[], 3⟩, ⟨.int .i64 5, .func (.func 67) #[] #[], 4⟩, ⟨.int .i64 6, .func (.func 68) #[] #[], 5⟩] 6) = w6 := ⟨_, rfl⟩
  have i6 : (Instr.mapUpdate 88 (.map (some r)) (.int .i64 6) (.func (.func 68) #[] #[])).run Tryz.prog w5 = .ok () w6 := by rw [← hw6]; exact insert_fn w5 r _ 5 6 _ h5 rfl
  have h6 : w6.heap[r]? = some (.map #[⟨.int .i64 1, .func (.func 60) #[] #[], 0⟩, ⟨.int .i64 2, .func (.func 63) #[] #[], 1⟩, ⟨.int .i64 3, .func (.func 64) #[] #[], 2⟩, ⟨.int .i64 4, .func (.func 66) #[] #[], 3⟩, ⟨.int .i64 5, .func (.func 67) #[] #[], 4⟩, ⟨.int .i64 6, .func (.func 68) #[] #[], 5⟩] 6) := by rw [← hw6]; exact putObj_at _ _ _ _ h5
  have b6 : Below w.heap.size w w6 := by rw [← hw6]; exact below_putObj b5 (by omega) _
  obtain ⟨w7, hw7⟩ : ∃ w7, w6.putObj r (.map #[⟨.int .i64 1, .func (.func 60) #[] #[], 0⟩, ⟨.int .i64 2, .func (.func 63) #[] #[], 1⟩, ⟨.int .i64 3, .func (.func 64) #[] #[], 2⟩, ⟨.int .i64 4, .func (.func 66) #[] #[], 3⟩, ⟨.int .i64 5, .func (.func 67) #[] #[], 4⟩, ⟨.int .i64 6, .func (.func 68) #[] #[], 5⟩, ⟨.int .i64 7, .func (.func 70) #[] #[], 6⟩] 7) = w7 := ⟨_, rfl⟩
  have i7 : (Instr.mapUpdate 88 (.map (some r)) (.int .i64 7) (.func (.func 70) #[] #[])).run Tryz.prog w6 = .ok () w7 := by rw [← hw7]; exact insert_fn w6 r _ 6 7 _ h6 rfl
  have h7 : w7.heap[r]? = some (.map #[⟨.int .i64 1, .func (.func 60) #[] #[], 0⟩, ⟨.int .i64 2, .func (.func 63) #[] #[], 1⟩, ⟨.int .i64 3, .func (.func 64) #[] #[], 2⟩, ⟨.int .i64 4, .func (.func 66) #[] #[], 3⟩, ⟨.int .i64 5, .func (.func 67) #[] #[], 4⟩, ⟨.int .i64 6, .func (.func 68) #[] #[], 5⟩, ⟨.int .i64 7, .func (.func 70) #[] #[], 6⟩] 7) := by rw [← hw7]; exact putObj_at _ _ _ _ h6
  have b7 : Below w.heap.size w w7 := by rw [← hw7]; exact below_putObj b6 (by omega) _
  obtain ⟨w8, hw8⟩ : ∃ w8, w7.putObj r (.map #[⟨.int .i64 1, .func (.func 60) #[] #[], 0⟩, ⟨.int .i64 2, .func (.func 63) #[] #[], 1⟩, ⟨.int .i64 3, .func (.func 64) #[] #[], 2⟩, ⟨.int .i64 4, .func (.func 66) #[] #[], 3⟩, ⟨.int .i64 5, .func (.func 67) #[] #[], 4⟩, ⟨.int .i64 6, .func (.func 68) #[] #[], 5⟩, ⟨.int .i64 7, .func (.func 70) #[] #[], 6⟩, ⟨.int .i64 8, .func (.func 71) #[] #[], 7⟩] 8) = w8 := ⟨_, rfl⟩
  have i8 : (Instr.mapUpdate 88 (.map (some r)) (.int .i64 8) (.func (.func 71) #[] #[])).run Tryz.prog w7 = .ok () w8 := by rw [← hw8]; exact insert_fn w7 r _ 7 8 _ h7 rfl
  have h8 : w8.heap[r]? = some (.map #[⟨.int .i64 1, .func (.func 60) #[] #[], 0⟩, ⟨.int .i64 2, .func (.func 63) #[] #[], 1⟩, ⟨.int .i64 3, .func (.func 64) #[] #[], 2⟩, ⟨.int .i64 4, .func (.func 66) #[] #[], 3⟩, ⟨.int .i64 5, .func (.func 67) #[] #[], 4⟩, ⟨.int .i64 6, .func (.func 68) #[] #[], 5⟩, ⟨.int .i64 7, .func (.func 70) #[] #[], 6⟩, ⟨.int .i64 8, .func (.func 71) #[] #[], 7⟩] 8) := by rw [← hw8]; exact putObj_at _ _ _ _ h7
  have b8 : Below w.heap.size w w8 := by rw [← hw8]; exact below_putObj b7 (by omega) _
  have HE := Lib.hid (And.intro h8 b8)
  clear h0 b0 h1 b1 h2 b2 h3 b3 h4 b4 h5 b5 h6 b6 h7 b7 h8 b8 hw1 hw2 hw3 hw4 hw5 hw6 hw7 hw8
  go_enter Tryz.func31, Tryz.ntmps31
  go_wp2_with fail
  go_ret
  exact ⟨r, rfl, HE.out.1, HE.out.2⟩
end Go.Proofs.YtinknenfhohamaaGreatDoor
