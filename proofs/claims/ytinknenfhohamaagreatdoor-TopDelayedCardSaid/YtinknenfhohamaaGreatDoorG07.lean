/- What two computers do, as plain mathematics: events, relations, what counts, when events are alike, when performances agree. No program in sight. The small functions: within, Valid, close, of. -/
import Derived.Test.YtinknenfhohamaaGreatDoorG01
import Derived.Test.YtinknenfhohamaaGreatDoorG02
import Derived.Below
import Derived.Laws.BitsAllLaws
namespace Go.Proofs.YtinknenfhohamaaGreatDoor

/-- An event. -/
structure Ev where
  tm : Int
  kd : Int
  a : Int
  b : Int
/-- A relation. -/
structure Rel where
  kinds : Int
  slack : Int
  ord : Bool
instance : Inhabited Ev := ⟨⟨0, 0, 0, 0⟩⟩
instance : DecidableEq Ev := fun x y => decidable_of_iff (x.tm = y.tm ∧ x.kd = y.kd ∧ x.a = y.a ∧ x.b = y.b) (by
  constructor
  · rintro ⟨h1, h2, h3, h4⟩; cases x; cases y; simp_all
  · rintro rfl; exact ⟨rfl, rfl, rfl, rfl⟩)
def validR (r : Rel) : Bool := decide (0 ≤ r.kinds ∧ r.kinds ≤ 62) && decide (r.kinds % 2 = 0) && decide (0 ≤ r.slack ∧ r.slack ≤ 20000)
theorem validR_iff (r : Rel) : validR r = true ↔ 0 ≤ r.kinds ∧ r.kinds ≤ 62 ∧ r.kinds % 2 = 0 ∧ 0 ≤ r.slack ∧ r.slack ≤ 20000 := by
  simp [validR, and_assoc]
/-- Whether an event counts. -/
def cnt (r : Rel) (e : Ev) : Bool := decide (1 ≤ e.kd ∧ e.kd ≤ 5) && decide (r.kinds / 2 ^ e.kd.toNat % 2 = 1)
def counted (r : Rel) (l : List Ev) : List Ev := if validR r then l.filter (cnt r) else []
/-- What two events must have in common. -/
def cls (e : Ev) : Int × Int × Int := (e.kd, e.a, e.b)
/-- Whether two times differ by at most the slack. -/
def near (r : Rel) (s t : Int) : Bool := decide (max s t - min s t ≤ r.slack)
def alike (r : Rel) (x y : Ev) : Bool := decide (cls x = cls y) && near r x.tm y.tm
def weaker (a b : Rel) : Bool := validR a && validR b && (decide (b.kinds = 0) || decide (∀ k : Fin 6, b.kinds / 2 ^ k.val % 2 = 1 → a.kinds / 2 ^ k.val % 2 = 1) && decide (a.slack ≤ b.slack) && (a.ord || !b.ord))
/-- At which place an event stands among those of its class. -/
def rank (l : List Ev) (i : Nat) : Nat := ((List.range l.length).filter fun k => decide (cls (l.getD k default) = cls (l.getD i default)) && (decide ((l.getD k default).tm < (l.getD i default).tm) || (decide ((l.getD k default).tm = (l.getD i default).tm) && decide (k < i)))).length
/-- Whether an event has a partner. -/
def partner (r : Rel) (c d : List Ev) (i : Nat) : Bool := (List.range d.length).any fun k => decide (cls (d.getD k default) = cls (c.getD i default)) && decide (rank d k = rank c i) && near r (c.getD i default).tm (d.getD k default).tm
/-- Whether an event fits. -/
def fits (r : Rel) (c d : List Ev) (i : Nat) : Bool := if r.ord then decide (i < d.length) && alike r (c.getD i default) (d.getD i default) else partner r c d i
/-- The first event that does not fit. -/
def firstBad (r : Rel) (c d : List Ev) : Option Nat := (List.range c.length).find? fun i => !fits r c d i
/-- What Compare returns. -/
def compareR (r : Rel) (x y : List Ev) : Int × Bool :=
  if validR r then match firstBad r (counted r x) (counted r y) with
    | some i => ((i : Int), false)
    | none => if (counted r x).length = (counted r y).length then (0, true) else (((counted r x).length : Int), false)
  else (0, false)
end Go.Proofs.YtinknenfhohamaaGreatDoor

namespace Go.Proofs.YtinknenfhohamaaGreatDoor
open Go.RowKit
set_option maxRecDepth 100000

def relV (r : Rel) : Value := .agg #[.int .i64 r.kinds, .int .i64 r.slack, .bool r.ord]
def evV (e : Ev) : Value := .agg #[.int .i64 e.tm, .int .i64 e.kd, .int .i64 e.a, .int .i64 e.b]
def I64 (c : Int) : Prop := -9223372036854775808 ≤ c ∧ c ≤ 9223372036854775807
theorem Below_drewN {B : Nat} {w w' : World} (h : Below B w w') (n : Nat) : Below B w (w'.drewN n) := ⟨h.os, h.tape, h.output, h.size, h.block⟩
theorem within_any (n a b : Int) (w : World) : Calls Tryz.prog 47 #[.int .i64 n, .int .i64 a, .int .i64 b] w fun e w' => e = .returned (.bool (decide (a ≤ n ∧ n ≤ b))) ∧ w = w' := by
  go_enter Tryz.func47, Tryz.ntmps47
  by_cases h1 : a ≤ n
  · go_wp2_with fail
    go_ret
    exact ⟨by simp [h1], rfl⟩
  · go_wp2_with fail
    go_ret
    have h2 : decide (a ≤ n) = false := by rw [decide_eq_false_iff_not]; omega
    exact ⟨by rw [h2]; rfl, rfl⟩
theorem even_bits : ∀ k : Fin 63, (bits .and .i64 (k.val : Int) 1 == 0) = decide ((k.val : Int) % 2 = 0) := by decide +kernel
set_option maxHeartbeats 400000 in
theorem valid_any (r : Rel) (w : World) : Calls Tryz.prog 19 #[relV r] w fun e w' => e = .returned (.bool (validR r)) ∧ Below w.heap.size w w' := by
  simp only [relV]
  have HB := Lib.hid ((Below.refl w.heap.size w).alloc (Nat.le_refl _) (.cells #[.int .i64 r.kinds, .int .i64 r.slack, .bool r.ord] 35))
  have HV := Lib.hid (show validR r = (decide (0 ≤ r.kinds ∧ r.kinds ≤ 62) && decide (r.kinds % 2 = 0) && decide (0 ≤ r.slack ∧ r.slack ≤ 20000)) from rfl)
  have HW := Lib.hid (fun (n a b : Int) W => within_any n a b W)
  by_cases h1 : 0 ≤ r.kinds ∧ r.kinds ≤ 62
  · have hb := even_bits ⟨r.kinds.toNat, by omega⟩
    simp only [Int.toNat_of_nonneg h1.1] at hb
    have d1 : decide (0 ≤ r.kinds ∧ r.kinds ≤ 62) = true := decide_eq_true h1
    obtain ⟨x, hx⟩ : ∃ x, decide (r.kinds % 2 = 0) = x := ⟨_, rfl⟩
    obtain ⟨y, hy⟩ : ∃ y, decide (0 ≤ r.slack ∧ r.slack ≤ 20000) = y := ⟨_, rfl⟩
    have HW1 := Lib.hid (HW.out r.kinds 0 62)
    have HW2 := Lib.hid (HW.out r.slack 0 20000)
    rw [d1] at HW1
    rw [hy] at HW2
    rw [d1, hx, hy] at HV
    rw [hx] at hb
    clear h1 d1 hx hy
    cases x with
    | true =>
      have hb2 : (bits .and .i64 r.kinds 1) = 0 := beq_iff_eq.1 hb
      go_enter Tryz.func19, Tryz.ntmps19
      go_wp2_with fail
      refine (HW1.out _).mono ?_
      rintro e w1 ⟨rfl, rfl⟩
      go_wp2_with fail
      refine (HW2.out _).mono ?_
      rintro e w1 ⟨rfl, rfl⟩
      go_wp2_with fail
      go_ret
      exact ⟨by rw [HV.out]; rfl, HB.out⟩
    | false =>
      go_enter Tryz.func19, Tryz.ntmps19
      go_wp2_with fail
      refine (HW1.out _).mono ?_
      rintro e w1 ⟨rfl, rfl⟩
      go_wp2_with fail
      go_ret
      exact ⟨by rw [HV.out]; rfl, HB.out⟩
  · have d1 : decide (0 ≤ r.kinds ∧ r.kinds ≤ 62) = false := decide_eq_false h1
    have HW1 := Lib.hid (HW.out r.kinds 0 62)
    rw [d1] at HW1 HV
    clear h1 d1
    go_enter Tryz.func19, Tryz.ntmps19
    go_wp2_with fail
    refine (HW1.out _).mono ?_
    rintro e w1 ⟨rfl, rfl⟩
    go_wp2_with fail
    go_ret
    exact ⟨by rw [HV.out]; rfl, HB.out⟩
/-- Two times, as the machine compares them. -/
theorem u64_diff (s t k : Int) (hs : I64 s) (ht : I64 t) (hk : 0 ≤ k ∧ k ≤ 20000) : decide (IntKind.u64.wrap (IntKind.u64.wrap (max s t) - IntKind.u64.wrap (min s t)) ≤ IntKind.u64.wrap k) = decide (max s t - min s t ≤ k) := by
  obtain ⟨s0, s1⟩ := hs
  obtain ⟨t0, t1⟩ := ht
  have e : ∀ x : Int, IntKind.u64.wrap x = x % 18446744073709551616 := fun x => rfl
  rw [e, e, e, e]
  have h1 : (max s t % 18446744073709551616 - min s t % 18446744073709551616) % 18446744073709551616 = max s t - min s t := by
    rw [← Int.sub_emod, Int.emod_eq_of_lt (by omega) (by omega)]
  rw [h1, Int.emod_eq_of_lt (a := k) (by omega) (by omega)]
theorem run_max2 {P : Program} (ats : Array TypeId) (ty : TypeId) (x y : Int) (wx : World) : (Builtin.max_ ats ty #[.int .i64 x, .int .i64 y]).run P wx = .ok (.int .i64 (max x y)) wx := by
  have h : (if x < y then y else x) = max x y := by rw [Int.max_def]; split <;> split <;> omega
  rw [← h]
  simp [Builtin.max_, Builtin.max2, List.foldlM, Sem.run_pure]
theorem run_min2 {P : Program} (ats : Array TypeId) (ty : TypeId) (x y : Int) (wx : World) : (Builtin.min_ ats ty #[.int .i64 x, .int .i64 y]).run P wx = .ok (.int .i64 (min x y)) wx := by
  have h : (if y < x then y else x) = min x y := by rw [Int.min_def]; split <;> split <;> omega
  rw [← h]
  simp [Builtin.min_, Builtin.min2, List.foldlM, Sem.run_pure]
theorem close_any (r : Rel) (s t : Int) (w : World) (hs : I64 s) (ht : I64 t) (hk : 0 ≤ r.slack ∧ r.slack ≤ 20000) : Calls Tryz.prog 22 #[relV r, .int .i64 s, .int .i64 t] w fun e w' => e = .returned (.bool (near r s t)) ∧ Below w.heap.size w w' := by
  simp only [relV]
  have HB := Lib.hid ((Below.refl w.heap.size w).alloc (Nat.le_refl _) (.cells #[.int .i64 r.kinds, .int .i64 r.slack, .bool r.ord] 35))
  have HV := Lib.hid (show near r s t = _ from (u64_diff s t r.slack hs ht hk).symm)
  have hmx := fun W => run_max2 (P := Tryz.prog) #[3, 3] 3 s t W
  have hmn := fun W => run_min2 (P := Tryz.prog) #[3, 3] 3 s t W
  generalize max s t = mx at *
  generalize min s t = mn at *
  clear hs ht hk
  go_enter Tryz.func22, Tryz.ntmps22
  go_wp2_with fail
  go_ret
  exact ⟨by rw [HV.out]; rfl, HB.out⟩
end Go.Proofs.YtinknenfhohamaaGreatDoor
