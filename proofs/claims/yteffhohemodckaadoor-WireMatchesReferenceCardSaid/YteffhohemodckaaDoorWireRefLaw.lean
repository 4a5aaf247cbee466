/- WireMatchesReference: PutInt, Int, PutString, String and Sum agree with the reference implementation for all arguments. -/
import Derived.Test.YteffhohemodckaaDoorWireRefRest
import Derived.Test.YteffhohemodckaaDoorWireSane
import Derived.Test.YteffhohemodckaaDoorWireTrunc
import Derived.Deep.DeepCutAuto
namespace Go.Proofs.YteffhohemodckaaDoor
open Go.RowKit

/-- Both PutInts, for every integer. -/
theorem puts_same (c : Int) : ∃ (A : ByteArray) (e : Int), (∀ w, Calls Tryd.prog 12 #[.int .i64 c] w fun e' w' => e' = .returned (.tuple #[.string A, .int .i64 e]) ∧ Below w.heap.size w w') ∧
    (∀ w, Calls Tryd.prog 13 #[.int .i64 c] w fun e' w' => e' = .returned (.tuple #[.string A, .int .i64 e]) ∧ Below w.heap.size w w') := by
  by_cases h : c < -4611686018427387903 ∨ 4611686018427387903 < c
  · refine ⟨⟨#[]⟩, 10, fun w => (putInt_no c w h).mono ?_, fun w => (refPut_no c w h).mono ?_⟩
    · rintro e w' ⟨rfl, rfl⟩; exact ⟨rfl, Below.refl _ _⟩
    · rintro e w' ⟨rfl, rfl⟩; exact ⟨rfl, Below.refl _ _⟩
  · exact ⟨_, 0, fun w => putInt_any c w (by omega) (by omega), fun w => refPut_any c w (by omega) (by omega)⟩

theorem ints_same (s : ByteArray) (c : Int) (hs : s.size ≤ 4611686018427387903) : ∃ (a x e : Int), (∀ w, Calls Tryd.prog 15 #[.string s, .int .i64 c] w fun e' w' => e' = .returned (.tuple #[.int .i64 a, .int .i64 x, .int .i64 e]) ∧ w = w') ∧
    (∀ w, Calls Tryd.prog 16 #[.string s, .int .i64 c] w fun e' w' => e' = .returned (.tuple #[.int .i64 a, .int .i64 x, .int .i64 e]) ∧ Below w.heap.size w w') :=
  ⟨_, _, _, fun w => int_any s c w hs, fun w => refInt_any s c w hs⟩
theorem strs_same (s : ByteArray) (c : Int) (hs : s.size ≤ 4611686018427387903) : ∃ (a : ByteArray) (x e : Int), (∀ w, Calls Tryd.prog 17 #[.string s, .int .i64 c] w fun e' w' => e' = .returned (.tuple #[.string a, .int .i64 x, .int .i64 e]) ∧ w = w') ∧
    (∀ w, Calls Tryd.prog 18 #[.string s, .int .i64 c] w fun e' w' => e' = .returned (.tuple #[.string a, .int .i64 x, .int .i64 e]) ∧ Below w.heap.size w w') :=
  ⟨_, _, _, fun w => str_any s c w hs, fun w => refStr_any s c w hs⟩
theorem putSs_same (s : ByteArray) (hs : s.size ≤ 65536) : ∃ (a : ByteArray) (e : Int), (∀ w, Calls Tryd.prog 19 #[.string s] w fun e' w' => e' = .returned (.tuple #[.string a, .int .i64 e]) ∧ Below w.heap.size w w') ∧
    (∀ w, Calls Tryd.prog 20 #[.string s] w fun e' w' => e' = .returned (.tuple #[.string a, .int .i64 e]) ∧ Below w.heap.size w w') :=
  ⟨_, _, fun w => putStr_any s w hs, fun w => refPutStr_any s w hs⟩
theorem two_cells (w : World) (n m : Int) (t : TypeId) : ∀ q, q < 2 → ∃ c : Int, (w.alloc (.cells #[.int .i64 n, .int .i64 m] t)).cell? ⟨w.heap.size, q, none⟩ = some (.int .i64 c) := by
  intro q hq
  have h := fun j => World.cell?_alloc_mark w #[.int .i64 n, .int .i64 m] t (0, 0) j
  match q, hq with
  | 0, _ => exact ⟨n, h 0⟩
  | 1, _ => exact ⟨m, h 1⟩

set_option maxRecDepth 100000 in
set_option maxHeartbeats 2000000 in
theorem match_any (n : Int) (s : ByteArray) (at_ : Int) (w : World) (hs : s.size ≤ 9223372036854775807) (n0 : -9223372036854775808 ≤ n) (n1 : n ≤ 9223372036854775807) (a0 : -9223372036854775808 ≤ at_) (a1 : at_ ≤ 9223372036854775807) (hT : TableAt w) (hl : 0 < w.heap.size) :
    Calls Tryd.prog 3 #[.int .i64 n, .string s, .int .i64 at_] w fun e w' => e = .returned (.bool true) ∧ Below w.heap.size w w' := by
  have HT := Lib.hid hT
  clear hT
  have hnf := fun w => numberFrom_any n w n0 n1
  have HNF := Lib.hid hnf
  clear hnf
  go_enter Tryd.func3, Tryd.ntmps3
  go_wp2_with fail
  refine (sane_any _ HT.out hl).mono ?_
  rintro e w1 ⟨rfl, hb1⟩
  go_upto_region 2 with fail
  go_cut [8] (fun v wx => ∃ F : ByteArray, F.size ≤ 300 ∧ v = .string F ∧ w1 = wx)
  case first =>
    by_cases h3 : s.size ≤ 300
    · go_wp2_with fail
      go_meet
      exact ⟨_, h3, rfl, rfl⟩
    · go_wp2_with fail
      go_meet
      exact ⟨_, by simp; omega, rfl, rfl⟩
  case rest =>
  obtain ⟨F, hF, rfl, rfl⟩ := hcut
  go_wp2_with fail
  refine (HNF.out _).mono ?_
  rintro e w2 ⟨rfl, hb2⟩
  have hbw := hb1.trans (hb2.mono hb1.size)
  generalize numberFrom n = m
  go_wp2_with fail
  go_loopw [44] (fun i wr => ∃ j : Nat, j ≤ 2 ∧ i = .int .i64 j ∧ w2.heap.size < wr.heap.size ∧ (∀ q, q < 2 → ∃ c : Int, wr.cell? ⟨w2.heap.size, q, none⟩ = some (.int .i64 c)) ∧ Below w.heap.size w wr) (fun i _ => 2 - (intOf i).toNat)
  case atStart =>
    exact ⟨0, by omega, rfl, by simp, two_cells _ _ _ _, hbw.alloc hbw.size _⟩
  case round =>
    obtain ⟨j, hj, rfl, hsz, hcs, hbr⟩ := hrel
    by_cases hj2 : j < 2
    · obtain ⟨c, hc⟩ := hcs j hj2
      obtain ⟨A, e, hA, hB⟩ := puts_same c
      have HA := Lib.hid hA
      have HB := Lib.hid hB
      have HC := Lib.hid hcs
      clear hA hB hcs
      go_wp2_with fail
      refine (HA.out _).mono ?_
      rintro e3 w3 ⟨rfl, hb3⟩
      go_wp2_with fail
      refine (HB.out _).mono ?_
      rintro e4 w4 ⟨rfl, hb4⟩
      go_wp2_with fail
      have hb34 := hb3.trans (hb4.mono hb3.size)
      have hs34 := hb34.size
      refine ⟨⟨j + 1, by omega, by push_cast; rfl, by omega, fun q hq => ?_, hbr.trans (hb34.mono hbr.size)⟩, by simp [intOf]; omega⟩
      obtain ⟨c', hc'⟩ := HC.out q hq
      exact ⟨c', (hb34.cell (p := ⟨w2.heap.size, q, none⟩) hsz).trans hc'⟩
    · obtain rfl : j = 2 := by omega
      clear hcs
      obtain ⟨p, hp⟩ : ∃ p, pick at_ ((F.size : Int) + 2) = p := ⟨_, rfl⟩
      have hpk := fun w => pick_any at_ ((F.size : Int) + 2) w a0 a1 (by omega) (by omega)
      rw [hp] at hpk
      have HPK := Lib.hid hpk
      clear hpk hp hb1 hb2 hbw
      go_wp2_with fail
      refine (HPK.out _).mono ?_
      rintro e w5 ⟨rfl, rfl⟩
      go_wp2_with fail
      go_loopw [75] (fun i wx => ∃ j : Nat, j ≤ 2 ∧ i = .int .i64 j ∧ wr.heap.size < wx.heap.size ∧ (∀ q, q < 2 → ∃ c : Int, wx.cell? ⟨wr.heap.size, q, none⟩ = some (.int .i64 c)) ∧ Below w.heap.size w wx) (fun i _ => 2 - (intOf i).toNat)
      case atStart =>
        exact ⟨0, by omega, rfl, by simp, two_cells _ _ _ _, hbr.alloc hbr.size _⟩
      case round =>
        obtain ⟨j, hj, rfl, hsz', hcs', hbr'⟩ := hrel
        by_cases hj2 : j < 2
        · obtain ⟨c, hc⟩ := hcs' j hj2
          obtain ⟨a1, x1, e1, hA, hB⟩ := ints_same F c (by omega)
          obtain ⟨a2, x2, e2, hD, hE⟩ := strs_same F c (by omega)
          have HA := Lib.hid hA
          have HB := Lib.hid hB
          have HD := Lib.hid hD
          have HE := Lib.hid hE
          have HC := Lib.hid hcs'
          clear hA hB hD hE hcs'
          go_wp2_with fail
          refine (HA.out _).mono ?_
          rintro e3 w3 ⟨rfl, rfl⟩
          go_wp2_with fail
          refine (HB.out _).mono ?_
          rintro e4 w4 ⟨rfl, hb4⟩
          go_wp2_with fail
          refine (HD.out _).mono ?_
          rintro e5 w5 ⟨rfl, rfl⟩
          go_wp2_with fail
          refine (HE.out _).mono ?_
          rintro e6 w6 ⟨rfl, hb6⟩
          go_wp2_with fail
          have hb46 := hb4.trans (hb6.mono hb4.size)
          have hs46 := hb46.size
          refine ⟨⟨j + 1, by omega, by push_cast; rfl, by omega, fun q hq => ?_, hbr'.trans (hb46.mono hbr'.size)⟩, by simp [intOf]; omega⟩
          obtain ⟨c', hc'⟩ := HC.out q hq
          exact ⟨c', (hb46.cell (p := ⟨_, q, none⟩) hsz').trans hc'⟩
        · obtain rfl : j = 2 := by omega
          obtain ⟨a1, e1, hA, hB⟩ := putSs_same F (by omega)
          have HA := Lib.hid hA
          have HB := Lib.hid hB
          clear hA hB hcs'
          go_wp2_with fail
          refine (HA.out _).mono ?_
          rintro e3 w3 ⟨rfl, hb3⟩
          go_wp2_with fail
          refine (HB.out _).mono ?_
          rintro e4 w4 ⟨rfl, hb4⟩
          have hb34 := hb3.trans (hb4.mono hb3.size)
          have hbe := hbr'.trans (hb34.mono hbr'.size)
          go_wp2_with fail
          refine (sum_any F _ (by omega) (HT.out.below hbe hl)).mono ?_
          rintro e5 w5 ⟨rfl, rfl⟩
          go_wp2_with fail
          refine (refSum_any F _ (by omega)).mono ?_
          rintro e6 w6 ⟨rfl, rfl⟩
          go_wp2_with fail
          go_ret
          exact ⟨rfl, hbe⟩
end Go.Proofs.YteffhohemodckaaDoor
