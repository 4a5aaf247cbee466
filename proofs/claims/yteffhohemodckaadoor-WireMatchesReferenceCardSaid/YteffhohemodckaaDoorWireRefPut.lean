/- The reference's PutInt: for every integer that has an encoding its bytes, else the error. -/
import Derived.Test.YteffhohemodckaaDoorWirePut2
import Derived.OwnWalk
namespace Go.Proofs.YteffhohemodckaaDoor
open Go.RowKit

theorem ret_int' {k : IntKind} {a b : Int} (h : a = b) : Ending.returned (.int k a) = .returned (.int k b) := by rw [h]

set_option maxHeartbeats 1000000 in
theorem refZig_any (n : Int) (w : World) (h0 : -4611686018427387903 ≤ n) (h1 : n ≤ 4611686018427387903) :
    Calls Tryd.prog 24 #[.int .i64 n] w fun e w' => e = .returned (.int .u64 ((zig n : Nat) : Int)) ∧ w = w' := by
  by_cases h : n < 0
  · have e : -n * 2 - 1 = ((zig n : Nat) : Int) := by
      unfold zig; rw [if_pos h]; omega
    have E := Lib.hid e
    clear e
    go_enter Tryd.func24, Tryd.ntmps24
    go_wp2
    go_ret
    exact ⟨ret_int' E.out, rfl⟩
  · have e : n * 2 = ((zig n : Nat) : Int) := by
      unfold zig; rw [if_neg h]; omega
    have E := Lib.hid e
    clear e
    go_enter Tryd.func24, Tryd.ntmps24
    go_wp2
    go_ret
    exact ⟨ret_int' E.out, rfl⟩

theorem pow9' {y f : Nat} (hy : y < 128 ^ (f + 1)) (hf : f ≤ 8) : y < 9223372036854775808 := by
  have h1 : 128 ^ (f + 1) ≤ 128 ^ 9 := Nat.pow_le_pow_right (by omega) (by omega)
  have h2 : (128 : Nat) ^ 9 = 9223372036854775808 := by decide
  omega

set_option maxRecDepth 100000 in
set_option maxHeartbeats 2000000 in
theorem refPut_any (c : Int) (w : World) (h0 : -4611686018427387903 ≤ c) (h1 : c ≤ 4611686018427387903) :
    Calls Tryd.prog 13 #[.int .i64 c] w fun e w' => e = .returned (.tuple #[.string ⟨(enc c).toArray⟩, .int .i64 0]) ∧ Below w.heap.size w w' := by
  obtain ⟨i0, hi, hz0, hz1, hz2⟩ := info_parts Tryd.infoU8
  go_enter Tryd.func13, Tryd.ntmps13
  go_wp2_with fail
  refine (refZig_any c _ h0 h1).mono ?_
  rintro e w' ⟨rfl, rfl⟩
  have hz := zig_lt h0 h1
  have hE : enc c = leb 9 (zig c) := rfl
  have HE := Lib.hid hE
  clear hE
  generalize hzc : zig c = z at *
  clear hzc
  have d1 : decide (c < -4611686018427387903) = false := by simp; omega
  have d2 : decide (4611686018427387903 < c) = false := by simp; omega
  go_wp2_with fail
  go_loopw [4, 5] (fun u v wr => ∃ (y f : Nat) (pre : List UInt8), u = .int .u64 y ∧ pre ++ leb (f + 1) y = leb 9 z ∧ pre.length + f = 8 ∧ y < 128 ^ (f + 1) ∧ wr.ownsRow w.heap.size 5 1 v pre.length (bcs pre) ∧ Below w.heap.size w wr) (fun u _ _ => (intOf u).toNat)
  case atStart => exact ⟨z, 8, [], rfl, by simp, by simp, by omega, World.ownsRow_nil _ _ _ _, Below.refl _ _⟩
  case round =>
    obtain ⟨y, f, pre, rfl, hpre, hlen, hy, hrow, hb⟩ := hrel
    have hbs := hb.size
    have hy9 : y < 9223372036854775808 := pow9' hy (by omega)
    by_cases hlt : y < 128
    · have d3 : decide (128 ≤ (y : Int)) = false := by simp; omega
      have hE2 : enc c = pre ++ [UInt8.ofNat y] := by rw [HE.out, ← hpre, leb_lo _ _ hlt]
      have hbc : bcs pre ++ [Value.int .u8 (y : Int)] = bcs (enc c) := by
        rw [hE2]; simp [bcs]; omega
      have hln : pre.length + 1 = (enc c).length := by rw [hE2]; simp
      have HBC := Lib.hid hbc
      have HL := Lib.hid hln
      clear hE2 hpre hy hbc hln
      go_wp2_with (at_builtin; refine wpList_append_own _ rfl _ _ 38 rfl w.heap.size 5 i0 (.int .u8 0) 1 1 Tryd.underlying38 hi hz0 hz1 hz2 rfl (by decide) _ _ _ rfl (hrow.alloc _) ⟨wr.heap.size, 0, none⟩ 1 1 [.int .u8 (y : Int)] rfl rfl (cell_one_new _ _ _) (by simp [Value.oneCell']) (by unfold maxLen; omega) (by omega) (by simp; omega) ?_; intro v' w1 hown' hgrow _; rw [HBC.out, HL.out] at hown'; have hcv := convert_owned (P := Tryd.prog) (src := 38) (dst := 9) Tryd.underlying38 Tryd.underlying5 Tryd.underlying9 hown'; clear hown')
      go_ret2
      exact ⟨rfl, (hb.alloc hbs _).grown hgrow (by simp; omega) (fun k hk => (hrow.lt k hk).1)⟩
    · have d3 : decide (128 ≤ (y : Int)) = true := by simp; omega
      obtain ⟨g, rfl⟩ : ∃ g, f = g + 1 := by
        refine ⟨f - 1, ?_⟩
        rcases Nat.eq_zero_or_pos f with rfl | h
        · omega
        · omega
      have hpre2 : (pre ++ [UInt8.ofNat (y % 128 + 128)]) ++ leb (g + 1) (y / 128) = leb 9 z := by rw [← hpre, leb_hi (g + 1) y (by omega), List.append_assoc]; rfl
      have hy2 : y / 128 < 128 ^ (g + 1) := by rw [Nat.pow_succ] at hy; omega
      have hbc : bcs pre ++ [Value.int .u8 ((y : Int) % 128 + 128)] = bcs (pre ++ [UInt8.ofNat (y % 128 + 128)]) := by
        simp [bcs]; omega
      have HBC := Lib.hid hbc
      have HP := Lib.hid hpre2
      have HY := Lib.hid hy2
      clear hpre hy hbc hpre2 hy2
      go_wp2_with (at_builtin; refine wpList_append_own _ rfl _ _ 38 rfl w.heap.size 5 i0 (.int .u8 0) 1 1 Tryd.underlying38 hi hz0 hz1 hz2 rfl (by decide) _ _ _ rfl (hrow.alloc _) ⟨wr.heap.size, 0, none⟩ 1 1 [.int .u8 ((y : Int) % 128 + 128)] rfl rfl (cell_one_new _ _ _) (by simp [Value.oneCell']) (by unfold maxLen; omega) (by omega) (by simp; omega) ?_; intro v' w1 hown' hgrow _; rw [HBC.out] at hown')
      go_roundw
      case rel => exact ⟨y / 128, g, _, by go_num, HP.out, by simp; omega, HY.out, by simpa using hown', (hb.alloc hbs _).grown hgrow (by simp; omega) (fun k hk => (hrow.lt k hk).1)⟩
      case measure => simp [intOf]; omega

set_option maxHeartbeats 1000000 in
theorem refPut_no (c : Int) (w : World) (h : c < -4611686018427387903 ∨ 4611686018427387903 < c) :
    Calls Tryd.prog 13 #[.int .i64 c] w fun e w' => e = .returned (.tuple #[.string ⟨#[]⟩, .int .i64 10]) ∧ w = w' := by
  by_cases h1 : c < -4611686018427387903
  · go_enter Tryd.func13, Tryd.ntmps13
    go_wp2_with fail
    go_ret2
    exact ⟨rfl, rfl⟩
  · have h2 : 4611686018427387903 < c := by omega
    go_enter Tryd.func13, Tryd.ntmps13
    go_wp2_with fail
    go_ret2
    exact ⟨rfl, rfl⟩
end Go.Proofs.YteffhohemodckaaDoor
