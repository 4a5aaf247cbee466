/- The reference's PutInt: for every integer that has an encoding its bytes, else the error. The reference's Int, PutString, String and Sum come to what those of package wire come to. -/
import Derived.Test.YthblehinmbgbdaaG26
import Derived.OwnWalk
import Derived.Test.YthblehinmbgbdaaG27
import Derived.Deep.DeepCutAuto
import Derived.Lib.Strings
namespace Go.Proofs.Ythblehinmbgbdaa
open Go.RowKit

theorem ret_int' {k : IntKind} {a b : Int} (h : a = b) : Ending.returned (.int k a) = .returned (.int k b) := by rw [h]

set_option maxHeartbeats 1000000 in
theorem refZig_any (n : Int) (w : World) (h0 : -4611686018427387903 ≤ n) (h1 : n ≤ 4611686018427387903) :
    Calls Try.prog 58 #[.int .i64 n] w fun e w' => e = .returned (.int .u64 ((zig n : Nat) : Int)) ∧ w = w' := by
  by_cases h : n < 0
  · have e : -n * 2 - 1 = ((zig n : Nat) : Int) := by
      unfold zig; rw [if_pos h]; omega
    have E := Lib.hid e
    clear e
    go_enter Try.func58, Try.ntmps58
    go_wp2
    go_ret
    exact ⟨ret_int' E.out, rfl⟩
  · have e : n * 2 = ((zig n : Nat) : Int) := by
      unfold zig; rw [if_neg h]; omega
    have E := Lib.hid e
    clear e
    go_enter Try.func58, Try.ntmps58
    go_wp2
    go_ret
    exact ⟨ret_int' E.out, rfl⟩

theorem pow9' {y f : Nat} (hy : y < 128 ^ (f + 1)) (hf : f ≤ 8) : y < 9223372036854775808 := by
  have h1 : 128 ^ (f + 1) ≤ 128 ^ 9 := Nat.pow_le_pow_right (by omega) (by omega)
  have h2 : (128 : Nat) ^ 9 = 9223372036854775808 := by decide
  omega

set_option maxRecDepth 100000 in
set_option maxHeartbeats 2000000 in
theorem refPut_any (c : Int) (w : World) (h0 : -4611686018427387903 ≤ c) (h1 : c ≤ 4611686018427387903) :
    Calls Try.prog 45 #[.int .i64 c] w fun e w' => e = .returned (.tuple #[.string ⟨(enc c).toArray⟩, .int .i64 0]) ∧ Below w.heap.size w w' := by
  obtain ⟨i0, hi, hz0, hz1, hz2⟩ := info_parts Try.infoU8
  go_enter Try.func45, Try.ntmps45
  go_wp2_with fail
  refine (refZig_any c _ h0 h1).mono ?_
  rintro e w' ⟨rfl, rfl⟩
  have hz := zig_lt h0 h1
  have hE : enc c = leb 9 (zig c) := rfl
  have HE := Lib.hid hE
  clear hE
  generalize hzc : zig c = z at *
  clear hzc
  have d1 : decide (c < -4611686018427387903) = false := by simp; omega
  have d2 : decide (4611686018427387903 < c) = false := by simp; omega
  go_wp2_with fail
  go_loopw [4, 5] (fun u v wr => ∃ (y f : Nat) (pre : List UInt8), u = .int .u64 y ∧ pre ++ leb (f + 1) y = leb 9 z ∧ pre.length + f = 8 ∧ y < 128 ^ (f + 1) ∧ wr.ownsRow w.heap.size 5 1 v pre.length (bcs pre) ∧ Below w.heap.size w wr) (fun u _ _ => (intOf u).toNat)
  case atStart => exact ⟨z, 8, [], rfl, by simp, by simp, by omega, World.ownsRow_nil _ _ _ _, Below.refl _ _⟩
  case round =>
    obtain ⟨y, f, pre, rfl, hpre, hlen, hy, hrow, hb⟩ := hrel
    have hbs := hb.size
    have hy9 : y < 9223372036854775808 := pow9' hy (by omega)
    by_cases hlt : y < 128
    · have d3 : decide (128 ≤ (y : Int)) = false := by simp; omega
      have hE2 : enc c = pre ++ [UInt8.ofNat y] := by rw [HE.out, ← hpre, leb_lo _ _ hlt]
      have hbc : bcs pre ++ [Value.int .u8 (y : Int)] = bcs (enc c) := by
        rw [hE2]; simp [bcs]; omega
      have hln : pre.length + 1 = (enc c).length := by rw [hE2]; simp
      have HBC := Lib.hid hbc
      have HL := Lib.hid hln
      clear hE2 hpre hy hbc hln
      go_wp2_with (at_builtin; refine wpList_append_own _ rfl _ _ 47 rfl w.heap.size 5 i0 (.int .u8 0) 1 1 Try.underlying47 hi hz0 hz1 hz2 rfl (by decide) _ _ _ rfl (hrow.alloc _) ⟨wr.heap.size, 0, none⟩ 1 1 [.int .u8 (y : Int)] rfl rfl (cell_one_new _ _ _) (by simp [Value.oneCell']) (by unfold maxLen; omega) (by omega) (by simp; omega) ?_; intro v' w1 hown' hgrow _; rw [HBC.out, HL.out] at hown'; have hcv := convert_owned (P := Try.prog) (src := 47) (dst := 9) Try.underlying47 Try.underlying5 Try.underlying9 hown'; clear hown')
      go_ret2
      exact ⟨rfl, (hb.alloc hbs _).grown hgrow (by simp; omega) (fun k hk => (hrow.lt k hk).1)⟩
    · have d3 : decide (128 ≤ (y : Int)) = true := by simp; omega
      obtain ⟨g, rfl⟩ : ∃ g, f = g + 1 := by
        refine ⟨f - 1, ?_⟩
        rcases Nat.eq_zero_or_pos f with rfl | h
        · omega
        · omega
      have hpre2 : (pre ++ [UInt8.ofNat (y % 128 + 128)]) ++ leb (g + 1) (y / 128) = leb 9 z := by rw [← hpre, leb_hi (g + 1) y (by omega), List.append_assoc]; rfl
      have hy2 : y / 128 < 128 ^ (g + 1) := by rw [Nat.pow_succ] at hy; omega
      have hbc : bcs pre ++ [Value.int .u8 ((y : Int) % 128 + 128)] = bcs (pre ++ [UInt8.ofNat (y % 128 + 128)]) := by
        simp [bcs]; omega
      have HBC := Lib.hid hbc
      have HP := Lib.hid hpre2
      have HY := Lib.hid hy2
      clear hpre hy hbc hpre2 hy2
      go_wp2_with (at_builtin; refine wpList_append_own _ rfl _ _ 47 rfl w.heap.size 5 i0 (.int .u8 0) 1 1 Try.underlying47 hi hz0 hz1 hz2 rfl (by decide) _ _ _ rfl (hrow.alloc _) ⟨wr.heap.size, 0, none⟩ 1 1 [.int .u8 ((y : Int) % 128 + 128)] rfl rfl (cell_one_new _ _ _) (by simp [Value.oneCell']) (by unfold maxLen; omega) (by omega) (by simp; omega) ?_; intro v' w1 hown' hgrow _; rw [HBC.out] at hown')
      go_roundw
      case rel => exact ⟨y / 128, g, _, by go_num, HP.out, by simp; omega, HY.out, by simpa using hown', (hb.alloc hbs _).grown hgrow (by simp; omega) (fun k hk => (hrow.lt k hk).1)⟩
      case measure => simp [intOf]; omega

set_option maxHeartbeats 1000000 in
theorem refPut_no (c : Int) (w : World) (h : c < -4611686018427387903 ∨ 4611686018427387903 < c) :
    Calls Try.prog 45 #[.int .i64 c] w fun e w' => e = .returned (.tuple #[.string ⟨#[]⟩, .int .i64 10]) ∧ w = w' := by
  by_cases h1 : c < -4611686018427387903
  · go_enter Try.func45, Try.ntmps45
    go_wp2_with fail
    go_ret2
    exact ⟨rfl, rfl⟩
  · have h2 : 4611686018427387903 < c := by omega
    go_enter Try.func45, Try.ntmps45
    go_wp2_with fail
    go_ret2
    exact ⟨rfl, rfl⟩
end Go.Proofs.Ythblehinmbgbdaa

namespace Go.Proofs.Ythblehinmbgbdaa
open Go.RowKit

set_option maxHeartbeats 1000000 in
theorem refInt_arg (s : ByteArray) (k : Int) (w : World) (_hs : s.size ≤ 4611686018427387903) (h : k < 0 ∨ (s.size : Int) < k) :
    Calls Try.prog 47 #[.string s, .int .i64 k] w fun e w' => e = .returned (intV (intOut s.data.toList k)) ∧ w = w' := by
  have hr := ret_intV (intOut_arg (s := s.data.toList) (k := k) (by simpa using h))
  have HR := Lib.hid hr
  clear hr
  by_cases h1 : k < 0
  · go_enter Try.func47, Try.ntmps47
    go_wp2
    go_ret3
    exact ⟨HR.out, rfl⟩
  · have h2 : (s.size : Int) < k := by omega
    clear h
    go_enter Try.func47, Try.ntmps47
    go_wp2
    go_ret3
    exact ⟨HR.out, rfl⟩

/-- One byte's share of the number, as the reference adds it. -/
theorem add_join (y x j : Nat) (hy : y < 128 ^ j) (hj : j < 9) (hx : x < 128) :
    y + x * 128 ^ j < 9223372036854775808 := by
  have h1 : y + x * 128 ^ j < 128 ^ (j + 1) := by
    have h1 : x * 128 ^ j ≤ 127 * 128 ^ j := Nat.mul_le_mul_right _ (by omega)
    rw [Nat.pow_succ]; omega
  exact pow9 h1 (by omega)

theorem add_bits (y c j : Nat) (hy : y < 128 ^ j) (hj : j < 9) : IntKind.u64.wrap ((y : Int) + IntKind.u64.wrap ((c : Int) % 128 * 2 ^ (7 * j))) = ((y + c % 128 * 128 ^ j : Nat) : Int) := by
  have h := add_join y (c % 128) j hy hj (by omega)
  have hp : (128 : Nat) ^ j = 2 ^ (7 * j) := by rw [show (128 : Nat) = 2 ^ 7 from rfl, ← Nat.pow_mul]
  have e2 : (c : Int) % 128 * 2 ^ (7 * j) = ((c % 128 * 128 ^ j : Nat) : Int) := by rw [hp]; push_cast; rfl
  rw [e2, IntKind.wrap_u64, IntKind.wrap_u64]
  generalize c % 128 * 128 ^ j = q at *
  omega

set_option maxRecDepth 100000 in
set_option maxHeartbeats 2000000 in
theorem refInt_at (s : ByteArray) (k : Nat) (w : World) (hs : s.size ≤ 4611686018427387903) (hk : k ≤ s.size) :
    Calls Try.prog 47 #[.string s, .int .i64 k] w fun e w' => e = .returned (intV (intOut s.data.toList k)) ∧ Below w.heap.size w w' := by
  have d1 : decide ((k : Int) < 0) = false := by simp
  have d2 : decide (s.size < k) = false := by simp; omega
  go_enter Try.func47, Try.ntmps47
  go_wp2_with fail
  go_loopw [7, 8] (fun z i wr => ∃ j y : Nat, w = wr ∧ j ≤ 9 ∧ z = .int .u64 y ∧ i = .int .i64 j ∧ y < 128 ^ j ∧ scan s.data.toList k (9 - j) j y = readInt s.data.toList k)
    (fun _ i _ => 9 - (intOf i).toNat)
  case atStart => exact ⟨0, 0, rfl, by omega, rfl, rfl, by omega, rfl⟩
  case round =>
    obtain ⟨j, y, rfl, hj, rfl, rfl, hy, hsc⟩ := hrel
    by_cases hj9 : j < 9
    · obtain ⟨f, hf⟩ : ∃ f, 9 - j = f + 1 := ⟨8 - j, by omega⟩
      have hf2 : 9 - (j + 1) = f := by omega
      rw [hf] at hsc
      have t1 : ((j : Int) < 9) = True := eq_true (by omega)
      by_cases hlt : k + j < s.size
      · have t2 : ((k : Int) + j < s.size) = True := eq_true (by omega)
        have hget : s.data.toList[k + j]? = some s[k + j] := by
          rw [List.getElem?_eq_getElem (by simpa using hlt)]; rfl
        have hc256 := s[k + j].toNat_lt
        obtain ⟨c, hc⟩ : ∃ c, s[k + j].toNat = c := ⟨_, rfl⟩
        have hc2 : c < 256 := by omega
        obtain ⟨y', hy'⟩ : ∃ y' : Nat, y' = y + c % 128 * 128 ^ j := ⟨_, rfl⟩
        have hyl : y' < 128 ^ (j + 1) := by rw [hy']; exact pow_step hy
        have hy9 : y' < 9223372036854775808 := pow9 hyl (by omega)
        have hadd : IntKind.u64.wrap ((y : Int) + IntKind.u64.wrap ((c : Int) % 128 * 2 ^ (7 * j))) = (y' : Int) := by rw [hy']; exact add_bits y c j hy hj9
        by_cases hb : 128 ≤ c
        · have hnext : scan s.data.toList k f (j + 1) y' = readInt s.data.toList k := by
            rw [← hsc, scan_more f hget (by omega), hc, hy']
          have HN := Lib.hid hnext
          have HY := Lib.hid hyl
          have HF := Lib.hid hf2
          have hd2 : decide (128 ≤ (c : Int)) = true := by simp; omega
          clear hnext hyl hsc hf hf2 hget hc256 hy' hy
          go_wp2_with fail
          exact ⟨⟨j + 1, y', trivial, by omega, rfl, by push_cast; rfl, HY.out, by rw [HF.out]; exact HN.out⟩, by simp [intOf]; omega⟩
        · have hlen : k ≤ s.data.toList.length := by simpa using hk
          have hd2 : decide (128 ≤ (c : Int)) = false := by simp; omega
          obtain ⟨n, hn⟩ : ∃ n, n = unzig y' := ⟨_, rfl⟩
          obtain ⟨hn0, hn1⟩ : -4611686018427387904 ≤ n ∧ n ≤ 4611686018427387903 := by rw [hn]; exact unzig_hi hy9
          have hz : readInt s.data.toList k = if (c = 0 ∧ 0 < j) ∨ n < -4611686018427387903 then none else some (n, k + j + 1) := by
            rw [← hsc]
            split
            · rename_i h; exact scan_bad f hget (by omega) (by rw [hc, ← hy', ← hn]; exact h)
            · rename_i h; rw [scan_end f hget (by omega) (by rw [hc, ← hy', ← hn]; exact h), hc, ← hy', ← hn]
          have hput : ∃ (A : ByteArray) (e : Int), (∀ w, Calls Try.prog 45 #[.int .i64 n] w fun e' w' => e' = .returned (.tuple #[.string A, .int .i64 e]) ∧ Below w.heap.size w w') ∧
              ((e = 0 ∧ readInt s.data.toList k = some (n, k + j + 1) ∧ A.toList = (s.extract k (k + j + 1)).toList) ∨ (e = 0 ∧ readInt s.data.toList k = none ∧ A.toList ≠ (s.extract k (k + j + 1)).toList) ∨ (e = 10 ∧ readInt s.data.toList k = none)) := by
            by_cases hlo : n < -4611686018427387903
            · refine ⟨⟨#[]⟩, 10, fun w => (refPut_no n w (Or.inl hlo)).mono ?_, Or.inr (Or.inr ⟨rfl, by rw [hz, if_pos (Or.inr hlo)]⟩)⟩
              rintro e w' ⟨rfl, rfl⟩
              exact ⟨rfl, Below.refl _ _⟩
            · refine ⟨⟨(enc n).toArray⟩, 0, fun w => refPut_any n w (by omega) hn1, ?_⟩
              have hext : (s.extract k (k + j + 1)).data.toList = (s.data.toList.drop k).take (j + 1) := by
                rw [Lib.extract_data]; congr 1; omega
              have hto : ∀ X : ByteArray, X.toList = X.data.toList := fun X => by rw [ByteArray.toList_eq]
              rw [hto, hto, hext]
              by_cases hbad : c = 0 ∧ 0 < j
              · right; left
                have hnone : readInt s.data.toList k = none := by rw [hz, if_pos (Or.inl hbad)]
                refine ⟨rfl, hnone, ?_⟩
                intro h
                have hd : s.data.toList.drop k = enc n ++ (s.data.toList.drop k).drop (j + 1) := by
                  have h' : enc n = (s.data.toList.drop k).take (j + 1) := h
                  rw [h', List.take_append_drop]
                rw [readInt_enc (by omega) hn1 hd] at hnone
                cases hnone
              · left
                have hsome : readInt s.data.toList k = some (n, k + j + 1) := by rw [hz, if_neg (by rintro (h | h); exact hbad h; exact hlo h)]
                refine ⟨rfl, hsome, ?_⟩
                obtain ⟨-, -, hx, rest, hd⟩ := readInt_some hsome
                rw [hd, List.take_left']
                · omega
          obtain ⟨A, e, hput, hres⟩ := hput
          have HP := Lib.hid hput
          have HN := Lib.hid hn
          clear hput hn hsc hf hf2 hget hc256 hy hy' hz
          by_cases hodd : y' % 2 = 1
          · have ho : ((y' : Int).tmod 2 == 1) = true := by rw [beq_iff_eq, Int.tmod_eq_emod_of_nonneg (by omega)]; omega
            have hE : -((y' : Int) / 2) - 1 = n := by rw [HN.out]; unfold unzig; rw [if_pos hodd]; omega
            have HE := Lib.hid hE
            clear hE
            rcases hres with ⟨rfl, hr, hA⟩ | ⟨rfl, hr, hA⟩ | ⟨rfl, hr⟩
            · have hb : (A.toList == (s.extract k (k + j + 1)).toList) = true := beq_iff_eq.2 hA
              have HR := Lib.hid (ret_intV (intOut_some hlen hr))
              clear hA hr
              go_wp2_with fail
              rw [HE.out]
              refine (HP.out _).mono ?_
              rintro e1 w1 ⟨rfl, hb1⟩
              go_wp2_with fail
              go_ret3
              exact ⟨HR.out, hb1⟩
            · have hb : (A.toList == (s.extract k (k + j + 1)).toList) = false := beq_eq_false_iff_ne.2 hA
              have HR := Lib.hid (ret_intV (intOut_none hlen hr))
              clear hA hr
              go_wp2_with fail
              rw [HE.out]
              refine (HP.out _).mono ?_
              rintro e1 w1 ⟨rfl, hb1⟩
              go_wp2_with fail
              go_ret3
              exact ⟨HR.out, hb1⟩
            · have HR := Lib.hid (ret_intV (intOut_none hlen hr))
              clear hr
              go_wp2_with fail
              rw [HE.out]
              refine (HP.out _).mono ?_
              rintro e1 w1 ⟨rfl, hb1⟩
              go_wp2_with fail
              go_ret3
              exact ⟨HR.out, hb1⟩
          · have ho : ((y' : Int).tmod 2 == 1) = false := by rw [beq_eq_false_iff_ne, Int.tmod_eq_emod_of_nonneg (by omega)]; omega
            have hE : (y' : Int) / 2 = n := by rw [HN.out]; unfold unzig; rw [if_neg hodd]; omega
            have HE := Lib.hid hE
            clear hE
            rcases hres with ⟨rfl, hr, hA⟩ | ⟨rfl, hr, hA⟩ | ⟨rfl, hr⟩
            · have hb : (A.toList == (s.extract k (k + j + 1)).toList) = true := beq_iff_eq.2 hA
              have HR := Lib.hid (ret_intV (intOut_some hlen hr))
              clear hA hr
              go_wp2_with fail
              rw [HE.out]
              refine (HP.out _).mono ?_
              rintro e1 w1 ⟨rfl, hb1⟩
              go_wp2_with fail
              go_ret3
              exact ⟨HR.out, hb1⟩
            · have hb : (A.toList == (s.extract k (k + j + 1)).toList) = false := beq_eq_false_iff_ne.2 hA
              have HR := Lib.hid (ret_intV (intOut_none hlen hr))
              clear hA hr
              go_wp2_with fail
              rw [HE.out]
              refine (HP.out _).mono ?_
              rintro e1 w1 ⟨rfl, hb1⟩
              go_wp2_with fail
              go_ret3
              exact ⟨HR.out, hb1⟩
            · have HR := Lib.hid (ret_intV (intOut_none hlen hr))
              clear hr
              go_wp2_with fail
              rw [HE.out]
              refine (HP.out _).mono ?_
              rintro e1 w1 ⟨rfl, hb1⟩
              go_wp2_with fail
              go_ret3
              exact ⟨HR.out, hb1⟩
      · have t2 : ((k : Int) + j < s.size) = False := eq_false (by omega)
        have hend : readInt s.data.toList k = none := by rw [← hsc, scan_out f (by simp; omega)]
        have HR := Lib.hid (ret_intV (intOut_none (s := s.data.toList) (by simpa using hk) hend))
        clear hend hsc hy hf hf2
        go_wp2_with fail
        go_ret3
        exact ⟨HR.out, Below.refl _ _⟩
    · obtain rfl : j = 9 := by omega
      have hend : readInt s.data.toList k = none := by rw [← hsc]; rfl
      have HR := Lib.hid (ret_intV (intOut_none (s := s.data.toList) (by simpa using hk) hend))
      clear hend hsc hy
      go_wp2_with fail
      go_ret3
      exact ⟨HR.out, Below.refl _ _⟩

theorem refInt_any (s : ByteArray) (k : Int) (w : World) (hs : s.size ≤ 4611686018427387903) :
    Calls Try.prog 47 #[.string s, .int .i64 k] w fun e w' => e = .returned (intV (intOut s.data.toList k)) ∧ Below w.heap.size w w' := by
  by_cases h : k < 0 ∨ (s.size : Int) < k
  · refine (refInt_arg s k w hs h).mono ?_
    rintro e w' ⟨rfl, rfl⟩
    exact ⟨rfl, Below.refl _ _⟩
  · obtain ⟨j, rfl⟩ := Int.eq_ofNat_of_zero_le (show 0 ≤ k by omega)
    exact refInt_at s j w hs (by omega)
end Go.Proofs.Ythblehinmbgbdaa
