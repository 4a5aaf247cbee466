/- What Int and String of package wire come to, and their counterparts of the reference: plain functions of the string and the offset; the world is left alone. What Int of package wire comes to, for every string and offset. -/
import Derived.Test.YthblehinmbgbdaaRows
import Derived.Test.YthblehinmbgbdaaG22
import Derived.WalkKit
import Derived.WalkSpells
import Derived.WalkLawsBesides
import Derived.Outline
import Derived.Lib.Hide
import Derived.Laws.BitsAllLaws
namespace Go.Proofs.Ythblehinmbgbdaa
open Go.RowKit

/-- What Int returns. -/
def intOut (s : List UInt8) (k : Int) : Int × Int × Int :=
  if k < 0 ∨ (s.length : Int) < k then (0, 0, 2) else
    match readInt s k.toNat with
    | none => (0, 0, 10)
    | some (n, next) => (n, (next : Int), 0)
def intV (r : Int × Int × Int) : Value := .tuple #[.int .i64 r.1, .int .i64 r.2.1, .int .i64 r.2.2]
theorem intOut_arg {s : List UInt8} {k : Int} (h : k < 0 ∨ (s.length : Int) < k) : intOut s k = (0, 0, 2) := by rw [intOut, if_pos h]
theorem intOut_none {s : List UInt8} {k : Nat} (hk : k ≤ s.length) (h : readInt s k = none) : intOut s k = (0, 0, 10) := by
  rw [intOut, if_neg (by omega), Int.toNat_natCast, h]
theorem intOut_some {s : List UInt8} {k next : Nat} {n : Int} (hk : k ≤ s.length) (h : readInt s k = some (n, next)) : intOut s k = (n, (next : Int), 0) := by
  rw [intOut, if_neg (by omega), Int.toNat_natCast, h]
theorem ret_intV {r : Int × Int × Int} {a b c : Int} (h : r = (a, b, c)) : Ending.returned (.tuple #[.int .i64 a, .int .i64 b, .int .i64 c]) = Ending.returned (intV r) := by rw [h]; rfl

set_option maxHeartbeats 1000000 in
theorem int_arg (s : ByteArray) (k : Int) (w : World) (_hs : s.size ≤ 4611686018427387903) (h : k < 0 ∨ (s.size : Int) < k) :
    Calls Try.prog 59 #[.string s, .int .i64 k] w fun e w' => e = .returned (intV (intOut s.data.toList k)) ∧ w = w' := by
  have hr := ret_intV (intOut_arg (s := s.data.toList) (k := k) (by simpa using h))
  have HR := Lib.hid hr
  clear hr
  by_cases h1 : k < 0
  · go_enter Try.func59, Try.ntmps59
    go_wp2
    go_ret3
    exact ⟨HR.out, rfl⟩
  · have h2 : (s.size : Int) < k := by omega
    clear h
    go_enter Try.func59, Try.ntmps59
    go_wp2
    go_ret3
    exact ⟨HR.out, rfl⟩

/-! ### The words' bits, as the walk spells them -/
theorem or_join (y x j : Nat) (hy : y < 128 ^ j) (hj : j < 9) (hx : x < 128) :
    bits BinOp.or IntKind.u64 (y : Int) (IntKind.u64.wrap (IntKind.u64.wrap (x : Int) * 2 ^ (7 * j))) = ((y + x * 128 ^ j : Nat) : Int) := by
  have hp : (128 : Nat) ^ j = 2 ^ (7 * j) := by rw [show (128 : Nat) = 2 ^ 7 from rfl, ← Nat.pow_mul]
  have hlt : x * 128 ^ j < 9223372036854775808 := by
    have h1 : x * 128 ^ j < 128 * 128 ^ j := Nat.mul_lt_mul_of_pos_right hx (Nat.pow_pos (by omega))
    have h2 : 128 * 128 ^ j = 128 ^ (j + 1) := by rw [Nat.pow_succ, Nat.mul_comm]
    have h3 : 128 ^ (j + 1) ≤ 128 ^ 9 := Nat.pow_le_pow_right (by omega) (by omega)
    have h4 : (128 : Nat) ^ 9 = 9223372036854775808 := by decide
    omega
  have hyl : y < 9223372036854775808 := by
    have h3 : 128 ^ j ≤ 128 ^ 9 := Nat.pow_le_pow_right (by omega) (by omega)
    have h4 : (128 : Nat) ^ 9 = 9223372036854775808 := by decide
    omega
  have e1 : IntKind.u64.wrap (IntKind.u64.wrap (x : Int) * 2 ^ (7 * j)) = ((x * 128 ^ j : Nat) : Int) := by
    have e0 : IntKind.u64.wrap (x : Int) = (x : Int) := by rw [IntKind.wrap_u64]; omega
    have e2 : (x : Int) * 2 ^ (7 * j) = ((x * 128 ^ j : Nat) : Int) := by rw [hp]; push_cast; rfl
    rw [e0, e2, IntKind.wrap_u64]; omega
  rw [e1, u64_or_nat _ _ (by omega) (by omega), Nat.or_comm, nat_join (7 * j) (x * 128 ^ j) y (by rw [hp]; exact Nat.mul_mod_left _ _) (by rw [← hp]; exact hy)]
  rw [Nat.add_comm]
theorem u8_and127 (c : Nat) (h : c < 256) : bits BinOp.and IntKind.u8 (c : Int) 127 = ((c % 128 : Nat) : Int) := by
  have := u8_and_nat c 127 h (by omega)
  rw [show ((127 : Nat) : Int) = 127 from rfl] at this
  rw [this, nat_mask7]
theorem u64_and1 (z : Nat) (h : z < 18446744073709551616) : bits BinOp.and IntKind.u64 (z : Int) 1 = ((z % 2 : Nat) : Int) := by
  have := u64_and_nat z 1 h (by omega)
  rw [show ((1 : Nat) : Int) = 1 from rfl] at this
  rw [this, nat_mask1]
theorem i64_xor_ones (x : Nat) (h : x < 9223372036854775808) : bits BinOp.xor IntKind.i64 (x : Int) (-1) = -(x : Int) - 1 := by
  show IntKind.i64.wrap ((BitVec.ofInt 64 (x : Int) ^^^ BitVec.ofInt 64 (-1)).toNat : Int) = _
  have e1 : BitVec.ofInt 64 (-1) = BitVec.allOnes 64 := by decide
  rw [e1, BitVec.xor_allOnes, BitVec.toNat_not, BitVec.ofInt_natCast, BitVec.toNat_ofNat, Nat.mod_eq_of_lt (by omega : x < 2 ^ 64)]
  simp [IntKind.wrap, IntKind.bits, IntKind.signed]
  omega
theorem i64_xor_zero (x : Nat) (h : x < 9223372036854775808) : bits BinOp.xor IntKind.i64 (x : Int) 0 = (x : Int) := by
  show IntKind.i64.wrap ((BitVec.ofInt 64 (x : Int) ^^^ BitVec.ofInt 64 0).toNat : Int) = _
  have e1 : BitVec.ofInt 64 0 = 0#64 := by decide
  rw [e1, BitVec.xor_zero, BitVec.ofInt_natCast, BitVec.toNat_ofNat, Nat.mod_eq_of_lt (by omega : x < 2 ^ 64)]
  simp [IntKind.wrap, IntKind.bits, IntKind.signed]
  omega
theorem unzig_bits (z : Nat) (h : z < 9223372036854775808) :
    bits BinOp.xor IntKind.i64 (wrap64 ((z : Int) / 2)) (wrap64 (-wrap64 (bits BinOp.and IntKind.u64 (z : Int) 1))) = unzig z := by
  have e0 : wrap64 ((z : Int) / 2) = ((z / 2 : Nat) : Int) := by unfold wrap64; omega
  rw [u64_and1 z (by omega), e0]
  unfold unzig
  by_cases hz : z % 2 = 1
  · rw [if_pos hz, hz, show wrap64 (-wrap64 ((1 : Nat) : Int)) = -1 by unfold wrap64; omega, i64_xor_ones _ (by omega)]
  · rw [if_neg hz, show z % 2 = 0 by omega, show wrap64 (-wrap64 ((0 : Nat) : Int)) = 0 by unfold wrap64; omega, i64_xor_zero _ (by omega)]

theorem pow_step {c y j : Nat} (hy : y < 128 ^ j) : y + c % 128 * 128 ^ j < 128 ^ (j + 1) := by
  have : c % 128 ≤ 127 := by omega
  have h1 : c % 128 * 128 ^ j ≤ 127 * 128 ^ j := Nat.mul_le_mul_right _ this
  rw [Nat.pow_succ]; omega
theorem pow9 {y j : Nat} (hy : y < 128 ^ j) (hj : j ≤ 9) : y < 9223372036854775808 := by
  have h3 : 128 ^ j ≤ 128 ^ 9 := Nat.pow_le_pow_right (by omega) hj
  have h4 : (128 : Nat) ^ 9 = 9223372036854775808 := by decide
  omega

set_option maxRecDepth 100000 in
set_option maxHeartbeats 2000000 in
theorem int_at (s : ByteArray) (k : Nat) (w : World) (hs : s.size ≤ 4611686018427387903) (hk : k ≤ s.size) :
    Calls Try.prog 59 #[.string s, .int .i64 k] w fun e w' => e = .returned (intV (intOut s.data.toList k)) ∧ w = w' := by
  have d1 : decide ((k : Int) < 0) = false := by simp
  have d2 : decide (s.size < k) = false := by simp; omega
  go_enter Try.func59, Try.ntmps59
  go_wp2
  go_loop [7, 19] (fun z i => ∃ j y : Nat, j ≤ 9 ∧ z = .int .u64 y ∧ i = .int .i64 j ∧ y < 128 ^ j ∧ scan s.data.toList k (9 - j) j y = readInt s.data.toList k)
    (fun _ i => 9 - (intOf i).toNat)
  case atStart => exact ⟨0, 0, by omega, rfl, rfl, by omega, rfl⟩
  case round =>
    obtain ⟨j, y, hj, rfl, rfl, hy, hsc⟩ := hrel
    by_cases hj9 : j < 9
    · obtain ⟨f, hf⟩ : ∃ f, 9 - j = f + 1 := ⟨8 - j, by omega⟩
      have hf2 : 9 - (j + 1) = f := by omega
      rw [hf] at hsc
      by_cases hlt : k + j < s.size
      · have hget : s.data.toList[k + j]? = some s[k + j] := by
          rw [List.getElem?_eq_getElem (by simpa using hlt)]; rfl
        have hc256 := s[k + j].toNat_lt
        obtain ⟨c, hc⟩ : ∃ c, s[k + j].toNat = c := ⟨_, rfl⟩
        have hc2 : c < 256 := by omega
        obtain ⟨y', hy'⟩ : ∃ y' : Nat, y' = y + c % 128 * 128 ^ j := ⟨_, rfl⟩
        have hyl : y' < 128 ^ (j + 1) := by rw [hy']; exact pow_step hy
        have hy9 : y' < 9223372036854775808 := pow9 hyl (by omega)
        have hor : bits BinOp.or IntKind.u64 (y : Int) (IntKind.u64.wrap (IntKind.u64.wrap (bits BinOp.and IntKind.u8 (c : Int) 127) * 2 ^ (7 * j))) = (y' : Int) := by
          rw [u8_and127 c hc2, or_join y (c % 128) j hy hj9 (by omega), hy']
        obtain ⟨n, hn⟩ : ∃ n, n = unzig y' := ⟨_, rfl⟩
        have hx : bits BinOp.xor IntKind.i64 (wrap64 ((y' : Int) / 2)) (wrap64 (-wrap64 (bits BinOp.and IntKind.u64 (y' : Int) 1))) = n := by rw [hn]; exact unzig_bits y' hy9
        have hx2 : bits BinOp.xor IntKind.i64 ((y' : Int) / 2) (wrap64 (-wrap64 (bits BinOp.and IntKind.u64 (y' : Int) 1))) = n := by
          have e0 : wrap64 ((y' : Int) / 2) = (y' : Int) / 2 := by unfold wrap64; omega
          rw [← e0]; exact hx
        have hnb := unzig_hi hy9
        rw [← hn] at hnb
        obtain ⟨hn0, hn1⟩ := hnb
        by_cases hb : 128 ≤ c
        · have hnext : scan s.data.toList k f (j + 1) y' = readInt s.data.toList k := by
            rw [← hsc, scan_more f hget (by omega), hc, hy']
          have HN := Lib.hid hnext
          have HY := Lib.hid hyl
          have HF := Lib.hid hf2
          have hd : decide ((c : Int) < 128) = false := by simp; omega
          have hd2 : decide (128 ≤ (c : Int)) = true := by simp; omega
          clear hnext hyl hsc hy hf hf2 hget hc256 hy' hn hx hx2 hn0 hn1
          go_wp2
          go_round
          case rel => exact ⟨j + 1, y', by omega, rfl, by go_num, HY.out, by rw [HF.out]; exact HN.out⟩
          case measure => simp [intOf]; omega
        · have hlen : k ≤ s.data.toList.length := by simpa using hk
          by_cases hz : c = 0 ∧ 0 < j
          · have hend : readInt s.data.toList k = none := by rw [← hsc, scan_bad f hget (by omega) (.inl (by rw [hc]; exact hz))]
            have HR := Lib.hid (ret_intV (intOut_none hlen hend))
            have b0 : ((c : Int) == 0) = true := by simp; omega
            have b1 : decide (0 < (j : Int)) = true := by simp; omega
            have hd : decide ((c : Int) < 128) = true := by simp; omega
            clear hend hsc hy hf hf2 hget hc256 hy' hyl hn hn0 hn1
            obtain ⟨rfl, hj0⟩ := hz
            go_wp2
            go_ret3
            exact ⟨HR.out, rfl⟩
          · by_cases hlo : n < -4611686018427387903
            · have hend : readInt s.data.toList k = none := by rw [← hsc, scan_bad f hget (by omega) (.inr (by rw [hc, ← hy', ← hn]; exact hlo))]
              have HR := Lib.hid (ret_intV (intOut_none hlen hend))
              have HU := Lib.hid hn
              have HV := Lib.hid hy'
              have HY := Lib.hid hy
              clear hend hsc hy hf hf2 hget hc256 hy' hyl hn
              have hd : decide ((c : Int) < 128) = true := by simp; omega
              by_cases h0 : c = 0
              · exfalso
                have hj0 : j = 0 := by omega
                have hy0 := HY.out
                rw [hj0] at hy0
                have := HU.out
                rw [HV.out, h0, show y = 0 by omega] at this
                simp [unzig] at this
                omega
              · have b0 : ((c : Int) == 0) = false := by simp; omega
                clear hz
                go_wp2
                go_ret3
                exact ⟨HR.out, rfl⟩
            · have hend : readInt s.data.toList k = some (n, k + j + 1) := by
                rw [← hsc, scan_end f hget (by omega) (by rw [hc, ← hy', ← hn]; rintro (h | h); exact hz h; exact hlo h), hc, ← hy', ← hn]
              have HR := Lib.hid (ret_intV (intOut_some hlen hend))
              have HU := Lib.hid hn
              have HV := Lib.hid hy'
              have HY := Lib.hid hy
              clear hend hsc hy hf hf2 hget hc256 hy' hyl hn
              have hd : decide ((c : Int) < 128) = true := by simp; omega
              by_cases h0 : c = 0
              · have hj0 : j = 0 := by omega
                have hy0 : y = 0 := by have := HY.out; rw [hj0] at this; omega
                have hn0 : n = 0 := by have := HU.out; rw [HV.out, h0, hy0] at this; simpa [unzig] using this
                clear hor hx hx2 hy9 hlo hb hd hz
                subst hj0; subst hy0; subst hn0; subst h0
                have hc0 : s[k].toNat = 0 := hc
                have a1 : bits BinOp.and IntKind.u8 0 127 = 0 := by decide
                have a2 : IntKind.u64.wrap 0 = 0 := by decide
                have a3 : bits BinOp.or IntKind.u64 0 0 = 0 := by decide
                have a4 : wrap64 0 = 0 := by unfold wrap64; decide
                have a5 : bits BinOp.and IntKind.u64 0 1 = 0 := by decide
                have a6 : bits BinOp.xor IntKind.i64 0 0 = 0 := by decide
                clear hc
                go_wp2
                go_ret3
                exact ⟨HR.out, rfl⟩
              · have b0 : ((c : Int) == 0) = false := by simp; omega
                clear hz
                go_wp2
                go_ret3
                exact ⟨HR.out, rfl⟩
      · have hend : readInt s.data.toList k = none := by rw [← hsc, scan_out f (by simp; omega)]
        have HR := Lib.hid (ret_intV (intOut_none (s := s.data.toList) (by simpa using hk) hend))
        clear hend hsc hy hf hf2
        have hge : (s.size : Int) ≤ (k : Int) + (j : Int) := by omega
        go_wp2
        go_ret3
        exact ⟨HR.out, rfl⟩
    · obtain rfl : j = 9 := by omega
      have hend : readInt s.data.toList k = none := by rw [← hsc]; rfl
      have HR := Lib.hid (ret_intV (intOut_none (s := s.data.toList) (by simpa using hk) hend))
      clear hend hsc hy
      go_wp2
      go_ret3
      exact ⟨HR.out, rfl⟩
end Go.Proofs.Ythblehinmbgbdaa

namespace Go.Proofs.Ythblehinmbgbdaa
open Go.RowKit

theorem int_any (s : ByteArray) (k : Int) (w : World) (hs : s.size ≤ 4611686018427387903) :
    Calls Try.prog 59 #[.string s, .int .i64 k] w fun e w' => e = .returned (intV (intOut s.data.toList k)) ∧ w = w' := by
  by_cases h : k < 0 ∨ (s.size : Int) < k
  · exact int_arg s k w hs h
  · obtain ⟨j, rfl⟩ := Int.eq_ofNat_of_zero_le (show 0 ≤ k by omega)
    exact int_at s j w hs (by omega)
end Go.Proofs.Ythblehinmbgbdaa
