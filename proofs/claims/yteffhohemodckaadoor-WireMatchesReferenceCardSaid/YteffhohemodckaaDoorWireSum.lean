/- What Sum of package wire comes to, over the table that the program's text lays. -/
import Derived.Test.YteffhohemodckaaDoorRows
import Derived.Test.YteffhohemodckaaDoorCrcMath
import Derived.WalkKit
import Derived.WalkSpells
import Derived.WalkLawsBesides
import Derived.Outline
import Derived.Lib.Hide
import Derived.Laws.BitsAllLaws
namespace Go.Proofs.YteffhohemodckaaDoor
open Go.RowKit

/-- The table of sixteen numbers lies in its variable. -/
def TableAt (w : World) : Prop := ∀ i : Nat, i < 16 → w.cell? ⟨0, i, none⟩ = some (.int .u32 ((nibs.getD i 0 : Nat) : Int))

theorem u32_xor_bv (x y : BitVec 32) : bits BinOp.xor IntKind.u32 (x.toNat : Int) (y.toNat : Int) = ((x ^^^ y).toNat : Int) := by
  rw [u32_xor_nat _ _ x.isLt y.isLt, BitVec.toNat_xor]
theorem u32_and15 (a : Nat) (h : a < 4294967296) : bits BinOp.and IntKind.u32 (a : Int) 15 = ((a % 16 : Nat) : Int) := by
  have := u32_and_nat a 15 h (by omega)
  rw [show ((15 : Nat) : Int) = 15 from rfl] at this
  rw [this, nat_mask4]
theorem nibs_lt (i : Nat) (h : i < 16) : nibs.getD i 0 < 4294967296 := by
  have hall : ∀ j : Fin 16, nibs.getD j.val 0 < 4294967296 := by decide
  exact hall ⟨i, h⟩
/-- One look-up of the table does four shifts. -/
theorem nib_step (A : BitVec 32) : bits BinOp.xor IntKind.u32 ((A.toNat : Int) / 16) ((nibs.getD (A.toNat % 16) 0 : Nat) : Int) = ((crcSteps 4 A).toNat : Int) := by
  have h1 : (A.toNat : Int) / (16 : Int) = ((A >>> 4).toNat : Int) := by
    rw [BitVec.toNat_ushiftRight, Nat.shiftRight_eq_div_pow]; omega
  have h2 : (nibs.getD (A.toNat % 16) 0 : Nat) = (BitVec.ofNat 32 (nibs.getD (A.toNat % 16) 0)).toNat := by
    rw [BitVec.toNat_ofNat, Nat.mod_eq_of_lt (nibs_lt _ (by omega))]
  rw [h1, h2, u32_xor_bv, ← crcSteps4]

theorem not_bits (x : BitVec 32) : wrap64 (bits BinOp.xor IntKind.u32 IntKind.u32.max (x.toNat : Int)) = ((4294967295 - x.toNat : Nat) : Int) := by
  have h1 : IntKind.u32.max = ((BitVec.allOnes 32).toNat : Int) := by decide
  have h2 : (BitVec.allOnes 32 ^^^ x).toNat = 4294967295 - x.toNat := by rw [BitVec.allOnes_xor, BitVec.toNat_not]
  rw [h1, u32_xor_bv, h2]
  unfold wrap64
  have := x.isLt
  omega
theorem ret_int {k : IntKind} {a b : Int} (h : a = b) : Ending.returned (.int k a) = .returned (.int k b) := by rw [h]

set_option maxHeartbeats 1000000 in
theorem sum_any (s : ByteArray) (w : World) (hs : s.size ≤ 4611686018427387903) (hT : TableAt w) :
    Calls Tryd.prog 21 #[.string s] w fun e w' => e = .returned (.int .i64 ((crc s.data.toList).toNat : Nat)) ∧ w = w' := by
  have HT := Lib.hid hT
  clear hT
  go_enter Tryd.func21, Tryd.ntmps21
  go_wp2
  go_loop [3, 7] (fun r i => ∃ (j : Nat) (x : BitVec 32), j ≤ s.size ∧ i = .int .i64 j ∧ r = .int .u32 (x.toNat : Nat) ∧ x = crcReg 0xFFFFFFFF#32 (s.data.toList.take j)) (fun _ i => s.size - (intOf i).toNat)
  case atStart => exact ⟨0, _, by omega, rfl, rfl, rfl⟩
  case round =>
    obtain ⟨j, x, hj, rfl, rfl, hx⟩ := hrel
    have HX := Lib.hid hx
    clear hx
    by_cases hlt : j < s.size
    · obtain ⟨A, hA⟩ : ∃ A, A = x ^^^ BitVec.ofNat 32 s[j].toNat := ⟨_, rfl⟩
      obtain ⟨B, hB⟩ : ∃ B, B = crcSteps 4 A := ⟨_, rfl⟩
      obtain ⟨C, hC⟩ : ∃ C, C = crcSteps 4 B := ⟨_, rfl⟩
      have hnext : C = crcReg 0xFFFFFFFF#32 (s.data.toList.take (j + 1)) := by
        rw [List.take_succ_eq_append_getElem (by simpa using hlt), crcReg_snoc, ← HX.out, hC, hB, hA]
        show crcSteps 4 (crcSteps 4 _) = crcSteps 8 _
        rw [← crcSteps_add]; rfl
      have HN := Lib.hid hnext
      have e1 : bits BinOp.xor IntKind.u32 (x.toNat : Int) ((s[j].toNat : Int) % 4294967296) = (A.toNat : Int) := by
        have hb := s[j].toNat_lt
        have : ((s[j].toNat : Int) % 4294967296) = ((BitVec.ofNat 32 s[j].toNat).toNat : Int) := by rw [BitVec.toNat_ofNat]; omega
        rw [this, u32_xor_bv, hA]
      have e2 := u32_and15 A.toNat A.isLt
      have e3 := nib_step A
      have e4 := u32_and15 B.toNat B.isLt
      have e5 := nib_step B
      rw [← hB] at e3
      rw [← hC] at e5
      have c1 := HT.out (A.toNat % 16) (by omega)
      have c2 := HT.out (B.toNat % 16) (by omega)
      generalize nibs.getD (A.toNat % 16) 0 = t1 at e3 c1
      generalize nibs.getD (B.toNat % 16) 0 = t2 at e5 c2
      have i1 : A.toNat % 16 < 16 := by omega
      have i2 : B.toNat % 16 < 16 := by omega
      generalize A.toNat % 16 = m1 at e2 c1 i1
      generalize B.toNat % 16 = m2 at e4 c2 i2
      clear hnext hA hB hC
      go_wp2
      go_round
      case rel => exact ⟨j + 1, C, by omega, by go_num, rfl, HN.out⟩
      case measure => simp [intOf]; omega
    · obtain rfl : j = s.size := by omega
      have hx : crcReg 0xFFFFFFFF#32 s.data.toList = x := by rw [HX.out, List.take_of_length_le (by simp)]
      have hfin : (crc s.data.toList).toNat = 4294967295 - x.toNat := by rw [crc, hx, BitVec.toNat_not]
      have HF := Lib.hid hfin
      clear hx hfin
      go_wp2
      go_ret
      exact ⟨ret_int (by rw [HF.out]; exact not_bits x), rfl⟩
end Go.Proofs.YteffhohemodckaaDoor
