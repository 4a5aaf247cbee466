/- The reference's PutString, String and Sum come to what those of package wire come to. -/
import Derived.Test.YteffhohemodckaaDoorWireRefInt
namespace Go.Proofs.YteffhohemodckaaDoor
open Go.RowKit

set_option maxHeartbeats 1000000 in
theorem refPutStr_any (s : ByteArray) (w : World) (hs : s.size ≤ 65536) :
    Calls Tryd.prog 20 #[.string s] w fun e w' => e = .returned (putSV s.data.toList) ∧ Below w.heap.size w w' := by
  have hp := refPut_any (s.size : Int) w (by omega) (by omega)
  have HP := Lib.hid hp
  clear hp
  have hfin : (⟨(enc (s.size : Int)).toArray⟩ : ByteArray) ++ s = ⟨(encS s.data.toList).toArray⟩ := by
    apply ByteArray.ext
    simp [encS, ByteArray.data_append]
  have HF := Lib.hid hfin
  clear hfin
  have hle := enc_len (s.size : Int)
  have hle2 : (enc (s.size : Int)).length + s.size ≤ 9223372036854775807 := by omega
  clear hle
  go_enter Tryd.func20, Tryd.ntmps20
  go_wp2_with fail
  refine HP.out.mono ?_
  rintro e w' ⟨rfl, hb⟩
  go_wp2_with fail
  go_ret2
  exact ⟨by rw [HF.out]; rfl, hb⟩

set_option maxHeartbeats 1000000 in
theorem refPutStr_no (s : ByteArray) (w : World) (hs : 65536 < s.size) (hs2 : s.size ≤ 4611686018427387903) :
    Calls Tryd.prog 20 #[.string s] w fun e w' => e = .returned (.tuple #[.string ⟨#[]⟩, .int .i64 10]) ∧ w = w' := by
  go_enter Tryd.func20, Tryd.ntmps20
  go_wp2_with fail
  go_ret2
  exact ⟨rfl, rfl⟩

set_option maxHeartbeats 1000000 in
theorem refStr_any (s : ByteArray) (k : Int) (w : World) (hs : s.size ≤ 4611686018427387903) :
    Calls Tryd.prog 18 #[.string s, .int .i64 k] w fun e w' => e = .returned (strV (strOut s.data.toList k)) ∧ Below w.heap.size w w' := by
  by_cases h : k < 0 ∨ (s.size : Int) < k
  · have hi := intOut_arg (s := s.data.toList) (k := k) (by simpa using h)
    have HR := Lib.hid (ret_strV (t := ⟨#[]⟩) (strOut_arg (s := s.data.toList) (k := k) (by simpa using h)))
    have hc := refInt_any s k w hs
    rw [hi] at hc
    have HC := Lib.hid hc
    clear hi hc
    go_enter Tryd.func18, Tryd.ntmps18
    go_wp2_with fail
    refine HC.out.mono ?_
    rintro e w' ⟨rfl, hbw⟩
    simp only [intV]
    go_wp2_with fail
    go_ret3
    exact ⟨HR.out, hbw⟩
  · obtain ⟨j, rfl⟩ := Int.eq_ofNat_of_zero_le (show 0 ≤ k by omega)
    have hj : j ≤ s.data.toList.length := by simp; omega
    have hc := refInt_any s j w hs
    cases hr : readInt s.data.toList j with
    | none =>
      have HR := Lib.hid (ret_strV (t := ⟨#[]⟩) (strOut_none hj (by rw [readStr, hr])))
      rw [intOut_none hj hr] at hc
      have HC := Lib.hid hc
      clear hc hr h
      go_enter Tryd.func18, Tryd.ntmps18
      go_wp2_with fail
      refine HC.out.mono ?_
      rintro e w' ⟨rfl, hbw⟩
      simp only [intV]
      go_wp2_with fail
      go_ret3
      exact ⟨HR.out, hbw⟩
    | some p =>
      obtain ⟨n, nx⟩ := p
      obtain ⟨hn0, hn1, -, -⟩ := readInt_some hr
      obtain ⟨hx1, hx2, hx3⟩ := readInt_bounds hr hj
      rw [intOut_some hj hr] at hc
      have hx2 : nx ≤ s.size := by simpa using hx2
      by_cases hb : n < 0 ∨ 65536 < n ∨ (s.data.toList.length : Int) - nx < n
      · have HR := Lib.hid (ret_strV (t := ⟨#[]⟩) (strOut_none hj (by rw [readStr, hr]; simp only; rw [if_pos hb])))
        have HC := Lib.hid hc
        have hl : s.data.toList.length = s.size := by simp
        rw [hl] at hb
        clear hc hr h hl hj
        rcases (show n < 0 ∨ (0 ≤ n ∧ 65536 < n) ∨ (0 ≤ n ∧ n ≤ 65536 ∧ (s.size : Int) - nx < n) by omega) with h1 | ⟨h1, h2⟩ | ⟨h1, h2, h3⟩
        all_goals
          clear hb
          go_enter Tryd.func18, Tryd.ntmps18
          go_wp2_with fail
          refine HC.out.mono ?_
          rintro e w' ⟨rfl, hbw⟩
          simp only [intV]
          go_wp2_with fail
          go_ret3
          exact ⟨HR.out, hbw⟩
      · have hl : s.data.toList.length = s.size := by simp
        obtain ⟨m, rfl⟩ := Int.eq_ofNat_of_zero_le (show 0 ≤ n by omega)
        have hm1 : m ≤ 65536 := by omega
        have hm2 : nx + m ≤ s.size := by omega
        have hst : strOut s.data.toList j = ((s.extract nx (nx + m)).data.toList, (nx : Int) + (m : Int), 0) := by
          rw [strOut_some hj (t := (s.data.toList.drop nx).take m) (next := nx + m) (by rw [readStr, hr]; simp only; rw [if_neg hb, Int.toNat_natCast]), Lib.extract_data]
          simp
        have HR := Lib.hid (ret_strV hst)
        have HC := Lib.hid hc
        have h3 : (m : Int) ≤ (s.size : Int) - nx := by omega
        clear hc hr h hl hj hst hb
        go_enter Tryd.func18, Tryd.ntmps18
        go_wp2_with fail
        refine HC.out.mono ?_
        rintro e w' ⟨rfl, hbw⟩
        simp only [intV]
        go_wp2_with fail
        go_ret3
        exact ⟨HR.out, hbw⟩

theorem odd_bv (x : BitVec 32) : ((x.toNat : Int) % (2 : Int) == (1 : Int)) = x.getLsbD 0 := by
  rw [BitVec.getLsbD, Nat.testBit_eq_decide_div_mod_eq, Bool.eq_iff_iff, beq_iff_eq, decide_eq_true_iff]
  omega
theorem half_bv (x : BitVec 32) : (x.toNat : Int) / (2 : Int) = ((x >>> 1).toNat : Int) := by
  rw [BitVec.toNat_ushiftRight, Nat.shiftRight_eq_div_pow]; omega

set_option maxHeartbeats 2000000 in
theorem refSum_any (s : ByteArray) (w : World) (hs : s.size ≤ 4611686018427387903) :
    Calls Tryd.prog 22 #[.string s] w fun e w' => e = .returned (.int .i64 ((crc s.data.toList).toNat : Nat)) ∧ w = w' := by
  go_enter Tryd.func22, Tryd.ntmps22
  go_wp2
  go_loop [3, 4] (fun r i => ∃ (j : Nat) (x : BitVec 32), j ≤ s.size ∧ i = .int .i64 j ∧ r = .int .u32 (x.toNat : Nat) ∧ x = crcReg 0xFFFFFFFF#32 (s.data.toList.take j)) (fun _ i => s.size - (intOf i).toNat)
  case atStart => exact ⟨0, _, by omega, rfl, rfl, rfl⟩
  case round =>
    obtain ⟨j, x, hj, rfl, rfl, hx⟩ := hrel
    have HX := Lib.hid hx
    clear hx
    by_cases hlt : j < s.size
    · obtain ⟨A, hA⟩ : ∃ A, A = x ^^^ BitVec.ofNat 32 s[j].toNat := ⟨_, rfl⟩
      have hnext : crcSteps 8 A = crcReg 0xFFFFFFFF#32 (s.data.toList.take (j + 1)) := by
        rw [List.take_succ_eq_append_getElem (by simpa using hlt), crcReg_snoc, ← HX.out, hA]
        rfl
      have HN := Lib.hid hnext
      have e1 : bits BinOp.xor IntKind.u32 (x.toNat : Int) ((s[j].toNat : Int) % 4294967296) = (A.toNat : Int) := by
        have hb := s[j].toNat_lt
        have : ((s[j].toNat : Int) % 4294967296) = ((BitVec.ofNat 32 s[j].toNat).toNat : Int) := by rw [BitVec.toNat_ofNat]; omega
        rw [this, u32_xor_bv, hA]
      have e1' : bits BinOp.xor IntKind.u32 (x.toNat : Int) ((s[j].toNat : Int)) = (A.toNat : Int) := by
        have hb := s[j].toNat_lt
        rw [← e1]; congr 1; omega
      clear hnext hA
      go_wp2
      go_loop [3, 5] (fun r k => ∃ (q : Nat) (y : BitVec 32), q ≤ 8 ∧ k = .int .i64 q ∧ r = .int .u32 (y.toNat : Nat) ∧ y = crcSteps q A) (fun _ k => 8 - (intOf k).toNat)
      case atStart => exact ⟨0, A, by omega, rfl, rfl, rfl⟩
      case round =>
        obtain ⟨q, y, hq, rfl, rfl, hy⟩ := hrel
        by_cases hq8 : q < 8
        · have hstep : crcSteps (q + 1) A = crcStep y := by rw [crcSteps_add, ← hy]; rfl
          have hodd := odd_bv y
          have hh := half_bv y
          by_cases hb : y.getLsbD 0 = true
          · rw [hb] at hodd
            have hx2 : bits BinOp.xor IntKind.u32 ((y >>> 1).toNat : Int) 2197175160 = ((crcStep y).toNat : Int) := by
              have := u32_xor_bv (y >>> 1) 0x82F63B78#32
              rw [crcStep, if_pos hb, ← this]; rfl
            generalize crcStep y = z at *
            generalize y >>> 1 = y1 at *
            have HS := Lib.hid hstep
            clear hstep hy hb
            go_wp2
            go_round
            case rel => exact ⟨q + 1, z, by omega, by go_num, rfl, HS.out.symm⟩
            case measure => simp [intOf]; omega
          · have hb' : y.getLsbD 0 = false := Bool.eq_false_iff.2 hb
            rw [hb'] at hodd
            have hx2 : crcStep y = y >>> 1 := crcStep_even hb'
            generalize y >>> 1 = y1 at *
            have HS := Lib.hid (hstep.trans hx2)
            clear hstep hy hb hb' hx2
            go_wp2
            go_round
            case rel => exact ⟨q + 1, y1, by omega, by go_num, rfl, HS.out.symm⟩
            case measure => simp [intOf]; omega
        · obtain rfl : q = 8 := by omega
          have HY := Lib.hid (hy.trans HN.out)
          clear hy
          go_wp2
          go_round
          case rel => exact ⟨j + 1, y, by omega, by go_num, rfl, HY.out⟩
          case measure => simp [intOf]; omega
    · obtain rfl : j = s.size := by omega
      have hx : crcReg 0xFFFFFFFF#32 s.data.toList = x := by rw [HX.out, List.take_of_length_le (by simp)]
      have hfin : (crc s.data.toList).toNat = 4294967295 - x.toNat := by rw [crc, hx, BitVec.toNat_not]
      have HF := Lib.hid hfin
      clear hx hfin
      go_wp2
      go_ret
      exact ⟨ret_int (by rw [HF.out]; exact not_bits x), rfl⟩
end Go.Proofs.YteffhohemodckaaDoor
