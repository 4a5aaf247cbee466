/- WireTruncated: no proper prefix of an encoding is accepted, and the encodings of different integers are not prefixes of each other. For every input. -/
import Derived.Test.YteffhohemodckaaDoorWireSane
import Derived.Deep.DeepCutAuto
namespace Go.Proofs.YteffhohemodckaaDoor
open Go.RowKit

theorem put_is {c : Int} {A : ByteArray} (h : A = ⟨(enc c).toArray⟩) (w : World) (h0 : -4611686018427387903 ≤ c) (h1 : c ≤ 4611686018427387903) :
    Calls Tryd.prog 12 #[.int .i64 c] w fun e w' => e = .returned (.tuple #[.string A, .int .i64 0]) ∧ Below w.heap.size w w' := by
  rw [h]; exact putInt_any c w h0 h1
theorem puts_is {s A : ByteArray} (h : A = ⟨(encS s.data.toList).toArray⟩) (w : World) (hs : s.size ≤ 65536) :
    Calls Tryd.prog 19 #[.string s] w fun e w' => e = .returned (.tuple #[.string A, .int .i64 0]) ∧ Below w.heap.size w w' := by
  refine (putStr_any s w hs).mono ?_
  rintro e w' ⟨rfl, hb⟩
  exact ⟨by rw [h]; rfl, hb⟩
theorem int_part {c : Int} {A : ByteArray} (h : A = ⟨(enc c).toArray⟩) (h0 : -4611686018427387903 ≤ c) (h1 : c ≤ 4611686018427387903) (j : Nat) (hj : j < A.size) : intOut (A.extract 0 j).data.toList 0 = (0, 0, 10) := by
  have hl : A.size = (enc c).length := by rw [h]; rfl
  refine intOut_none (k := 0) (by omega) ?_
  rw [Lib.extract_data, h]
  simpa using readInt_part (j := j) h0 h1 (by omega)
theorem str_part {s A : ByteArray} (h : A = ⟨(encS s.data.toList).toArray⟩) (hs : s.size ≤ 65536) (j : Nat) (hj : j < A.size) : strOut (A.extract 0 j).data.toList 0 = ([], 0, 10) := by
  have hl : A.size = (encS s.data.toList).length := by rw [h]; rfl
  refine strOut_none (k := 0) (by omega) ?_
  rw [Lib.extract_data, h]
  simpa using readStr_part (t := s.data.toList) (j := j) (by simpa using hs) (by omega)

theorem prefix_iff {A B : ByteArray} {m n : Int} (hA : A = ⟨(enc m).toArray⟩) (hB : B = ⟨(enc n).toArray⟩) (m0 : -4611686018427387903 ≤ m) (m1 : m ≤ 4611686018427387903) (n0 : -4611686018427387903 ≤ n) (n1 : n ≤ 4611686018427387903) :
    ((B.extract 0 A.size).toList == A.toList) = decide (m = n) := by
  rw [ByteArray.toList_eq, ByteArray.toList_eq, Lib.extract_data]
  have hl : A.size = (enc m).length := by rw [hA]; rfl
  have e1 : A.data.toList = enc m := by rw [hA]
  have e2 : B.data.toList = enc n := by rw [hB]
  rw [e1, e2, hl, List.drop_zero, Nat.sub_zero]
  by_cases h : m = n
  · subst h
    simp
  · have : List.take (enc m).length (enc n) ≠ enc m := by
      intro e
      have h2 := List.take_append_drop (enc m).length (enc n)
      rw [e] at h2
      exact h (enc_inj (r := (enc n).drop (enc m).length) (t := []) m0 m1 n0 n1 (by simpa using h2))
    rw [decide_eq_false h]
    exact beq_eq_false_iff_ne.2 this

set_option maxRecDepth 100000 in
set_option maxHeartbeats 2000000 in
theorem trunc_any (c d : Int) (t : ByteArray) (at_ : Int) (w : World) (c0 : -9223372036854775808 ≤ c) (c1 : c ≤ 9223372036854775807) (d0 : -9223372036854775808 ≤ d) (d1 : d ≤ 9223372036854775807) (ht : t.size ≤ 9223372036854775807)
    (a0 : -9223372036854775808 ≤ at_) (a1 : at_ ≤ 9223372036854775807) (hT : TableAt w) (hl : 0 < w.heap.size) :
    Calls Tryd.prog 7 #[.int .i64 c, .int .i64 d, .string t, .int .i64 at_] w fun e w' => e = .returned (.bool true) ∧ Below w.heap.size w w' := by
  have HT := Lib.hid hT
  clear hT
  go_enter Tryd.func7, Tryd.ntmps7
  go_wp2_with fail
  refine (sane_any _ HT.out hl).mono ?_
  rintro e w1 ⟨rfl, hb1⟩
  clear HT
  obtain ⟨m0, m1⟩ := numberFrom_range c
  obtain ⟨n0, n1⟩ := numberFrom_range d
  have hc := fun w => numberFrom_any c w c0 c1
  have hd := fun w => numberFrom_any d w d0 d1
  have HC := Lib.hid hc
  have HD := Lib.hid hd
  clear hc hd
  generalize numberFrom c = m at *
  generalize numberFrom d = n at *
  go_wp2_with fail
  refine (HC.out w1).mono ?_
  rintro e w2 ⟨rfl, hb2⟩
  have hb := hb1.trans (hb2.mono hb1.size)
  clear hb1 hb2
  obtain ⟨A, hA⟩ : ∃ A : ByteArray, A = ⟨(enc m).toArray⟩ := ⟨_, rfl⟩
  obtain ⟨B, hB⟩ : ∃ B : ByteArray, B = ⟨(enc n).toArray⟩ := ⟨_, rfl⟩
  have hA1 : A.size ≤ 9 := by rw [hA]; exact enc_len m
  have hA2 : 1 ≤ A.size := by rw [hA]; exact enc_pos m
  have hB1 : B.size ≤ 9 := by rw [hB]; exact enc_len n
  have hB2 : 1 ≤ B.size := by rw [hB]; exact enc_pos n
  have HA := Lib.hid hA
  have HB := Lib.hid hB
  clear hA hB
  go_wp2_with fail
  refine (put_is HA.out w2 m0 m1).mono ?_
  rintro e w3 ⟨rfl, hb3⟩
  have hb := hb.trans (hb3.mono hb.size)
  clear hb3
  go_wp2_with fail
  refine (HD.out w3).mono ?_
  rintro e w4 ⟨rfl, hb4⟩
  have hb := hb.trans (hb4.mono hb.size)
  clear hb4
  go_wp2_with fail
  refine (put_is HB.out w4 n0 n1).mono ?_
  rintro e w5 ⟨rfl, hb5⟩
  have hb := hb.trans (hb5.mono hb.size)
  clear hb5
  go_upto_region 4 with fail
  go_cut [14, 15] (fun v u wx => ∃ T A : ByteArray, T.size ≤ 200 ∧ A = ⟨(encS T.data.toList).toArray⟩ ∧ v = .string A ∧ u = .int .i64 0 ∧ Below w.heap.size w wx)
  case first =>
    by_cases hs : t.size ≤ 200
    · obtain ⟨X, hX⟩ : ∃ X : ByteArray, X = ⟨(encS t.data.toList).toArray⟩ := ⟨_, rfl⟩
      have HX := Lib.hid hX
      clear hX
      go_wp2_with fail
      refine (puts_is HX.out w5 (by omega)).mono ?_
      rintro e w6 ⟨rfl, hb6⟩
      go_wp2_with fail
      go_meet
      exact ⟨_, _, by omega, HX.out, rfl, rfl, hb.trans (hb6.mono hb.size)⟩
    · obtain ⟨X, hX⟩ : ∃ X : ByteArray, X = ⟨(encS (t.extract 0 200).data.toList).toArray⟩ := ⟨_, rfl⟩
      have HX := Lib.hid hX
      clear hX
      go_wp2_with fail
      refine (puts_is HX.out w5 (by simp; omega)).mono ?_
      rintro e w6 ⟨rfl, hb6⟩
      go_wp2_with fail
      go_meet
      exact ⟨_, _, by simp; omega, HX.out, rfl, rfl, hb.trans (hb6.mono hb.size)⟩
  case rest =>
  obtain ⟨T, U, hT, hU, rfl, rfl, hb'⟩ := hcut
  have hU1 : U.size ≤ 209 := by
    rw [hU]; have := encS_len T.data.toList; have h3 : T.data.toList.length = T.size := by simp
    show (encS T.data.toList).length ≤ 209
    omega
  have hU2 : 1 ≤ U.size := by rw [hU]; exact encS_pos T.data.toList
  have HU := Lib.hid hU
  clear hU hb
  have q1 := pick_lo (c := at_) (n := (A.size : Int)) (by omega)
  have q2 := pick_hi (c := at_) (n := (A.size : Int)) (by omega)
  have q3 := pick_lo (c := at_) (n := (U.size : Int)) (by omega)
  have q4 := pick_hi (c := at_) (n := (U.size : Int)) (by omega)
  have hp1 := fun w => pick_any at_ (A.size : Int) w a0 a1 (by omega) (by omega)
  have hp2 := fun w => pick_any at_ (U.size : Int) w a0 a1 (by omega) (by omega)
  have HP1 := Lib.hid hp1
  have HP2 := Lib.hid hp2
  clear hp1 hp2
  generalize pick at_ (A.size : Int) = i at *
  generalize pick at_ (U.size : Int) = j at *
  obtain ⟨i, rfl⟩ := Int.eq_ofNat_of_zero_le q1
  obtain ⟨j, rfl⟩ := Int.eq_ofNat_of_zero_le q3
  have hz1 : ((A.size : Int) == 0) = false := beq_eq_false_iff_ne.2 (by omega)
  have hz2 : ((U.size : Int) == 0) = false := beq_eq_false_iff_ne.2 (by omega)
  go_wp2_with fail
  refine (HP1.out wc).mono ?_
  rintro e w6 ⟨rfl, rfl⟩
  go_wp2_with fail
  refine (int_is (s := A.extract 0 i) (int_part HA.out m0 m1 i (by omega)) wc (by simp; omega)).mono ?_
  rintro e w6 ⟨rfl, rfl⟩
  go_wp2_with fail
  refine (HP2.out wc).mono ?_
  rintro e w6 ⟨rfl, rfl⟩
  go_wp2_with fail
  refine (str_is (s := U.extract 0 j) (str_part HU.out (by omega) j (by omega)) wc (by simp; omega)).mono ?_
  rintro e w6 ⟨rfl, rfl⟩
  go_upto_region 9 with fail
  go_cut [22] (fun v wx => v = .bool (decide (m = n)) ∧ wc = wx)
  case first =>
    by_cases hmn : m = n
    · have hsz : A.size = B.size := by rw [HA.out, HB.out, hmn]
      have hsz2 : (A.size : Int) ≤ (B.size : Int) := by omega
      clear hsz
      have H := Lib.hid hmn
      clear hmn
      go_wp2_with fail
      go_meet
      exact ⟨congrArg Value.bool (prefix_iff HA.out HB.out m0 m1 n0 n1), rfl⟩
    · by_cases hsz : A.size ≤ B.size
      · have hsz2 : (A.size : Int) ≤ (B.size : Int) := by omega
        go_wp2_with fail
        go_meet
        exact ⟨congrArg Value.bool (prefix_iff HA.out HB.out m0 m1 n0 n1), rfl⟩
      · go_wp2_with fail
        go_meet
        exact ⟨by simp [hmn], rfl⟩
  case rest =>
  obtain ⟨rfl, rfl⟩ := hcut
  go_wp2_with fail
  refine (HC.out wc).mono ?_
  rintro e w6 ⟨rfl, hb6⟩
  have hb6' := hb'.trans (hb6.mono hb'.size)
  go_wp2_with fail
  refine (HD.out w6).mono ?_
  rintro e w7 ⟨rfl, hb7⟩
  have hb7' := hb6'.trans (hb7.mono hb6'.size)
  by_cases hmn : m = n
  · have h1 : decide (m = n) = true := by simp [hmn]
    have h2 : (m == n) = true := by simp [hmn]
    clear hmn
    go_wp2_with fail
    go_ret
    exact ⟨rfl, hb7'⟩
  · have h1 : decide (m = n) = false := by simp [hmn]
    have h2 : (m == n) = false := by simp [hmn]
    clear hmn
    go_wp2_with fail
    go_ret
    exact ⟨rfl, hb7'⟩
end Go.Proofs.YteffhohemodckaaDoor
