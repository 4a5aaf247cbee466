/- WireRoundTrip: Int and String return what PutInt and PutString were given and the end of the encoding, wherever it is embedded. For every input. -/
import Derived.Test.YteffhohemodckaaDoorWireSane
import Derived.Deep.DeepCutAuto
namespace Go.Proofs.YteffhohemodckaaDoor
open Go.RowKit

theorem data_cat (a b c : ByteArray) : (a ++ b ++ c).data.toList = a.data.toList ++ b.data.toList ++ c.data.toList := by simp [ByteArray.data_append]
theorem size_cat (P Q : ByteArray) (l : List UInt8) : (P ++ ⟨l.toArray⟩ ++ Q : ByteArray).size = P.size + l.length + Q.size := by
  rw [ByteArray.size_append, ByteArray.size_append]; rfl
theorem int_mid (P Q : ByteArray) (n : Int) (h0 : -4611686018427387903 ≤ n) (h1 : n ≤ 4611686018427387903) :
    intOut (P ++ ⟨(enc n).toArray⟩ ++ Q).data.toList (P.size : Int) = (n, ((P.size + (enc n).length : Nat) : Int), 0) := by
  refine intOut_some (by simp) (readInt_enc (rest := Q.data.toList) h0 h1 ?_)
  rw [data_cat]
  have : P.data.toList.length = P.size := by simp
  rw [← this, List.append_assoc, List.drop_left]
theorem str_mid (P Q T : ByteArray) (h : T.size ≤ 65536) :
    strOut (P ++ ⟨(encS T.data.toList).toArray⟩ ++ Q).data.toList (P.size : Int) = (T.data.toList, ((P.size + (encS T.data.toList).length : Nat) : Int), 0) := by
  refine strOut_some (by simp) (readStr_enc (rest := Q.data.toList) (by simpa using h) ?_)
  rw [data_cat]
  have : P.data.toList.length = P.size := by simp
  rw [← this, List.append_assoc, List.drop_left]

set_option maxRecDepth 100000 in
set_option maxHeartbeats 2000000 in
theorem round_any (c : Int) (t p q : ByteArray) (w : World) (h0 : -9223372036854775808 ≤ c) (h1 : c ≤ 9223372036854775807) (ht : t.size ≤ 9223372036854775807) (hp : p.size ≤ 9223372036854775807) (hq : q.size ≤ 9223372036854775807) (hT : TableAt w) (hl : 0 < w.heap.size) :
    Calls Tryd.prog 4 #[.int .i64 c, .string t, .agg #[.string p, .string q]] w fun e w' => e = .returned (.bool true) ∧ Below w.heap.size w w' := by
  have HT := Lib.hid hT
  clear hT
  have hb0 : Below w.heap.size w (w.alloc (.cells #[.string p, .string q] 36)) := (Below.refl _ _).alloc (Nat.le_refl _) _
  have k0 : (w.alloc (.cells #[.string p, .string q] 36)).cell? ⟨w.heap.size, 0, none⟩ = some (.string p) := by simp [go_sem]
  have k1 : (w.alloc (.cells #[.string p, .string q] 36)).cell? ⟨w.heap.size, 1, none⟩ = some (.string q) := by simp [go_sem]
  have hs0 : (w.alloc (.cells #[.string p, .string q] 36)).heap.size = w.heap.size + 1 := by simp
  have K0 := Lib.hid k0
  have K1 := Lib.hid k1
  have HS := Lib.hid hs0
  clear k0 k1 hs0
  go_enter Tryd.func4, Tryd.ntmps4
  go_wp2_with fail
  refine (sane_any _ (HT.out.below hb0 hl) (by simp)).mono ?_
  rintro e w1 ⟨rfl, hb1⟩
  have hb1' := hb0.trans (hb1.mono (by simp))
  go_wp2_with fail
  refine (numberFrom_any c w1 h0 h1).mono ?_
  rintro e w2 ⟨rfl, hb2⟩
  have hb2' := hb1'.trans (hb2.mono hb1'.size)
  obtain ⟨n0, n1⟩ := numberFrom_range c
  generalize numberFrom c = n at *
  have hb12 : Below (w.heap.size + 1) (w.alloc (.cells #[.string p, .string q] 36)) w2 := by
    have := hb1.trans (hb2.mono hb1.size)
    rwa [HS.out] at this
  have c0 : w2.cell? ⟨w.heap.size, 0, none⟩ = some (.string p) := (hb12.cell (p := ⟨w.heap.size, 0, none⟩) (by simp)).trans K0.out
  have c1 : w2.cell? ⟨w.heap.size, 1, none⟩ = some (.string q) := (hb12.cell (p := ⟨w.heap.size, 1, none⟩) (by simp)).trans K1.out
  clear hb12 hb1 hb2
  go_upto_region 3 with fail
  go_cut [9] (fun v wx => ∃ P : ByteArray, P.size ≤ 200 ∧ v = .string P ∧ w2 = wx)
  case first =>
    by_cases hs : p.size ≤ 200
    · go_wp2_with fail
      go_meet
      exact ⟨_, by omega, rfl, rfl⟩
    · go_wp2_with fail
      go_meet
      exact ⟨_, by simp; omega, rfl, rfl⟩
  case rest =>
  obtain ⟨P, hP, rfl, rfl⟩ := hcut
  go_upto_region 4 with fail
  go_cut [10] (fun v wx => ∃ P : ByteArray, P.size ≤ 200 ∧ v = .string P ∧ w2 = wx)
  case first =>
    by_cases hs : q.size ≤ 200
    · go_wp2_with fail
      go_meet
      exact ⟨_, by omega, rfl, rfl⟩
    · go_wp2_with fail
      go_meet
      exact ⟨_, by simp; omega, rfl, rfl⟩
  case rest =>
  obtain ⟨Q, hQ, rfl, rfl⟩ := hcut
  go_upto_region 5 with fail
  go_cut [11] (fun v wx => ∃ P : ByteArray, P.size ≤ 200 ∧ v = .string P ∧ w2 = wx)
  case first =>
    by_cases hs : t.size ≤ 200
    · go_wp2_with fail
      go_meet
      exact ⟨_, by omega, rfl, rfl⟩
    · go_wp2_with fail
      go_meet
      exact ⟨_, by simp; omega, rfl, rfl⟩
  case rest =>
  obtain ⟨T, hT, rfl, rfl⟩ := hcut
  clear c0 c1 ht hp hq
  have l1 := enc_len n
  have l2 := encS_len T.data.toList
  have l3 : T.data.toList.length = T.size := by simp
  rw [l3] at l2
  clear l3
  go_wp2_with fail
  refine (putInt_any n w2 n0 n1).mono ?_
  rintro e w3 ⟨rfl, hb3⟩
  have hb3' := hb2'.trans (hb3.mono hb2'.size)
  go_wp2_with fail
  refine (putStr_any T w3 (by omega)).mono ?_
  rintro e w4 ⟨rfl, hb4⟩
  have hb4' := hb3'.trans (hb4.mono hb3'.size)
  clear hb3 hb4
  simp only [putSV]
  go_wp2_with fail
  refine (int_is (int_mid P Q n n0 n1) w4 (by rw [size_cat]; omega)).mono ?_
  rintro e w5 ⟨rfl, rfl⟩
  go_wp2_with fail
  refine (str_is (str_mid P Q T (by omega)) w4 (by rw [size_cat]; omega)).mono ?_
  rintro e w5 ⟨rfl, rfl⟩
  go_wp2_with fail
  go_ret
  exact ⟨rfl, hb4'⟩
end Go.Proofs.YteffhohemodckaaDoor
