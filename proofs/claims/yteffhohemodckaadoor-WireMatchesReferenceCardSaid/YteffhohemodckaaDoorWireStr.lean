/- What String, PutString of package wire come to, for every string and offset; and the helper that picks an index. -/
import Derived.Test.YteffhohemodckaaDoorWireInt
import Derived.Test.YteffhohemodckaaDoorWirePut2
import Derived.Lib.Strings
namespace Go.Proofs.YteffhohemodckaaDoor
open Go.RowKit

theorem int_any (s : ByteArray) (k : Int) (w : World) (hs : s.size ≤ 4611686018427387903) :
    Calls Tryd.prog 15 #[.string s, .int .i64 k] w fun e w' => e = .returned (intV (intOut s.data.toList k)) ∧ w = w' := by
  by_cases h : k < 0 ∨ (s.size : Int) < k
  · exact int_arg s k w hs h
  · obtain ⟨j, rfl⟩ := Int.eq_ofNat_of_zero_le (show 0 ≤ k by omega)
    exact int_at s j w hs (by omega)

/-- What String returns. -/
def strOut (s : List UInt8) (k : Int) : List UInt8 × Int × Int :=
  if k < 0 ∨ (s.length : Int) < k then ([], 0, 2) else
    match readStr s k.toNat with
    | none => ([], 0, 10)
    | some (t, next) => (t, (next : Int), 0)
def strV (r : List UInt8 × Int × Int) : Value := .tuple #[.string ⟨r.1.toArray⟩, .int .i64 r.2.1, .int .i64 r.2.2]
theorem strOut_arg {s : List UInt8} {k : Int} (h : k < 0 ∨ (s.length : Int) < k) : strOut s k = ([], 0, 2) := by rw [strOut, if_pos h]
theorem strOut_none {s : List UInt8} {k : Nat} (hk : k ≤ s.length) (h : readStr s k = none) : strOut s k = ([], 0, 10) := by
  rw [strOut, if_neg (by omega), Int.toNat_natCast, h]
theorem strOut_some {s t : List UInt8} {k next : Nat} (hk : k ≤ s.length) (h : readStr s k = some (t, next)) : strOut s k = (t, (next : Int), 0) := by
  rw [strOut, if_neg (by omega), Int.toNat_natCast, h]
theorem ret_strV {r : List UInt8 × Int × Int} {t : ByteArray} {b c : Int} (h : r = (t.data.toList, b, c)) : Ending.returned (.tuple #[.string t, .int .i64 b, .int .i64 c]) = Ending.returned (strV r) := by rw [h]; rfl

set_option maxHeartbeats 1000000 in
theorem str_any (s : ByteArray) (k : Int) (w : World) (hs : s.size ≤ 4611686018427387903) :
    Calls Tryd.prog 17 #[.string s, .int .i64 k] w fun e w' => e = .returned (strV (strOut s.data.toList k)) ∧ w = w' := by
  by_cases h : k < 0 ∨ (s.size : Int) < k
  · have hi := intOut_arg (s := s.data.toList) (k := k) (by simpa using h)
    have HR := Lib.hid (ret_strV (t := ⟨#[]⟩) (strOut_arg (s := s.data.toList) (k := k) (by simpa using h)))
    have hc := int_any s k w hs
    rw [hi] at hc
    have HC := Lib.hid hc
    clear hi hc
    go_enter Tryd.func17, Tryd.ntmps17
    go_wp2_with fail
    refine HC.out.mono ?_
    rintro e w' ⟨rfl, rfl⟩
    simp only [intV]
    go_wp2_with fail
    go_ret3
    exact ⟨HR.out, rfl⟩
  · obtain ⟨j, rfl⟩ := Int.eq_ofNat_of_zero_le (show 0 ≤ k by omega)
    have hj : j ≤ s.data.toList.length := by simp; omega
    have hc := int_any s j w hs
    cases hr : readInt s.data.toList j with
    | none =>
      have HR := Lib.hid (ret_strV (t := ⟨#[]⟩) (strOut_none hj (by rw [readStr, hr])))
      rw [intOut_none hj hr] at hc
      have HC := Lib.hid hc
      clear hc hr h
      go_enter Tryd.func17, Tryd.ntmps17
      go_wp2_with fail
      refine HC.out.mono ?_
      rintro e w' ⟨rfl, rfl⟩
      simp only [intV]
      go_wp2_with fail
      go_ret3
      exact ⟨HR.out, rfl⟩
    | some p =>
      obtain ⟨n, nx⟩ := p
      obtain ⟨hn0, hn1, -, -⟩ := readInt_some hr
      obtain ⟨hx1, hx2, hx3⟩ := readInt_bounds hr hj
      rw [intOut_some hj hr] at hc
      have hx2 : nx ≤ s.size := by simpa using hx2
      by_cases hb : n < 0 ∨ 65536 < n ∨ (s.data.toList.length : Int) - nx < n
      · have HR := Lib.hid (ret_strV (t := ⟨#[]⟩) (strOut_none hj (by rw [readStr, hr]; simp only; rw [if_pos hb])))
        have HC := Lib.hid hc
        have hl : s.data.toList.length = s.size := by simp
        rw [hl] at hb
        clear hc hr h hl hj
        rcases (show n < 0 ∨ (0 ≤ n ∧ 65536 < n) ∨ (0 ≤ n ∧ n ≤ 65536 ∧ (s.size : Int) - nx < n) by omega) with h1 | ⟨h1, h2⟩ | ⟨h1, h2, h3⟩
        all_goals
          clear hb
          go_enter Tryd.func17, Tryd.ntmps17
          go_wp2_with fail
          refine HC.out.mono ?_
          rintro e w' ⟨rfl, rfl⟩
          simp only [intV]
          go_wp2_with fail
          go_ret3
          exact ⟨HR.out, rfl⟩
      · have hl : s.data.toList.length = s.size := by simp
        obtain ⟨m, rfl⟩ := Int.eq_ofNat_of_zero_le (show 0 ≤ n by omega)
        have hm1 : m ≤ 65536 := by omega
        have hm2 : nx + m ≤ s.size := by omega
        have hst : strOut s.data.toList j = ((s.extract nx (nx + m)).data.toList, (nx : Int) + (m : Int), 0) := by
          rw [strOut_some hj (t := (s.data.toList.drop nx).take m) (next := nx + m) (by rw [readStr, hr]; simp only; rw [if_neg hb, Int.toNat_natCast]), Lib.extract_data]
          simp
        have HR := Lib.hid (ret_strV hst)
        have HC := Lib.hid hc
        have h3 : (m : Int) ≤ (s.size : Int) - nx := by omega
        clear hc hr h hl hj hst hb
        go_enter Tryd.func17, Tryd.ntmps17
        go_wp2_with fail
        refine HC.out.mono ?_
        rintro e w' ⟨rfl, rfl⟩
        simp only [intV]
        go_wp2_with fail
        go_ret3
        exact ⟨HR.out, rfl⟩
end Go.Proofs.YteffhohemodckaaDoor
