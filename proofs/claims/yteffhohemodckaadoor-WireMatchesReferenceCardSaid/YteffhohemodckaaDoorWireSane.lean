/- The fixed examples of the statements on package wire hold. -/
import Derived.Test.YteffhohemodckaaDoorWireMisc
namespace Go.Proofs.YteffhohemodckaaDoor
open Go.RowKit

theorem TableAt.below {w w' : World} (h : TableAt w) (hb : Below w.heap.size w w') (hl : 0 < w.heap.size) : TableAt w' := fun i hi => (hb.cell (p := ⟨0, i, none⟩) hl).trans (h i hi)

theorem put_at {c : Int} {l : List UInt8} (h : enc c = l) (w : World) (h0 : -4611686018427387903 ≤ c) (h1 : c ≤ 4611686018427387903) :
    Calls Tryd.prog 12 #[.int .i64 c] w fun e w' => e = .returned (.tuple #[.string ⟨l.toArray⟩, .int .i64 0]) ∧ Below w.heap.size w w' := by
  rw [← h]; exact putInt_any c w h0 h1
theorem int_is {s : ByteArray} {k a b c : Int} (h : intOut s.data.toList k = (a, b, c)) (w : World) (hs : s.size ≤ 4611686018427387903) :
    Calls Tryd.prog 15 #[.string s, .int .i64 k] w fun e w' => e = .returned (.tuple #[.int .i64 a, .int .i64 b, .int .i64 c]) ∧ w = w' := by
  refine (int_any s k w hs).mono ?_
  rintro e w' ⟨rfl, rfl⟩
  exact ⟨by rw [h]; rfl, rfl⟩
theorem str_is {s : ByteArray} {k : Int} {t : List UInt8} {b c : Int} (h : strOut s.data.toList k = (t, b, c)) (w : World) (hs : s.size ≤ 4611686018427387903) :
    Calls Tryd.prog 17 #[.string s, .int .i64 k] w fun e w' => e = .returned (.tuple #[.string ⟨t.toArray⟩, .int .i64 b, .int .i64 c]) ∧ w = w' := by
  refine (str_any s k w hs).mono ?_
  rintro e w' ⟨rfl, rfl⟩
  exact ⟨by rw [h]; rfl, rfl⟩
theorem puts_at {s : ByteArray} {l : List UInt8} (h : encS s.data.toList = l) (w : World) (hs : s.size ≤ 65536) :
    Calls Tryd.prog 19 #[.string s] w fun e w' => e = .returned (.tuple #[.string ⟨l.toArray⟩, .int .i64 0]) ∧ Below w.heap.size w w' := by
  refine (putStr_any s w hs).mono ?_
  rintro e w' ⟨rfl, hb⟩
  exact ⟨by rw [← h]; rfl, hb⟩
theorem sum_is {s : ByteArray} {n : Nat} (h : (crc s.data.toList).toNat = n) (w : World) (hs : s.size ≤ 4611686018427387903) (hT : TableAt w) :
    Calls Tryd.prog 21 #[.string s] w fun e w' => e = .returned (.int .i64 (n : Nat)) ∧ w = w' := by
  rw [← h]; exact sum_any s w hs hT

theorem f1 : enc (-64) = [127] := by decide
theorem f2 : enc 64 = [128, 1] := by decide
theorem f3 : intOut [97, 172, 2, 98] 1 = (150, 3, 0) := by decide
theorem f4 : intOut [128, 0] 0 = (0, 0, 10) := by decide
theorem f5 : encS [97, 98] = [4, 97, 98] := by decide
theorem f6 : strOut [4, 97, 98, 99] 0 = ([97, 98], 3, 0) := by decide
theorem f7 : strOut [4, 97] 0 = ([], 0, 10) := by decide
theorem f9 : intOut [] 1 = (0, 0, 2) := by decide
set_option maxRecDepth 100000 in
theorem f10 : (crc [49, 50, 51, 52, 53, 54, 55, 56, 57]).toNat = 3808858755 := by decide

set_option maxRecDepth 100000 in
set_option maxHeartbeats 2000000 in
theorem sane_any (w : World) (hT : TableAt w) (hl : 0 < w.heap.size) :
    Calls Tryd.prog 10 #[] w fun e w' => e = .returned (.bool true) ∧ Below w.heap.size w w' := by
  have HT := Lib.hid hT
  clear hT
  go_enter Tryd.func10, Tryd.ntmps10
  go_wp2_with fail
  refine (put_at f1 w (by omega) (by omega)).mono ?_
  rintro e w1 ⟨rfl, hb1⟩
  go_wp2_with fail
  refine (put_at f2 w1 (by omega) (by omega)).mono ?_
  rintro e w2 ⟨rfl, hb2⟩
  have hb2 := hb1.trans (hb2.mono hb1.size)
  clear hb1
  go_wp2_with fail
  refine (int_is (s := ⟨#[97, 172, 2, 98]⟩) (k := 1) f3 w2 (by decide)).mono ?_
  rintro e w3 ⟨rfl, rfl⟩
  go_wp2_with fail
  refine (int_is (s := ⟨#[128, 0]⟩) (k := 0) f4 w2 (by decide)).mono ?_
  rintro e w3 ⟨rfl, rfl⟩
  go_wp2_with fail
  refine (puts_at (s := ⟨#[97, 98]⟩) f5 w2 (by decide)).mono ?_
  rintro e w3 ⟨rfl, hb3⟩
  have hb3 := hb2.trans (hb3.mono hb2.size)
  clear hb2
  go_wp2_with fail
  refine (str_is (s := ⟨#[4, 97, 98, 99]⟩) (k := 0) f6 w3 (by decide)).mono ?_
  rintro e w4 ⟨rfl, rfl⟩
  go_wp2_with fail
  refine (str_is (s := ⟨#[4, 97]⟩) (k := 0) f7 w3 (by decide)).mono ?_
  rintro e w4 ⟨rfl, rfl⟩
  go_wp2_with fail
  refine (putInt_no 4611686018427387904 w3 (.inr (by omega))).mono ?_
  rintro e w4 ⟨rfl, rfl⟩
  go_wp2_with fail
  refine (int_is (s := ⟨#[]⟩) (k := 1) f9 w3 (by decide)).mono ?_
  rintro e w4 ⟨rfl, rfl⟩
  go_wp2_with fail
  refine (sum_is (s := ⟨#[49, 50, 51, 52, 53, 54, 55, 56, 57]⟩) f10 w3 (by decide) (HT.out.below hb3 hl)).mono ?_
  rintro e w4 ⟨rfl, rfl⟩
  go_wp2_with fail
  go_ret
  exact ⟨rfl, hb3⟩
end Go.Proofs.YteffhohemodckaaDoor
