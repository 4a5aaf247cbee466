/- What PutString of package wire and the statements' helpers pick and NumberFrom come to. -/
import Derived.Test.YteffhohemodckaaDoorWireStr
import Derived.Test.YteffhohemodckaaDoorWireSum
namespace Go.Proofs.YteffhohemodckaaDoor
open Go.RowKit

theorem bcell {W w1 : World} (hb : Below W.heap.size W w1) : (∀ b o, b < W.heap.size → w1.cell? ⟨b, o, none⟩ = W.cell? ⟨b, o, none⟩) ∧ (∀ b o, b < W.heap.size → w1.frozen? ⟨b, o, none⟩ = W.frozen? ⟨b, o, none⟩) :=
  ⟨fun b o h => hb.cell (p := ⟨b, o, none⟩) h, fun b o h => hb.frozen (p := ⟨b, o, none⟩) h⟩

/-- What PutString returns. -/
def putSV (t : List UInt8) : Value := .tuple #[.string ⟨(encS t).toArray⟩, .int .i64 0]

set_option maxHeartbeats 1000000 in
theorem putStr_any (s : ByteArray) (w : World) (hs : s.size ≤ 65536) :
    Calls Tryd.prog 19 #[.string s] w fun e w' => e = .returned (putSV s.data.toList) ∧ Below w.heap.size w w' := by
  have hp := putInt_any (s.size : Int) w (by omega) (by omega)
  have HP := Lib.hid hp
  clear hp
  have hfin : (⟨(enc (s.size : Int)).toArray⟩ : ByteArray) ++ s = ⟨(encS s.data.toList).toArray⟩ := by
    apply ByteArray.ext
    simp [encS, ByteArray.data_append]
  have HF := Lib.hid hfin
  clear hfin
  have hle := enc_len (s.size : Int)
  have hle2 : (enc (s.size : Int)).length + s.size ≤ 9223372036854775807 := by omega
  clear hle
  go_enter Tryd.func19, Tryd.ntmps19
  go_wp2_with fail
  refine HP.out.mono ?_
  rintro e w' ⟨rfl, hb⟩
  go_wp2_with fail
  go_ret2
  exact ⟨by rw [HF.out]; rfl, hb⟩

set_option maxHeartbeats 1000000 in
theorem putStr_no (s : ByteArray) (w : World) (hs : 65536 < s.size) (hs2 : s.size ≤ 4611686018427387903) :
    Calls Tryd.prog 19 #[.string s] w fun e w' => e = .returned (.tuple #[.string ⟨#[]⟩, .int .i64 10]) ∧ w = w' := by
  go_enter Tryd.func19, Tryd.ntmps19
  go_wp2_with fail
  go_ret2
  exact ⟨rfl, rfl⟩

def pick (c n : Int) : Int := if c < 0 then (-(c + 1)) % n else c % n
theorem pick_lo {c n : Int} (hn : 1 ≤ n) : 0 ≤ pick c n := by unfold pick; split <;> exact Int.emod_nonneg _ (by omega)
theorem pick_hi {c n : Int} (hn : 1 ≤ n) : pick c n < n := by unfold pick; split <;> exact Int.emod_lt_of_pos _ (by omega)
theorem pick_any (c n : Int) (w : World) (h0 : -9223372036854775808 ≤ c) (h1 : c ≤ 9223372036854775807) (hn : 1 ≤ n) (hn2 : n ≤ 9223372036854775807) :
    Calls Tryd.prog 14 #[.int .i64 c, .int .i64 n] w fun e w' => e = .returned (.int .i64 (pick c n)) ∧ w = w' := by
  by_cases hc : c < 0
  · go_enter Tryd.func14, Tryd.ntmps14
    go_wp2
    go_ret
    refine ⟨ret_int ?_, rfl⟩
    unfold pick
    rw [if_pos hc, ← Int.tmod_eq_emod_of_nonneg (by omega), Int.neg_tmod]
  · go_enter Tryd.func14, Tryd.ntmps14
    go_wp2
    go_ret
    refine ⟨ret_int ?_, rfl⟩
    unfold pick
    rw [if_neg (by omega)]

/-- What NumberFrom returns. -/
def numTab : List Int := [64, 128, 8192, 16384, 1073741824, 36028797018963968, 576460752303423488, 2]
def numberFrom (c : Int) : Int :=
  if 8 ≤ pick c 16 then -(pick (pick c 4611686018427387904 / 8) (numTab.getD (pick c 8).toNat 0)) else pick (pick c 4611686018427387904 / 8) (numTab.getD (pick c 8).toNat 0)
theorem numTab_range (i : Nat) (h : i < 8) : 2 ≤ numTab.getD i 0 ∧ numTab.getD i 0 ≤ 576460752303423488 := by
  have hall : ∀ j : Fin 8, 2 ≤ numTab.getD j.val 0 ∧ numTab.getD j.val 0 ≤ 576460752303423488 := by decide
  exact hall ⟨i, h⟩
theorem numberFrom_range (c : Int) : -4611686018427387903 ≤ numberFrom c ∧ numberFrom c ≤ 4611686018427387903 := by
  have h1 := pick_lo (c := c) (n := 8) (by omega)
  have h2 := pick_hi (c := c) (n := 8) (by omega)
  have h3 := numTab_range (pick c 8).toNat (by omega)
  have h4 := pick_lo (c := pick c 4611686018427387904 / 8) (n := numTab.getD (pick c 8).toNat 0) (by omega)
  have h5 := pick_hi (c := pick c 4611686018427387904 / 8) (n := numTab.getD (pick c 8).toNat 0) (by omega)
  unfold numberFrom
  split <;> omega

set_option maxHeartbeats 1000000 in
theorem numberFrom_any (c : Int) (w : World) (h0 : -9223372036854775808 ≤ c) (h1 : c ≤ 9223372036854775807) :
    Calls Tryd.prog 11 #[.int .i64 c] w fun e w' => e = .returned (.int .i64 (numberFrom c)) ∧ Below w.heap.size w w' := by
  have p1 := pick_lo (c := c) (n := 4611686018427387904) (by omega)
  have p2 := pick_hi (c := c) (n := 4611686018427387904) (by omega)
  have p3 := pick_lo (c := c) (n := 8) (by omega)
  have p4 := pick_hi (c := c) (n := 8) (by omega)
  have p5 := pick_lo (c := c) (n := 16) (by omega)
  have p6 := pick_hi (c := c) (n := 16) (by omega)
  go_enter Tryd.func11, Tryd.ntmps11
  go_wp2_with fail
  refine (pick_any c 4611686018427387904 _ h0 h1 (by omega) (by omega)).mono ?_
  rintro e w' ⟨rfl, rfl⟩
  go_wp2_with fail
  refine (pick_any c 8 _ h0 h1 (by omega) (by omega)).mono ?_
  rintro e w' ⟨rfl, rfl⟩
  go_wp2_with fail
  have hel : ∀ (i : Nat) (hi : i < 8), [Value.int IntKind.i64 64, Value.int IntKind.i64 128, Value.int IntKind.i64 8192, Value.int IntKind.i64 16384, Value.int IntKind.i64 1073741824, Value.int IntKind.i64 36028797018963968, Value.int IntKind.i64 576460752303423488, Value.int IntKind.i64 2][i] = Value.int IntKind.i64 (numTab.getD i 0) := by
    intro i hi
    match i, hi with
    | 0, _ => rfl
    | 1, _ => rfl
    | 2, _ => rfl
    | 3, _ => rfl
    | 4, _ => rfl
    | 5, _ => rfl
    | 6, _ => rfl
    | 7, _ => rfl
  rw [hel _ (by omega)]
  have hr := numTab_range (pick c 8).toNat (by omega)
  generalize hm : numTab.getD (pick c 8).toNat 0 = m at *
  refine (pick_any (pick c 4611686018427387904 / 8) m _ (by omega) (by omega) (by omega) (by omega)).mono ?_
  rintro e w' ⟨rfl, rfl⟩
  have p7 := pick_lo (c := pick c 4611686018427387904 / 8) (n := m) (by omega)
  have p8 := pick_hi (c := pick c 4611686018427387904 / 8) (n := m) (by omega)
  have HM := Lib.hid hm
  clear hm hel
  go_wp2_with fail
  refine (pick_any c 16 _ h0 h1 (by omega) (by omega)).mono ?_
  rintro e w' ⟨rfl, rfl⟩
  by_cases h8 : 8 ≤ pick c 16
  · go_wp2_with fail
    go_ret
    exact ⟨ret_int (by unfold numberFrom; rw [if_pos h8, HM.out]), (Below.refl _ _).alloc (Nat.le_refl _) _⟩
  · go_wp2_with fail
    go_ret
    exact ⟨ret_int (by unfold numberFrom; rw [if_neg (by omega), HM.out]), (Below.refl _ _).alloc (Nat.le_refl _) _⟩
end Go.Proofs.YteffhohemodckaaDoor
