/- WireUnique: what Int and String accept at an offset is, up to the returned end, exactly what PutInt and PutString return for the value. For every input. -/
import Derived.Test.YteffhohemodckaaDoorWireTrunc
import Derived.RegionTactic
import Derived.BigRegion
namespace Go.Proofs.YteffhohemodckaaDoor
open Go.RowKit

/-- What Int returned fits what PutInt makes of it. -/
def IntFits (T : ByteArray) (k : Nat) (r : Int × Int × Int) : Prop :=
  (r = (0, 0, 10)) ∨ ∃ nx : Nat, -4611686018427387903 ≤ r.1 ∧ r.1 ≤ 4611686018427387903 ∧ r = (r.1, (nx : Int), 0) ∧ k ≤ nx ∧ nx ≤ T.size ∧ (T.extract k nx).data.toList = enc r.1
theorem intFits (T : ByteArray) (k : Nat) (hk : k ≤ T.size) : IntFits T k (intOut T.data.toList k) := by
  have hk' : k ≤ T.data.toList.length := by simpa using hk
  cases hr : readInt T.data.toList k with
  | none => rw [intOut_none hk' hr]; exact .inl rfl
  | some p =>
    obtain ⟨n, nx⟩ := p
    rw [intOut_some hk' hr]
    obtain ⟨h0, h1, h2, rest, h3⟩ := readInt_some hr
    obtain ⟨h4, h5, -⟩ := readInt_bounds hr hk'
    refine .inr ⟨nx, h0, h1, rfl, by omega, by simpa using h5, ?_⟩
    rw [Lib.extract_data, h3, h2]
    simp
def StrFits (T : ByteArray) (k : Nat) (r : List UInt8 × Int × Int) : Prop :=
  (r = ([], 0, 10)) ∨ ∃ nx : Nat, r.1.length ≤ 65536 ∧ r = (r.1, (nx : Int), 0) ∧ k ≤ nx ∧ nx ≤ T.size ∧ (T.extract k nx).data.toList = encS r.1
theorem strFits (T : ByteArray) (k : Nat) (hk : k ≤ T.size) : StrFits T k (strOut T.data.toList k) := by
  have hk' : k ≤ T.data.toList.length := by simpa using hk
  cases hr : readStr T.data.toList k with
  | none => rw [strOut_none hk' hr]; exact .inl rfl
  | some p =>
    obtain ⟨t, nx⟩ := p
    rw [strOut_some hk' hr]
    obtain ⟨h0, h1, h2, rest, h3⟩ := readStr_some hk' hr
    refine .inr ⟨nx, h0, rfl, by have := encS_pos t; omega, by simpa using h2, ?_⟩
    rw [Lib.extract_data, h3, h1]
    simp

set_option maxRecDepth 100000 in
set_option maxHeartbeats 2000000 in
theorem uniq_any (s : ByteArray) (at_ : Int) (b : Int) (w : World) (hs : s.size ≤ 9223372036854775807) (a0 : -9223372036854775808 ≤ at_) (a1 : at_ ≤ 9223372036854775807) (b0 : 0 ≤ b) (b1 : b ≤ 255) (hT : TableAt w) (hl : 0 < w.heap.size) :
    Calls Tryd.prog 5 #[.string s, .int .i64 at_, .int .u8 b] w fun e w' => e = .returned (.bool true) ∧ Below w.heap.size w w' := by
  have HT := Lib.hid hT
  clear hT
  go_enter Tryd.func5, Tryd.ntmps5
  go_wp2_with fail
  refine (sane_any _ HT.out hl).mono ?_
  rintro e w1 ⟨rfl, hb1⟩
  clear HT
  obtain ⟨x, rfl⟩ : ∃ x : UInt8, b = (x.toNat : Int) := ⟨UInt8.ofNat b.toNat, by rw [UInt8.toNat_ofNat']; omega⟩
  have hcv : (convert 38 9 (.slice (some ⟨w1.heap.size, 0, none⟩) 1 1)).run Tryd.prog ((w1.alloc (.cells #[.int .u8 (x.toNat : Int)] 5)).drew) = .ok (.string ⟨#[x]⟩) ((w1.alloc (.cells #[.int .u8 (x.toNat : Int)] 5)).drew) := by
    refine run_convert_bytes_back _ 38 9 5 ⟨w1.heap.size, 0, none⟩ 1 [x] Tryd.underlying38 Tryd.underlying5 Tryd.underlying9 ?_
    intro j hj
    match j, hj with
    | 0, _ => simp [go_sem, Addr.add]
  go_upto_region 2 with fail
  go_cut [8] (fun v wx => ∃ T : ByteArray, T.size ≤ 301 ∧ v = .string T ∧ Below w.heap.size w wx)
  case first =>
    by_cases h3 : s.size ≤ 300
    · go_region
      all_goals
        go_wp2_with fail
        go_meet
        exact ⟨_, by rw [ByteArray.size_append]; show 1 + s.size ≤ 301; omega, rfl, (hb1.alloc hb1.size _).drew⟩
    · go_region
      all_goals
        go_wp2_with fail
        go_meet
        exact ⟨_, by rw [ByteArray.size_append]; show 1 + (s.extract 0 300).size ≤ 301; simp; omega, rfl, (hb1.alloc hb1.size _).drew⟩
  case rest =>
  obtain ⟨T, hT, rfl, hb⟩ := hcut
  clear hcv hb1
  have q1 := pick_lo (c := at_) (n := (T.size : Int) + 1) (by omega)
  have q2 := pick_hi (c := at_) (n := (T.size : Int) + 1) (by omega)
  have hp := fun w => pick_any at_ ((T.size : Int) + 1) w a0 a1 (by omega) (by omega)
  have HP := Lib.hid hp
  clear hp
  generalize pick at_ ((T.size : Int) + 1) = i at *
  obtain ⟨i, rfl⟩ := Int.eq_ofNat_of_zero_le q1
  go_wp2_with fail
  refine (HP.out wc).mono ?_
  rintro e w6 ⟨rfl, rfl⟩
  go_wp2_with fail
  go_loopw [38] (fun k wr => ∃ j : Nat, j ≤ 2 ∧ k = .int .i64 j ∧ Below w.heap.size w wr ∧ wc.heap.size < wr.heap.size ∧ wr.cell? ⟨wc.heap.size, 0, none⟩ = some (.int .i64 0) ∧ wr.cell? ⟨wc.heap.size, 1, none⟩ = some (.int .i64 i)) (fun k _ => 2 - (intOf k).toNat)
  case atStart => exact ⟨0, by omega, rfl, hb.alloc hb.size _, by simp, by simp [go_sem], by simp [go_sem]⟩
  case round =>
    obtain ⟨j, hj, rfl, hbr, hsz, k0, k1⟩ := hrel
    by_cases hj2 : j < 2
    · obtain ⟨k, hk, hcell⟩ : ∃ k : Nat, k ≤ T.size ∧ wr.cell? ⟨wc.heap.size, j, none⟩ = some (.int .i64 k) := by
        match j, hj2 with
        | 0, _ => exact ⟨0, by omega, k0⟩
        | 1, _ => exact ⟨i, by omega, k1⟩
      have K0 := Lib.hid k0
      have K1 := Lib.hid k1
      clear k0 k1
      have fI := intFits T k hk
      have fS := strFits T k hk
      have hI := int_any T (k : Int) wr (by omega)
      have hS := fun w => str_any T (k : Int) w (by omega)
      generalize intOut T.data.toList (k : Int) = r at *
      generalize strOut T.data.toList (k : Int) = u at *
      obtain ⟨n, nx, e1⟩ := r
      obtain ⟨t, nt, e2⟩ := u
      have FI := Lib.hid fI
      have FS := Lib.hid fS
      have CI := Lib.hid hI
      have CS := Lib.hid hS
      clear fI fS hI hS
      go_wp2_with fail
      refine CI.out.mono ?_
      rintro e w7 ⟨rfl, rfl⟩
      simp only [intV]
      go_wp2_with fail
      have nr : -4611686018427387903 ≤ n ∧ n ≤ 4611686018427387903 := by
        rcases FI.out with h | ⟨x, h1, h2, -⟩
        · simp only [Prod.mk.injEq] at h; omega
        · exact ⟨h1, h2⟩
      obtain ⟨A, hA⟩ : ∃ A : ByteArray, A = ⟨(enc n).toArray⟩ := ⟨_, rfl⟩
      have HA := Lib.hid hA
      clear hA
      refine (put_is HA.out wr nr.1 nr.2).mono ?_
      rintro e w8 ⟨rfl, hb8⟩
      have hb8' := hbr.trans (hb8.mono hbr.size)
      go_upto_region 8 with fail
      go_cut [94] (fun v wx => v = .bool false ∧ w8 = wx)
      case first =>
        rcases FI.out with h | ⟨m, h1, h2, h3, h4, h5, h6⟩
        · simp only [Prod.mk.injEq] at h
          obtain ⟨rfl, rfl, rfl⟩ := h
          go_wp2_with fail
          go_meet
          exact ⟨rfl, rfl⟩
        · simp only [Prod.mk.injEq, true_and] at h3
          obtain ⟨rfl, rfl⟩ := h3
          have heq : (T.extract k m).toList = A.toList := by rw [ByteArray.toList_eq, ByteArray.toList_eq, h6, HA.out]
          have g1 : decide ((m : Int) < (k : Int)) = false := by simp; omega
          have g2 : decide ((T.size : Int) < (m : Int)) = false := by simp; omega
          clear h6
          go_wp2_with fail
          go_meet
          exact ⟨congrArg Value.bool (by simp; omega), rfl⟩
      case rest =>
      obtain ⟨rfl, rfl⟩ := hcut
      go_wp2_with fail
      refine (CS.out w8).mono ?_
      rintro e w9 ⟨rfl, rfl⟩
      simp only [strV]
      have HB := Lib.hid hb8'
      have hz8 := Nat.lt_of_lt_of_le hsz hb8.size
      have c8 : ∀ o, w8.cell? ⟨wc.heap.size, o, none⟩ = wr.cell? ⟨wc.heap.size, o, none⟩ := fun o => hb8.cell (p := ⟨wc.heap.size, o, none⟩) hsz
      have C8 := Lib.hid c8
      clear hcell c8 hbr hb8 hb8' CI CS FI HA nr
      rcases FS.out with h | ⟨m, h1, h2, h3, h4, h5⟩
      · simp only [Prod.mk.injEq] at h
        obtain ⟨rfl, rfl, rfl⟩ := h
        obtain ⟨B, hB⟩ : ∃ B : ByteArray, B = ⟨(encS (⟨#[]⟩ : ByteArray).data.toList).toArray⟩ := ⟨_, rfl⟩
        have HBB := Lib.hid hB
        clear hB FS
        go_wp2_with fail
        refine (puts_is (s := ⟨#[]⟩) HBB.out w8 (by decide)).mono ?_
        rintro e w9 ⟨rfl, hb9⟩
        have hb9' := HB.out.trans (hb9.mono HB.out.size)
        have hz9 := Nat.lt_of_lt_of_le hz8 hb9.size
        have c9 : ∀ o, w9.cell? ⟨wc.heap.size, o, none⟩ = w8.cell? ⟨wc.heap.size, o, none⟩ := fun o => hb9.cell (p := ⟨wc.heap.size, o, none⟩) hz8
        have C9 := Lib.hid c9
        clear c9 hb9
        go_wp2_with fail
        go_roundw
        case rel => exact ⟨j + 1, by omega, by go_num, hb9', hz9, (C9.out 0).trans ((C8.out 0).trans K0.out), (C9.out 1).trans ((C8.out 1).trans K1.out)⟩
        case measure => simp [intOf]; omega
      · simp only [Prod.mk.injEq, true_and] at h2
        obtain ⟨rfl, rfl⟩ := h2
        obtain ⟨B, hB⟩ : ∃ B : ByteArray, B = ⟨(encS (⟨t.toArray⟩ : ByteArray).data.toList).toArray⟩ := ⟨_, rfl⟩
        have heq : (T.extract k m).toList = B.toList := by rw [ByteArray.toList_eq, ByteArray.toList_eq, h5, hB]
        have g1 : decide ((m : Int) < (k : Int)) = false := by simp; omega
        have g2 : decide ((T.size : Int) < (m : Int)) = false := by simp; omega
        have HBB := Lib.hid hB
        have ht : (⟨t.toArray⟩ : ByteArray).size ≤ 65536 := h1
        clear hB FS h5
        generalize (⟨t.toArray⟩ : ByteArray) = t' at *
        go_wp2_with fail
        refine (puts_is (s := t') HBB.out w8 ht).mono ?_
        rintro e w9 ⟨rfl, hb9⟩
        have hb9' := HB.out.trans (hb9.mono HB.out.size)
        have hz9 := Nat.lt_of_lt_of_le hz8 hb9.size
        have c9 : ∀ o, w9.cell? ⟨wc.heap.size, o, none⟩ = w8.cell? ⟨wc.heap.size, o, none⟩ := fun o => hb9.cell (p := ⟨wc.heap.size, o, none⟩) hz8
        have C9 := Lib.hid c9
        clear c9 hb9
        go_wp2_with fail
        go_roundw
        case rel => exact ⟨j + 1, by omega, by go_num, hb9', hz9, (C9.out 0).trans ((C8.out 0).trans K0.out), (C9.out 1).trans ((C8.out 1).trans K1.out)⟩
        case measure => simp [intOf]; omega
    · go_wp2_with fail
      go_ret
      exact ⟨rfl, hbr⟩
end Go.Proofs.YteffhohemodckaaDoor
