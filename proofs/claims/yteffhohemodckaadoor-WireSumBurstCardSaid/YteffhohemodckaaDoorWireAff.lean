/- WireSumAffine: the checksum of the exclusive or of three strings of the same length is the exclusive or of their checksums. For every input. -/
import Derived.Test.YteffhohemodckaaDoorWireSane
import Derived.Test.YteffhohemodckaaDoorBytes
import Derived.Deep.DeepCutAuto
import Derived.RegionTactic
import Derived.BigRegion
import Derived.Deep.QuietTactic
import Derived.BigQuiet
import Derived.OwnWalk
namespace Go.Proofs.YteffhohemodckaaDoor
open Go.RowKit

theorem slice_to' (t : ByteArray) (k : Nat) (h : k ≤ t.size) (wx : World) : (Instr.slice 9 (.string t) none (some (.int .i64 (k : Int))) none).run Tryd.prog wx = .ok (.string (t.extract 0 k)) wx := by
  have := run_slice_string_h (P := Tryd.prog) wx 9 t Tryd.underlying9 .i64 (k : Int) (by omega) (by omega)
  simpa using this
theorem quiet_same {P : Program} {f : FuncId} {args : Array Value} {w : World} {n : Nat} {v : Value}
    (h : Calls P f args (w.drewN n) fun e w' => e = .returned v ∧ w.drewN n = w') : Calls P f args (w.drewN n) fun e w'' => e = .returned v ∧ ∃ m, w'' = w.drewN m :=
  h.mono fun _ _ ⟨he, hm⟩ => ⟨he, n, hm.symm⟩
theorem ext_size (t : ByteArray) (n : Nat) : (t.extract 0 n).size ≤ n := by simp; omega
theorem ext_get (t : ByteArray) (n i : Nat) (hi : i < n) : (t.extract 0 n).data.toList.getD i 0 = t.data.toList.getD i 0 := by
  rw [Lib.extract_data, List.drop_zero, Nat.sub_zero, List.getD_eq_getElem?_getD, List.getD_eq_getElem?_getD, List.getElem?_take_of_lt hi]
theorem xor3_bytes (a b c : UInt8) : bits BinOp.xor IntKind.u8 (bits BinOp.xor IntKind.u8 (a.toNat : Int) (b.toNat : Int)) (c.toNat : Int) = ((a ^^^ b ^^^ c).toNat : Int) := by
  rw [u8_xor_nat _ _ a.toNat_lt b.toNat_lt, ← UInt8.toNat_xor, u8_xor_nat _ _ (a ^^^ b).toNat_lt c.toNat_lt, ← UInt8.toNat_xor]
theorem i64_xor_u32 (x y : BitVec 32) : bits BinOp.xor IntKind.i64 (x.toNat : Int) (y.toNat : Int) = ((x ^^^ y).toNat : Int) := by
  have hx := x.isLt
  have hy := y.isLt
  have h1 : (BitVec.ofInt 64 (x.toNat : Int)).toNat = x.toNat := by rw [BitVec.ofInt_natCast, BitVec.toNat_ofNat]; omega
  have h2 : (BitVec.ofInt 64 (y.toNat : Int)).toNat = y.toNat := by rw [BitVec.ofInt_natCast, BitVec.toNat_ofNat]; omega
  show IntKind.i64.wrap ((BitVec.ofInt 64 (x.toNat : Int) ^^^ BitVec.ofInt 64 (y.toNat : Int)).toNat : Int) = _
  rw [BitVec.toNat_xor, h1, h2, ← BitVec.toNat_xor]
  have hz := (x ^^^ y).isLt
  generalize (x ^^^ y).toNat = z at *
  simp [IntKind.wrap, IntKind.bits, IntKind.signed]
  omega
theorem run_min4 {P : Program} (ats : Array TypeId) (ty : TypeId) (x y z u : Int) : ∃ m : Int, (m = x ∨ m = y ∨ m = z ∨ m = u) ∧ m ≤ x ∧ m ≤ y ∧ m ≤ z ∧ m ≤ u ∧
    ∀ wx, (Builtin.min_ ats ty #[.int .i64 x, .int .i64 y, .int .i64 z, .int .i64 u]).run P wx = .ok (.int .i64 m) wx := by
  refine ⟨if u < (if z < (if y < x then y else x) then z else (if y < x then y else x)) then u else (if z < (if y < x then y else x) then z else (if y < x then y else x)), ?_, ?_, ?_, ?_, ?_, ?_⟩
  · split <;> split <;> split <;> simp
  · split <;> split <;> split <;> omega
  · split <;> split <;> split <;> omega
  · split <;> split <;> split <;> omega
  · split <;> split <;> split <;> omega
  · intro wx
    simp [Builtin.min_, Builtin.min2, List.foldlM, Sem.run_bind, Sem.run_pure, Result.andThen]

set_option maxRecDepth 100000 in
set_option maxHeartbeats 2000000 in
theorem aff_any (a b c : ByteArray) (w : World) (ha : a.size ≤ 9223372036854775807) (hb : b.size ≤ 9223372036854775807) (hc : c.size ≤ 9223372036854775807) (hT : TableAt w) (hl : 0 < w.heap.size) :
    Calls Tryd.prog 9 #[.string a, .string b, .string c] w fun e w' => e = .returned (.bool true) ∧ Below w.heap.size w w' := by
  obtain ⟨i0, hi, hz0, hz1, hz2⟩ := info_parts Tryd.infoU8
  have HT := Lib.hid hT
  clear hT
  go_enter Tryd.func9, Tryd.ntmps9
  go_wp2_with fail
  refine (sane_any _ HT.out hl).mono ?_
  rintro e w1 ⟨rfl, hb1⟩
  go_upto_region 2 with fail
  go_cut [8] (fun v wx => ∃ n : Nat, n ≤ 200 ∧ n ≤ a.size ∧ n ≤ b.size ∧ n ≤ c.size ∧ v = .int .i64 n ∧ w1 = wx)
  case first =>
    obtain ⟨m, m0, m1, m2, m3, m4, hm⟩ := run_min4 (P := Tryd.prog) #[3, 3, 3, 3] 3 (a.size : Int) (b.size : Int) (c.size : Int) 200
    obtain ⟨m, rfl⟩ := Int.eq_ofNat_of_zero_le (show 0 ≤ m by omega)
    go_wp2_with fail
    go_meet
    exact ⟨m, by omega, by omega, by omega, by omega, rfl, rfl⟩
  case rest =>
  obtain ⟨n, hn, hna, hnb, hnc, rfl, rfl⟩ := hcut
  go_wp2_with (at_make; refine wpList_make_full _ rfl _ _ 38 rfl w.heap.size 5 i0 (.int .u8 0) 1 Tryd.underlying38 hi hz0 hz1 .i64 .i64 _ _ n rfl rfl rfl rfl (by rw [hz2]; omega) (by unfold maxLen; omega) hb1.size ?_; intro w2 hown hgrow)
  have hb2 := hb1.grown hgrow hb1.size (fun k h => by cases h)
  have hbs := hb1.size
  clear hgrow hb1
  go_loopw [10] (fun k wr => ∃ (j : Nat) (L : List UInt8), j ≤ n ∧ k = .int .i64 j ∧ L.length = n ∧ (∀ i, i < j → L[i]? = some (a.data.toList.getD i 0 ^^^ b.data.toList.getD i 0 ^^^ c.data.toList.getD i 0)) ∧
      wr.ownsRow w.heap.size 5 1 (.slice (some ⟨w1.heap.size, 0, none⟩) n n) n (bcs L) ∧ Below w.heap.size w wr) (fun k _ => n - (intOf k).toNat)
  case atStart =>
    refine ⟨0, List.replicate n 0, by omega, rfl, by simp, fun i h => by omega, ?_, hb2⟩
    have e : (madeCells (Value.int IntKind.u8 0).cells (n * 1)).toList = bcs (List.replicate n 0) := by
      rw [Nat.mul_one]
      have := toList_madeCells_one (.int .u8 0) n
      rw [show (Value.int IntKind.u8 0).cells = #[.int .u8 0] from rfl, this]
      simp [bcs]
    rw [← e]; exact hown
  case round =>
    obtain ⟨j, L, hj, rfl, hL, hpre, hrow, hbr⟩ := hrel
    by_cases hjn : j < n
    · have hget : ∀ (t : ByteArray), n ≤ t.size → ∃ x : UInt8, (∀ h : j < t.size, t[j] = x) ∧ t.data.toList.getD j 0 = x := by
        intro t ht
        refine ⟨t[j]'(by omega), fun _ => rfl, ?_⟩
        rw [List.getD_eq_getElem?_getD, List.getElem?_eq_getElem (by simp; omega)]; rfl
      obtain ⟨x, hx1, hx2⟩ := hget a hna
      obtain ⟨y, hy1, hy2⟩ := hget b hnb
      obtain ⟨z, hz1', hz2'⟩ := hget c hnc
      have i6 : j < a.size := by omega
      have i7 : j < b.size := by omega
      have i8 : j < c.size := by omega
      have ex := hx1 i6
      have ey := hy1 i7
      have ez := hz1' i8
      have q : j < L.length := by omega
      have hxor := xor3_bytes x y z
      obtain ⟨X, hX⟩ : ∃ X, x ^^^ y ^^^ z = X := ⟨_, rfl⟩
      rw [hX] at hxor
      have hcell : wr.cell? ⟨w1.heap.size, j, none⟩ = some (.int .u8 (L[j].toNat : Int)) := by
        rw [hrow.cellAt j (by omega)]; simp [bcs, q]
      have hfr := hrow.frozenAt j
      obtain ⟨hst, hsg⟩ := hrow.stored j (.int .u8 (X.toNat : Int))
      have hset : (bcs L).set j (.int .u8 (X.toNat : Int)) = bcs (L.set j X) := by simp [bcs, List.map_set]
      rw [hset] at hst
      have hpre2 : ∀ i, i < j + 1 → (L.set j X)[i]? = some (a.data.toList.getD i 0 ^^^ b.data.toList.getD i 0 ^^^ c.data.toList.getD i 0) := by
        intro i hi'
        by_cases e : i = j
        · subst e; rw [List.getElem?_set_self (by omega), hx2, hy2, hz2', hX]
        · rw [List.getElem?_set_ne (by omega)]; exact hpre i (by omega)
      have HP := Lib.hid hpre2
      have HS := Lib.hid hst
      have i1 : (0 : Int) ≤ (j : Int) := by omega
      have i2 : (j : Int) < (n : Int) := by omega
      have i3 : (j : Int) < (a.size : Int) := by omega
      have i4 : (j : Int) < (b.size : Int) := by omega
      have i5 : (j : Int) < (c.size : Int) := by omega
      have hL' : (L.set j X).length = n := by simp [hL]
      have HL := Lib.hid hL'
      obtain ⟨old, hold⟩ : ∃ old : Int, (L[j].toNat : Int) = old := ⟨_, rfl⟩
      rw [hold] at hcell
      clear hpre hpre2 hst hsg hset hrow hx1 hx2 hy1 hy2 hz1' hz2' hget hown hL' hold q hL hX
      go_wp2_with fail
      go_region
      all_goals
        go_wp2_with fail
        go_roundw
        case rel => exact ⟨j + 1, _, by omega, by go_num, HL.out, HP.out, HS.out, (hbr.setCell (p := ⟨w1.heap.size, j, none⟩) hbs _).drew⟩
        case measure => simp [intOf]; omega
    · obtain rfl : n = j := by omega
      have hcv : ∀ q, (convert 38 9 (.slice (some ⟨w1.heap.size, 0, none⟩) n n)).run Tryd.prog (wr.drewN q) = .ok (.string ⟨L.toArray⟩) (wr.drewN q) := by
        intro q
        have h : (wr.drewN q).ownsRow w.heap.size 5 1 (.slice (some ⟨w1.heap.size, 0, none⟩) n n) L.length (bcs L) := by rw [hL]; exact hrow
        exact convert_owned Tryd.underlying38 Tryd.underlying5 Tryd.underlying9 h
      have hsum : ∀ (s : ByteArray) (_ : s.size ≤ 200) q, Calls Tryd.prog 21 #[.string s] (wr.drewN q) fun e w' => e = .returned (.int .i64 ((crc s.data.toList).toNat : Nat)) ∧ wr.drewN q = w' := fun s hs q => sum_any s _ (by omega) (HT.out.below (below_drewN hbr q) hl)
      obtain ⟨X, hX⟩ : ∃ X : ByteArray, (⟨L.toArray⟩ : ByteArray) = X := ⟨_, rfl⟩
      have hXL : X.data.toList = L := by rw [← hX]
      have zX : X.size ≤ 200 := by rw [← hX]; show L.length ≤ _; omega
      have za := ext_size a n
      have zb := ext_size b n
      have zc := ext_size c n
      have hfin : crc X.data.toList = crc (a.extract 0 n).data.toList ^^^ crc (b.extract 0 n).data.toList ^^^ crc (c.extract 0 n).data.toList := by
        rw [hXL]
        have hl : ∀ t : ByteArray, n ≤ t.size → (t.extract 0 n).data.toList.length = n := by
          intro t ht; rw [Lib.extract_data]; simp; omega
        refine crc_xor3 (by rw [hl a hna, hl b hnb]) (by rw [hl a hna, hl c hnc]) (by rw [hl a hna, hL]) ?_
        intro i hi
        rw [hl a hna] at hi
        rw [hpre i hi, ext_get _ _ _ hi, ext_get _ _ _ hi, ext_get _ _ _ hi]
      have sa : ∀ q, (Instr.slice 9 (.string a) none (some (.int .i64 (n : Int))) none).run Tryd.prog (wr.drewN q) = .ok (.string (a.extract 0 n)) (wr.drewN q) := fun q => slice_to' a n hna _
      have sb : ∀ q, (Instr.slice 9 (.string b) none (some (.int .i64 (n : Int))) none).run Tryd.prog (wr.drewN q) = .ok (.string (b.extract 0 n)) (wr.drewN q) := fun q => slice_to' b n hnb _
      have sc : ∀ q, (Instr.slice 9 (.string c) none (some (.int .i64 (n : Int))) none).run Tryd.prog (wr.drewN q) = .ok (.string (c.extract 0 n)) (wr.drewN q) := fun q => slice_to' c n hnc _
      rw [hX] at hcv
      have za : (a.extract 0 n).size ≤ 200 := by omega
      have zb : (b.extract 0 n).size ≤ 200 := by omega
      have zc : (c.extract 0 n).size ≤ 200 := by omega
      have hex : ∀ t : ByteArray, (t.extract 0 n).data.toList = List.take n t.data.toList := by
        intro t; rw [Lib.extract_data, List.drop_zero, Nat.sub_zero]
      rw [hex, hex, hex] at hfin
      have hab := i64_xor_u32 (crc (List.take n a.data.toList)) (crc (List.take n b.data.toList))
      have habc := i64_xor_u32 (crc (List.take n a.data.toList) ^^^ crc (List.take n b.data.toList)) (crc (List.take n c.data.toList))
      rw [← hfin] at habc
      generalize crc (List.take n a.data.toList) ^^^ crc (List.take n b.data.toList) = cab at *
      have HQ := Lib.hid hsum
      have hbf := below_drewN hbr
      have HB := Lib.hid hbf
      clear hsum hrow hpre hfin hX hXL hbf hex sa sb sc
      go_wp2_with fail
      go_quiet ((go_at_call 21; exact quiet_same (HQ.out _ (by assumption) _)))
      go_wp2_with fail
      trace_state
      go_ret
      exact ⟨rfl, HB.out _⟩
end Go.Proofs.YteffhohemodckaaDoor
