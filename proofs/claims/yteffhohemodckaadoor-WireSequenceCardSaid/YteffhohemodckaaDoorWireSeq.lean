/- WireSequence: a concatenation of encodings of integers and strings is decoded into the same values, and ends exactly at its end. For every input. -/
import Derived.Test.YteffhohemodckaaDoorWireTrunc
import Derived.Deep.RegionHeld3
namespace Go.Proofs.YteffhohemodckaaDoor
open Go.RowKit

theorem cell_lt {w : World} {b o : Nat} {x : Option Nat} {v : Value} (h : w.cell? ⟨b, o, x⟩ = some v) : b < w.heap.size := by
  unfold World.cell? at h
  by_cases hl : b < w.heap.size
  · exact hl
  · rw [Array.getElem?_eq_none (by simpa using Nat.le_of_not_lt hl)] at h
    simp at h

/-- A string's first bytes, at most n of them. -/
def cutB (n : Nat) (s : ByteArray) : ByteArray := if s.size ≤ n then s else s.extract 0 n
theorem cutB_size (n : Nat) (s : ByteArray) : (cutB n s).size ≤ n := by
  unfold cutB; split
  · assumption
  · simp; omega
/-- The encodings of the first k pairs. -/
def catTo (lf : Nat → Int) (tf : Nat → ByteArray) : Nat → List UInt8
  | 0 => []
  | k + 1 => catTo lf tf k ++ enc (numberFrom (lf k)) ++ encS (cutB 100 (tf k)).data.toList
theorem catTo_len (lf : Nat → Int) (tf : Nat → ByteArray) : ∀ k : Nat, (catTo lf tf k).length ≤ 118 * k
  | 0 => by simp [catTo]
  | k + 1 => by
    have h1 := catTo_len lf tf k
    have h2 := enc_len (numberFrom (lf k))
    have h3 := encS_len (cutB 100 (tf k)).data.toList
    have h4 := cutB_size 100 (tf k)
    have h5 : (cutB 100 (tf k)).data.toList.length = (cutB 100 (tf k)).size := by simp
    simp only [catTo, List.length_append]
    omega
theorem catTo_prefix (lf : Nat → Int) (tf : Nat → ByteArray) (k : Nat) : ∀ n : Nat, k ≤ n → ∃ rest, catTo lf tf n = catTo lf tf k ++ rest
  | 0, h => by
    obtain rfl : k = 0 := by omega
    exact ⟨[], rfl⟩
  | n + 1, h => by
    by_cases e : k = n + 1
    · subst e; exact ⟨[], by simp⟩
    · obtain ⟨rest, hr⟩ := catTo_prefix lf tf k n (by omega)
      exact ⟨rest ++ enc (numberFrom (lf n)) ++ encS (cutB 100 (tf n)).data.toList, by rw [catTo, hr]; simp⟩
theorem catTo_drop (lf : Nat → Int) (tf : Nat → ByteArray) {k n : Nat} (h : k < n) : ∃ rest, (catTo lf tf n).drop (catTo lf tf k).length = enc (numberFrom (lf k)) ++ (encS (cutB 100 (tf k)).data.toList ++ rest) := by
  obtain ⟨rest, hr⟩ := catTo_prefix lf tf (k + 1) n h
  exact ⟨rest, by rw [hr, catTo]; simp⟩
theorem catTo_le (lf : Nat → Int) (tf : Nat → ByteArray) {k n : Nat} (h : k ≤ n) : (catTo lf tf k).length ≤ (catTo lf tf n).length := by
  obtain ⟨rest, hr⟩ := catTo_prefix lf tf k n h
  rw [hr]; simp

theorem readInt_end (l : List UInt8) : readInt l l.length = none := by
  rw [readInt, scan_out 8 (by omega)]
theorem str_isB {s : ByteArray} {k : Int} {V : ByteArray} {b c : Int} (h : strOut s.data.toList k = (V.data.toList, b, c)) (w : World) (hs : s.size ≤ 4611686018427387903) :
    Calls Tryd.prog 17 #[.string s, .int .i64 k] w fun e w' => e = .returned (.tuple #[.string V, .int .i64 b, .int .i64 c]) ∧ w = w' := by
  refine (str_any s k w hs).mono ?_
  rintro e w' ⟨rfl, rfl⟩
  exact ⟨by rw [h]; rfl, rfl⟩

theorem slice_to (t : ByteArray) (k : Nat) (h : k ≤ t.size) (wx : World) : (Instr.slice 9 (.string t) none (some (.int .i64 (k : Int))) none).run Tryd.prog wx = .ok (.string (t.extract 0 k)) wx := by
  have := run_slice_string_h (P := Tryd.prog) wx 9 t Tryd.underlying9 .i64 (k : Int) (by omega) (by omega)
  simpa using this
theorem slice_all (t : ByteArray) (wx : World) : (Instr.slice 9 (.string t) none (some (.int .i64 (t.size : Int))) none).run Tryd.prog wx = .ok (.string t) wx := by
  have h := slice_to t t.size (Nat.le_refl _) wx
  have e : t.extract 0 t.size = t := by
    apply ByteArray.ext; simp
  rwa [e] at h

set_option maxRecDepth 100000 in
set_option maxHeartbeats 2000000 in
theorem seq_any (b o c d q e ln lc tn tc : Nat) (lf : Nat → Int) (tf : Nat → ByteArray) (w : World) (hln : ln ≤ 9223372036854775807) (htn : tn ≤ 9223372036854775807)
    (hlf : ∀ i, i < ln → -9223372036854775808 ≤ lf i ∧ lf i ≤ 9223372036854775807) (htf : ∀ i, i < tn → (tf i).size ≤ 9223372036854775807)
    (hlc : ∀ i, i < ln → w.cell? ⟨b, o + i, none⟩ = some (.int .i64 (lf i))) (htc : ∀ i, i < tn → w.cell? ⟨c, q + i, none⟩ = some (.string (tf i))) (hT : TableAt w) (hl : 0 < w.heap.size) :
    Calls Tryd.prog 6 #[.slice (some ⟨b, o, none⟩) ln lc, .slice (some ⟨c, q, none⟩) tn tc] w fun e w' => e = .returned (.bool true) ∧ Below w.heap.size w w' := by
  have HT := Lib.hid hT
  have HLF := Lib.hid hlf
  have HTF := Lib.hid htf
  have HLC := Lib.hid hlc
  have HTC := Lib.hid htc
  clear hT hlf htf hlc htc
  go_enter Tryd.func6, Tryd.ntmps6
  go_wp2_with fail
  refine (sane_any _ HT.out hl).mono ?_
  rintro e w1 ⟨rfl, hb1⟩
  clear HT
  go_upto_region 2 with fail
  go_cut [6] (fun v wx => ∃ n : Nat, n ≤ 20 ∧ n ≤ ln ∧ n ≤ tn ∧ v = .int .i64 n ∧ w1 = wx)
  case first =>
    by_cases h1 : tn < ln
    · by_cases h2 : 20 < tn
      · have g1 : (tn : Int) < (ln : Int) := by omega
        have g2 : (20 : Int) < (tn : Int) := by omega
        go_wp2_with fail
        go_meet
        exact ⟨20, by omega, by omega, by omega, rfl, rfl⟩
      · have g1 : (tn : Int) < (ln : Int) := by omega
        have g2 : ((20 : Int) < (tn : Int)) = False := eq_false (by omega)
        go_wp2_with fail
        go_meet
        exact ⟨tn, by omega, by omega, by omega, rfl, rfl⟩
    · by_cases h2 : 20 < ln
      · have g1 : ((tn : Int) < (ln : Int)) = False := eq_false (by omega)
        have g2 : (20 : Int) < (ln : Int) := by omega
        go_wp2_with fail
        go_meet
        exact ⟨20, by omega, by omega, by omega, rfl, rfl⟩
      · have g1 : ((tn : Int) < (ln : Int)) = False := eq_false (by omega)
        have g2 : ((20 : Int) < (ln : Int)) = False := eq_false (by omega)
        go_wp2_with fail
        go_meet
        exact ⟨ln, by omega, by omega, by omega, rfl, rfl⟩
  case rest =>
  obtain ⟨n, hn1, hn2, hn3, rfl, rfl⟩ := hcut
  go_wp2_with fail
  go_loopw [7, 8] (fun s k wr => ∃ (j : Nat) (S : ByteArray), j ≤ n ∧ k = .int .i64 j ∧ s = .string S ∧ S.size ≤ 118 * j ∧ S.data.toList = catTo lf tf j ∧ Below w.heap.size w wr) (fun _ k _ => n - (intOf k).toNat)
  case atStart => exact ⟨0, ⟨#[]⟩, by omega, rfl, rfl, by decide, rfl, hb1⟩
  case round =>
    obtain ⟨j, S, hj, rfl, rfl, hS1, hS, hbr⟩ := hrel
    have HS := Lib.hid hS
    clear hS
    by_cases hjn : j < n
    · have hx := HLF.out j (by omega)
      have hy := HTF.out j (by omega)
      have c1 : wr.cell? ⟨b, o + j, none⟩ = some (.int .i64 (lf j)) := (hbr.cell (p := ⟨b, o + j, none⟩) (cell_lt (HLC.out j (by omega)))).trans (HLC.out j (by omega))
      have c2 : wr.cell? ⟨c, q + j, none⟩ = some (.string (tf j)) := (hbr.cell (p := ⟨c, q + j, none⟩) (cell_lt (HTC.out j (by omega)))).trans (HTC.out j (by omega))
      clear c2
      obtain ⟨n0, n1⟩ := numberFrom_range (lf j)
      have hc := fun w => numberFrom_any (lf j) w hx.1 hx.2
      have HC := Lib.hid hc
      have hnx : catTo lf tf (j + 1) = catTo lf tf j ++ enc (numberFrom (lf j)) ++ encS (cutB 100 (tf j)).data.toList := rfl
      have HN := Lib.hid hnx
      clear hc hx hnx
      generalize numberFrom (lf j) = m at *
      obtain ⟨A, hA⟩ : ∃ A : ByteArray, A = ⟨(enc m).toArray⟩ := ⟨_, rfl⟩
      have hA1 : A.size ≤ 9 := by rw [hA]; exact enc_len m
      have HA := Lib.hid hA
      clear hA
      go_wp2_with fail
      refine (HC.out wr).mono ?_
      rintro e w2 ⟨rfl, hb2⟩
      have hb2' := hbr.trans (hb2.mono hbr.size)
      go_wp2_with fail
      refine (put_is HA.out w2 n0 n1).mono ?_
      rintro e w3 ⟨rfl, hb3⟩
      have hb3' := hb2'.trans (hb3.mono hb2'.size)
      clear hb2 hb3 hb2' c1
      have c2 : w3.cell? ⟨c, q + j, none⟩ = some (.string (tf j)) := (hb3'.cell (p := ⟨c, q + j, none⟩) (cell_lt (HTC.out j (by omega)))).trans (HTC.out j (by omega))
      obtain ⟨X, hX⟩ : ∃ X : ByteArray, X = ⟨(encS (cutB 100 (tf j)).data.toList).toArray⟩ := ⟨_, rfl⟩
      have hX1 : X.size ≤ 109 := by
        have h3 := encS_len (cutB 100 (tf j)).data.toList
        have h4 := cutB_size 100 (tf j)
        have h5 : (cutB 100 (tf j)).data.toList.length = (cutB 100 (tf j)).size := by simp
        rw [hX]; show (encS (cutB 100 (tf j)).data.toList).length ≤ 109
        omega
      have hcut := fun w => puts_is hX w (by have := cutB_size 100 (tf j); omega)
      have HX := Lib.hid hX
      clear hX
      generalize tf j = t at *
      go_upto_region 8 with fail
      go_cut [11, 12] (fun v u wx => v = .string X ∧ u = .int .i64 0 ∧ Below w.heap.size w wx)
      case first =>
        by_cases hs : t.size ≤ 100
        · rw [show cutB 100 t = t from if_pos hs] at hcut
          have HQ := Lib.hid hcut
          clear hcut
          have c3 : w3.drew.cell? ⟨c, q + j, none⟩ = some (.string t) := c2
          have hlc := cell_lt c2
          have i0 : (0 : Int) ≤ (j : Int) := by omega
          have i1 : (j : Int) < (tn : Int) := by omega
          have i2 : (0 : Int) ≤ (t.size : Int) := by omega
          have i3 : ¬ (100 : Int) < (t.size : Int) := by omega
          have hsl : ∀ wx, (Instr.slice 9 (.string t) none (some (.int .i64 (t.size : Int))) none).run Tryd.prog wx = .ok (.string t) wx := fun wx => slice_all t wx
          go_region_held3 (fun w' => w'.cell? ⟨c, q + j, none⟩ = some (.string t)) (first | go_keep | (exact (hb4.cell (p := ⟨c, q + j, none⟩) hlc).trans c3))
            (first | (go_at_call 19; refine (HQ.out _).mono ?_; rintro e w4 ⟨rfl, hb4⟩))
          all_goals
            go_wp2_with fail
            go_meet
            exact ⟨rfl, rfl, hb3'.drew.trans (hb4.mono hb3'.size)⟩
        · rw [show cutB 100 t = t.extract 0 100 from if_neg hs] at hcut
          have HQ := Lib.hid hcut
          clear hcut
          have c3 : w3.drew.cell? ⟨c, q + j, none⟩ = some (.string t) := c2
          have hlc := cell_lt c2
          have i0 : (0 : Int) ≤ (j : Int) := by omega
          have i1 : (j : Int) < (tn : Int) := by omega
          have i2 : (0 : Int) ≤ (t.size : Int) := by omega
          have i3 : (100 : Int) < (t.size : Int) := by omega
          have hsl : ∀ wx, (Instr.slice 9 (.string t) none (some (.int .i64 100)) none).run Tryd.prog wx = .ok (.string (t.extract 0 100)) wx := fun wx => slice_to t 100 (by omega) wx
          go_region_held3 (fun w' => w'.cell? ⟨c, q + j, none⟩ = some (.string t)) (first | go_keep | (exact (hb4.cell (p := ⟨c, q + j, none⟩) hlc).trans c3))
            (first | (go_at_call 19; refine (HQ.out _).mono ?_; rintro e w4 ⟨rfl, hb4⟩))
          all_goals
            go_wp2_with fail
            go_meet
            exact ⟨rfl, rfl, hb3'.drew.trans (hb4.mono hb3'.size)⟩
      case rest =>
      obtain ⟨rfl, rfl, hb4⟩ := hcut
      clear hb3' c2 hbr HC HTC HLC HTF HLF hcut
      have hsz : S.size + A.size + X.size ≤ 118 * (j + 1) := by omega
      have hfin : (S ++ A ++ X).data.toList = catTo lf tf (j + 1) := by
        rw [HN.out, ← HS.out, HA.out, HX.out]; simp [ByteArray.data_append]
      have HFI := Lib.hid hfin
      clear hfin
      go_wp2_with fail
      go_roundw
      case rel => exact ⟨j + 1, S ++ A ++ X, by omega, by go_num, rfl, by rw [ByteArray.size_append, ByteArray.size_append]; exact hsz, HFI.out, hb4⟩
      case measure => simp [intOf]; omega
    · obtain rfl : n = j := by omega
      have HB1 := Lib.hid hb1
      clear hb1 hj
      have hSl : S.data.toList.length = S.size := by simp
      go_wp2_with fail
      go_loopw [13, 14] (fun p k wr => ∃ j : Nat, j ≤ n ∧ k = .int .i64 j ∧ p = .int .i64 ((catTo lf tf j).length : Nat) ∧ Below w.heap.size w wr) (fun _ k _ => n - (intOf k).toNat)
      case atStart => exact ⟨0, by omega, rfl, rfl, hbr⟩
      case round =>
        obtain ⟨j, hj, rfl, rfl, hbq⟩ := hrel
        by_cases hjn : j < n
        · have hx := HLF.out j (by omega)
          have hy := HTF.out j (by omega)
          have c1 : wr.cell? ⟨b, o + j, none⟩ = some (.int .i64 (lf j)) := (hbq.cell (p := ⟨b, o + j, none⟩) (cell_lt (HLC.out j (by omega)))).trans (HLC.out j (by omega))
          have c2 : wr.cell? ⟨c, q + j, none⟩ = some (.string (tf j)) := (hbq.cell (p := ⟨c, q + j, none⟩) (cell_lt (HTC.out j (by omega)))).trans (HTC.out j (by omega))
          have hlb := cell_lt c1
          have hlc := cell_lt c2
          obtain ⟨rest, hr⟩ := catTo_drop lf tf hjn
          have hle := catTo_le lf tf (Nat.le_of_lt hjn)
          rw [← HS.out] at hr hle
          obtain ⟨n0, n1⟩ := numberFrom_range (lf j)
          have hc := fun w => numberFrom_any (lf j) w hx.1 hx.2
          have hnl : (catTo lf tf (j + 1)).length = (catTo lf tf j).length + (enc (numberFrom (lf j))).length + (encS (cutB 100 (tf j)).data.toList).length := by simp [catTo, Nat.add_assoc]
          have hnle := catTo_le lf tf (show j + 1 ≤ n from hjn)
          rw [← HS.out, hSl] at hnle
          generalize numberFrom (lf j) = m at *
          have hV := cutB_size 100 (tf j)
          obtain ⟨V, hVe⟩ : ∃ V, V = cutB 100 (tf j) := ⟨_, rfl⟩
          rw [← hVe] at hr hnl hV
          obtain ⟨p0, hp0⟩ : ∃ p0, (catTo lf tf j).length = p0 := ⟨_, rfl⟩
          rw [hp0] at hr hle hnl ⊢
          have fI : intOut S.data.toList (p0 : Int) = (m, ((p0 + (enc m).length : Nat) : Int), 0) := intOut_some hle (readInt_enc n0 n1 hr)
          obtain ⟨p1, hp1⟩ : ∃ p1, p0 + (enc m).length = p1 := ⟨_, rfl⟩
          rw [hp1] at fI hnl
          have hr1 : S.data.toList.drop p1 = encS V.data.toList ++ rest := by rw [← hp1, ← List.drop_drop, hr, List.drop_left]
          have fS : strOut S.data.toList (p1 : Int) = (V.data.toList, ((p1 + (encS V.data.toList).length : Nat) : Int), 0) :=
            strOut_some (by rw [hSl]; omega) (readStr_enc (by simp; omega) hr1)
          rw [← hnl] at fS
          have hCI := int_is fI wr (by omega)
          have hCS := str_isB fS wr (by omega)
          obtain ⟨p2, hp2⟩ : ∃ p2, (catTo lf tf (j + 1)).length = p2 := ⟨_, rfl⟩
          have HP := Lib.hid hp2
          rw [hp2] at hCS
          clear hp2
          have HCI := Lib.hid hCI
          have HCS := Lib.hid hCS
          have HC := Lib.hid hc
          have HV := Lib.hid hVe
          clear hCI hCS hc hVe hr hr1 fI fS hle hnl hp0 hp1 hV n0 n1 hx HS hSl HLF HTF HLC HTC hnle hS1
          generalize lf j = x at *
          generalize tf j = t at *
          go_wp2_with fail
          refine HCI.out.mono ?_
          rintro e w5 ⟨rfl, rfl⟩
          go_wp2_with fail
          refine HCS.out.mono ?_
          rintro e w5 ⟨rfl, rfl⟩
          go_upto_region 18 with fail
          go_cut [118] (fun v wx => v = .bool false ∧ Below w.heap.size w wx)
          case first =>
            have i0 : (0 : Int) ≤ (j : Int) := by omega
            have i1 : (j : Int) < (tn : Int) := by omega
            have i1' : (j : Int) < (ln : Int) := by omega
            have i2 : (0 : Int) ≤ (t.size : Int) := by omega
            have c3 : wr.drew.cell? ⟨c, q + j, none⟩ = some (.string t) := c2
            have c4 : wr.drew.cell? ⟨b, o + j, none⟩ = some (.int .i64 x) := c1
            by_cases hs : t.size ≤ 100
            · have hVt : V = t := by rw [HV.out]; exact if_pos hs
              subst hVt
              have i3 : ((100 : Int) < (V.size : Int)) = False := eq_false (by omega)
              have hsl : ∀ wx, (Instr.slice 9 (.string V) none (some (.int .i64 (V.size : Int))) none).run Tryd.prog wx = .ok (.string V) wx := fun wx => slice_all V wx
              clear HV
              go_region_held3 (fun w' => w'.cell? ⟨c, q + j, none⟩ = some (.string V) ∧ w'.cell? ⟨b, o + j, none⟩ = some (.int .i64 x)) (first | go_keep | (exact ⟨(hb4.cell (p := ⟨c, q + j, none⟩) hlc).trans c3, (hb4.cell (p := ⟨b, o + j, none⟩) hlb).trans c4⟩))
                (first | (go_at_call 11; refine (HC.out _).mono ?_; rintro e w4 ⟨rfl, hb4⟩))
              all_goals
                go_wp2_with fail
                go_meet
                exact ⟨by first | rfl | simp, hbq.drew.trans (hb4.mono hbq.size)⟩
            · have hVt : V = t.extract 0 100 := by rw [HV.out]; exact if_neg hs
              have i3 : (100 : Int) < (t.size : Int) := by omega
              have hsl : ∀ wx, (Instr.slice 9 (.string t) none (some (.int .i64 100)) none).run Tryd.prog wx = .ok (.string V) wx := fun wx => by rw [hVt]; exact slice_to t 100 (by omega) wx
              clear HV hVt
              go_region_held3 (fun w' => w'.cell? ⟨c, q + j, none⟩ = some (.string t) ∧ w'.cell? ⟨b, o + j, none⟩ = some (.int .i64 x)) (first | go_keep | (exact ⟨(hb4.cell (p := ⟨c, q + j, none⟩) hlc).trans c3, (hb4.cell (p := ⟨b, o + j, none⟩) hlb).trans c4⟩))
                (first | (go_at_call 11; refine (HC.out _).mono ?_; rintro e w4 ⟨rfl, hb4⟩))
              all_goals
                go_wp2_with fail
                go_meet
                exact ⟨by first | rfl | simp, hbq.drew.trans (hb4.mono hbq.size)⟩
          case rest =>
          obtain ⟨rfl, hb5⟩ := hcut
          go_wp2_with fail
          go_roundw
          case rel => exact ⟨j + 1, by omega, by go_num, by rw [HP.out], hb5⟩
          case measure => simp [intOf]; omega
        · obtain rfl : n = j := by omega
          have hend : intOut S.data.toList ((catTo lf tf n).length : Int) = (0, 0, 10) := by
            refine intOut_none (by rw [HS.out]; exact Nat.le_refl _) ?_
            rw [← HS.out]; exact readInt_end _
          have hle : ((catTo lf tf n).length : Int) = (S.size : Int) := by rw [← HS.out, hSl]
          rw [hle] at hend ⊢
          have HCI := Lib.hid (int_is hend wr (by omega))
          clear hend hle
          go_wp2_with fail
          refine HCI.out.mono ?_
          rintro e w5 ⟨rfl, rfl⟩
          go_wp2_with fail
          go_ret
          exact ⟨rfl, hbq⟩

set_option maxRecDepth 100000 in
set_option maxHeartbeats 2000000 in
/-- One of the two is empty. -/
theorem seq_nil (pa pb : Option Addr) (ln lc tn tc : Nat) (w : World) (hln : ln ≤ 9223372036854775807) (htn : tn ≤ 9223372036854775807) (h0 : ln = 0 ∨ tn = 0) (hT : TableAt w) (hl : 0 < w.heap.size) :
    Calls Tryd.prog 6 #[.slice pa ln lc, .slice pb tn tc] w fun e w' => e = .returned (.bool true) ∧ Below w.heap.size w w' := by
  have HT := Lib.hid hT
  clear hT
  have hI := fun w => int_is (s := ⟨#[]⟩) (k := 0) (a := 0) (b := 0) (c := 10) (by decide) w (by decide)
  have HI := Lib.hid hI
  clear hI
  go_enter Tryd.func6, Tryd.ntmps6
  go_wp2_with fail
  refine (sane_any _ HT.out hl).mono ?_
  rintro e w1 ⟨rfl, hb1⟩
  clear HT
  go_upto_region 2 with fail
  go_cut [6] (fun v wx => v = .int .i64 0 ∧ w1 = wx)
  case first =>
    by_cases h1 : tn < ln
    · obtain rfl : tn = 0 := by omega
      have g1 : (0 : Int) < (ln : Int) := by omega
      go_wp2_with fail
      go_meet
      exact ⟨rfl, rfl⟩
    · obtain rfl : ln = 0 := by omega
      have g1 : ((tn : Int) < 0) = False := eq_false (by omega)
      go_wp2_with fail
      go_meet
      exact ⟨rfl, rfl⟩
  case rest =>
  obtain ⟨rfl, rfl⟩ := hcut
  go_wp2_with fail
  refine wp_loop_rounds 1 ?_
  rw [rounds_succ]
  go_wp2_with fail
  refine wp_loop_rounds 1 ?_
  rw [rounds_succ]
  go_wp2_with fail
  refine (HI.out w1).mono ?_
  rintro e w5 ⟨rfl, rfl⟩
  go_wp2_with fail
  go_ret
  exact ⟨rfl, hb1⟩
end Go.Proofs.YteffhohemodckaaDoor
