/- Decode of the reference. -/
import Derived.Test.YthblehinmbgbdaaG31
import Derived.Test.YthblehinmbgbdaaG30
import Derived.Test.YthblehinmbgbdaaG28
namespace Go.Proofs.Ythblehinmbgbdaa
open Go.RowKit
set_option maxRecDepth 100000

def arr (xs : List Int) : Array Value := (xs.map (Value.int .i64) ++ List.replicate (4 - xs.length) (Value.int .i64 0)).toArray
theorem arr_set {xs : List Int} {k : Nat} (n : Int) (hl : xs.length = k) (hk : k < 4) : (arr xs).setIfInBounds k (.int .i64 n) = arr (xs ++ [n]) := by
  subst hl
  match xs, hk with
  | [], _ => rfl
  | [a], _ => rfl
  | [a, b], _ => rfl
  | [a, b, c], _ => rfl
/-- Four integers in block g. -/
def Ar (g : Nat) (xs : List Int) (w : World) : Prop := w.heap[g]? = some (.cells (arr xs) 59 (0, 0))
theorem Ar.not_row {g : Nat} {xs : List Int} {w : World} (h : Ar g xs w) {base : Nat} {v : Value} {L : List Ev} (hr : ERow w base v L) : v.ownBlock ≠ some g := by
  intro hv
  rcases hr.2 with ⟨rfl, _⟩ | ⟨g', cap, cur, rfl, _, hgb, _⟩
  · cases hv
  · injection hv with hv
    subst hv
    have := (show w.heap[g']? = _ from h).symm.trans hgb
    injection this with this
    injection this with _ ht _
    exact absurd ht (by decide)
theorem Ar.kept {g : Nat} {xs : List Int} {w w' : World} {row : Option Nat} (h : Ar g xs w) (hg : w.grownBy w' row) (hne : some g ≠ row) : Ar g xs w' := (hg.block g (Array.getElem?_eq_some_iff.1 h).1 hne).trans h
theorem Ar.cell {g : Nat} {xs : List Int} {w : World} (h : Ar g xs w) (j : Nat) (x : Int) (hx : xs[j]? = some x) : w.cell? ⟨g, j, none⟩ = some (.int .i64 x) := by
  have hj := (List.getElem?_eq_some_iff.1 hx).1
  rw [Lib.cell_of_heap h, arr, List.getElem?_toArray, List.getElem?_append_left (by simpa using hj), List.getElem?_map, hx]; rfl
theorem read4_of {S : List UInt8} {p q : Nat} {xs : List Int} (h : readK S p 4 = some (xs, q)) : ∃ a b c d, xs = [a, b, c, d] ∧ read4 S p = some (a, b, c, d, q) := by
  have hl := readK_length h
  match xs, hl, h with
  | [a, b, c, d], _, h => exact ⟨a, b, c, d, rfl, by rw [read4_K, h]⟩
theorem read4_no {S : List UInt8} {p q k : Nat} {xs : List Int} (h : readK S p k = some (xs, q)) (hr : readInt S q = none) (hk : k < 4) : read4 S p = none := by
  have := readK_none h hr (3 - k)
  rw [show k + 1 + (3 - k) = 4 by omega] at this
  rw [read4_K, this]
set_option maxHeartbeats 8000000 in
theorem refDecode_any (s : ByteArray) (w : World) (hs : s.size ≤ 4611686018427387903) :
    Calls Try.prog 28 #[.string s] w fun e w' => ∃ v, e = .returned (.tuple #[v, .int .i64 (decodeR s.data.toList).2]) ∧ ERow w' w.heap.size v (decodeR s.data.toList).1 ∧ Below w.heap.size w w' := by
  have HI := Lib.hid (fun (k : Int) W => refInt_any s k W hs)
  obtain ⟨S, hS⟩ : ∃ S, s.data.toList = S := ⟨_, rfl⟩
  have HLN : Hid (S.length = s.size) := Lib.hid (by rw [← hS, Array.length_toList]; rfl)
  rw [hS] at HI ⊢
  clear hS hs
  have HW := Lib.hid (fun (n a b : Int) W => within2_any n a b W)
  have HI0 := Lib.hid (HI.out 0 w)
  cases hr : readInt S 0 with
  | none =>
    have hdec : decodeR S = ([], 10) := by rw [decodeR, hr]
    have hio : intOut S 0 = (0, 0, 10) := intOut_none (k := 0) (Nat.zero_le _) hr
    rw [hio] at HI0
    simp only [intV] at HI0
    rw [hdec]
    clear hr hdec hio HI
    go_enter Try.func28, Try.ntmps28
    go_wp2_with fail
    refine HI0.out.mono ?_
    rintro e w2 ⟨rfl, hb2⟩
    have HB2 := Lib.hid hb2
    clear hb2
    go_wp2_with fail
    go_ret2
    exact ⟨_, rfl, ERow.nil _ _, HB2.out⟩
  | some p =>
    obtain ⟨n, k0⟩ := p
    have hio : intOut S 0 = (n, (k0 : Int), 0) := intOut_some (k := 0) (Nat.zero_le _) hr
    rw [hio] at HI0
    simp only [intV] at HI0
    have HK0 := Lib.hid (show k0 ≤ S.length from (readInt_bounds hr (by omega)).2.1)
    have HRI := Lib.hid hr
    clear hr hio
    by_cases hn : 0 ≤ n ∧ n ≤ 1000
    · have hd : decide (0 ≤ n ∧ n ≤ 1000) = true := decide_eq_true hn
      have HW1 := Lib.hid (HW.out n 0 1000)
      rw [hd] at HW1
      obtain ⟨m, rfl⟩ : ∃ m : Nat, n = m := ⟨n.toNat, by omega⟩
      have hm : m ≤ 1000 := by omega
      have HDEC := Lib.hid (fun (P : PS) (hP : runP S k0 m = P) => decodeR_P HRI.out hn (P := P) (by simpa using hP))
      have HBAD := Lib.hid (fun (j : Nat) (x : DS) (hj : j < m) (hx : runD S k0 j = some x) (h4 : read4 S x.pos = none) => decodeR_bad HRI.out hn (by simpa using hj) hx h4)
      have HFC := Lib.hid (fun j => runP_facts (s := S) HK0.out j)
      obtain ⟨D, hD⟩ : ∃ D, decodeR S = D := ⟨_, rfl⟩
      rw [hD] at HDEC HBAD ⊢
      clear hn hd hD HRI
      go_enter Try.func28, Try.ntmps28
      go_wp2_with fail
      refine HI0.out.mono ?_
      rintro e w2 ⟨rfl, hb2⟩
      have HB2 := Lib.hid hb2
      clear hb2
      go_wp2_with fail
      refine (HW1.out _).mono ?_
      rintro e w3 ⟨rfl, rfl⟩
      go_wp2_with fail
      go_loopw [5, 7, 8, 9, 10] (fun p o l d i wx => ∃ (j : Nat) (x : DS), j ≤ m ∧ i = .int .i64 j ∧ runD S k0 j = some x ∧ p = .int .i64 x.pos ∧ l = .int .i64 x.last ∧ d = .bool x.odd ∧ ERow wx w.heap.size o x.evs ∧ Below w.heap.size w wx) (fun _ _ _ _ i _ => m - (intOf i).toNat)
      case atStart => exact ⟨0, _, by omega, rfl, rfl, rfl, rfl, rfl, ERow.nil _ _, HB2.out⟩
      case round =>
        clear HB2
        obtain ⟨j, x, hj, rfl, hx, rfl, rfl, rfl, hrow, hb⟩ := hrel
        have HX := Lib.hid hx
        have HROW := Lib.hid hrow
        have HB := Lib.hid hb
        have HP := Lib.hid (runD_P hx)
        have hfc := HFC.out j
        rw [HP.out] at hfc
        have HF := Lib.hid hfc
        obtain ⟨pos, last, odd, evs⟩ := x
        simp only [toP] at HROW HF HP ⊢
        clear hx hrow hb hfc
        have hll : evs.length ≤ 1000 := by rw [HF.out.2.1]; omega
        by_cases hlt : j < m
        · have hd : decide ((j : Int) < (m : Int)) = true := by rw [decide_eq_true_iff]; omega
          have hd2 : decide (j < m) = true := by rw [decide_eq_true_iff]; omega
          obtain ⟨wo, rfl⟩ : ∃ wo, wo = wr := ⟨_, rfl⟩
          go_wp2_with fail
          have HA0 : Hid (Ar wo.heap.size [] (wo.alloc (.cells #[.int .i64 0, .int .i64 0, .int .i64 0, .int .i64 0] 59))) := Lib.hid (heap_last _ _)
          have HB0 := Lib.hid (HB.out.alloc HB.out.size (.cells #[.int .i64 0, .int .i64 0, .int .i64 0, .int .i64 0] 59))
          have HRW0 := Lib.hid (HROW.out.alloc (.cells #[.int .i64 0, .int .i64 0, .int .i64 0, .int .i64 0] 59))
          obtain ⟨g, hg⟩ : ∃ g, wo.heap.size = g := ⟨_, rfl⟩
          have HG : Hid (w.heap.size ≤ g) := Lib.hid (by rw [← hg]; exact HB.out.size)
          rw [hg] at HA0 ⊢
          obtain ⟨wa, hwa⟩ : ∃ wa, wo.alloc (.cells #[.int .i64 0, .int .i64 0, .int .i64 0, .int .i64 0] 59) = wa := ⟨_, rfl⟩
          rw [hwa] at HA0 HB0 HRW0 ⊢
          clear hg hwa
          go_loopw [5, 12] (fun p i wx => ∃ (k q : Nat) (xs : List Int), k ≤ 4 ∧ i = .int .i64 k ∧ p = .int .i64 q ∧ readK S pos k = some (xs, q) ∧ Ar g xs wx ∧ ERow wx w.heap.size u7 evs ∧ Below w.heap.size w wx) (fun _ i _ => 4 - (intOf i).toNat)
          case atStart => exact ⟨0, pos, [], by omega, rfl, rfl, rfl, HA0.out, HRW0.out, HB0.out⟩
          case round =>
            clear HA0 HB0 HRW0
            obtain ⟨k, q, xs, hk, rfl, rfl, hrk, har, hrow, hb⟩ := hrel
            have HRK := Lib.hid hrk
            have HAR := Lib.hid har
            have HRW := Lib.hid hrow
            have HBQ := Lib.hid hb
            have hle := (readK_le HF.out.1 hrk).1
            have HLE := Lib.hid hle
            clear hrk har hrow hb hle
            by_cases hlk : k < 4
            · have hdk : decide ((k : Int) < 4) = true := by rw [decide_eq_true_iff]; omega
              have hdk2 : decide (k < 4) = true := by rw [decide_eq_true_iff]; omega
              have hk0 : (0 : Int) ≤ (k : Int) := by omega
              have hk1 : (k : Int) < 4 := by omega
              have HI1 := Lib.hid (HI.out (q : Int) wr)
              cases hr1 : readInt S q with
              | none =>
                have hio := intOut_none HLE.out hr1
                rw [hio] at HI1
                simp only [intV] at HI1
                have HD := Lib.hid (HBAD.out j _ hlt HX.out (read4_no HRK.out hr1 hlk))
                clear hio hr1
                go_wp2_with fail
                refine HI1.out.mono ?_
                rintro e w5 ⟨rfl, hb5⟩
                have HB5 := Lib.hid (HBQ.out.trans (hb5.mono HBQ.out.size))
                have HA5 := Lib.hid (HAR.out.kept (Below.grown0 hb5) (by simp))
                have f5 : w5.frozen? ⟨g, k, none⟩ = false := Lib.frozen_of_heap HA5.out k
                have c5 : ∃ v, w5.cell? ⟨g, k, none⟩ = some v := by
                  rw [Lib.cell_of_heap HA5.out]
                  have : k < (arr xs).size := by rw [arr, List.size_toArray, List.length_append, List.length_map, List.length_replicate, readK_length HRK.out]; omega
                  exact ⟨_, Array.getElem?_eq_getElem this⟩
                obtain ⟨v5, c5⟩ := c5
                clear hb5
                go_wp2_with fail
                go_ret2
                exact ⟨_, by rw [HD.out]; rfl, by rw [HD.out]; exact ERow.nil _ _, HB5.out.setCell (p := ⟨g, k, none⟩) HG.out _⟩
              | some z =>
                obtain ⟨nx, q2⟩ := z
                have hio := intOut_some HLE.out hr1
                rw [hio] at HI1
                simp only [intV] at HI1
                have HRN := Lib.hid (readK_next HRK.out hr1)
                have HLX := Lib.hid (readK_length HRK.out)
                clear hio hr1
                go_wp2_with fail
                refine HI1.out.mono ?_
                rintro e w5 ⟨rfl, hb5⟩
                have HB5 := Lib.hid (HBQ.out.trans (hb5.mono HBQ.out.size))
                have HA5 := Lib.hid (HAR.out.kept (Below.grown0 hb5) (by simp))
                have HR5 := Lib.hid (ERow.below HRW.out hb5)
                have f5 : w5.frozen? ⟨g, k, none⟩ = false := Lib.frozen_of_heap HA5.out k
                have c5 : ∃ v, w5.cell? ⟨g, k, none⟩ = some v := by
                  rw [Lib.cell_of_heap HA5.out]
                  have : k < (arr xs).size := by rw [arr, List.size_toArray, List.length_append, List.length_map, List.length_replicate, HLX.out]; omega
                  exact ⟨_, Array.getElem?_eq_getElem this⟩
                obtain ⟨v5, c5⟩ := c5
                have HA6 : Hid (Ar g (xs ++ [nx]) (w5.setCell ⟨g, k, none⟩ (.int .i64 nx))) := Lib.hid (by
                  have := Go.Joins.block_setCell (i := k) HA5.out (.int .i64 nx)
                  rw [arr_set nx HLX.out hlk] at this
                  exact this)
                have HR6 : Hid (ERow (w5.setCell ⟨g, k, none⟩ (.int .i64 nx)) w.heap.size u7 evs) := Lib.hid (HR5.out.kept (grown_set w5 g k _) (HA5.out.not_row HR5.out))
                have HB6 : Hid (Below w.heap.size w (w5.setCell ⟨g, k, none⟩ (.int .i64 nx))) := Lib.hid (HB5.out.setCell (p := ⟨g, k, none⟩) HG.out _)
                clear hb5
                go_wp2_with fail
                exact ⟨⟨k + 1, q2, _, by omega, by push_cast; rfl, rfl, HRN.out, HA6.out, HR6.out, HB6.out⟩, by simp [intOf]; omega⟩
            · obtain rfl : k = 4 := by omega
              obtain ⟨n1, n2, n3, n4, rfl, hr4⟩ := read4_of HRK.out
              have HST := Lib.hid (runD_next HX.out hr4)
              have x0 := HAR.out.cell 0 n1 rfl
              have x1 := HAR.out.cell 1 n2 rfl
              have x2 := HAR.out.cell 2 n3 rfl
              have x3 := HAR.out.cell 3 n4 rfl
              simp only at HST
              have HW2 := Lib.hid (HW.out n1 0 20000)
              have HRW6 := HRW
              have HB6 := HBQ
              clear hr4
              cases odd with
              | true =>
                have ho : oddP true n1 = true := rfl
                rw [ho, lastP_odd ho] at HST
                clear ho
                go_wp2_with (at_builtin; refine append_events rfl _ _ rfl (by rfl) (base := w.heap.size) (L := evs) (X := [⟨last, n2, n3, n4⟩]) (M := evs ++ [⟨last, n2, n3, n4⟩]) (HRW6.out.alloc _) (by simp only [size_alloc]; have := HB6.out.size; omega) hll (by rfl) (evs_block (heap_last' _ _ rfl)) (by rfl) (by omega) (by omega) rfl ?_; intro g' c' w7 hrow7 hb7 hg7 _)
                exact ⟨⟨j + 1, _, by omega, by push_cast; rfl, HST.out, rfl, rfl, rfl, (by rw [List.length_append] at hrow7; exact hrow7), (HB6.out.alloc HB6.out.size _).trans hb7⟩, by simp [intOf]; omega⟩
              | false =>
                obtain ⟨y, hy⟩ : ∃ y, decide (0 ≤ n1 ∧ n1 ≤ 20000) = y := ⟨_, rfl⟩
                have ho : oddP false n1 = !y := by rw [oddP, hy]; rfl
                rw [hy] at HW2
                cases y with
                | false =>
                  rw [ho, lastP_odd ho] at HST
                  clear ho hy
                  go_wp2_with fail
                  refine (HW2.out _).mono ?_
                  rintro e w8 ⟨rfl, rfl⟩
                  go_wp2_with (at_builtin; refine append_events rfl _ _ rfl (by rfl) (base := w.heap.size) (L := evs) (X := [⟨last, n2, n3, n4⟩]) (M := evs ++ [⟨last, n2, n3, n4⟩]) (HRW6.out.alloc _) (by simp only [size_alloc]; have := HB6.out.size; omega) hll (by rfl) (evs_block (heap_last' _ _ rfl)) (by rfl) (by omega) (by omega) rfl ?_; intro g' c' w7 hrow7 hb7 hg7 _)
                  exact ⟨⟨j + 1, _, by omega, by push_cast; rfl, HST.out, rfl, rfl, rfl, (by rw [List.length_append] at hrow7; exact hrow7), (HB6.out.alloc HB6.out.size _).trans hb7⟩, by simp [intOf]; omega⟩
                | true =>
                  rw [ho, lastP_even ho] at HST
                  have hwr : IntKind.i64.wrap (last + n1) = last + n1 := by
                    have h1 := HF.out.2.2
                    have h2 := of_decide_eq_true hy
                    rw [IntKind.wrap_i64]; omega
                  obtain ⟨l', hl'⟩ : ∃ l', last + n1 = l' := ⟨_, rfl⟩
                  rw [hl'] at HST
                  have hwr2 : IntKind.i64.wrap (last + n1) = l' := hwr.trans hl'
                  clear ho hy hwr hl'
                  go_wp2_with fail
                  refine (HW2.out _).mono ?_
                  rintro e w8 ⟨rfl, rfl⟩
                  go_wp2_with (at_builtin; refine append_events rfl _ _ rfl (by rfl) (base := w.heap.size) (L := evs) (X := [⟨l', n2, n3, n4⟩]) (M := evs ++ [⟨l', n2, n3, n4⟩]) (HRW6.out.alloc _) (by simp only [size_alloc]; have := HB6.out.size; omega) hll (by rfl) (evs_block (heap_last' _ _ rfl)) (by rfl) (by omega) (by omega) rfl ?_; intro g' c' w7 hrow7 hb7 hg7 _)
                  exact ⟨⟨j + 1, _, by omega, by push_cast; rfl, HST.out, rfl, rfl, rfl, (by rw [List.length_append] at hrow7; exact hrow7), (HB6.out.alloc HB6.out.size _).trans hb7⟩, by simp [intOf]; omega⟩
        · obtain rfl : j = m := by omega
          have hd : decide ((j : Int) < (j : Int)) = false := by simp
          have hd2 : decide (j < j) = false := by simp
          have HD := Lib.hid (HDEC.out _ HP.out)
          simp only at HD
          obtain ⟨a7, c7, rfl, -, hS7, -⟩ := HROW.out.isSlice
          have HV := Lib.hid (isPerf_any a7 c7 evs wr hS7 hll)
          obtain ⟨n7, hn7⟩ : ∃ n7, evs.length = n7 := ⟨_, rfl⟩
          rw [hn7] at HROW HV hll ⊢
          clear hS7 HF HP hn7
          by_cases hp : pos = S.length
          · have hps : (pos : Int) = (s.size : Int) := by rw [hp, HLN.out]
            have hq1 : ((pos : Int) != (s.size : Int)) = false := by rw [hps]; simp
            have hq2 : (pos != s.size) = false := by rw [hp, HLN.out]; simp
            have HD := Lib.hid (show D = if odd || !validP evs then ([], 130) else (evs, 0) by rw [HD.out, if_neg (by simp [hp])])
            clear hp hps
            obtain ⟨y, hy⟩ : ∃ y, validP evs = y := ⟨_, rfl⟩
            rw [hy] at HV HD
            clear hy
            cases y with
            | false =>
              have HD := Lib.hid (show D = ([], 130) by rw [HD.out]; cases odd <;> rfl)
              go_wp2_with fail
              refine HV.out.mono ?_
              rintro e w9 ⟨rfl, hb9⟩
              have HB9 := Lib.hid (HB.out.trans (hb9.mono HB.out.size))
              clear hb9
              go_wp2_with fail
              go_ret2
              exact ⟨_, by rw [HD.out]; rfl, by rw [HD.out]; exact ERow.nil _ _, HB9.out⟩
            | true =>
              cases odd with
              | true =>
                have HD := Lib.hid (show D = ([], 130) from HD.out)
                go_wp2_with fail
                refine HV.out.mono ?_
                rintro e w9 ⟨rfl, hb9⟩
                have HB9 := Lib.hid (HB.out.trans (hb9.mono HB.out.size))
                clear hb9
                go_wp2_with fail
                go_ret2
                exact ⟨_, by rw [HD.out]; rfl, by rw [HD.out]; exact ERow.nil _ _, HB9.out⟩
              | false =>
                have HD := Lib.hid (show D = (evs, 0) from HD.out)
                go_wp2_with fail
                refine HV.out.mono ?_
                rintro e w9 ⟨rfl, hb9⟩
                have HB9 := Lib.hid (HB.out.trans (hb9.mono HB.out.size))
                have HR9 := Lib.hid (ERow.below HROW.out hb9)
                clear hb9
                go_wp2_with fail
                go_ret2
                exact ⟨_, by rw [HD.out]; rfl, by rw [HD.out]; exact HR9.out, HB9.out⟩
          · have hps : ¬ (pos : Int) = (s.size : Int) := by rw [← HLN.out]; omega
            have hq1 : ((pos : Int) != (s.size : Int)) = true := by rw [bne_iff_ne]; exact hps
            have hq2 : (pos != s.size) = true := by rw [bne_iff_ne]; omega
            have HD := Lib.hid (show D = ([], 10) by rw [HD.out, if_pos (by simp [hp])])
            clear hp hps
            go_wp2_with fail
            go_ret2
            exact ⟨_, by rw [HD.out]; rfl, by rw [HD.out]; exact ERow.nil _ _, HB.out⟩
    · have hdec : decodeR S = ([], 130) := by rw [decodeR, HRI.out]; simp only; rw [if_neg hn]
      rw [hdec]
      have hd : decide (0 ≤ n ∧ n ≤ 1000) = false := decide_eq_false hn
      have HW1 := Lib.hid (HW.out n 0 1000)
      rw [hd] at HW1
      clear hdec hn hd HI HRI
      go_enter Try.func28, Try.ntmps28
      go_wp2_with fail
      refine HI0.out.mono ?_
      rintro e w2 ⟨rfl, hb2⟩
      have HB2 := Lib.hid hb2
      clear hb2
      go_wp2_with fail
      refine (HW1.out _).mono ?_
      rintro e w3 ⟨rfl, rfl⟩
      go_wp2_with fail
      go_ret2
      exact ⟨_, rfl, ERow.nil _ _, HB2.out⟩
end Go.Proofs.Ythblehinmbgbdaa
