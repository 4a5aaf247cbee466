/- PerformanceEncodingMatchesReference: Encode and Decode agree with the reference implementation, and undo each other. -/
import Derived.Test.YthblehinmbgbdaaG45
import Derived.Test.YthblehinmbgbdaaG32
import Derived.Test.YthblehinmbgbdaaG30
namespace Go.Proofs.Ythblehinmbgbdaa
open Go.RowKit
set_option maxRecDepth 100000

theorem byte_bounds {c : Int} (h : (Lit.int .u8 c).wf = true) : 0 ≤ c ∧ c ≤ 255 := by
  simp [Lit.wf, IntKind.min, IntKind.max, IntKind.bits, IntKind.signed] at h
  omega
theorem enc_cases (X : List Ev) (hl : X.length < 40) : ∃ (S : List UInt8) (er : Int), encodeR X = (S, er) ∧ S.length ≤ 2000 ∧ ((er = 0 ∧ decodeR S = (X, 0)) ∨ er = 130) := by
  cases hv : validP X with
  | false => exact ⟨[], 130, by rw [encodeR, hv]; rfl, by simp, .inr rfl⟩
  | true =>
    refine ⟨encE X, 0, by rw [encodeR, if_pos hv], ?_, .inl ⟨rfl, decode_encode hv⟩⟩
    have h1 := enc_len X.length
    have h2 := encFrom_length X 0
    rw [encE, List.length_append]
    omega
theorem dec_cases (s : List UInt8) : ∃ (P : List Ev) (e : Int), decodeR s = (P, e) ∧ P.length ≤ 1000 ∧ ((e = 0 ∧ encodeR P = (s, 0)) ∨ e ≠ 0) := by
  obtain ⟨P, e, h⟩ : ∃ P e, decodeR s = (P, e) := ⟨_, _, rfl⟩
  by_cases he : e = 0
  · subst he
    obtain ⟨h1, h2⟩ := encode_decode h
    exact ⟨P, 0, h, (validP_iff.1 h1).1, .inl ⟨rfl, by rw [encodeR, if_pos h1, h2]⟩⟩
  · have := decodeR_err h he
    exact ⟨P, e, h, by rw [this]; simp, .inr he⟩
theorem decode_b {sb : ByteArray} {P : List Ev} {er : Int} {n : Nat} (w : World) (hs : sb.size ≤ 4611686018427387903) (hd : decodeR sb.data.toList = (P, er)) (hn : P.length = n) :
    Calls Try.prog 27 #[.string sb] w fun e w' => ∃ a c, e = .returned (.tuple #[.slice a n c, .int .i64 er]) ∧ EvS w' a P ∧ Below w.heap.size w w' := by
  refine (decode_any sb w hs).mono ?_
  rintro e w' ⟨v, rfl, hr, hb⟩
  rw [hd] at hr ⊢
  obtain ⟨a, c, rfl, -, hS, -⟩ := hr.isSlice
  subst hn
  exact ⟨a, c, rfl, hS, hb⟩
theorem refDecode_b {sb : ByteArray} {P : List Ev} {er : Int} {n : Nat} (w : World) (hs : sb.size ≤ 4611686018427387903) (hd : decodeR sb.data.toList = (P, er)) (hn : P.length = n) :
    Calls Try.prog 28 #[.string sb] w fun e w' => ∃ a c, e = .returned (.tuple #[.slice a n c, .int .i64 er]) ∧ EvS w' a P ∧ Below w.heap.size w w' := by
  refine (refDecode_any sb w hs).mono ?_
  rintro e w' ⟨v, rfl, hr, hb⟩
  rw [hd] at hr ⊢
  obtain ⟨a, c, rfl, -, hS, -⟩ := hr.isSlice
  subst hn
  exact ⟨a, c, rfl, hS, hb⟩
theorem same_d {a : Option Addr} {n c : Nat} {P : List Ev} {a' : Option Addr} {c' : Nat} {w : World} (hX : EvS w a P) (hY : EvS w a' P) (hn : P.length = n) (hl : P.length ≤ 1000) :
    Calls Try.prog 20 #[.slice a n c, .slice a' n c'] w fun e w' => e = .returned (.bool true) ∧ Below w.heap.size w w' := by
  subst hn
  have := same_any a c P a' c' P w hX hY hl hl
  rwa [decide_eq_true rfl] at this
theorem enc_b {a : Option Addr} {n c : Nat} {P : List Ev} {w : World} {S : List UInt8} {er : Int} (hX : EvS w a P) (hn : P.length = n) (hl : P.length ≤ 1000) (he : encodeR P = (S, er)) :
    Calls Try.prog 25 #[.slice a n c] w fun e w' => e = .returned (.tuple #[.string ⟨S.toArray⟩, .int .i64 er]) ∧ Below w.heap.size w w' := by
  subst hn
  have := encode_any a c P w hX hl
  rw [he] at this
  exact this
theorem refEnc_b {a : Option Addr} {n c : Nat} {P : List Ev} {w : World} {S : List UInt8} {er : Int} (hX : EvS w a P) (hn : P.length = n) (hl : P.length ≤ 1000) (he : encodeR P = (S, er)) :
    Calls Try.prog 26 #[.slice a n c] w fun e w' => e = .returned (.tuple #[.string ⟨S.toArray⟩, .int .i64 er]) ∧ Below w.heap.size w w' := by
  subst hn
  have := refEncode_any a c P w hX hl
  rw [he] at this
  exact this
theorem str_back (b : ByteArray) : (⟨b.data.toList.toArray⟩ : ByteArray) = b := by
  cases b
  simp
/-- Two strings in a block. -/
def SRows (W : World) (g : Nat) : Prop := ∀ j, j < 2 → ∃ b : ByteArray, W.cell? ⟨g, j, none⟩ = some (.string b) ∧ b.size ≤ 5000
theorem SRows.below {W W' : World} {g : Nat} (h : SRows W g) (hg : g < W.heap.size) (hb : Below W.heap.size W W') : SRows W' g := by
  intro j hj
  obtain ⟨b, h1, h2⟩ := h j hj
  exact ⟨b, (hb.cell (p := ⟨g, j, none⟩) hg).trans h1, h2⟩
theorem ext_le (t : ByteArray) (i j : Nat) : (t.extract i j).size ≤ t.size := by
  simp only [ByteArray.size_extract]; omega
theorem one_byte {c : Int} (hc : 0 ≤ c ∧ c ≤ 255) : ∃ B : ByteArray, B.size = 1 ∧ ∀ (W : World) (b : Nat), W.cell? ⟨b, 0, none⟩ = some (.int .u8 c) → (convert 47 9 (.slice (some ⟨b, 0, none⟩) 1 1)).run Try.prog W = .ok (.string B) W := by
  have hx : ((UInt8.ofNat c.toNat).toNat : Int) = c := by
    rw [UInt8.toNat_ofNat']
    omega
  refine ⟨⟨[UInt8.ofNat c.toNat].toArray⟩, rfl, ?_⟩
  intro W b hcell
  refine run_convert_bytes_back _ 47 9 5 ⟨b, 0, none⟩ 1 [UInt8.ofNat c.toNat] Try.underlying47 Try.underlying5 Try.underlying9 ?_
  intro j hj
  match j, hj with
  | 0, _ =>
    show W.cell? (Addr.add ⟨b, 0, none⟩ 0) = some (.int .u8 ((UInt8.ofNat c.toNat).toNat : Int))
    rw [hx, Go.WideShapes.add_plain]
    exact hcell
attribute [local irreducible] someOf encodeR decodeR encE
set_option maxHeartbeats 8000000 in
theorem cod_any (ar : Option Addr) (cr : Nat) (R : List Ev) (al : Option Addr) (cl : Nat) (Q : List Qd) (pos c : Int) (s : ByteArray) (w : World)
    (hR : EvS w ar R) (hRI : EvI R) (hRc : R.length ≤ cr) (hRm : cr ≤ 9223372036854775807) (hRn : ar = none → cr = 0) (hQ : QdS w al Q) (hQI : QdI Q) (hQl : Q.length ≤ 9223372036854775807) (hpos : I64 pos) (hc : 0 ≤ c ∧ c ≤ 255) (hs : s.size ≤ 9223372036854775807) :
    Calls Try.prog 4 #[.slice ar R.length cr, .slice al Q.length cl, .int .i64 pos, .int .u8 c, .string s] w fun e w' => e = .returned (.bool true) ∧ Below w.heap.size w w' := by
  obtain ⟨nr, hnr⟩ : ∃ n, R.length = n := ⟨_, rfl⟩
  obtain ⟨nq, hnq⟩ : ∃ n, Q.length = n := ⟨_, rfl⟩
  obtain ⟨A, hA⟩ : ∃ A, someOf Q = A := ⟨_, rfl⟩
  obtain ⟨kb, hkb⟩ : ∃ l, min nr 30 = l := ⟨_, rfl⟩
  have HPR : Hid (∀ W, Below w.heap.size w W → Pf W ar kb (R.take kb)) := Lib.hid (fun W hW => ⟨(hR.below hW).take kb, by rw [List.length_take]; omega, by omega, fun e he => hRI e (List.mem_of_mem_take he)⟩)
  have hmm : ∀ wx, (Builtin.min_ #[3, 3] 3 #[.int .i64 (nr : Int), .int .i64 30]).run Try.prog wx = .ok (.int .i64 (kb : Int)) wx := fun wx => by rw [run_min2, show min (nr : Int) 30 = (kb : Int) by omega]
  have HSA := Lib.hid (fun W => sane_any W)
  have HSM : Hid (∀ W, Below w.heap.size w W → Calls Try.prog 12 #[.slice al nq cl] W fun e w' => ∃ a' n' c', e = .returned (.slice a' n' c') ∧ n' ≤ 30 ∧ Pf w' a' n' A ∧ Below W.heap.size W w') := Lib.hid (fun W hW => by
    have := some_b (c := cl) (hQ.below hW) hnq hQI (by omega)
    rwa [hA] at this)
  have HPW := Lib.hid (fun (n : Int) W h1 h2 => pickL_any pos n W hpos h1 h2)
  obtain ⟨B1, hB1, hcv⟩ := one_byte hc
  have HCV := Lib.hid hcv
  have HB1 := Lib.hid hB1
  have HS := Lib.hid hs
  rw [hnr] at hRc ⊢
  rw [hnq]
  have k0 : (0 : Int) ≤ (kb : Int) := by omega
  have k1 : (kb : Int) ≤ (nr : Int) := by omega
  have k2 : (kb : Int) ≤ (cr : Int) := by omega
  have k3 : ¬ ((cr : Int) < (kb : Int)) := by omega
  have k4 : kb ≤ cr := by omega
  clear hR hRI hQ hQI hQl hnq hA hpos hnr hkb hcv hB1 hs hc
  have HB := Lib.hid (Below.refl w.heap.size w)
  go_enter Try.func4, Try.ntmps4
  go_wp2_with fail
  refine (HSA.out _).mono ?_
  rintro e w1 ⟨rfl, hb⟩
  have HB := Lib.hid (HB.out.trans (hb.mono HB.out.size))
  clear hb
  go_wp2_with fail
  refine (HSM.out _ HB.out).mono ?_
  rintro e w2 ⟨aA, nA, cA, rfl, hn30, hpA, hb⟩
  have HB := Lib.hid (HB.out.trans (hb.mono HB.out.size))
  have HPA := Lib.hid hpA
  clear hb hpA
  have HPR := Lib.hid (HPR.out _ HB.out)
  clear HSM HSA
  go_upto_region 4 with fail
  go_cut [40, 41, 42] (fun v l i wx => ∃ g, v = .slice (some ⟨g, 0, none⟩) 2 2 ∧ l = .int .i64 2 ∧ i = .int .i64 0 ∧ g < wx.heap.size ∧ PRows wx g 2 ∧ Below w2.heap.size w2 wx)
  case first =>
    have HEND : Hid (∀ wx, w2.alloc (.cells #[.slice ar kb cr, .slice aA nA cA] 25) = wx → w2.heap.size < wx.heap.size ∧ PRows wx w2.heap.size 2 ∧ Below w2.heap.size w2 wx) := Lib.hid (by
      rintro wx rfl
      have hb : Below w2.heap.size w2 (w2.alloc (.cells #[.slice ar kb cr, .slice aA nA cA] 25)) := (Below.refl _ _).alloc (Nat.le_refl _) _
      refine ⟨by simp, ?_, hb⟩
      intro j hj
      match j, hj with
      | 0, _ => exact ⟨ar, kb, cr, _, by rw [Lib.cell_of_heap (heap_last w2 _)]; rfl, HPR.out.below hb⟩
      | 1, _ => exact ⟨aA, nA, cA, _, by rw [Lib.cell_of_heap (heap_last w2 _)]; rfl, HPA.out.below hb⟩)
    cases ar with
    | none =>
      obtain rfl : cr = 0 := hRn rfl
      obtain rfl : nr = 0 := by omega
      obtain rfl : kb = 0 := by omega
      go_wp2_with fail
      go_meet
      exact ⟨_, rfl, rfl, rfl, HEND.out _ rfl⟩
    | some a =>
      obtain ⟨q1, q2, q3⟩ := a
      clear hRn
      go_wp2_with fail
      go_meet
      exact ⟨_, rfl, rfl, rfl, HEND.out _ rfl⟩
  case rest =>
  obtain ⟨gP, rfl, rfl, rfl, hgP, hPR, hbP⟩ := hcut
  obtain ⟨w3, hw3⟩ : ∃ w3, wc = w3 := ⟨_, rfl⟩
  rw [hw3] at hgP hPR hbP ⊢
  clear hw3
  have HB := Lib.hid (HB.out.trans (hbP.mono HB.out.size))
  have HPRW := Lib.hid hPR
  have HGP := Lib.hid hgP
  clear hPR hgP hbP HPA HPR hmm k0 k1 k2 k3 k4 hRc hRm hRn hn30
  go_wp2_with fail
  go_loopw [42, 13] (fun i v wx => ∃ (j : Nat) (tb : ByteArray), j ≤ 2 ∧ i = .int .i64 j ∧ v = .string tb ∧ tb.size ≤ 2000 ∧ Below w3.heap.size w3 wx) (fun i _ _ => 2 - (intOf i).toNat)
  case atStart => exact ⟨0, ⟨#[]⟩, by omega, rfl, rfl, by decide, Below.refl _ _⟩
  case round =>
    obtain ⟨j, tb, hj, rfl, rfl, htb, hb⟩ := hrel
    obtain ⟨wo, rfl⟩ : ∃ wo, wo = wr := ⟨_, rfl⟩
    have HLj := Lib.hid hb
    clear hb
    have nj : (0 : Int) ≤ (j : Int) := by omega
    by_cases hlt : j < 2
    · have pj1 : (j : Int) < 2 := by omega
      have pj2 : decide ((j : Int) < 2) = true := by rw [decide_eq_true_iff]; omega
      have pj3 : decide (j < 2) = true := by rw [decide_eq_true_iff]; omega
      obtain ⟨aX, nX, cX, X, hcX, hpX⟩ := (HPRW.out.below HGP.out HLj.out) j hlt
      have HPX := Lib.hid hpX
      obtain ⟨S, er, hE, hSl, hcase⟩ := enc_cases X (by rw [hpX.l]; exact hpX.b)
      obtain ⟨sb, hsb⟩ : ∃ b : ByteArray, ⟨S.toArray⟩ = b := ⟨_, rfl⟩
      have HSZ : Hid (sb.size ≤ 2000) := Lib.hid (by rw [← hsb, str_len]; exact hSl)
      have hdt : sb.data.toList = S := by rw [← hsb]
      have HEN : Hid (∀ W, Below wo.heap.size wo W → Calls Try.prog 25 #[.slice aX nX cX] W fun e w' => e = .returned (.tuple #[.string sb, .int .i64 er]) ∧ Below W.heap.size W w') := Lib.hid (fun W hW => by
        rw [← hsb]
        exact enc_b (HPX.out.s.below hW) HPX.out.l (by have := HPX.out.l; have := HPX.out.b; omega) hE)
      have HRE : Hid (∀ W, Below wo.heap.size wo W → Calls Try.prog 26 #[.slice aX nX cX] W fun e w' => e = .returned (.tuple #[.string sb, .int .i64 er]) ∧ Below W.heap.size W w') := Lib.hid (fun W hW => by
        rw [← hsb]
        exact refEnc_b (HPX.out.s.below hW) HPX.out.l (by have := HPX.out.l; have := HPX.out.b; omega) hE)
      obtain ⟨P, e2, hD, hPl, -⟩ := dec_cases S
      have HD : Hid (decodeR sb.data.toList = (P, e2)) := Lib.hid (by rw [hdt]; exact hD)
      have hq1 : (sb.toList != sb.toList) = false := bne_self_eq_false _
      have hq2 : (sb.toList == sb.toList) = true := beq_self_eq_true _
      have hq3 : (er != er) = false := bne_self_eq_false er
      obtain ⟨nP, hnP⟩ : ∃ n, P.length = n := ⟨_, rfl⟩
      have HCASE := Lib.hid hcase
      have HDS := Lib.hid hD
      have HNP := Lib.hid hnP
      clear hcase hD hnP hE hSl hsb hdt hpX hPl
      rcases HCASE.out with ⟨he, hd⟩ | he
      · subst he
        have hPX : P = X ∧ e2 = 0 := by
          have := HDS.out
          rw [hd] at this
          injection this with h1 h2
          exact ⟨h1.symm, h2.symm⟩
        obtain ⟨h1, h2⟩ := hPX
        subst h1 h2
        obtain rfl : nP = nX := by rw [← HNP.out, ← HPX.out.l]
        clear hd HCASE
        have HZ := Lib.hid (Below.refl wo.heap.size wo)
        go_wp2_with fail
        refine (HEN.out _ HZ.out).mono ?_
        rintro e v1 ⟨rfl, hb⟩
        have HZ := Lib.hid (HZ.out.trans (hb.mono HZ.out.size))
        clear hb
        go_wp2_with fail
        refine (HRE.out _ HZ.out).mono ?_
        rintro e v2 ⟨rfl, hb⟩
        have HZ := Lib.hid (HZ.out.trans (hb.mono HZ.out.size))
        clear hb
        go_wp2_with fail
        refine (decode_b _ (by have := HSZ.out; omega) HD.out HNP.out).mono ?_
        rintro e v3 ⟨aD, cD, rfl, hsD, hb⟩
        have HZ := Lib.hid (HZ.out.trans (hb.mono HZ.out.size))
        have HSD := Lib.hid hsD
        clear hb hsD
        go_wp2_with fail
        refine (same_d (HPX.out.s.below HZ.out) HSD.out HNP.out (by have := HNP.out; have := HPX.out.b; omega)).mono ?_
        rintro e v4 ⟨rfl, hb⟩
        have HZ := Lib.hid (HZ.out.trans (hb.mono HZ.out.size))
        clear hb
        go_wp2_with fail
        go_roundw
        case rel => exact ⟨j + 1, sb, by omega, by push_cast; rfl, rfl, HSZ.out, HLj.out.trans (HZ.out.mono HLj.out.size)⟩
        case measure => simp [intOf]; omega
      · subst he
        clear HCASE
        have HZ := Lib.hid (Below.refl wo.heap.size wo)
        go_wp2_with fail
        refine (HEN.out _ HZ.out).mono ?_
        rintro e v1 ⟨rfl, hb⟩
        have HZ := Lib.hid (HZ.out.trans (hb.mono HZ.out.size))
        clear hb
        go_wp2_with fail
        refine (HRE.out _ HZ.out).mono ?_
        rintro e v2 ⟨rfl, hb⟩
        have HZ := Lib.hid (HZ.out.trans (hb.mono HZ.out.size))
        clear hb
        go_wp2_with fail
        refine (decode_b _ (by have := HSZ.out; omega) HD.out HNP.out).mono ?_
        rintro e v3 ⟨aD, cD, rfl, hsD, hb⟩
        have HZ := Lib.hid (HZ.out.trans (hb.mono HZ.out.size))
        have HSD := Lib.hid hsD
        clear hb hsD
        go_wp2_with fail
        go_roundw
        case rel => exact ⟨j + 1, sb, by omega, by push_cast; rfl, rfl, HSZ.out, HLj.out.trans (HZ.out.mono HLj.out.size)⟩
        case measure => simp [intOf]; omega
    · obtain rfl : j = 2 := by omega
      have HB := Lib.hid (HB.out.trans (HLj.out.mono HB.out.size))
      clear hlt HLj HPRW HGP
      obtain ⟨nb, hnb⟩ : ∃ b, (!tb.toList.isEmpty) = b := ⟨_, rfl⟩
      go_upto_if 84 with fail
      go_cut [13] (fun v wx => ∃ b : ByteArray, v = .string b ∧ b.size ≤ 5000 ∧ Below wo.heap.size wo wx)
      case first =>
        cases nb with
        | false =>
          clear hnb
          go_wp2_with fail
          go_meet
          exact ⟨tb, rfl, by omega, Below.refl _ _⟩
        | true =>
          have hz : ¬ tb.size = 0 := by
            intro hz
            have hn : tb.toList.isEmpty = true := by rw [ByteArray.toList_eq, List.isEmpty_iff_length_eq_zero, Array.length_toList]; exact hz
            rw [hn] at hnb
            cases hnb
          clear hnb
          go_upto_region 17 with fail
          go_wp2_with fail
          refine (HPW.out (tb.size : Int) _ (by omega) (by omega)).mono ?_
          rintro e _ ⟨rfl, rfl⟩
          obtain ⟨kk, ek, z0, z1⟩ := pick_small (c := pos) (n := (tb.size : Int)) (by omega)
          rw [ek]
          clear ek
          obtain ⟨k, rfl⟩ : ∃ k : Nat, kk = k := ⟨kk.toNat, by omega⟩
          have y1 : (k : Int) ≤ (tb.size : Int) := by omega
          have y2 : k ≤ tb.size := by omega
          obtain ⟨j, hj⟩ : ∃ j, k + 1 = j := ⟨_, rfl⟩
          have hwk : IntKind.i64.wrap ((k : Int) + 1) = (j : Int) := by rw [IntKind.wrap_i64]; omega
          have y3 : (0 : Int) ≤ (j : Int) := by omega
          have y4 : (j : Int) ≤ (tb.size : Int) := by omega
          have y5 : j ≤ tb.size := by omega
          have y6 : ¬ ((tb.size : Int) < (k : Int)) := by omega
          have y7 : ¬ ((tb.size : Int) < (j : Int)) := by omega
          have hcv := HCV.out
          have HSX : Hid (((tb.extract 0 k ++ B1) ++ tb.extract j tb.size).size ≤ 5000) := Lib.hid (by
            have h1 := ext_le tb 0 k
            have h2 := ext_le tb j tb.size
            have h3 := HB1.out
            simp only [ByteArray.size_append]
            omega)
          have y8 : (tb.extract 0 k).size + B1.size ≤ 9223372036854775807 := by have h1 := ext_le tb 0 k; have h3 := HB1.out; omega
          have y9 : (tb.extract 0 k ++ B1).size + (tb.extract j tb.size).size ≤ 9223372036854775807 := by have := HSX.out; rw [ByteArray.size_append] at this; omega
          clear hj z0 z1 htb hz
          go_upto_region 18 with fail
          go_region
          all_goals
            go_wp2_with fail
            go_meet
            exact ⟨_, rfl, HSX.out, by first | exact (Below.refl wo.heap.size wo).alloc (Nat.le_refl _) _ | exact ((Below.refl wo.heap.size wo).alloc (Nat.le_refl _) _).drew | exact ((Below.refl wo.heap.size wo).drew).alloc (Nat.le_refl _) _⟩
      case rest =>
      obtain ⟨tb2, rfl, htb2, hbl⟩ := hcut
      obtain ⟨w5, hw5⟩ : ∃ w5, wc = w5 := ⟨_, rfl⟩
      rw [hw5] at hbl ⊢
      clear hw5
      have HB := Lib.hid (HB.out.trans (hbl.mono HB.out.size))
      clear hbl htb HCV HB1 HPW
      obtain ⟨kq, hkq⟩ : ∃ l, min s.size 200 = l := ⟨_, rfl⟩
      have hmm : ∀ wx, (Builtin.min_ #[3, 3] 3 #[.int .i64 (s.size : Int), .int .i64 200]).run Try.prog wx = .ok (.int .i64 (kq : Int)) wx := fun wx => by rw [run_min2, show min (s.size : Int) 200 = (kq : Int) by omega]
      have g0 : (0 : Int) ≤ (kq : Int) := by omega
      have g1 : (kq : Int) ≤ (s.size : Int) := by omega
      have g2 : ¬ ((s.size : Int) < (kq : Int)) := by omega
      have g3 : kq ≤ s.size := by omega
      have HKQ : Hid ((s.extract 0 kq).size ≤ 5000) := Lib.hid (by simp only [ByteArray.size_extract]; omega)
      have hsz := HS.out
      obtain ⟨gT, hgT⟩ : ∃ xx, w5.heap.size = xx := ⟨_, rfl⟩
      obtain ⟨wT, hwT⟩ : ∃ xx, w5.alloc (.cells #[.string (s.extract 0 kq), .string tb2] 9) = xx := ⟨_, rfl⟩
      have HSR : Hid (SRows wT gT) := Lib.hid (by
        rw [← hwT, ← hgT]
        intro j hj
        match j, hj with
        | 0, _ => exact ⟨_, by rw [Lib.cell_of_heap (heap_last w5 _)]; rfl, HKQ.out⟩
        | 1, _ => exact ⟨_, by rw [Lib.cell_of_heap (heap_last w5 _)]; rfl, htb2⟩)
      have HGT : Hid (gT < wT.heap.size) := Lib.hid (by rw [← hwT, ← hgT]; simp)
      have hbT : Below w5.heap.size w5 wT := by rw [← hwT]; exact (Below.refl _ _).alloc (Nat.le_refl _) _
      have HB := Lib.hid (HB.out.trans (hbT.mono HB.out.size))
      clear hbT htb2 hkq
      go_wp2_with fail
      clear hwT hgT hmm g0 g1 g2 g3 hsz
      go_loopw [109] (fun i wx => ∃ i2 : Nat, i2 ≤ 2 ∧ i = .int .i64 i2 ∧ Below wT.heap.size wT wx) (fun i _ => 2 - (intOf i).toNat)
      case atStart => exact ⟨0, by omega, rfl, Below.refl _ _⟩
      case round =>
        obtain ⟨i2, hi2, rfl, hb⟩ := hrel
        obtain ⟨wp, rfl⟩ : ∃ wo, wo = wr := ⟨_, rfl⟩
        have HLi := Lib.hid hb
        clear hb
        have ni : (0 : Int) ≤ (i2 : Int) := by omega
        by_cases hlt : i2 < 2
        · have pj1 : (i2 : Int) < 2 := by omega
          have pj2 : decide ((i2 : Int) < 2) = true := by rw [decide_eq_true_iff]; omega
          have pj3 : decide (i2 < 2) = true := by rw [decide_eq_true_iff]; omega
          obtain ⟨b, hcb, hb5⟩ := (HSR.out.below HGT.out HLi.out) i2 hlt
          obtain ⟨P, er, hD, hPl, hcase⟩ := dec_cases b.data.toList
          obtain ⟨nP, hnP⟩ : ∃ n, P.length = n := ⟨_, rfl⟩
          have HD := Lib.hid hD
          have HPL := Lib.hid hPl
          have HNP := Lib.hid hnP
          have HSZ : Hid (b.size ≤ 4611686018427387903) := Lib.hid (by omega)
          have HCASE := Lib.hid hcase
          have hq1 : (b.toList != b.toList) = false := bne_self_eq_false _
          have hq2 : (b.toList == b.toList) = true := beq_self_eq_true _
          have hq3 : (er != er) = false := bne_self_eq_false er
          clear hD hPl hnP hcase hb5
          have HZ := Lib.hid (Below.refl wp.heap.size wp)
          rcases HCASE.out with ⟨he, hE⟩ | he
          · subst he
            have HE := Lib.hid hE
            clear hE HCASE
            go_wp2_with fail
            refine (decode_b _ HSZ.out HD.out HNP.out).mono ?_
            rintro e v1 ⟨aD, cD, rfl, hsD, hb⟩
            have HZ := Lib.hid (HZ.out.trans (hb.mono HZ.out.size))
            have HSD := Lib.hid hsD
            clear hb hsD
            go_wp2_with fail
            refine (refDecode_b _ HSZ.out HD.out HNP.out).mono ?_
            rintro e v2 ⟨aE, cE, rfl, hsE, hb⟩
            have HZ := Lib.hid (HZ.out.trans (hb.mono HZ.out.size))
            have HSE := Lib.hid hsE
            have HSD := Lib.hid (HSD.out.below hb)
            clear hb hsE
            go_wp2_with fail
            refine (same_d HSD.out HSE.out HNP.out HPL.out).mono ?_
            rintro e v3 ⟨rfl, hb⟩
            have HZ := Lib.hid (HZ.out.trans (hb.mono HZ.out.size))
            have HSD := Lib.hid (HSD.out.below hb)
            clear hb
            go_wp2_with fail
            refine (enc_b HSD.out HNP.out HPL.out HE.out).mono ?_
            rintro e v4 ⟨rfl, hb⟩
            have HZ := Lib.hid (HZ.out.trans (hb.mono HZ.out.size))
            clear hb
            rw [str_back]
            go_wp2_with fail
            go_roundw
            case rel => exact ⟨i2 + 1, by omega, by push_cast; rfl, HLi.out.trans (HZ.out.mono HLi.out.size)⟩
            case measure => simp [intOf]; omega
          · have hq4 : (er == 0) = false := by rw [beq_eq_false_iff_ne]; exact he
            obtain ⟨S2, e3, hE⟩ : ∃ S e, encodeR P = (S, e) := ⟨_, _, rfl⟩
            have HE := Lib.hid hE
            clear hE HCASE he
            go_wp2_with fail
            refine (decode_b _ HSZ.out HD.out HNP.out).mono ?_
            rintro e v1 ⟨aD, cD, rfl, hsD, hb⟩
            have HZ := Lib.hid (HZ.out.trans (hb.mono HZ.out.size))
            have HSD := Lib.hid hsD
            clear hb hsD
            go_wp2_with fail
            refine (refDecode_b _ HSZ.out HD.out HNP.out).mono ?_
            rintro e v2 ⟨aE, cE, rfl, hsE, hb⟩
            have HZ := Lib.hid (HZ.out.trans (hb.mono HZ.out.size))
            have HSE := Lib.hid hsE
            have HSD := Lib.hid (HSD.out.below hb)
            clear hb hsE
            go_wp2_with fail
            refine (same_d HSD.out HSE.out HNP.out HPL.out).mono ?_
            rintro e v3 ⟨rfl, hb⟩
            have HZ := Lib.hid (HZ.out.trans (hb.mono HZ.out.size))
            have HSD := Lib.hid (HSD.out.below hb)
            clear hb
            go_wp2_with fail
            refine (enc_b HSD.out HNP.out HPL.out HE.out).mono ?_
            rintro e v4 ⟨rfl, hb⟩
            have HZ := Lib.hid (HZ.out.trans (hb.mono HZ.out.size))
            clear hb
            go_wp2_with fail
            go_roundw
            case rel => exact ⟨i2 + 1, by omega, by push_cast; rfl, HLi.out.trans (HZ.out.mono HLi.out.size)⟩
            case measure => simp [intOf]; omega
        · obtain rfl : i2 = 2 := by omega
          have HB := Lib.hid (HB.out.trans (HLi.out.mono HB.out.size))
          clear hlt
          go_wp2_with fail
          go_ret
          exact ⟨rfl, HB.out⟩
end Go.Proofs.Ythblehinmbgbdaa
