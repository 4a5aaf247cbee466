/- EvidenceBound: evidence with the same last value is for the same value, and has the same stamps, or two different strings have the same digest. -/
import Derived.Test.YtkihcigojhcmgaaDoorG20
import Derived.Test.YtkihcigojhcmgaaDoorG19
import Derived.Deep.CutBlock
import Derived.Deep.RegionHeld
namespace Go.Proofs.YtkihcigojhcmgaaDoor
open Go.RowKit
set_option maxRecDepth 100000

theorem pre_len {L : List Stp} {V : List UInt8} {i : Nat} {s : Stp} (hk : check L V = true) (hV : V.length ≤ 60) (hL : L.length ≤ 8) : (pre V (L.take i) s).length ≤ 1000000 := by
  have hfin := check_fine hk
  have k1 := cov_len V (L.take i) (by omega) (by rw [List.length_take]; omega) (fun x hx => (hfin x (List.mem_of_mem_take hx)).2.2.2)
  have k2 := nums_len s
  show (_ :: (cov V (L.take i) ++ nums s)).length ≤ 1000000
  rw [List.length_cons, List.length_append]
  omega
/-- One byte, made a string. -/
theorem back_one {L : List Stp} {V : List UInt8} {i : Nat} {s : Stp} (hk : check L V = true) (hs : L[i]? = some s) : ((UInt8.ofNat s.hash.toNat).toNat : Int) = s.hash ∧ IntKind.u8.wrap s.hash = s.hash ∧
    ∀ (W : World) (b : Nat), W.cell? ⟨b, 0, none⟩ = some (.int .u8 s.hash) → (convert 52 9 (.slice (some ⟨b, 0, none⟩) 1 1)).run Tryd.prog W = .ok (.string ⟨[UInt8.ofNat s.hash.toNat].toArray⟩) W := by
  obtain ⟨-, -, h0, h1, -⟩ := (valid_iff s).1 (check_valid hk hs)
  have hx : ((UInt8.ofNat s.hash.toNat).toNat : Int) = s.hash := by
    rw [UInt8.toNat_ofNat']
    omega
  refine ⟨hx, ?_, ?_⟩
  · have key : ∀ k : Fin 8, IntKind.u8.wrap (k.val : Int) = (k.val : Int) := by decide +kernel
    have := key ⟨s.hash.toNat, by omega⟩
    simp only [Int.toNat_of_nonneg h0] at this
    exact this
  · intro W b hc
    refine run_convert_bytes_back _ 52 9 5 ⟨b, 0, none⟩ 1 [UInt8.ofNat s.hash.toNat] Tryd.underlying52 Tryd.underlying5 Tryd.underlying9 ?_
    intro j hj
    match j, hj with
    | 0, _ =>
      show W.cell? (Addr.add ⟨b, 0, none⟩ 0) = some (.int .u8 ((UInt8.ofNat s.hash.toNat).toNat : Int))
      rw [hx, Go.WideShapes.add_plain]
      exact hc
/-- The front: the second value and its integers, or the first ones again. -/
structure Twin (w : World) (same : Bool) (V1 V2 : List UInt8) (ax ay : Option Addr) (cx cy : Nat) (X Y : List Tri) (V : List UInt8) (a : Option Addr) (c : Nat) (Z : List Tri) : Prop where
  hV : V.length ≤ 60
  hZ : TrS w a Z
  hk : TriOk Z
  hl : Z.length ≤ 9223372036854775807
  yes : same = true → V = V1 ∧ a = ax ∧ c = cx ∧ Z = X
  no : same = false → V = V2 ∧ a = ay ∧ c = cy ∧ Z = Y

set_option maxHeartbeats 4000000 in
theorem evBound_any (t1 t2 : ByteArray) (ax : Option Addr) (cx : Nat) (X : List Tri) (ay : Option Addr) (cy : Nat) (Y : List Tri) (same : Bool) (w : World) (hX : TrS w ax X) (hk : TriOk X) (hxl : X.length ≤ 9223372036854775807)
    (hY : TrS w ay Y) (hky : TriOk Y) (hyl : Y.length ≤ 9223372036854775807) (_ht1 : t1.size ≤ 9223372036854775807) (_ht2 : t2.size ≤ 9223372036854775807)
    (hw : RoundAt w) (hg : 0 < w.heap.size) :
    Calls Tryd.prog 6 #[.string t1, .string t2, .slice ax X.length cx, .slice ay Y.length cy, .bool same] w fun e w' => e = .returned (.bool true) ∧ Below w.heap.size w w' := by
  have HRA : Hid (∀ W, Below w.heap.size w W → RoundAt W ∧ 0 < W.heap.size) := Lib.hid (fun W hb => ⟨hw.below hg hb, Nat.lt_of_lt_of_le hg hb.size⟩)
  obtain ⟨k, V1, hmin, hkt, hext, hV, -⟩ := cut60 t1
  obtain ⟨l, V2, hmin2, hkt2, hext2, hV2, -⟩ := cut60 t2
  have hmm : ∀ wx, (Builtin.min_ #[3, 3] 3 #[.int .i64 (t1.size : Int), .int .i64 60]).run Tryd.prog wx = .ok (.int .i64 (k : Int)) wx := fun wx => by rw [run_min2, hmin]
  have hmm2 : ∀ wx, (Builtin.min_ #[3, 3] 3 #[.int .i64 (t2.size : Int), .int .i64 60]).run Tryd.prog wx = .ok (.int .i64 (l : Int)) wx := fun wx => by rw [run_min2, hmin2]
  obtain ⟨V, a, c, Z, hT⟩ : ∃ V a c Z, Twin w same V1 V2 ax ay cx cy X Y V a c Z := by
    cases same with
    | true => exact ⟨V1, ax, cx, X, hV, hX, hk, hxl, (fun _ => ⟨rfl, rfl, rfl, rfl⟩), (fun h => by cases h)⟩
    | false => exact ⟨V2, ay, cy, Y, hV2, hY, hky, hyl, (fun h => by cases h), (fun _ => ⟨rfl, rfl, rfl, rfl⟩)⟩
  have HT := Lib.hid hT
  have HX := Lib.hid hX
  have HK := Lib.hid hk
  obtain ⟨m, hm⟩ : ∃ m, X.length = m := ⟨_, rfl⟩
  obtain ⟨my, hmy⟩ : ∃ my, Y.length = my := ⟨_, rfl⟩
  obtain ⟨mz, hmz⟩ : ∃ mz, Z.length = mz := ⟨_, rfl⟩
  rw [hm] at hxl ⊢
  rw [hmy]
  have HM := Lib.hid hm
  have HMY := Lib.hid hmy
  have HMZ := Lib.hid hmz
  have k0 : (0 : Int) ≤ (k : Int) := by omega
  have k1 : (k : Int) ≤ (t1.size : Int) := by omega
  have l0 : (0 : Int) ≤ (l : Int) := by omega
  have l1 : (l : Int) ≤ (t2.size : Int) := by omega
  have HSA := Lib.hid (sane_any w (HRA.out w (Below.refl _ _)).1 (HRA.out w (Below.refl _ _)).2)
  clear hmin hmin2 hm hmy hmz hX hk hT hY hky hyl hw hg
  go_enter Tryd.func6, Tryd.ntmps6
  go_wp2_with fail
  refine HSA.out.mono ?_
  rintro e w1 ⟨rfl, hb1⟩
  have HB1 := Lib.hid hb1
  have hnot : ¬ ((t1.size : Int) < (k : Int)) := by omega
  have hnot2 : ¬ ((t2.size : Int) < (l : Int)) := by omega
  have hsz1 := hb1.size
  clear hb1 HSA
  go_upto_if 30 with fail
  go_cut [1, 3] (fun v y wx => v = .string ⟨V.toArray⟩ ∧ y = .slice a mz c ∧ wx = w1)
  case first =>
    cases same with
    | true =>
      obtain ⟨e1, e2, e3, e4⟩ := HT.out.yes rfl
      have e5 : mz = m := by rw [← HMZ.out, e4, HM.out]
      go_wp2_with fail
      go_meet
      exact ⟨by rw [e1], by rw [e2, e3, e5], rfl⟩
    | false =>
      obtain ⟨e1, e2, e3, e4⟩ := HT.out.no rfl
      have e5 : mz = my := by rw [← HMZ.out, e4, HMY.out]
      go_wp2_with fail
      go_meet
      exact ⟨by rw [e1], by rw [e2, e3, e5], rfl⟩
  case rest =>
  obtain ⟨rfl, rfl, rfl⟩ := hcut
  have HST := Lib.hid (stamps_any V1 ax cx X wc (HX.out.below HB1.out) HK.out (by omega) (by rw [HM.out]; exact hxl))
  rw [HM.out] at HST
  go_wp2_with fail
  refine HST.out.mono ?_
  rintro e w2 ⟨xs, rfl, hrow2, hb2⟩
  have HB2 := Lib.hid (HB1.out.trans (hb2.mono hsz1))
  have HST2 := Lib.hid (stamps_any V a c Z w2 (HT.out.hZ.below HB2.out) HT.out.hk (by have := HT.out.hV; omega) HT.out.hl)
  rw [HMZ.out] at HST2
  have HSAME : Hid (same = true → V = V1 ∧ stampsOf V Z = stampsOf V1 X) := Lib.hid (fun h => by
    obtain ⟨e1, -, -, e4⟩ := HT.out.yes h
    exact ⟨e1, by rw [e1, e4]⟩)
  obtain ⟨hl8, hck, -⟩ := stampsOf_facts V1 X
  obtain ⟨hl8', hck', -⟩ := stampsOf_facts V Z
  have hVl := HT.out.hV
  have hsz2 := HB2.out.size
  generalize stampsOf V1 X = L1 at *
  generalize stampsOf V Z = L2 at *
  obtain ⟨a2, cp2, h2, hcp2, hS2, -⟩ := hrow2.isSlice
  subst h2
  have HS2 := Lib.hid hS2
  have HCK := Lib.hid hck
  have HCK' := Lib.hid hck'
  obtain ⟨n1, hn1⟩ : ∃ n1, L1.length = n1 := ⟨_, rfl⟩
  have HN1 := Lib.hid hn1
  rw [hn1] at hcp2 hl8 ⊢
  clear hrow2 hS2 hb2 HST hck hck' hn1
  go_wp2_with fail
  refine HST2.out.mono ?_
  rintro e w3 ⟨xs, rfl, hrow3, hb3⟩
  obtain ⟨a3, cp3, h3, hcp3, hS3, -⟩ := hrow3.isSlice
  subst h3
  obtain ⟨n2, hn2⟩ : ∃ n2, L2.length = n2 := ⟨_, rfl⟩
  have HN2 := Lib.hid hn2
  rw [hn2] at hcp3 hl8' ⊢
  have HB3 := Lib.hid (HB2.out.trans (hb3.mono hsz2))
  have HS3 := Lib.hid hS3
  have HS23 := Lib.hid (HS2.out.below hb3)
  clear hrow3 hS3 hb3 HST2 hn2 HS2
  have n10 : (0 : Int) ≤ (n1 : Int) := by omega
  have n20 : (0 : Int) ≤ (n2 : Int) := by omega
  have HC0 := Lib.hid (Below_drewN (Below.refl w3.heap.size w3) 1)
  by_cases h1 : n1 = 0
  · subst h1
    go_upto_region 9 with fail
    go_quiet (fail)
    cases same with
    | true =>
      go_wp2_with fail
      go_ret
      exact ⟨rfl, Below_drewN HB3.out _⟩
    | false =>
      go_wp2_with fail
      go_ret
      exact ⟨rfl, Below_drewN HB3.out _⟩
  obtain ⟨ga, oa, rfl, hga⟩ := HS23.out.some (by rw [HN1.out]; omega)
  have z1 : ((n1 : Int) == 0) = false := beq_eq_false_iff_ne.2 (by omega)
  have z2 : decide ((n1 : Int) = 0) = false := by rw [decide_eq_false_iff_not]; omega
  by_cases h2 : n2 = 0
  · subst h2
    cases same with
    | true =>
      exfalso
      have := congrArg List.length (HSAME.out rfl).2
      rw [HN1.out, HN2.out] at this
      omega
    | false =>
      clear h1
      go_upto_region 9 with fail
      go_quiet (fail)
      go_wp2_with fail
      go_ret
      exact ⟨rfl, Below_drewN HB3.out _⟩
  obtain ⟨gb, ob, rfl, hgb⟩ := HS3.out.some (by rw [HN2.out]; omega)
  have z3 : ((n2 : Int) == 0) = false := beq_eq_false_iff_ne.2 (by omega)
  have z4 : decide ((n2 : Int) = 0) = false := by rw [decide_eq_false_iff_not]; omega
  obtain ⟨p1, hp1⟩ : ∃ p1, n1 = p1 + 1 := ⟨n1 - 1, by omega⟩
  obtain ⟨p2, hp2⟩ : ∃ p2, n2 = p2 + 1 := ⟨n2 - 1, by omega⟩
  obtain ⟨s, hs⟩ : ∃ s, L1[p1]? = some s := ⟨_, List.getElem?_eq_getElem (by rw [HN1.out]; omega)⟩
  obtain ⟨r, hr⟩ : ∃ r, L2[p2]? = some r := ⟨_, List.getElem?_eq_getElem (by rw [HN2.out]; omega)⟩
  obtain ⟨-, x0, x1, x2, x3⟩ := HS23.out.get p1 s hs
  obtain ⟨-, y0, y1, y2, y3⟩ := HS3.out.get p2 r hr
  have HS := Lib.hid hs
  have HR := Lib.hid hr
  have HP1 := Lib.hid hp1
  have HP2 := Lib.hid hp2
  have e1 : (n1 : Int) - 1 = (p1 : Int) := by omega
  have e2 : (n2 : Int) - 1 = (p2 : Int) := by omega
  have e3 : IntKind.i64.wrap (p1 : Int) = (p1 : Int) := IntWalk.i64_in _ (by omega)
  have e4 : IntKind.i64.wrap (p2 : Int) = (p2 : Int) := IntWalk.i64_in _ (by omega)
  have e5 : IntKind.i64.wrap ((n1 : Int) - 1) = (p1 : Int) := by rw [e1]; exact e3
  have e6 : IntKind.i64.wrap ((n2 : Int) - 1) = (p2 : Int) := by rw [e2]; exact e4
  have i1 : (p1 : Int) < (n1 : Int) := by omega
  have i2 : (p2 : Int) < (n2 : Int) := by omega
  have i3 : p1 < n1 := by omega
  have i4 : p2 < n2 := by omega
  have i5 : (0 : Int) ≤ (p1 : Int) := by omega
  have i6 : (0 : Int) ≤ (p2 : Int) := by omega
  have d2 : decide (p1 < n1) = true := by rw [decide_eq_true_iff]; omega
  have d3 : decide (p2 < n2) = true := by rw [decide_eq_true_iff]; omega
  obtain ⟨A, hA⟩ : ∃ A : ByteArray, A = ⟨s.val.toArray⟩ := ⟨_, rfl⟩
  obtain ⟨B, hB⟩ : ∃ B : ByteArray, B = ⟨r.val.toArray⟩ := ⟨_, rfl⟩
  have HA := Lib.hid hA
  have HB := Lib.hid hB
  have hAB : (A.toList == B.toList) = decide (s.val = r.val) := by rw [hA, hB]; exact str_beq _ _
  rw [← hA] at x3
  rw [← hB] at y3
  have HCX : Hid (∀ wx, Below w3.heap.size w3 wx → wx.cell? ⟨ga, oa + p1 * 4 + 3, none⟩ = some (.string A) ∧ wx.cell? ⟨gb, ob + p2 * 4 + 3, none⟩ = some (.string B)) := Lib.hid (fun wx hx => ⟨(hx.cell (p := ⟨ga, _, none⟩) hga).trans x3, (hx.cell (p := ⟨gb, _, none⟩) hgb).trans y3⟩)
  have HX012 := Lib.hid (And.intro x0 (And.intro x1 (And.intro x2 x3)))
  have HY012 := Lib.hid (And.intro y0 (And.intro y1 (And.intro y2 y3)))
  clear hs hr hp1 hp2 hA hB x0 x1 x2 y0 y1 y2 h1 h2
  by_cases hv : s.val = r.val
  · have hAB2 : (A.toList == B.toList) = true := by rw [hAB]; exact decide_eq_true hv
    have hAB3 : (A.toList != B.toList) = false := by simp [bne, hAB2]
    have HV := Lib.hid hv
    clear hAB hv
    go_upto_region 9 with fail
    go_quiet (fail)
    have hb4 : Below w3.heap.size w3 (w3.drewN nq) := Below_drewN (Below.refl _ _) _
    generalize w3.drewN nq = w4 at *
    have HB4 := Lib.hid (HB3.out.trans (hb4.mono HB3.out.size))
    have HK1 := Lib.hid (HCK.out (by rw [HN1.out]; omega))
    have HK2 := Lib.hid (HCK'.out (by rw [HN2.out]; omega))
    have HS14 := Lib.hid (HS23.out.below hb4)
    have HS24 := Lib.hid (HS3.out.below hb4)
    have HCA1 : Hid (Calls Tryd.prog 21 #[.slice (some ⟨ga, oa, none⟩) n1 cp2, .string ⟨V1.toArray⟩] w4 fun e w' => e = .returned (.bool true) ∧ Below w4.heap.size w4 w') := Lib.hid (by
      have h := check_any V1 (some ⟨ga, oa, none⟩) cp2 L1 w4 HS14.out (by rw [HN1.out]; omega) (by omega) (HRA.out w4 HB4.out).1 (HRA.out w4 HB4.out).2
      rw [HK1.out, HN1.out] at h
      exact h)
    clear hb4 HCX HX012 HY012 x3 y3
    go_wp2_with fail
    refine HCA1.out.mono ?_
    rintro e w5 ⟨rfl, hb5⟩
    have HB5 := Lib.hid (HB4.out.trans (hb5.mono HB4.out.size))
    have HS15 := Lib.hid (HS14.out.below hb5)
    have HS25 := Lib.hid (HS24.out.below hb5)
    have HCA2 : Hid (Calls Tryd.prog 21 #[.slice (some ⟨gb, ob, none⟩) n2 cp3, .string ⟨V.toArray⟩] w5 fun e w' => e = .returned (.bool true) ∧ Below w5.heap.size w5 w') := Lib.hid (by
      have h := check_any V (some ⟨gb, ob, none⟩) cp3 L2 w5 HS25.out (by rw [HN2.out]; omega) (by omega) (HRA.out w5 HB5.out).1 (HRA.out w5 HB5.out).2
      rw [HK2.out, HN2.out] at h
      exact h)
    clear hb5 HCA1
    go_wp2_with fail
    refine HCA2.out.mono ?_
    rintro e w6 ⟨rfl, hb6⟩
    have HB6 := Lib.hid (HB5.out.trans (hb6.mono HB5.out.size))
    have HS16 := Lib.hid (HS15.out.below hb6)
    have HS26 := Lib.hid (HS25.out.below hb6)
    have hga6 := (HS16.out.get p1 s HS.out).1
    have hgb6 := (HS26.out.get p2 r HR.out).1
    obtain ⟨-, x0, x1, x2, x3⟩ := HS16.out.get p1 s HS.out
    obtain ⟨-, y0, y1, y2, y3⟩ := HS26.out.get p2 r HR.out
    rw [← HA.out] at x3
    rw [← HB.out] at y3
    clear hb6 HCA2
    go_upto_region 15 with fail
    have hw7 : ∃ w7, (w6.alloc (.cells #[.int .i64 s.day, .int .i64 s.hash, .int .i64 s.wit, .string A] 28)).alloc (.cells #[.int .i64 r.day, .int .i64 r.hash, .int .i64 r.wit, .string B] 28) = w7 := ⟨_, rfl⟩
    obtain ⟨w7, hw7⟩ := hw7
    have hb7 : Below w6.heap.size w6 w7 := by rw [← hw7]; exact ((Below.refl _ _).alloc (Nat.le_refl _) _).alloc (by rw [size_alloc]; omega) _
    have hbk1 : w7.heap[w6.heap.size]? = some (.cells #[.int .i64 s.day, .int .i64 s.hash, .int .i64 s.wit, .string A] 28 (0, 0)) := by rw [← hw7]; exact heap_prev' _ _ _ rfl
    have hbk2 : w7.heap[w6.heap.size + 1]? = some (.cells #[.int .i64 r.day, .int .i64 r.hash, .int .i64 r.wit, .string B] 28 (0, 0)) := by rw [← hw7]; exact heap_last' _ _ (by rw [size_alloc])
    rw [hw7]
    obtain ⟨G1, hG1⟩ : ∃ G1, w6.heap.size = G1 := ⟨_, rfl⟩
    rw [hG1] at hbk1 hbk2 ⊢
    have hlt2 : G1 + 1 < w7.heap.size := (Array.getElem?_eq_some_iff.1 hbk2).1
    have HB7 := Lib.hid (HB6.out.trans (hb7.mono HB6.out.size))
    have HS17 := Lib.hid (HS16.out.below hb7)
    have HS27 := Lib.hid (HS26.out.below hb7)
    have HBK1 := Lib.hid hbk1
    have HBK2 := Lib.hid hbk2
    have HCV1 : Hid (∀ W, Below w7.heap.size w7 W → Calls Tryd.prog 27 #[.slice (some ⟨ga, oa, none⟩) p1 cp2, .string ⟨V1.toArray⟩, .agg #[.int .i64 s.day, .int .i64 s.hash, .int .i64 s.wit, .string A]] W fun e w' => e = .returned (.string ⟨(cov V1 (L1.take p1) ++ nums s).toArray⟩) ∧ Below W.heap.size W w') := Lib.hid (by
      intro W hW
      have hfin := check_fine HK1.out
      have h := covered_any V1 (some ⟨ga, oa, none⟩) cp2 (L1.take p1) s W ((HS17.out.below hW).take p1) (fun x hx => hfin x (List.mem_of_mem_take hx)) (by rw [List.length_take]; omega) (by omega) (hfin s (List.mem_of_getElem? HS.out))
      rw [List.length_take, HN1.out, show min p1 n1 = p1 by omega] at h
      simp only [stv, ← HA.out] at h
      exact h)
    clear hw7 hb7 hbk1 hbk2 x0 x1 x2 x3 y0 y1 y2 y3
    go_cut [16] (fun v wx => v = .string ⟨(pre V1 (L1.take p1) s).toArray⟩ ∧ Below w7.heap.size w7 wx)
    case first =>
      have c0 : w7.cell? ⟨G1, 0, none⟩ = some (.int .i64 s.day) := by rw [Lib.cell_of_heap HBK1.out]; rfl
      have c1 : w7.cell? ⟨G1, 1, none⟩ = some (.int .i64 s.hash) := by rw [Lib.cell_of_heap HBK1.out]; rfl
      have c2 : w7.cell? ⟨G1, 2, none⟩ = some (.int .i64 s.wit) := by rw [Lib.cell_of_heap HBK1.out]; rfl
      have c3 : w7.cell? ⟨G1, 3, none⟩ = some (.string A) := by rw [Lib.cell_of_heap HBK1.out]; rfl
      obtain ⟨hx1, hwx1, hcv1⟩ := back_one HK1.out HS.out
      have q0 : (0 : Int) ≤ (cp2 : Int) := by omega
      have q1 : (p1 : Int) ≤ (cp2 : Int) := by omega
      have q2 : p1 ≤ cp2 := by omega
      have q3 : ¬ ((cp2 : Int) < (p1 : Int)) := by omega
      have hG : G1 < w7.heap.size := by omega
      have hcl : (cov V1 (L1.take p1) ++ nums s).length ≤ 900000 := by
        have hfin := check_fine HK1.out
        have k1 := cov_len V1 (L1.take p1) (by omega) (by rw [List.length_take]; omega) (fun x hx => (hfin x (List.mem_of_mem_take hx)).2.2.2)
        have k2 := nums_len s
        rw [List.length_append]
        omega
      have HPRE : Hid (pre V1 (L1.take p1) s = [UInt8.ofNat s.hash.toNat] ++ (cov V1 (L1.take p1) ++ nums s)) := Lib.hid rfl
      generalize cov V1 (L1.take p1) ++ nums s = C1 at *
      obtain ⟨D1, hD1⟩ : ∃ D1, [UInt8.ofNat s.hash.toNat] = D1 := ⟨_, rfl⟩
      have hdl : D1.length = 1 := by rw [← hD1]; rfl
      rw [hD1] at hcv1 HPRE
      have hln1 : ¬ (9223372036854775807 < D1.length + C1.length) := by omega
      have hln2 : D1.length + C1.length ≤ 9223372036854775807 := by omega
      have hln3 : ¬ (9223372036854775807 < (⟨D1.toArray⟩ : ByteArray).size + (⟨C1.toArray⟩ : ByteArray).size) := by rw [str_size, str_size]; omega
      have HAP := Lib.hid (str_append D1 C1)
      clear hcl hdl hD1
      have hne0 := World.new_ne w7 _ c0
      have hne1 := World.new_ne w7 _ c1
      have hne2 := World.new_ne w7 _ c2
      have hne3 := World.new_ne w7 _ c3
      go_region_held (fun w' => w'.cell? ⟨G1, 0, none⟩ = some (.int .i64 s.day) ∧ w'.cell? ⟨G1, 1, none⟩ = some (.int .i64 s.hash) ∧ w'.cell? ⟨G1, 2, none⟩ = some (.int .i64 s.wit) ∧ w'.cell? ⟨G1, 3, none⟩ = some (.string A))
        (go_keep)
        ((go_at_call 27
          first
            | (refine (HCV1.out _ (Below_drewN (Below.refl _ _) 1)).mono ?_
               rintro e w' ⟨rfl, hb⟩
               have HBW := Lib.hid ((Below_drewN (Below.refl w7.heap.size w7) 1).trans hb)
               have c0' := (HBW.out.cell (p := ⟨G1, 0, none⟩) hG).trans c0
               have c1' := (HBW.out.cell (p := ⟨G1, 1, none⟩) hG).trans c1
               have c2' := (HBW.out.cell (p := ⟨G1, 2, none⟩) hG).trans c2
               have c3' := (HBW.out.cell (p := ⟨G1, 3, none⟩) hG).trans c3
               have hne0 := World.new_ne w' _ c0'
               have hne1 := World.new_ne w' _ c1'
               have hne2 := World.new_ne w' _ c2'
               have hne3 := World.new_ne w' _ c3'
               clear hb)
            | (refine (HCV1.out _ (Below_drewN ((Below.refl _ _).alloc (Nat.le_refl _) _) 1)).mono ?_
               rintro e w' ⟨rfl, hb⟩
               have HBW := Lib.hid ((Below_drewN ((Below.refl w7.heap.size w7).alloc (Nat.le_refl _) (.cells #[.int .u8 s.hash] 5)) 1).trans (hb.mono (by simp)))
               have n0 := (hb.cell (p := ⟨w7.heap.size, 0, none⟩) (by simp)).trans (show _ = some (Value.int .u8 s.hash) by go_simp)
               have c0' := (HBW.out.cell (p := ⟨G1, 0, none⟩) hG).trans c0
               have c1' := (HBW.out.cell (p := ⟨G1, 1, none⟩) hG).trans c1
               have c2' := (HBW.out.cell (p := ⟨G1, 2, none⟩) hG).trans c2
               have c3' := (HBW.out.cell (p := ⟨G1, 3, none⟩) hG).trans c3
               clear hb)))
      all_goals
        go_wp2_with fail
        go_meet
        refine ⟨by rw [HAP.out, HPRE.out], ?_⟩
        first
          | exact HBW.out
          | exact HBW.out.alloc (by have := HBW.out.size; omega) _
    case rest =>
      obtain ⟨rfl, hb8⟩ := hcut
      obtain ⟨w8, hw8⟩ : ∃ w8, wc = w8 := ⟨_, rfl⟩
      rw [hw8] at hb8 ⊢
      clear hw8
      have HB8 := Lib.hid (HB7.out.trans (hb8.mono HB7.out.size))
      have HS18 := Lib.hid (HS17.out.below hb8)
      have HS28 := Lib.hid (HS27.out.below hb8)
      have HBK4 := Lib.hid ((hb8.block (G1 + 1) hlt2).trans HBK2.out)
      obtain ⟨G2, hG2⟩ : ∃ G2, G1 + 1 = G2 := ⟨_, rfl⟩
      rw [hG2] at HBK4 ⊢
      have hlt3 : G2 < w8.heap.size := by have := hb8.size; omega
      clear hb8
      have HCV2 : Hid (∀ W, Below w8.heap.size w8 W → Calls Tryd.prog 27 #[.slice (some ⟨gb, ob, none⟩) p2 cp3, .string ⟨V.toArray⟩, .agg #[.int .i64 r.day, .int .i64 r.hash, .int .i64 r.wit, .string B]] W fun e w' => e = .returned (.string ⟨(cov V (L2.take p2) ++ nums r).toArray⟩) ∧ Below W.heap.size W w') := Lib.hid (by
        intro W hW
        have hfin := check_fine HK2.out
        have h := covered_any V (some ⟨gb, ob, none⟩) cp3 (L2.take p2) r W ((HS28.out.below hW).take p2) (fun x hx => hfin x (List.mem_of_mem_take hx)) (by rw [List.length_take]; omega) (by omega) (hfin r (List.mem_of_getElem? HR.out))
        rw [List.length_take, HN2.out, show min p2 n2 = p2 by omega] at h
        simp only [stv, ← HB.out] at h
        exact h)
      go_upto_region 16 with fail
      go_cut [17] (fun v wx => v = .string ⟨(pre V (L2.take p2) r).toArray⟩ ∧ Below w8.heap.size w8 wx)
      case first =>
        have c0 : w8.cell? ⟨G2, 0, none⟩ = some (.int .i64 r.day) := by rw [Lib.cell_of_heap HBK4.out]; rfl
        have c1 : w8.cell? ⟨G2, 1, none⟩ = some (.int .i64 r.hash) := by rw [Lib.cell_of_heap HBK4.out]; rfl
        have c2 : w8.cell? ⟨G2, 2, none⟩ = some (.int .i64 r.wit) := by rw [Lib.cell_of_heap HBK4.out]; rfl
        have c3 : w8.cell? ⟨G2, 3, none⟩ = some (.string B) := by rw [Lib.cell_of_heap HBK4.out]; rfl
        obtain ⟨hx1, hwx1, hcv2⟩ := back_one HK2.out HR.out
        have q0 : (0 : Int) ≤ (cp3 : Int) := by omega
        have q1 : (p2 : Int) ≤ (cp3 : Int) := by omega
        have q2 : p2 ≤ cp3 := by omega
        have q3 : ¬ ((cp3 : Int) < (p2 : Int)) := by omega
        have hG : G2 < w8.heap.size := by omega
        have hcl : (cov V (L2.take p2) ++ nums r).length ≤ 900000 := by
          have hfin := check_fine HK2.out
          have k1 := cov_len V (L2.take p2) (by omega) (by rw [List.length_take]; omega) (fun x hx => (hfin x (List.mem_of_mem_take hx)).2.2.2)
          have k2 := nums_len r
          rw [List.length_append]
          omega
        have HPRE : Hid (pre V (L2.take p2) r = [UInt8.ofNat r.hash.toNat] ++ (cov V (L2.take p2) ++ nums r)) := Lib.hid rfl
        generalize cov V (L2.take p2) ++ nums r = C2 at *
        obtain ⟨D2, hD2⟩ : ∃ D2, [UInt8.ofNat r.hash.toNat] = D2 := ⟨_, rfl⟩
        have hdl : D2.length = 1 := by rw [← hD2]; rfl
        rw [hD2] at hcv2 HPRE
        have hln1 : ¬ (9223372036854775807 < D2.length + C2.length) := by omega
        have hln2 : D2.length + C2.length ≤ 9223372036854775807 := by omega
        have hln3 : ¬ (9223372036854775807 < (⟨D2.toArray⟩ : ByteArray).size + (⟨C2.toArray⟩ : ByteArray).size) := by rw [str_size, str_size]; omega
        have HAP := Lib.hid (str_append D2 C2)
        clear hcl hdl hD2
        have hne0 := World.new_ne w8 _ c0
        have hne1 := World.new_ne w8 _ c1
        have hne2 := World.new_ne w8 _ c2
        have hne3 := World.new_ne w8 _ c3
        go_region_held (fun w' => w'.cell? ⟨G2, 0, none⟩ = some (.int .i64 r.day) ∧ w'.cell? ⟨G2, 1, none⟩ = some (.int .i64 r.hash) ∧ w'.cell? ⟨G2, 2, none⟩ = some (.int .i64 r.wit) ∧ w'.cell? ⟨G2, 3, none⟩ = some (.string B))
          (go_keep)
          ((go_at_call 27
            first
              | (refine (HCV2.out _ (Below_drewN (Below.refl _ _) 1)).mono ?_
                 rintro e w' ⟨rfl, hb⟩
                 have HBW := Lib.hid ((Below_drewN (Below.refl w8.heap.size w8) 1).trans hb)
                 have c0' := (HBW.out.cell (p := ⟨G2, 0, none⟩) hG).trans c0
                 have c1' := (HBW.out.cell (p := ⟨G2, 1, none⟩) hG).trans c1
                 have c2' := (HBW.out.cell (p := ⟨G2, 2, none⟩) hG).trans c2
                 have c3' := (HBW.out.cell (p := ⟨G2, 3, none⟩) hG).trans c3
                 have hne0 := World.new_ne w' _ c0'
                 have hne1 := World.new_ne w' _ c1'
                 have hne2 := World.new_ne w' _ c2'
                 have hne3 := World.new_ne w' _ c3'
                 clear hb)
              | (refine (HCV2.out _ (Below_drewN ((Below.refl _ _).alloc (Nat.le_refl _) _) 1)).mono ?_
                 rintro e w' ⟨rfl, hb⟩
                 have HBW := Lib.hid ((Below_drewN ((Below.refl w8.heap.size w8).alloc (Nat.le_refl _) (.cells #[.int .u8 r.hash] 5)) 1).trans (hb.mono (by simp)))
                 have n0 := (hb.cell (p := ⟨w8.heap.size, 0, none⟩) (by simp)).trans (show _ = some (Value.int .u8 r.hash) by go_simp)
                 have c0' := (HBW.out.cell (p := ⟨G2, 0, none⟩) hG).trans c0
                 have c1' := (HBW.out.cell (p := ⟨G2, 1, none⟩) hG).trans c1
                 have c2' := (HBW.out.cell (p := ⟨G2, 2, none⟩) hG).trans c2
                 have c3' := (HBW.out.cell (p := ⟨G2, 3, none⟩) hG).trans c3
                 clear hb)))
        all_goals
          go_wp2_with fail
          go_meet
          refine ⟨by rw [HAP.out, HPRE.out], ?_⟩
          first
            | exact HBW.out
            | exact HBW.out.alloc (by have := HBW.out.size; omega) _
      case rest =>
        obtain ⟨rfl, hb9⟩ := hcut
        obtain ⟨w9, hw9⟩ : ∃ w9, wc = w9 := ⟨_, rfl⟩
        rw [hw9] at hb9 ⊢
        clear hw9
        have HB9 := Lib.hid (HB8.out.trans (hb9.mono HB8.out.size))
        have HS19 := Lib.hid (HS18.out.below hb9)
        have HS29 := Lib.hid (HS28.out.below hb9)
        have hA1 : L1.take p1 ++ [s] = L1 := by rw [← take_more HS.out, ← HP1.out, ← HN1.out, List.take_length]
        have hA2 : L2.take p2 ++ [r] = L2 := by rw [← take_more HR.out, ← HP2.out, ← HN2.out, List.take_length]
        obtain ⟨hb1', hb2'⟩ := bound_law (u := V1) (v := V) (A := L1.take p1) (B := L2.take p2) (s := s) (t := r) (by omega) (by omega) (by rw [hA1]; exact HK1.out) (by rw [hA2]; exact HK2.out) HV.out
        rw [hA1, hA2] at hb2'
        have hpl1 := pre_len (i := p1) (s := s) HK1.out hV (by rw [HN1.out]; exact hl8)
        have hpl2 := pre_len (i := p2) (s := r) HK2.out hVl (by rw [HN2.out]; exact hl8')
        generalize pre V1 (L1.take p1) s = P1 at *
        generalize pre V (L2.take p2) r = P2 at *
        obtain ⟨Q1, hQ1⟩ : ∃ Q1 : ByteArray, Q1 = ⟨P1.toArray⟩ := ⟨_, rfl⟩
        obtain ⟨Q2, hQ2⟩ : ∃ Q2 : ByteArray, Q2 = ⟨P2.toArray⟩ := ⟨_, rfl⟩
        have hQQ : (Q1.toList == Q2.toList) = decide (P1 = P2) := by rw [hQ1, hQ2]; exact str_beq _ _
        rw [← hQ1, ← hQ2]
        have hVV : (((⟨V1.toArray⟩ : ByteArray).toList == (⟨V.toArray⟩ : ByteArray).toList)) = decide (V1 = V) := str_beq _ _
        by_cases hP : P1 = P2
        · obtain ⟨e1, e2⟩ := hb2' hP
          have t1 : (Q1.toList == Q2.toList) = true := by rw [hQQ]; exact decide_eq_true hP
          have t2 : (Q1.toList != Q2.toList) = false := by simp [bne, t1]
          have t3 : ((⟨V1.toArray⟩ : ByteArray).toList == (⟨V.toArray⟩ : ByteArray).toList) = true := by rw [hVV]; exact decide_eq_true e1
          have HSM := Lib.hid (fun W (hW : Below w9.heap.size w9 W) => same_any (some ⟨ga, oa, none⟩) cp2 L1 (some ⟨gb, ob, none⟩) cp3 L2 W (HS19.out.below hW) (HS29.out.below hW) (by rw [HN1.out]; omega) (by rw [HN2.out]; omega))
          rw [show decide (L1 = L2) = true from decide_eq_true e2, HN1.out, HN2.out] at HSM
          have HT3 := Lib.hid t3
          obtain ⟨R1, hR1⟩ : ∃ R1 : ByteArray, (⟨V1.toArray⟩ : ByteArray) = R1 := ⟨_, rfl⟩
          obtain ⟨R2, hR2⟩ : ∃ R2 : ByteArray, (⟨V.toArray⟩ : ByteArray) = R2 := ⟨_, rfl⟩
          rw [hR1, hR2] at t3 ⊢
          clear hQQ hVV hQ1 hQ2 hb1' hb2' hA1 hA2 hP e1 e2 hb9 hR1 hR2 hext hext2
          go_wp2_with fail
          refine (HSM.out w9 (Below.refl _ _)).mono ?_
          rintro e w10 ⟨rfl, hb10⟩
          go_wp2_with fail
          go_ret
          exact ⟨rfl, HB9.out.trans (hb10.mono HB9.out.size)⟩
        · have t1 : (Q1.toList == Q2.toList) = false := by rw [hQQ]; exact decide_eq_false hP
          have t2 : (Q1.toList != Q2.toList) = true := by simp [bne, t1]
          have hD1 : Q1.data.toList = P1 := by rw [hQ1]
          have hD2 : Q2.data.toList = P2 := by rw [hQ2]
          have HM1 := Lib.hid (fun W => refSum2_any Q1 W (by rw [hQ1, str_size]; exact hpl1))
          have HM2 := Lib.hid (fun W => refSum2_any Q2 W (by rw [hQ2, str_size]; exact hpl2))
          rw [hD1] at HM1
          rw [hD2, ← hb1'] at HM2
          generalize (⟨(sha P1).toArray⟩ : ByteArray) = SH at *
          clear hQQ hVV hQ1 hQ2 hb1' hb2' hA1 hA2 hP hb9 hD1 hD2 hext hext2
          go_wp2_with fail
          refine (HM1.out w9).mono ?_
          rintro e w10 ⟨rfl, hb10⟩
          have HB10 := Lib.hid (HB9.out.trans (hb10.mono HB9.out.size))
          clear hb10
          go_wp2_with fail
          refine (HM2.out w10).mono ?_
          rintro e w11 ⟨rfl, hb11⟩
          have HB11 := Lib.hid (HB10.out.trans (hb11.mono HB10.out.size))
          clear hb11
          go_wp2_with fail
          go_ret
          exact ⟨rfl, HB11.out⟩
  · have hAB2 : (A.toList == B.toList) = false := by rw [hAB]; exact decide_eq_false hv
    have hAB3 : (A.toList != B.toList) = true := by simp [bne, hAB2]
    cases same with
    | true =>
      exfalso
      have hh := (HSAME.out rfl).2
      have hl : n1 = n2 := by rw [← HN1.out, ← HN2.out, hh]
      have hp : p1 = p2 := by have := HP1.out; have := HP2.out; omega
      have h5 := HR.out
      rw [hh, ← hp, HS.out] at h5
      injection h5 with h5
      exact hv (by rw [h5])
    | false =>
      clear hAB hv
      go_upto_region 9 with fail
      go_quiet (fail)
      go_wp2_with fail
      go_ret
      exact ⟨rfl, Below_drewN HB3.out _⟩
end Go.Proofs.YtkihcigojhcmgaaDoor
