/- Compare. -/
import Derived.Test.YtinknenfhohamaaGreatDoorG19
import Derived.Test.YtinknenfhohamaaGreatDoorG20
import Derived.Test.YtinknenfhohamaaGreatDoorG21
import Derived.Deep.RegionHeld3
namespace Go.Proofs.YtinknenfhohamaaGreatDoor
open Go.RowKit
set_option maxRecDepth 100000

/-- What == says of two classes. -/
theorem eqClass (x y : Ev) (w : World) : (Op.equalIn 10000 71 (.agg #[.int .i64 x.kd, .int .i64 x.a, .int .i64 x.b]) (.agg #[.int .i64 y.kd, .int .i64 y.a, .int .i64 y.b])).run Tryz.prog w = .ok (decide (cls x = cls y)) w := by
  have hS : Tryz.prog.underlying 71 = some (.struct (Tryz.prog.fieldsOf 71)) := by kernel_rfl
  have hp : Tryz.prog.stoodInHeld 71 = false := by kernel_rfl
  have u3 := Tryz.underlying3
  have a3 := Tryz.isAgg3
  have z3 := Tryz.sizeOf3
  have hc : decide (cls x = cls y) = (x.kd == y.kd && (x.a == y.a && x.b == y.b)) := by
    rw [Bool.eq_iff_iff]
    simp [cls]
  rw [show (10000 : Nat) = 9999 + 1 from rfl, run_equalIn_agg w 9999 71 _ _ hS hp, hc]
  simp only [Program.fieldsOf, Tryz.underlying71]
  go_simp
  by_cases h2 : x.kd = y.kd <;> by_cases h3 : x.a = y.a <;> by_cases h4 : x.b = y.b <;> simp [h2, h3, h4]
theorem guardClass : Tryz.prog.eqGuardType Tryz.prog.depth 71 = false := by kernel_rfl
theorem RowB.own_ne {W : World} {B : Nat} {v : Value} {L : List Bool} (h : RowB W B v L) {k : Nat} {o : Obj} (hk : W.heap[k]? = some o) (ho : ∀ cur, o ≠ .cells cur 4 (0, 0)) : some k ≠ v.ownBlock := by
  intro he
  rcases h.2 with ⟨rfl, -⟩ | ⟨g, cap, cur, rfl, -, hc, -⟩
  · cases he
  · injection he with he
    simp only at he
    subst he
    rw [hk] at hc
    injection hc with hc
    exact ho cur hc
theorem fits_app {r : Rel} {c d : List Ev} {F : List Bool} {j : Nat} {y : Bool} (hl : F.length = j) (h : ∀ i, i < j → F[i]? = some (fits r c d i)) (hy : fits r c d j = y) : (F ++ [y]).length = j + 1 ∧ ∀ i, i < j + 1 → (F ++ [y])[i]? = some (fits r c d i) := by
  refine ⟨by simp [hl], fun i hi => ?_⟩
  rcases Nat.lt_or_ge i j with h1 | h1
  · rw [List.getElem?_append_left (by omega)]; exact h i h1
  · obtain rfl : i = j := by omega
    rw [List.getElem?_append_right (by omega), hl, Nat.sub_self, hy]; rfl
theorem ClI.counted {L : List Ev} (h : ClI L) (r : Rel) : ClI (counted r L) := by
  intro e he
  unfold Go.Proofs.YtinknenfhohamaaGreatDoor.counted at he
  split at he
  · exact h e (List.mem_filter.1 he).1
  · cases he
attribute [local irreducible] wpR
set_option maxHeartbeats 4000000 in
theorem compare_any' (r : Rel) (a : Option Addr) (c : Nat) (X : List Ev) (a' : Option Addr) (c' : Nat) (Y : List Ev) (w : World) (hS : EvS w a X) (hM : EvS w a' Y) (hX : X.length < 40) (hY : Y.length < 40) (hI : TmI X) (hJ : TmI Y) (hCX : ClI X) (hCY : ClI Y) :
    Calls Tryz.prog 8 #[relV r, .slice a X.length c, .slice a' Y.length c'] w fun e w' => e = .returned (cmpV (compareR r X Y)) ∧ Below w.heap.size w w' := by
  have HV := Lib.hid (fun W => valid_any r W)
  cases hv : validR r with
  | false =>
    rw [hv] at HV
    rw [compareR_bad X Y hv]
    simp only [relV, cmpV] at HV ⊢
    generalize X.length = x at *
    generalize Y.length = y at *
    clear hv hS hM hI hJ
    go_enter Tryz.func8, Tryz.ntmps8
    go_wp2_with fail
    refine (HV.out _).mono ?_
    rintro e w1 ⟨rfl, hb⟩
    have HB := Lib.hid (show Below w.heap.size w w1 from ((Below.refl _ _).alloc (Nat.le_refl _) _).trans (hb.mono (by rw [size_alloc]; omega)))
    clear hb
    go_wp2_with fail
    go_ret2
    exact ⟨rfl, HB.out⟩
  | true =>
    rw [hv] at HV
    have hk : 0 ≤ r.slack ∧ r.slack ≤ 20000 := by rw [validR_iff] at hv; exact ⟨hv.2.2.2.1, hv.2.2.2.2⟩
    have HC1 := Lib.hid (fun W h => counted_any r a c X W h (by omega))
    have HC2 := Lib.hid (fun W h => counted_any r a' c' Y W h (by omega))
    have HS := Lib.hid hS
    have HM := Lib.hid hM
    have hI1 := hI.counted r
    have hJ1 := hJ.counted r
    have hl1 := Nat.lt_of_le_of_lt (counted_len r X) hX
    have hl2 := Nat.lt_of_le_of_lt (counted_len r Y) hY
    obtain ⟨R, hR⟩ : ∃ R, compareR r X Y = R := ⟨_, rfl⟩
    have HHIT : Hid (∀ j, firstBad r (counted r X) (counted r Y) = some j → R = ((j : Int), false)) := Lib.hid (fun j h => by rw [← hR]; exact compareR_hit hv h)
    have HLEN : Hid (firstBad r (counted r X) (counted r Y) = none → (counted r X).length ≠ (counted r Y).length → R = (((counted r X).length : Int), false)) := Lib.hid (fun h1 h2 => by rw [← hR]; exact compareR_len hv h1 h2)
    have HYES : Hid (firstBad r (counted r X) (counted r Y) = none → (counted r X).length = (counted r Y).length → R = (0, true)) := Lib.hid (fun h1 h2 => by rw [← hR]; exact compareR_yes hv h1 h2)
    have hcx : ClI (counted r X) := hCX.counted r
    have hcy : ClI (counted r Y) := hCY.counted r
    rw [hR]
    generalize counted r X = L at *
    generalize counted r Y = M at *
    have HI := Lib.hid hI1
    have HJ := Lib.hid hJ1
    have HCX := Lib.hid hcx
    have HCY := Lib.hid hcy
    have HFO := Lib.hid (fun (h : r.ord = true) => fits_ord h L M)
    have HFU := Lib.hid (fun (h : r.ord = false) => fits_un h L M)
    have HCL := Lib.hid (fun s t W hs ht => close_any r s t W hs ht hk)
    obtain ⟨od, hod⟩ : ∃ od, r.ord = od := ⟨_, rfl⟩
    simp only [relV] at HV HC1 HC2 HCL ⊢
    rw [hod] at HV HC1 HC2 HCL HFO HFU ⊢
    generalize X.length = x at *
    generalize Y.length = y at *
    clear hv hS hM hI hJ hI1 hJ1 hk hR hod hCX hCY hcx hcy
    go_enter Tryz.func8, Tryz.ntmps8
    go_wp2_with fail
    refine (HV.out _).mono ?_
    rintro e w1 ⟨rfl, hb⟩
    have HB := Lib.hid (show Below w.heap.size w w1 from ((Below.refl _ _).alloc (Nat.le_refl _) _).trans (hb.mono (by rw [size_alloc]; omega)))
    have HSZ := Lib.hid (show w.heap.size < w1.heap.size from Nat.lt_of_lt_of_le (by rw [size_alloc]; omega) hb.size)
    have hcs : ∀ q, w1.cell? ⟨w.heap.size, q, none⟩ = #[Value.int .i64 r.kinds, .int .i64 r.slack, .bool od][q]? := by
      intro q
      rw [(bcell hb).1 w.heap.size q (by simp only [size_alloc]; omega), Lib.cell_of_heap (heap_last _ _)]
    have HCS := Lib.hid hcs
    have c0 := hcs 0
    have c1 := hcs 1
    have c2 := hcs 2
    simp at c0 c1 c2
    clear hb hcs
    have HBD := Lib.hid (Below_drewN HB.out 1)
    go_upto_region 3 with fail
    go_region_held3 (fun w' => w'.cell? ⟨w.heap.size, 0, none⟩ = some (.int .i64 r.kinds) ∧ w'.cell? ⟨w.heap.size, 1, none⟩ = some (.int .i64 r.slack) ∧ w'.cell? ⟨w.heap.size, 2, none⟩ = some (.bool od)) (go_keep)
      ((first
        | (go_at_call_of 20 (Value.slice a x c)
           first
             | (refine ((HC1).out _ (HS.out.below HBD.out)).mono ?_
                rintro e w2 ⟨v1, rfl, r1, hb⟩
                have hcs' : ∀ q, w2.cell? ⟨w.heap.size, q, none⟩ = #[Value.int .i64 r.kinds, .int .i64 r.slack, .bool od][q]? := fun q => ((bcell hb).1 _ _ HSZ.out).trans (HCS.out q)
                have HCS2 := Lib.hid hcs'
                have d0 := hcs' 0
                have d1 := hcs' 1
                have d2 := hcs' 2
                simp at d0 d1 d2
                have HSZ2 := Lib.hid (Nat.lt_of_lt_of_le HSZ.out hb.size)
                have HB2 := Lib.hid (HBD.out.trans (hb.mono HBD.out.size))
                have Hr1 := Lib.hid (r1.mono HBD.out.size)
                clear hb hcs' r1)
             | (refine ((HC1).out _ (HS.out.below HB2.out)).mono ?_
                rintro e w3 ⟨v1, rfl, r1, hb⟩
                have hcs' : ∀ q, w3.cell? ⟨w.heap.size, q, none⟩ = #[Value.int .i64 r.kinds, .int .i64 r.slack, .bool od][q]? := fun q => ((bcell hb).1 _ _ HSZ2.out).trans (HCS2.out q)
                have HCS3 := Lib.hid hcs'
                have g0 := hcs' 0
                have g1 := hcs' 1
                have g2 := hcs' 2
                simp at g0 g1 g2
                have HSZ3 := Lib.hid (Nat.lt_of_lt_of_le HSZ2.out hb.size)
                have HB3 := Lib.hid (HB2.out.trans (hb.mono HB2.out.size))
                have Hr1 := Lib.hid (r1.mono HB2.out.size)
                have Hr2' := Lib.hid (Hr2.out.below hb)
                have Hr1' := Hr1
                clear hb hcs' r1))
        | (go_at_call_of 20 (Value.slice a' y c')
           first
             | (refine ((HC2).out _ (HM.out.below HBD.out)).mono ?_
                rintro e w2 ⟨v2, rfl, r2, hb⟩
                have hcs' : ∀ q, w2.cell? ⟨w.heap.size, q, none⟩ = #[Value.int .i64 r.kinds, .int .i64 r.slack, .bool od][q]? := fun q => ((bcell hb).1 _ _ HSZ.out).trans (HCS.out q)
                have HCS2 := Lib.hid hcs'
                have d0 := hcs' 0
                have d1 := hcs' 1
                have d2 := hcs' 2
                simp at d0 d1 d2
                have HSZ2 := Lib.hid (Nat.lt_of_lt_of_le HSZ.out hb.size)
                have HB2 := Lib.hid (HBD.out.trans (hb.mono HBD.out.size))
                have Hr2 := Lib.hid (r2.mono HBD.out.size)
                clear hb hcs' r2)
             | (refine ((HC2).out _ (HM.out.below HB2.out)).mono ?_
                rintro e w3 ⟨v2, rfl, r2, hb⟩
                have hcs' : ∀ q, w3.cell? ⟨w.heap.size, q, none⟩ = #[Value.int .i64 r.kinds, .int .i64 r.slack, .bool od][q]? := fun q => ((bcell hb).1 _ _ HSZ2.out).trans (HCS2.out q)
                have HCS3 := Lib.hid hcs'
                have g0 := hcs' 0
                have g1 := hcs' 1
                have g2 := hcs' 2
                simp at g0 g1 g2
                have HSZ3 := Lib.hid (Nat.lt_of_lt_of_le HSZ2.out hb.size)
                have HB3 := Lib.hid (HB2.out.trans (hb.mono HB2.out.size))
                have Hr2 := Lib.hid (r2.mono HB2.out.size)
                have Hr1' := Lib.hid (Hr1.out.below hb)
                have Hr2' := Hr2
                clear hb hcs' r2))))
    have hr1 := Hr1'.out
    have hr2 := Hr2'.out
    rename_i hHeld
    clear Hr1 Hr2 Hr1' Hr2' hHeld HCS HCS2 d0 d1 d2 g0 g1 c0 c1 c2 HB HB2 HBD HSZ HSZ2 HS HM HC1 HC2 HV
    obtain ⟨b1, k1, rfl, -, he1, hn1⟩ := hr1.isSlice
    obtain ⟨b2, k2, rfl, -, he2, hn2⟩ := hr2.isSlice
    have HE1 := Lib.hid he1
    have HE2 := Lib.hid he2
    obtain ⟨n, hn⟩ : ∃ n, L.length = n := ⟨_, rfl⟩
    obtain ⟨m, hm⟩ : ∃ m, M.length = m := ⟨_, rfl⟩
    rw [hn] at hl1 HLEN HYES ⊢
    rw [hm] at hl2 HLEN HYES HFO ⊢
    have HN := Lib.hid hn
    have HMN := Lib.hid hm
    have HSB := Lib.hid HB3.out.size
    clear hr1 hr2 he1 he2 hn hm
    go_upto_if 29 with fail
    go_cut [10] (fun v wx => ∃ F : List Bool, F.length = n ∧ (∀ i, i < n → F[i]? = some (fits r L M i)) ∧ ((v = .slice none 0 0 ∧ F = []) ∨ ∃ g k, v = .slice (some ⟨g, 0, none⟩) n k ∧ TR wx g F) ∧ Below w.heap.size w wx)
    case first =>
      cases od with
      | true =>
        go_wp2_with fail
        go_loopw [10, 11, 12, 32] (fun v _ _ p wx => ∃ (j : Nat) (F : List Bool), j ≤ n ∧ p = .int .i64 j ∧ RowB wx w3.heap.size v F ∧ F.length = j ∧ (∀ i, i < j → F[i]? = some (fits r L M i)) ∧ Below w3.heap.size w3 wx) (fun _ _ _ p _ => n - (intOf p).toNat)
        case atStart => exact ⟨0, [], by omega, rfl, RowB.nil _ _, rfl, fun i hi => by omega, Below.refl _ _⟩
        case round =>
          obtain ⟨j, F, hj, rfl, hrow, hFl, hF, hb⟩ := hrel
          have HROW := Lib.hid hrow
          have HF := Lib.hid hF
          have HFL := Lib.hid hFl
          have HB4 := Lib.hid hb
          clear hrow hFl hF
          by_cases hlt : j < n
          · obtain ⟨e, he⟩ : ∃ e, L[j]? = some e := ⟨_, List.getElem?_eq_getElem (by rw [HN.out]; exact hlt)⟩
            have HE := Lib.hid he
            obtain ⟨b, o, rfl, hbl, x0, x1, x2, x3⟩ := (HE1.out.below HB4.out) j e he
            have n0 : (0 : Int) ≤ (j : Int) := by omega
            have n1 : (j : Int) < (n : Int) := by omega
            have hd : decide ((j : Int) < (n : Int)) = true := by rw [decide_eq_true_iff]; omega
            have hd2 : decide (j < n) = true := by rw [decide_eq_true_iff]; omega
            have HOE := Lib.hid (fun W => of_any e W)
            simp only [evV, clsV] at HOE
            clear hb
            go_upto_region 9 with fail
            obtain ⟨wa, hwa⟩ : ∃ wa, wr.alloc (.cells #[.int .i64 e.tm, .int .i64 e.kd, .int .i64 e.a, .int .i64 e.b] 28) = wa := ⟨_, rfl⟩
            have HBW : Hid (Below wr.heap.size wr wa) := Lib.hid (by rw [← hwa]; exact (Below.refl _ _).alloc (Nat.le_refl _) _)
            have HEA : Hid (wa.heap[wr.heap.size]? = some (.cells #[.int .i64 e.tm, .int .i64 e.kd, .int .i64 e.a, .int .i64 e.b] 28 (0, 0))) := Lib.hid (by rw [← hwa]; exact heap_last _ _)
            have HLT : Hid (wr.heap.size < wa.heap.size) := Lib.hid (by rw [← hwa, size_alloc]; omega)
            rw [hwa]
            clear hwa x0 x1 x2 x3 hbl
            have HRA : Hid (RowB wa w3.heap.size u10 F) := Lib.hid (World.ownsRow.kept HROW.out (Below.grown0 HBW.out) (by cases u10.ownBlock <;> simp))
            obtain ⟨BB, hBB⟩ : ∃ BB : World → Prop, BB = fun wx => wx.heap[wr.heap.size]? = some (.cells #[.int .i64 e.tm, .int .i64 e.kd, .int .i64 e.a, .int .i64 e.b] 28 (0, 0)) ∧ Below w3.heap.size w3 wx := ⟨_, rfl⟩
            have HBB : Hid (∀ wx, BB wx ↔ wx.heap[wr.heap.size]? = some (.cells #[.int .i64 e.tm, .int .i64 e.kd, .int .i64 e.a, .int .i64 e.b] 28 (0, 0)) ∧ Below w3.heap.size w3 wx) := Lib.hid (fun wx => by rw [hBB])
            clear hBB
            have HBK : Hid (∀ wx w', BB wx → Below wx.heap.size wx w' → BB w') := Lib.hid (fun wx w' h hb => by
              rw [HBB.out] at h ⊢
              exact ⟨(hb.block _ (Array.getElem?_eq_some_iff.1 h.1).1).trans h.1, h.2.trans (hb.mono h.2.size)⟩)
            have HB0 : Hid (BB wa.drew) := Lib.hid ((HBB.out _).2 ⟨HEA.out, (HB4.out.trans (HBW.out.mono HB4.out.size)).drew⟩)
            have HCE : Hid (∀ wx, BB wx → Calls Tryz.prog 21 #[.agg #[.int .i64 e.tm, .int .i64 e.kd, .int .i64 e.a, .int .i64 e.b]] wx fun z w' => z = .returned (.agg #[.int .i64 e.kd, .int .i64 e.a, .int .i64 e.b]) ∧ BB w' ∧ Below wx.heap.size wx w') := Lib.hid (fun wx hx => (HOE.out wx).mono fun r w' ⟨h1, h2⟩ => ⟨h1, HBK.out _ _ hx h2, h2⟩)
            by_cases hjm : j < m
            · have hm0 : decide ((j : Int) < (m : Int)) = true := by rw [decide_eq_true_iff]; omega
              have hm1 : decide (j < m) = true := by rw [decide_eq_true_iff]; omega
              have hm2 : (j : Int) < (m : Int) := by omega
              obtain ⟨f, hf⟩ : ∃ f, M[j]? = some f := ⟨_, List.getElem?_eq_getElem (by rw [HMN.out]; exact hjm)⟩
              obtain ⟨b', o', rfl, hbl', -⟩ := HE2.out j f hf
              have HFF := Lib.hid hf
              have HOF := Lib.hid (fun W => of_any f W)
              simp only [evV, clsV] at HOF
              have HCF : Hid (∀ wx, BB wx → Calls Tryz.prog 21 #[.agg #[.int .i64 f.tm, .int .i64 f.kd, .int .i64 f.a, .int .i64 f.b]] wx fun z w' => z = .returned (.agg #[.int .i64 f.kd, .int .i64 f.a, .int .i64 f.b]) ∧ BB w' ∧ Below wx.heap.size wx w') := Lib.hid (fun wx hx => (HOF.out wx).mono fun r w' ⟨h1, h2⟩ => ⟨h1, HBK.out _ _ hx h2, h2⟩)
              have HNR := Lib.hid (fun W => HCL.out e.tm f.tm W (HI.out e (List.mem_of_getElem? he)) (HJ.out f (List.mem_of_getElem? hf)))
              have HCN : Hid (∀ wx, BB wx → Calls Tryz.prog 22 #[.agg #[.int .i64 r.kinds, .int .i64 r.slack, .bool true], .int .i64 e.tm, .int .i64 f.tm] wx fun z w' => z = .returned (.bool (near r e.tm f.tm)) ∧ BB w' ∧ Below wx.heap.size wx w') := Lib.hid (fun wx hx => (HNR.out wx).mono fun r w' ⟨h1, h2⟩ => ⟨h1, HBK.out _ _ hx h2, h2⟩)
              have HCC : Hid (∀ wx, BB wx → (wx.cell? ⟨wr.heap.size, 0, none⟩ = some (.int .i64 e.tm) ∧ wx.cell? ⟨wr.heap.size, 1, none⟩ = some (.int .i64 e.kd) ∧ wx.cell? ⟨wr.heap.size, 2, none⟩ = some (.int .i64 e.a) ∧ wx.cell? ⟨wr.heap.size, 3, none⟩ = some (.int .i64 e.b)) ∧ evAt wx b' (o' + j * 4) f ∧ (wx.cell? ⟨w.heap.size, 0, none⟩ = some (.int .i64 r.kinds) ∧ wx.cell? ⟨w.heap.size, 1, none⟩ = some (.int .i64 r.slack) ∧ wx.cell? ⟨w.heap.size, 2, none⟩ = some (.bool true))) := Lib.hid (fun wx hx => by
                obtain ⟨hb, hb3⟩ := (HBB.out wx).1 hx
                obtain ⟨b2', o2', hbb, hbl2, hev⟩ := HE2.out j f HFF.out
                injection hbb with hbb
                injection hbb with e1 e2 _
                subst e1 e2
                refine ⟨?_, hev.below hbl2 hb3, ((bcell hb3).1 _ _ HSZ3.out).trans (HCS3.out 0), ((bcell hb3).1 _ _ HSZ3.out).trans (HCS3.out 1), ((bcell hb3).1 _ _ HSZ3.out).trans (HCS3.out 2)⟩
                refine ⟨?_, ?_, ?_, ?_⟩ <;> (rw [Lib.cell_of_heap hb]; rfl))
              have HEQ := fun W => eqClass e f W
              have HGU := guardClass
              obtain ⟨q, hq⟩ : ∃ q, decide (cls e = cls f) = q := ⟨_, rfl⟩
              obtain ⟨y, hy⟩ : ∃ y, near r e.tm f.tm = y := ⟨_, rfl⟩
              rw [hq] at HEQ
              rw [hy] at HCN
              have HFIT : Hid (fits r L M j = (q && y)) := Lib.hid (by rw [HFO.out (by first | trivial | rfl), getD_ev he, getD_ev hf, alike, hq, hy, hm1]; rfl)
              clear he hf hq hy hbl'
              cases q with
              | true =>
                have HFIT : Hid (fits r L M j = y) := Lib.hid (by rw [HFIT.out]; rfl)
                refine region_stage (B := BB) 26 (by kernel_rfl) (by kernel_rfl) (by intro _ _ _ d _ h; cases d <;> exact h) HB0.out ?_
                simp only [List.take_succ_cons, List.take_zero, List.drop_succ_cons, List.drop_zero]
                repeat (
                  refine wpR_step (fun K hK => ?_)
                  go_simp
                  first
                    | (refine hK _ ?_; clear hK K)
                    | (apply Exists.intro
                       refine ⟨fun wx hx => ?_, hK _ ?_⟩
                       · first
                         | exact uponR_value
                         | exact uponR_skip
                         | (apply uponR_enter
                            go_at_call_of 21 (e.tm)
                            exact HCE.out _ hx)
                         | (apply uponR_enter
                            go_at_call_of 21 (f.tm)
                            exact HCF.out _ hx)
                         | (apply uponR_enter
                            go_at_call 22
                            exact HCN.out _ hx)
                         | (obtain ⟨⟨c0, c1, c2, c3⟩, ⟨d0, d1, d2, d3⟩, e0, e1, e2⟩ := HCC.out _ hx; go_simp; exact uponR_value)
                       clear hK K))
                refine wpR_nil ?_
                refine wpT_more (fun w5 hw5 => ?_)
                have hb5 : Below wa.heap.size wa w5 := (Below_drewN (Below.refl wa.heap.size wa) 1).trans hw5.2
                have HBB5 := Lib.hid hw5.1
                have HR5 : Hid (RowB w5 w3.heap.size u10 F) := Lib.hid (World.ownsRow.kept HRA.out (Below.grown0 hb5) (by cases u10.ownBlock <;> simp))
                clear hw5 hb5
                go_wp2_with fail
                obtain ⟨w6, hw6⟩ : ∃ w6, w5.alloc (.cells #[.bool y] 4) = w6 := ⟨_, rfl⟩
                have hb6 : Below w5.heap.size w5 w6 := by rw [← hw6]; exact (Below.refl _ _).alloc (Nat.le_refl _) _
                have HX6 : Hid (w6.heap[w5.heap.size]? = some (.cells #[.bool y] 4 (0, 0))) := Lib.hid (by rw [← hw6]; exact heap_last _ _)
                rw [hw6]
                clear hw6
                refine TQ_normal ⟨HBK.out _ _ HBB5.out hb6, ?_⟩
                refine wpT_more (fun w7 hw7 => ?_)
                have hb7 : Below w6.heap.size w6 w7 := hw7.2
                have hb57 := hb6.trans (hb7.mono hb6.size)
                have HBB7 := Lib.hid hw7.1
                have HR7 : Hid (RowB w7 w3.heap.size u10 F) := Lib.hid (World.ownsRow.kept HR5.out (Below.grown0 hb57) (by cases u10.ownBlock <;> simp))
                have HX7 : Hid (w7.cell? ⟨w5.heap.size, 0, none⟩ = some (.bool y)) := Lib.hid (by
                  rw [Lib.cell_of_heap ((hb7.block _ (Array.getElem?_eq_some_iff.1 HX6.out).1).trans HX6.out)]; rfl)
                clear hw7 hb6 hb7 hb57
                go_wp2_with (at_builtin; refine append_bool rfl _ _ rfl (B := w3.heap.size) (v := u10) (L := F) (y := y) (by rfl) HR7.out ((HBB.out _).1 HBB7.out).2.size (by have := HFL.out; omega) (by rfl) HX7.out ?_; intro v8 w8 hr8 hg8)
                have HB8 : Hid (Below w3.heap.size w3 w8) := Lib.hid (((HBB.out _).1 HBB7.out).2.grown hg8 ((HBB.out _).1 HBB7.out).2.size (fun k hk => (World.ownsRow.lt HR7.out k hk).1))
                have HBB8 : Hid (BB w8) := Lib.hid (by
                  have h4 := (HBB.out _).1 HBB7.out
                  exact (HBB.out _).2 ⟨(hg8.block _ (Array.getElem?_eq_some_iff.1 h4.1).1 (HR7.out.own_ne h4.1 (by intro cur h; cases h))).trans h4.1, HB8.out⟩)
                have HR8 := Lib.hid hr8
                clear hr8 hg8
                refine TQ_normal ⟨HBB8.out, ?_⟩
                refine wpT_last (fun w9 hw9 => ?_)
                have HR9 : Hid (RowB w9 w3.heap.size v8 (F ++ [y])) := Lib.hid (World.ownsRow.kept HR8.out (Below.grown0 hw9.2) (by cases v8.ownBlock <;> simp))
                have HB9 := Lib.hid ((HBB.out _).1 hw9.1).2
                have HFA := Lib.hid (fits_app HFL.out HF.out HFIT.out)
                clear hw9
                go_wp2_with fail
                refine TQ_normal ?_
                go_wp2_with fail
                exact ⟨⟨j + 1, F ++ [y], by omega, by push_cast; rfl, HR9.out, HFA.out.1, HFA.out.2, HB9.out⟩, by simp [intOf]; omega⟩
              | false =>
                have HFIT : Hid (fits r L M j = false) := Lib.hid (by rw [HFIT.out]; rfl)
                refine region_stage (B := BB) 26 (by kernel_rfl) (by kernel_rfl) (by intro _ _ _ d _ h; cases d <;> exact h) HB0.out ?_
                simp only [List.take_succ_cons, List.take_zero, List.drop_succ_cons, List.drop_zero]
                repeat (
                  refine wpR_step (fun K hK => ?_)
                  go_simp
                  first
                    | (refine hK _ ?_; clear hK K)
                    | (apply Exists.intro
                       refine ⟨fun wx hx => ?_, hK _ ?_⟩
                       · first
                         | exact uponR_value
                         | exact uponR_skip
                         | (apply uponR_enter
                            go_at_call_of 21 (e.tm)
                            exact HCE.out _ hx)
                         | (apply uponR_enter
                            go_at_call_of 21 (f.tm)
                            exact HCF.out _ hx)
                         | (apply uponR_enter
                            go_at_call 22
                            exact HCN.out _ hx)
                         | (obtain ⟨⟨c0, c1, c2, c3⟩, ⟨d0, d1, d2, d3⟩, e0, e1, e2⟩ := HCC.out _ hx; go_simp; exact uponR_value)
                       clear hK K))
                refine wpR_nil ?_
                refine wpT_more (fun w5 hw5 => ?_)
                have hb5 : Below wa.heap.size wa w5 := (Below_drewN (Below.refl wa.heap.size wa) 1).trans hw5.2
                have HBB5 := Lib.hid hw5.1
                have HR5 : Hid (RowB w5 w3.heap.size u10 F) := Lib.hid (World.ownsRow.kept HRA.out (Below.grown0 hb5) (by cases u10.ownBlock <;> simp))
                clear hw5 hb5
                go_wp2_with fail
                obtain ⟨w6, hw6⟩ : ∃ w6, w5.alloc (.cells #[.bool false] 4) = w6 := ⟨_, rfl⟩
                have hb6 : Below w5.heap.size w5 w6 := by rw [← hw6]; exact (Below.refl _ _).alloc (Nat.le_refl _) _
                have HX6 : Hid (w6.heap[w5.heap.size]? = some (.cells #[.bool false] 4 (0, 0))) := Lib.hid (by rw [← hw6]; exact heap_last _ _)
                rw [hw6]
                clear hw6
                refine TQ_normal ⟨HBK.out _ _ HBB5.out hb6, ?_⟩
                refine wpT_more (fun w7 hw7 => ?_)
                have hb7 : Below w6.heap.size w6 w7 := hw7.2
                have hb57 := hb6.trans (hb7.mono hb6.size)
                have HBB7 := Lib.hid hw7.1
                have HR7 : Hid (RowB w7 w3.heap.size u10 F) := Lib.hid (World.ownsRow.kept HR5.out (Below.grown0 hb57) (by cases u10.ownBlock <;> simp))
                have HX7 : Hid (w7.cell? ⟨w5.heap.size, 0, none⟩ = some (.bool false)) := Lib.hid (by
                  rw [Lib.cell_of_heap ((hb7.block _ (Array.getElem?_eq_some_iff.1 HX6.out).1).trans HX6.out)]; rfl)
                clear hw7 hb6 hb7 hb57
                go_wp2_with (at_builtin; refine append_bool rfl _ _ rfl (B := w3.heap.size) (v := u10) (L := F) (y := false) (by rfl) HR7.out ((HBB.out _).1 HBB7.out).2.size (by have := HFL.out; omega) (by rfl) HX7.out ?_; intro v8 w8 hr8 hg8)
                have HB8 : Hid (Below w3.heap.size w3 w8) := Lib.hid (((HBB.out _).1 HBB7.out).2.grown hg8 ((HBB.out _).1 HBB7.out).2.size (fun k hk => (World.ownsRow.lt HR7.out k hk).1))
                have HBB8 : Hid (BB w8) := Lib.hid (by
                  have h4 := (HBB.out _).1 HBB7.out
                  exact (HBB.out _).2 ⟨(hg8.block _ (Array.getElem?_eq_some_iff.1 h4.1).1 (HR7.out.own_ne h4.1 (by intro cur h; cases h))).trans h4.1, HB8.out⟩)
                have HR8 := Lib.hid hr8
                clear hr8 hg8
                refine TQ_normal ⟨HBB8.out, ?_⟩
                refine wpT_last (fun w9 hw9 => ?_)
                have HR9 : Hid (RowB w9 w3.heap.size v8 (F ++ [false])) := Lib.hid (World.ownsRow.kept HR8.out (Below.grown0 hw9.2) (by cases v8.ownBlock <;> simp))
                have HB9 := Lib.hid ((HBB.out _).1 hw9.1).2
                have HFA := Lib.hid (fits_app HFL.out HF.out HFIT.out)
                clear hw9
                go_wp2_with fail
                refine TQ_normal ?_
                go_wp2_with fail
                exact ⟨⟨j + 1, F ++ [false], by omega, by push_cast; rfl, HR9.out, HFA.out.1, HFA.out.2, HB9.out⟩, by simp [intOf]; omega⟩
            · have hm0 : decide ((j : Int) < (m : Int)) = false := by rw [decide_eq_false_iff_not]; omega
              have hm1 : decide (j < m) = false := by rw [decide_eq_false_iff_not]; omega
              have HFIT : Hid (fits r L M j = false) := Lib.hid (by rw [HFO.out (by first | trivial | rfl), hm1]; rfl)
              clear he
              refine region_stage (B := BB) 26 (by kernel_rfl) (by kernel_rfl) (by intro _ _ _ d _ h; cases d <;> exact h) HB0.out ?_
              simp only [List.take_succ_cons, List.take_zero, List.drop_succ_cons, List.drop_zero]
              repeat (
                refine wpR_step (fun K hK => ?_)
                go_simp
                first
                  | (refine hK _ ?_; clear hK K)
                  | (apply Exists.intro
                     refine ⟨fun wx hx => ?_, hK _ ?_⟩
                     · first
                       | exact uponR_value
                       | exact uponR_skip
                     clear hK K))
              refine wpR_nil ?_
              refine wpT_more (fun w5 hw5 => ?_)
              have hb5 : Below wa.heap.size wa w5 := (Below_drewN (Below.refl wa.heap.size wa) 1).trans hw5.2
              have HBB5 := Lib.hid hw5.1
              have HR5 : Hid (RowB w5 w3.heap.size u10 F) := Lib.hid (World.ownsRow.kept HRA.out (Below.grown0 hb5) (by cases u10.ownBlock <;> simp))
              clear hw5 hb5
              go_wp2_with fail
              obtain ⟨w6, hw6⟩ : ∃ w6, w5.alloc (.cells #[.bool false] 4) = w6 := ⟨_, rfl⟩
              have hb6 : Below w5.heap.size w5 w6 := by rw [← hw6]; exact (Below.refl _ _).alloc (Nat.le_refl _) _
              have HX6 : Hid (w6.heap[w5.heap.size]? = some (.cells #[.bool false] 4 (0, 0))) := Lib.hid (by rw [← hw6]; exact heap_last _ _)
              rw [hw6]
              clear hw6
              refine TQ_normal ⟨HBK.out _ _ HBB5.out hb6, ?_⟩
              refine wpT_more (fun w7 hw7 => ?_)
              have hb7 : Below w6.heap.size w6 w7 := hw7.2
              have hb57 := hb6.trans (hb7.mono hb6.size)
              have HBB7 := Lib.hid hw7.1
              have HR7 : Hid (RowB w7 w3.heap.size u10 F) := Lib.hid (World.ownsRow.kept HR5.out (Below.grown0 hb57) (by cases u10.ownBlock <;> simp))
              have HX7 : Hid (w7.cell? ⟨w5.heap.size, 0, none⟩ = some (.bool false)) := Lib.hid (by
                rw [Lib.cell_of_heap ((hb7.block _ (Array.getElem?_eq_some_iff.1 HX6.out).1).trans HX6.out)]; rfl)
              clear hw7 hb6 hb7 hb57
              go_wp2_with (at_builtin; refine append_bool rfl _ _ rfl (B := w3.heap.size) (v := u10) (L := F) (y := false) (by rfl) HR7.out ((HBB.out _).1 HBB7.out).2.size (by have := HFL.out; omega) (by rfl) HX7.out ?_; intro v8 w8 hr8 hg8)
              have HB8 : Hid (Below w3.heap.size w3 w8) := Lib.hid (((HBB.out _).1 HBB7.out).2.grown hg8 ((HBB.out _).1 HBB7.out).2.size (fun k hk => (World.ownsRow.lt HR7.out k hk).1))
              have HBB8 : Hid (BB w8) := Lib.hid (by
                have h4 := (HBB.out _).1 HBB7.out
                exact (HBB.out _).2 ⟨(hg8.block _ (Array.getElem?_eq_some_iff.1 h4.1).1 (HR7.out.own_ne h4.1 (by intro cur h; cases h))).trans h4.1, HB8.out⟩)
              have HR8 := Lib.hid hr8
              clear hr8 hg8
              refine TQ_normal ⟨HBB8.out, ?_⟩
              refine wpT_last (fun w9 hw9 => ?_)
              have HR9 : Hid (RowB w9 w3.heap.size v8 (F ++ [false])) := Lib.hid (World.ownsRow.kept HR8.out (Below.grown0 hw9.2) (by cases v8.ownBlock <;> simp))
              have HB9 := Lib.hid ((HBB.out _).1 hw9.1).2
              have HFA := Lib.hid (fits_app HFL.out HF.out HFIT.out)
              clear hw9
              go_wp2_with fail
              refine TQ_normal ?_
              go_wp2_with fail
              exact ⟨⟨j + 1, F ++ [false], by omega, by push_cast; rfl, HR9.out, HFA.out.1, HFA.out.2, HB9.out⟩, by simp [intOf]; omega⟩
          · obtain rfl : j = n := by omega
            have hd : decide ((j : Int) < (j : Int)) = false := by simp
            have hd2 : decide (j < j) = false := by simp
            have HFIN : Hid (∃ F : List Bool, F.length = j ∧ (∀ i, i < j → F[i]? = some (fits r L M i)) ∧ ((u10 = .slice none 0 0 ∧ F = []) ∨ ∃ g k, u10 = .slice (some ⟨g, 0, none⟩) j k ∧ TR wr g F) ∧ Below w.heap.size w wr) := Lib.hid (by
              refine ⟨F, HFL.out, HF.out, ?_, HB3.out.trans (HB4.out.mono HSB.out)⟩
              rcases HROW.out.2 with ⟨h1, h2⟩ | ⟨g, cap, cur, h1, -⟩
              · exact .inl ⟨h1, List.length_eq_zero_iff.1 h2⟩
              · refine .inr ⟨g, cap, by rw [h1, HFL.out], ?_⟩
                have h2 := HROW.out
                rw [h1] at h2
                exact (RowB.tr h2).1)
            clear hb
            go_wp2_with fail
            go_meet
            exact HFIN.out
      | false =>
        clear g2
        obtain ⟨gf, hgf⟩ : ∃ gf, w3.heap.size = gf := ⟨_, rfl⟩
        obtain ⟨w4, hmk, hrow4, hb4⟩ := Tryz.makeBools w3 w3.heap.size n (Nat.le_refl _) (by omega)
        have HGF := Lib.hid hgf
        have HR4 := Lib.hid hrow4
        have HB4 := Lib.hid hb4
        rw [hgf] at hmk
        clear hgf hrow4 hb4
        go_wp2_with fail
        have HBY : Hid _ := Lib.hid (byClass_any b2 k2 M w4 (HE2.out.below HB4.out) (by rw [HMN.out]; omega) HCY.out)
        rw [HMN.out] at HBY
        refine (HBY.out).mono ?_
        clear HBY hmk
        rintro e w5 ⟨bd, Dd, fd, rfl, hbd, hgd, hb5⟩
        have HBD := Lib.hid hbd
        have HGD := Lib.hid hgd
        have HB5 := Lib.hid hb5
        clear hbd hgd hb5
        go_wp2_with fail
        have HBY : Hid _ := Lib.hid (byClass_any b1 k1 L w5 ((HE1.out.below HB4.out).below HB5.out) (by rw [HN.out]; omega) HCX.out)
        rw [HN.out] at HBY
        refine (HBY.out).mono ?_
        clear HBY
        rintro e w6 ⟨bc, Dc, fc, rfl, hbc, hgc, hb6⟩
        have HBC := Lib.hid hbc
        have HGC := Lib.hid hgc
        have HB6 := Lib.hid hb6
        have HRR := Lib.hid hgc.1
        clear hbc hgc hb6
        go_wp2_with (at_range; refine wpList_range_own _ rfl _ 74 rfl 71 76 lawC Tryz.underlying74 hdR bc 1000 Dc rfl HRR.out ?_; intro w0 hrg0 hg0 hs0)
        have HFAR : Hid (Far gf w6.heap.size bc bd fc fd) := Lib.hid (Far.at (by rw [← HGF.out]; exact HR4.out.tr.2.1) HGD.out HBD.out HGC.out HBC.out HB5.out.size HB6.out.size)
        have HUN : Hid (Un w0 w3.heap.size gf w6.heap.size bc bd w5.heap.size w4.heap.size 1000 Dc Dd fc fd L M (Maps.has Dc) (Maps.size Dc) (List.replicate n false)) := Lib.hid (Un.start (n := n) (c := n) (by simp) (by simp) (by rw [← HGF.out]; exact (HR4.out.kept0 HB5.out).kept0 HB6.out) (HGD.out.kept0 HB6.out) HGC.out hg0 hrg0)
        have HB0 : Hid (Below w3.heap.size w3 w0) := Lib.hid (((HB4.out.trans (HB5.out.mono HB4.out.size)).trans (HB6.out.mono (Nat.le_trans HB4.out.size HB5.out.size))).trans ((Below.of_grown0 hg0).mono (Nat.le_trans HB4.out.size (Nat.le_trans HB5.out.size HB6.out.size))))
        have HFF : Hid (FitF r L M (fun i => Maps.has Dc (kl (cls (L.getD i default))) = false) (List.replicate n false)) := Lib.hid (by
          rw [← HN.out]
          refine FitF.start.mono (fun i hi hg => ?_)
          rw [HGC.out.has hi (HCX.out _ (by rw [List.getD_eq_getElem?_getD, List.getElem?_eq_getElem hi]; exact List.getElem_mem hi))] at hg
          cases hg)
        obtain ⟨rb, hrb⟩ : ∃ rb, w6.heap.size = rb := ⟨_, rfl⟩
        obtain ⟨s5, hs5⟩ : ∃ s, w5.heap.size = s := ⟨_, rfl⟩
        obtain ⟨s4, hs4⟩ : ∃ s, w4.heap.size = s := ⟨_, rfl⟩
        rw [hrb] at HUN HFAR ⊢
        rw [hs5, hs4] at HUN
        have HCAT : Hid (∀ q, QI q → Dc.atKey (kl q) .nil = hdD (fc q)) := Lib.hid HGC.out.2.1
        have HRB : Hid (w3.heap.size ≤ rb) := Lib.hid (by rw [← hrb]; exact Nat.le_trans HB4.out.size (Nat.le_trans HB5.out.size HB6.out.size))
        have HGB : Hid (w3.heap.size ≤ gf) := Lib.hid (by rw [HGF.out]; exact Nat.le_refl _)
        clear hrg0 hg0 hs0 hrb hs5 hs4 HR4 HB4 HB5 HB6 HGC HGD HBC HBD HRR
        go_frame
        go_loopw [15] (fun _ wx => ∃ (left : Lit → Bool) (cnt : Nat) (F : List Bool), Un wx w3.heap.size gf rb bc bd s5 s4 1000 Dc Dd fc fd L M left cnt F ∧ FitF r L M (fun i => left (kl (cls (L.getD i default))) = false) F ∧ Below w3.heap.size w3 wx) (fun _ wx => wx.rangeLeft bc rb)
        case atStart => exact ⟨_, _, _, HUN.out, HFF.out, HB0.out⟩
        case round =>
          clear HUN HFF HB0
          obtain ⟨wo, rfl⟩ : ∃ wo, wo = wr := ⟨_, rfl⟩
          obtain ⟨left, cnt, F, hun, hff, hbo⟩ := hrel
          have HUN := Lib.hid hun
          have HFF := Lib.hid hff
          have HBO := Lib.hid hbo
          clear hun hff hbo
          go_wp2_with (at_next; refine wpList_next_ranges _ rfl _ rfl 71 lawC hdR qV hdV (fun key kl' hkey => by obtain ⟨q, -, hq⟩ := keyOf_inv hkey; exact ⟨q, hq⟩) (fun v y hv => by obtain ⟨x, hx, -⟩ := hdR_inv hv; exact ⟨x, hx⟩) bc rb 1000 Dc left cnt rfl HUN.out.rg ?_ ?_)
          · intro _ hl0
            have HFIN : Hid (∃ F : List Bool, F.length = n ∧ (∀ i, i < n → F[i]? = some (fits r L M i)) ∧ ((Value.slice (some ⟨gf, 0, none⟩) n n = .slice none 0 0 ∧ F = []) ∨ ∃ g k, Value.slice (some ⟨gf, 0, none⟩) n n = .slice (some ⟨g, 0, none⟩) n k ∧ TR wo g F) ∧ Below w.heap.size w wo) := Lib.hid (by
              have h1 := HFF.out.1
              rw [HN.out] at h1
              refine ⟨F, h1, fun i hi => HFF.out.2 i (by rw [HN.out]; exact hi) (hl0 _), .inr ⟨gf, n, rfl, HUN.out.row.tr.1⟩, HB3.out.trans (HBO.out.mono HSB.out)⟩)
            clear hl0
            go_wp2_with fail
            go_meet
            exact HFIN.out
          · intro a1 a2 a3 h kl' y1 y2 w2 cnt' hkey hleft hv hat hrg2 hcnt hg2 hs2 hen
            obtain ⟨q, hq⟩ : ∃ q : Cl, q = (a1, a2, a3) := ⟨_, rfl⟩
            rw [← hq] at hkey
            obtain ⟨q', hqi, hqq⟩ := keyOf_inv hkey
            obtain rfl : q = q' := qV_inj hqq
            have hkl : kl' = kl q := by rw [keyOf_kl hqi] at hkey; injection hkey with hkey; exact hkey.symm
            subst hkl
            obtain ⟨x1, hx1, hx2⟩ := hdR_inv hv
            have hxh : h = x1 := by
              have h1 := hdR_hd h
              rw [hx1, hdR_hd] at h1
              injection h1 with h1
              injection h1 with h1 _
              exact (hdD_inj h1).symm
            subst hxh
            injection hx2 with hx2 _
            have HSC : Hid (∃ S, Sorted L q S ∧ RowR wo s5 h S) := Lib.hid (by
              obtain ⟨S, s1, s2⟩ := HUN.out.rows q hqi
              refine ⟨S, s1, ?_⟩
              have hfq : fc q = h := hdD_inj (by rw [← HCAT.out q hqi, hat, hx2])
              rwa [hfq] at s2)
            obtain ⟨S, hSS, hSR⟩ := HSC.out
            have HFQ : Hid (∀ g l k, h = some (g, l, k) → g ≠ gf ∧ g ≠ rb) := Lib.hid (fun g l k he => HFAR.out.fc q hqi g l k (by
              have hfq : fc q = h := hdD_inj (by rw [← HCAT.out q hqi, hat, hx2])
              rw [hfq]; exact he))
            have HSO := Lib.hid hSS
            have HQI := Lib.hid hqi
            have hR2 := hSR.kept hg2 (fun g l k he => by simpa using (HFQ.out g l k he).2)
            have HU2 := Lib.hid (HUN.out.turn HFAR.out hg2 hrg2)
            have HB2 : Hid (Below w3.heap.size w3 w2) := Lib.hid (HBO.out.grown hg2 HBO.out.size (fun k hk => by injection hk with hk; have := HRB.out; omega))
            have HCN := Lib.hid hcnt
            have HGS : Hid (wo.heap.size = w2.heap.size) := Lib.hid hs2.symm
            have HLV : Hid (w2.rangeLeft bc rb = cnt' ∧ wo.rangeLeft bc rb = cnt) := Lib.hid ⟨HU2.out.rg.left_eq, HUN.out.rg.left_eq⟩
            obtain ⟨av, cv, hav, -⟩ := hR2.view
            have HR2 := Lib.hid hR2
            have HAV := Lib.hid hav
            rw [hav] at hen ⊢
            obtain ⟨l, hl⟩ : ∃ l, S.length = l := ⟨_, rfl⟩
            have HL := Lib.hid hl
            rw [hl] at hen
            have hl40 : l ≤ n := by
              have h1 : (pl L q).length ≤ L.length := by
                have := List.length_filter_le (fun k => decide (cls (L.getD k default) = q)) (List.range L.length)
                rwa [List.length_range] at this
              rw [← hl, hSS.1.length_eq, ← HN.out]; exact h1
            have HQE := Lib.hid hq
            simp only [qV] at hen ⊢
            rw [hl]
            clear hkey hleft hv hat hrg2 hcnt hg2 hs2 hx1 hx2 hqq hq hqi hSS hSR hR2 hav hl
            go_wp2_with fail
            obtain ⟨w7, hw7⟩ : ∃ w7, w2.alloc (.cells #[.int .i64 a1, .int .i64 a2, .int .i64 a3] 71) = w7 := ⟨_, rfl⟩
            have hb7 : Below w2.heap.size w2 w7 := by rw [← hw7]; exact (Below.refl _ _).alloc (Nat.le_refl _) _
            have hk7 : w7.heap[w2.heap.size]? = some (.cells #[.int .i64 a1, .int .i64 a2, .int .i64 a3] 71 (0, 0)) := by rw [← hw7]; exact heap_last _ _
            rw [hw7]
            have HU7 := Lib.hid (HU2.out.kept (Below.grown0 hb7))
            have HR7 : Hid (RowR w7 s5 h S) := Lib.hid (HR2.out.kept (Below.grown0 hb7) (by simp))
            have HB7 := Lib.hid (HB2.out.trans (hb7.mono HB2.out.size))
            obtain ⟨k, hk⟩ : ∃ k, w2.heap.size = k := ⟨_, rfl⟩
            have HK : Hid (k ≠ gf ∧ w3.heap.size < k) := Lib.hid (by
              have h1 := HUN.out.row.tr.2.1
              have h2 := HB2.out.size
              have h3 := HGB.out
              have h4 : wo.heap.size ≤ w2.heap.size := by have := HB2.out.size; have := HGS.out; omega
              omega)
            rw [hk] at hk7 ⊢
            have HK7 := Lib.hid hk7
            have HFF7 : Hid (FitF r L M (fun i => left (kl (cls (L.getD i default))) = false ∨ i ∈ S.take 0) F) := Lib.hid (HFF.out.mono (fun i hi hg => hg.elim id (fun h => absurd h (by simp))))
            clear hw7 hb7 hk7 hk hen HU2 HR2 HB2 HBO HFF
            go_loopw [16, 17, 81] (fun _ _ p wx => ∃ (j : Nat) (F : List Bool), j ≤ l ∧ p = .int .i64 j ∧ Un wx w3.heap.size gf rb bc bd s5 s4 1000 Dc Dd fc fd L M (fun z => left z && !z.sameKey (kl q)) cnt' F ∧ FitF r L M (fun i => left (kl (cls (L.getD i default))) = false ∨ i ∈ S.take j) F ∧ Below w3.heap.size w3 wx ∧ RowR wx s5 h S ∧ wx.heap[k]? = some (.cells #[.int .i64 a1, .int .i64 a2, .int .i64 a3] 71 (0, 0))) (fun _ _ p _ => l - (intOf p).toNat)
            case atStart => exact ⟨0, F, by omega, rfl, HU7.out, HFF7.out, HB7.out, HR7.out, HK7.out⟩
            case round =>
              clear HU7 HFF7 HB7 HR7 HK7
              obtain ⟨j, F, hj, rfl, hun, hff, hbx, hrw, hkx⟩ := hrel
              have HUX := Lib.hid hun
              have HFX := Lib.hid hff
              have HBX := Lib.hid hbx
              have HRX := Lib.hid hrw
              have HKX := Lib.hid hkx
              clear hun hff hbx hrw hkx
              by_cases hlt : j < l
              · obtain ⟨i, hi⟩ : ∃ i, S[j]? = some i := ⟨_, List.getElem?_eq_getElem (by rw [HL.out]; exact hlt)⟩
                have HSI := Lib.hid hi
                have hin : i < n := by rw [← HN.out]; exact (HSO.out.mem hi).1
                obtain ⟨e, he⟩ : ∃ e, L[i]? = some e := ⟨_, List.getElem?_eq_getElem (by rw [HN.out]; exact hin)⟩
                have HE := Lib.hid he
                obtain ⟨S', hS', hR'⟩ := HUX.out.others.2.2.2 q HQI.out
                have HSP := Lib.hid hS'
                have HRP := Lib.hid hR'
                obtain ⟨ad, cd, had, hcd⟩ := hR'.view
                obtain ⟨l', hl'⟩ : ∃ l', S'.length = l' := ⟨_, rfl⟩
                have HLP := Lib.hid hl'
                rw [hl'] at had
                have HAD := Lib.hid had
                have HCD := Lib.hid hcd
                obtain ⟨av', cv', hav', hcv⟩ := HRX.out.view
                obtain ⟨ga, rfl, hga, hci⟩ := hcv j i hi
                have hae := HAV.out
                rw [hav'] at hae
                injection hae with e1 _ e3
                subst e1 e3
                have HFP : Hid (fits r L M i = partner r L M i) := Lib.hid (HFU.out (by first | trivial | rfl) i)
                obtain ⟨bL, oL, rfl, hbL, hxe⟩ := (HE1.out.below HBX.out) i e he
                have HXE := Lib.hid hxe
                have HBL := Lib.hid hbL
                have n0 : (0 : Int) ≤ (i : Int) := by omega
                have n1 : (i : Int) < (n : Int) := by omega
                have p0 : (0 : Int) ≤ (j : Int) := by omega
                have p1 : (j : Int) < (l : Int) := by omega
                have hd : decide ((j : Int) < (l : Int)) = true := by rw [decide_eq_true_iff]; omega
                have hd2 : decide (j < l) = true := by rw [decide_eq_true_iff]; omega
                obtain ⟨BB, hBB⟩ : ∃ BB : World → Prop, BB = fun wx => Below wr.heap.size wr wx := ⟨_, rfl⟩
                have HBB : Hid (∀ wx, BB wx ↔ Below wr.heap.size wr wx) := Lib.hid (fun wx => by rw [hBB])
                have HBK : Hid (∀ wx w', BB wx → Below wx.heap.size wx w' → BB w') := Lib.hid (fun wx w' h hb => by
                  rw [HBB.out] at h ⊢
                  exact h.trans (hb.mono h.size))
                have HB0 : Hid (BB wr.drew) := Lib.hid ((HBB.out _).2 ((Below.refl _ _).drew))
                have HLK : Hid (∀ wx, BB wx → (Instr.lookup 74 (.map (some bd)) (.agg #[.int .i64 a1, .int .i64 a2, .int .i64 a3]) false).run Tryz.prog wx = .ok (.slice ad l' cd) wx) := Lib.hid (fun wx hx => by
                  have h1 := HUX.out.others.kept0 ((HBB.out _).1 hx)
                  have h2 := own_look h1.1 h1.2.1 HQI.out
                  rw [HAD.out, HQE.out] at h2
                  exact h2)
                have HCB : Hid (∀ wx, BB wx → wx.cell? ⟨k, 0, none⟩ = some (.int .i64 a1) ∧ wx.cell? ⟨k, 1, none⟩ = some (.int .i64 a2) ∧ wx.cell? ⟨k, 2, none⟩ = some (.int .i64 a3) ∧ wx.cell? ⟨w.heap.size, 0, none⟩ = some (.int .i64 r.kinds) ∧ wx.cell? ⟨w.heap.size, 1, none⟩ = some (.int .i64 r.slack) ∧ wx.cell? ⟨w.heap.size, 2, none⟩ = some (.bool false) ∧ evAt wx bL (oL + i * 4) e) := Lib.hid (fun wx hx => by
                  have hb := (HBB.out _).1 hx
                  have hk := (hb.block _ (Array.getElem?_eq_some_iff.1 HKX.out).1).trans HKX.out
                  have h3 := HBX.out.trans (hb.mono HBX.out.size)
                  refine ⟨by rw [Lib.cell_of_heap hk]; rfl, by rw [Lib.cell_of_heap hk]; rfl, by rw [Lib.cell_of_heap hk]; rfl, ((bcell h3).1 _ _ HSZ3.out).trans (HCS3.out 0), ((bcell h3).1 _ _ HSZ3.out).trans (HCS3.out 1), ((bcell h3).1 _ _ HSZ3.out).trans (HCS3.out 2), HXE.out.below HBL.out hb⟩)
                clear hi he hS' hR' had hcd hl' hcv hav' hga hxe hbL hBB
                by_cases hjl : j < l'
                · have q0 : decide ((j : Int) < (l' : Int)) = true := by rw [decide_eq_true_iff]; omega
                  have q1 : decide (j < l') = true := by rw [decide_eq_true_iff]; omega
                  have q2 : (j : Int) < (l' : Int) := by omega
                  obtain ⟨j', hj'⟩ : ∃ j', S'[j]? = some j' := ⟨_, List.getElem?_eq_getElem (by rw [HLP.out]; exact hjl)⟩
                  obtain ⟨gd, rfl, hgd, hcj⟩ := HCD.out j j' hj'
                  have hjm : j' < m := by rw [← HMN.out]; exact (HSP.out.mem hj').1
                  obtain ⟨f, hf⟩ : ∃ f, M[j']? = some f := ⟨_, List.getElem?_eq_getElem (by rw [HMN.out]; exact hjm)⟩
                  have r0 : (0 : Int) ≤ (j' : Int) := by omega
                  have r1 : (j' : Int) < (m : Int) := by omega
                  obtain ⟨bM, oM, rfl, hbM, hxf⟩ := (HE2.out.below HBX.out) j' f hf
                  have HXF := Lib.hid hxf
                  have HBM := Lib.hid hbM
                  have HGD := Lib.hid hgd
                  have HCJ := Lib.hid hcj
                  have HNR := Lib.hid (fun W => HCL.out e.tm f.tm W (HI.out e (List.mem_of_getElem? HE.out)) (HJ.out f (List.mem_of_getElem? hf)))
                  have HCN2 : Hid (∀ wx, BB wx → Calls Tryz.prog 22 #[.agg #[.int .i64 r.kinds, .int .i64 r.slack, .bool false], .int .i64 e.tm, .int .i64 f.tm] wx fun z w' => z = .returned (.bool (near r e.tm f.tm)) ∧ BB w' ∧ Below wx.heap.size wx w') := Lib.hid (fun wx hx => (HNR.out wx).mono fun r w' ⟨h1, h2⟩ => ⟨h1, HBK.out _ _ hx h2, h2⟩)
                  have HCC : Hid (∀ wx, BB wx → wx.cell? ⟨k, 0, none⟩ = some (.int .i64 a1) ∧ wx.cell? ⟨k, 1, none⟩ = some (.int .i64 a2) ∧ wx.cell? ⟨k, 2, none⟩ = some (.int .i64 a3) ∧ wx.cell? ⟨w.heap.size, 0, none⟩ = some (.int .i64 r.kinds) ∧ wx.cell? ⟨w.heap.size, 1, none⟩ = some (.int .i64 r.slack) ∧ wx.cell? ⟨w.heap.size, 2, none⟩ = some (.bool false) ∧ evAt wx bL (oL + i * 4) e ∧ evAt wx bM (oM + j' * 4) f ∧ wx.cell? ⟨gd, j, none⟩ = some (.int .i64 (j' : Int))) := Lib.hid (fun wx hx => by
                    obtain ⟨h1, h2, h3, h4, h5, h6, h7⟩ := HCB.out wx hx
                    have hb := (HBB.out _).1 hx
                    exact ⟨h1, h2, h3, h4, h5, h6, h7, HXF.out.below HBM.out hb, ((bcell hb).1 _ _ HGD.out).trans HCJ.out⟩)
                  obtain ⟨y, hy⟩ : ∃ y, near r e.tm f.tm = y := ⟨_, rfl⟩
                  have HFIT : Hid (fits r L M i = y) := Lib.hid (by rw [un_yes HFP.out HSO.out HSP.out HSI.out hj', tmAt, tmAt, getD_ev HE.out, getD_ev hf, hy])
                  rw [hy] at HCN2
                  clear hj' hgd hcj hf hbM hxf hy
                  go_upto_region 19 with fail
                  refine region_stage (B := BB) 28 (by kernel_rfl) (by kernel_rfl) (by intro _ _ _ d _ h; cases d <;> exact h) HB0.out ?_
                  simp only [List.take_succ_cons, List.take_zero, List.drop_succ_cons, List.drop_zero]
                  repeat (
                    refine wpR_step (fun K hK => ?_)
                    go_simp
                    first
                      | (refine hK _ ?_; clear hK K)
                      | (apply Exists.intro
                         refine ⟨fun wx hx => ?_, hK _ ?_⟩
                         · first
                           | exact uponR_value
                           | exact uponR_skip
                           | (apply uponR_enter
                              go_at_call 22
                              exact HCN2.out _ hx)
                           | (have hlk := HLK.out _ hx; go_simp; exact uponR_value)
                           | (obtain ⟨c0, c1, c2, e0, e1, e2, ⟨d0, d1, d2, d3⟩, ⟨f0, f1, f2, f3⟩, g0⟩ := HCC.out _ hx; go_simp; exact uponR_value)
                         clear hK K))
                  refine wpR_nil ?_
                  refine wpT_last (fun w9 hw9 => ?_)
                  have hb9 : Below wr.heap.size wr w9 := (HBB.out _).1 hw9.1
                  have HU9 := Lib.hid (HUX.out.kept (Below.grown0 hb9))
                  have HR9 : Hid (RowR w9 s5 h S) := Lib.hid (HRX.out.kept (Below.grown0 hb9) (by simp))
                  have HB9 := Lib.hid (HBX.out.trans (hb9.mono HBX.out.size))
                  have HK9 := Lib.hid ((hb9.block _ (Array.getElem?_eq_some_iff.1 HKX.out).1).trans HKX.out)
                  obtain ⟨old, hold⟩ : ∃ old, F[i]? = some old := ⟨_, List.getElem?_eq_getElem (by rw [HFX.out.1, HN.out]; exact hin)⟩
                  obtain ⟨hcell, hfr⟩ := HU9.out.row.cell hold
                  have HST := Lib.hid (HU9.out.store HFAR.out i y)
                  have HFS : Hid (FitF r L M (fun i => left (kl (cls (L.getD i default))) = false ∨ i ∈ S.take (j + 1)) (F.set i y)) := Lib.hid (HFX.out.set HFIT.out (fun k _ hg => by
                    rcases hg with hg | hg
                    · exact .inl (.inl hg)
                    · rw [List.take_add_one, HSI.out] at hg
                      rcases List.mem_append.1 hg with hg | hg
                      · exact .inl (.inr hg)
                      · exact .inr (by simpa using hg)))
                  have HBF : Hid (Below w3.heap.size w3 (w9.setCell ⟨gf, i, none⟩ (.bool y))) := Lib.hid (HB9.out.grown HST.out.2 HB9.out.size (fun k hk => by injection hk with hk; have := HGB.out; omega))
                  have HRF : Hid (RowR (w9.setCell ⟨gf, i, none⟩ (.bool y)) s5 h S) := Lib.hid (HR9.out.kept HST.out.2 (fun g l k he => by simpa using (HFQ.out g l k he).1))
                  have HKF : Hid ((w9.setCell ⟨gf, i, none⟩ (.bool y)).heap[k]? = some (.cells #[.int .i64 a1, .int .i64 a2, .int .i64 a3] 71 (0, 0))) := Lib.hid ((HST.out.2.block k (Array.getElem?_eq_some_iff.1 HK9.out).1 (by simpa using HK.out.1)).trans HK9.out)
                  clear hw9 hb9 hold
                  go_wp2_with fail
                  refine TQ_normal ?_
                  go_wp2_with fail
                  exact ⟨⟨j + 1, F.set i y, by omega, by push_cast; rfl, HST.out.1, HFS.out, HBF.out, HRF.out, HKF.out⟩, by simp [intOf]; omega⟩
                · have q0 : decide ((j : Int) < (l' : Int)) = false := by rw [decide_eq_false_iff_not]; omega
                  have q1 : decide (j < l') = false := by rw [decide_eq_false_iff_not]; omega
                  have HCC := HCB
                  have HFIT : Hid (fits r L M i = false) := Lib.hid (un_no HFP.out HSO.out HSP.out HSI.out (by rw [HLP.out]; omega))
                  go_upto_region 19 with fail
                  refine region_stage (B := BB) 28 (by kernel_rfl) (by kernel_rfl) (by intro _ _ _ d _ h; cases d <;> exact h) HB0.out ?_
                  simp only [List.take_succ_cons, List.take_zero, List.drop_succ_cons, List.drop_zero]
                  repeat (
                    refine wpR_step (fun K hK => ?_)
                    go_simp
                    first
                      | (refine hK _ ?_; clear hK K)
                      | (apply Exists.intro
                         refine ⟨fun wx hx => ?_, hK _ ?_⟩
                         · first
                           | exact uponR_value
                           | exact uponR_skip
                           | (have hlk := HLK.out _ hx; go_simp; exact uponR_value)
                           | (obtain ⟨c0, c1, c2, e0, e1, e2, ⟨d0, d1, d2, d3⟩⟩ := HCC.out _ hx; go_simp; exact uponR_value)
                         clear hK K))
                  refine wpR_nil ?_
                  refine wpT_last (fun w9 hw9 => ?_)
                  have hb9 : Below wr.heap.size wr w9 := (HBB.out _).1 hw9.1
                  have HU9 := Lib.hid (HUX.out.kept (Below.grown0 hb9))
                  have HR9 : Hid (RowR w9 s5 h S) := Lib.hid (HRX.out.kept (Below.grown0 hb9) (by simp))
                  have HB9 := Lib.hid (HBX.out.trans (hb9.mono HBX.out.size))
                  have HK9 := Lib.hid ((hb9.block _ (Array.getElem?_eq_some_iff.1 HKX.out).1).trans HKX.out)
                  obtain ⟨old, hold⟩ : ∃ old, F[i]? = some old := ⟨_, List.getElem?_eq_getElem (by rw [HFX.out.1, HN.out]; exact hin)⟩
                  obtain ⟨hcell, hfr⟩ := HU9.out.row.cell hold
                  have HST := Lib.hid (HU9.out.store HFAR.out i false)
                  have HFS : Hid (FitF r L M (fun i => left (kl (cls (L.getD i default))) = false ∨ i ∈ S.take (j + 1)) (F.set i false)) := Lib.hid (HFX.out.set HFIT.out (fun k _ hg => by
                    rcases hg with hg | hg
                    · exact .inl (.inl hg)
                    · rw [List.take_add_one, HSI.out] at hg
                      rcases List.mem_append.1 hg with hg | hg
                      · exact .inl (.inr hg)
                      · exact .inr (by simpa using hg)))
                  have HBF : Hid (Below w3.heap.size w3 (w9.setCell ⟨gf, i, none⟩ (.bool false))) := Lib.hid (HB9.out.grown HST.out.2 HB9.out.size (fun k hk => by injection hk with hk; have := HGB.out; omega))
                  have HRF : Hid (RowR (w9.setCell ⟨gf, i, none⟩ (.bool false)) s5 h S) := Lib.hid (HR9.out.kept HST.out.2 (fun g l k he => by simpa using (HFQ.out g l k he).1))
                  have HKF : Hid ((w9.setCell ⟨gf, i, none⟩ (.bool false)).heap[k]? = some (.cells #[.int .i64 a1, .int .i64 a2, .int .i64 a3] 71 (0, 0))) := Lib.hid ((HST.out.2.block k (Array.getElem?_eq_some_iff.1 HK9.out).1 (by simpa using HK.out.1)).trans HK9.out)
                  clear hw9 hb9 hold
                  go_wp2_with fail
                  refine TQ_normal ?_
                  go_wp2_with fail
                  exact ⟨⟨j + 1, F.set i false, by omega, by push_cast; rfl, HST.out.1, HFS.out, HBF.out, HRF.out, HKF.out⟩, by simp [intOf]; omega⟩
              · obtain rfl : j = l := by omega
                have hd : decide ((j : Int) < (j : Int)) = false := by simp
                have hd2 : decide (j < j) = false := by simp
                have HFE : Hid (FitF r L M (fun i => (left (kl (cls (L.getD i default))) && !(kl (cls (L.getD i default))).sameKey (kl q)) = false) F) := Lib.hid (HFX.out.mono (fun i hi hg => by
                  have := struck HSO.out HCX.out HQI.out hi hg
                  rwa [List.take_of_length_le (by rw [HL.out]; exact Nat.le_refl _)]))
                go_wp2_with fail
                exact ⟨⟨_, _, F, HUX.out, HFE.out, HBX.out⟩, by rw [HLV.out.2, HUX.out.rg.left_eq]; exact HCN.out⟩
    case rest =>
      obtain ⟨F, hFl, hF, hsl, hb⟩ := hcut
      have HI1 : Hid (Calls Tryz.prog 24 #[u10, .bool false] wc fun e w' => e = .returned (.int .i64 (idxOf false F)) ∧ wc = w') := Lib.hid (by
        rcases hsl with ⟨rfl, rfl⟩ | ⟨g, k, rfl, hT⟩
        · exact index_nil 0 false wc
        · have := index_any g k false F wc hT (by omega)
          rw [hFl] at this
          exact this)
      have HIX : Hid (idxOf false F = match firstBad r L M with | some i => (i : Int) | none => -1) := Lib.hid (idx_firstBad (by rw [hFl, HN.out]) (by rw [HN.out]; exact hF))
      obtain ⟨ix, hix⟩ : ∃ ix, idxOf false F = ix := ⟨_, rfl⟩
      rw [hix] at HI1 HIX
      have HBW := Lib.hid hb
      clear hsl hF hix hb
      cases hfb : firstBad r L M with
      | some i =>
        rw [hfb] at HIX
        have hxi : ix = (i : Int) := HIX.out
        subst hxi
        have HFIN := Lib.hid (HHIT.out i hfb)
        have d0 : decide ((0 : Int) ≤ (i : Int)) = true := by rw [decide_eq_true_iff]; omega
        have d1 : (0 : Int) ≤ (i : Int) := by omega
        clear hfb
        go_wp2_with fail
        refine HI1.out.mono ?_
        rintro e w4 ⟨rfl, rfl⟩
        go_wp2_with fail
        go_ret2
        exact ⟨by rw [HFIN.out]; rfl, HBW.out⟩
      | none =>
        rw [hfb] at HIX
        have hxi : ix = -1 := HIX.out
        subst hxi
        have d0 : decide ((0 : Int) ≤ -1) = false := by decide
        by_cases hnm : n = m
        · have hb1 : ((n : Int) != (m : Int)) = false := by rw [hnm]; simp
          have hb2 : (n != m) = false := by rw [hnm]; simp
          have HFIN := Lib.hid (HYES.out hfb hnm)
          clear hnm hfb
          go_wp2_with fail
          refine HI1.out.mono ?_
          rintro e w4 ⟨rfl, rfl⟩
          go_wp2_with fail
          go_ret2
          exact ⟨by rw [HFIN.out]; rfl, HBW.out⟩
        · have hb1 : ((n : Int) != (m : Int)) = true := by rw [bne_iff_ne]; omega
          have hb2 : (n != m) = true := by rw [bne_iff_ne]; omega
          have HFIN := Lib.hid (HLEN.out hfb hnm)
          clear hnm hfb
          go_wp2_with fail
          refine HI1.out.mono ?_
          rintro e w4 ⟨rfl, rfl⟩
          go_wp2_with fail
          go_ret2
          exact ⟨by rw [HFIN.out]; rfl, HBW.out⟩
end Go.Proofs.YtinknenfhohamaaGreatDoor
