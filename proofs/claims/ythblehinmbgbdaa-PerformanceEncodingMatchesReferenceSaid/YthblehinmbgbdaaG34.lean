/- Near of the reference. -/
import Derived.Test.YthblehinmbgbdaaG33
import Derived.Deep.CutBlock
import Derived.Lib.SmallJoins
namespace Go.Proofs.Ythblehinmbgbdaa
open Go.RowKit
set_option maxRecDepth 100000

/-- Integers that a slice holds. -/
def InS (W : World) (a : Option Addr) (N : List Int) : Prop := ∀ i (p : Int), N[i]? = some p → ∃ b o, a = some ⟨b, o, none⟩ ∧ b < W.heap.size ∧ W.cell? ⟨b, o + i, none⟩ = some (.int .i64 p)
def InI (N : List Int) : Prop := ∀ x ∈ N, I64 x
theorem fold_next {Y : List Ev} {j : Nat} {y : Ev} (h : Y[j]? = some y) (O : List Ev) : (Y.take (j + 1)).foldl insE O = insE ((Y.take j).foldl insE O) y := by
  rw [take_more h, List.foldl_append]; rfl
theorem fold_length (Y : List Ev) : ∀ O : List Ev, (Y.foldl insE O).length = Y.length + O.length := by
  induction Y with
  | nil => intro O; simp
  | cons y Y ih => intro O; rw [List.foldl_cons, ih, (insE_perm O y).length_eq]; simp; omega
theorem EvS.take {W : World} {a : Option Addr} {O : List Ev} (h : EvS W a O) (k : Nat) : EvS W a (O.take k) := by
  intro i x hi
  have hik : i < k := by have := (List.getElem?_eq_some_iff.1 hi).1; rw [List.length_take] at this; omega
  rw [List.getElem?_take_of_lt hik] at hi
  exact h i x hi
theorem EvS.dropE {W : World} {b o : Nat} {O : List Ev} (h : EvS W (some ⟨b, o, none⟩) O) (k : Nat) : EvS W (some ⟨b, o + k * 4, none⟩) (O.drop k) := by
  intro i x hi
  rw [List.getElem?_drop] at hi
  obtain ⟨b', o', hbo, hb, hx⟩ := h (k + i) x hi
  injection hbo with hbo
  injection hbo with h1 h2 _
  subst h1 h2
  refine ⟨b, o + k * 4, rfl, hb, ?_⟩
  rw [show o + k * 4 + i * 4 = o + (k + i) * 4 by omega]
  exact hx
set_option maxHeartbeats 8000000 in
theorem near_any (a : Option Addr) (c : Nat) (L : List Ev) (s : Int) (a2 : Option Addr) (c2 : Nat) (N : List Int) (w : World) (hS : EvS w a L) (hN : InS w a2 N) (hL : L.length ≤ 30) (hs : 0 ≤ s ∧ s ≤ 100) (hT : ∀ e ∈ L, 0 ≤ e.tm ∧ e.tm ≤ 20000) (hI : InI N) (_hl2 : N.length ≤ 9223372036854775807) :
    Calls Try.prog 13 #[.slice a L.length c, .int .i64 s, .slice a2 N.length c2] w fun r w' => ∃ v, r = .returned v ∧ ERow w' w.heap.size v (nearOf s N L) ∧ Below w.heap.size w w' := by
  obtain ⟨n, hn⟩ : ∃ n, L.length = n := ⟨_, rfl⟩
  obtain ⟨m, hm⟩ : ∃ m, N.length = m := ⟨_, rfl⟩
  have HN := Lib.hid hn
  have HM := Lib.hid hm
  have HS := Lib.hid hS
  have HNS := Lib.hid hN
  have HT := Lib.hid hT
  have HI := Lib.hid hI
  have HFIN : Hid (((shifted s N L).take n).foldl insE [] = nearOf s N L) := Lib.hid (by rw [nearOf, List.take_of_length_le (by rw [shifted_length, hn]; exact Nat.le_refl _)])
  rw [hn] at hL ⊢
  rw [hm] at _hl2 ⊢
  obtain ⟨s2, hs2⟩ : ∃ s2, 2 * s = s2 := ⟨_, rfl⟩
  obtain ⟨s21, hs21⟩ : ∃ s21, s2 + 1 = s21 := ⟨_, rfl⟩
  have hw1 : IntKind.i64.wrap (2 * s) = s2 := by rw [IntKind.wrap_i64]; omega
  have hw2 : IntKind.i64.wrap (s2 + 1) = s21 := by rw [IntKind.wrap_i64]; omega
  have HS21 : Hid (s21 = 2 * s + 1) := Lib.hid (by omega)
  clear hn hm hS hN hT hI hs2 hs21
  go_enter Try.func13, Try.ntmps13
  go_wp2_with fail
  go_loopw [7, 8] (fun o i wx => ∃ j : Nat, j ≤ n ∧ i = .int .i64 j ∧ ERow wx w.heap.size o (((shifted s N L).take j).foldl insE []) ∧ Below w.heap.size w wx) (fun _ i _ => n - (intOf i).toNat)
  case atStart => exact ⟨0, by omega, rfl, ERow.nil _ _, Below.refl _ _⟩
  case round =>
    obtain ⟨j, hj, rfl, hrow, hb⟩ := hrel
    have HROW := Lib.hid hrow
    have HB := Lib.hid hb
    clear hrow hb
    by_cases hlt : j < n
    · obtain ⟨e, he⟩ : ∃ e, L[j]? = some e := ⟨_, List.getElem?_eq_getElem (by rw [HN.out]; exact hlt)⟩
      obtain ⟨bl, o, rfl, hbl, x0, x1, x2, x3⟩ := (HS.out.below HB.out) j e he
      have htm := HT.out e (List.mem_of_getElem? he)
      have HNX := Lib.hid (fold_next (shifted_at (s := s) (B := N) he) [])
      have HLO : Hid ((((shifted s N L).take j).foldl insE []).length = j) := Lib.hid (by rw [fold_length, List.length_take, shifted_length, HN.out]; simp; omega)
      obtain ⟨O, hO⟩ : ∃ O, ((shifted s N L).take j).foldl insE [] = O := ⟨_, rfl⟩
      rw [hO] at HROW HNX HLO
      obtain ⟨y, hy⟩ : ∃ y, shift s e N[j]? = y := ⟨_, rfl⟩
      rw [hy] at HNX
      have HY := Lib.hid hy
      obtain ⟨ao, co, rfl, hco, hSO, hnone⟩ := HROW.out.isSlice
      rw [HLO.out] at hco ⊢
      have HSO := Lib.hid hSO
      have HNO := Lib.hid hnone
      have n0 : (0 : Int) ≤ (j : Int) := by omega
      have n1 : (j : Int) < (n : Int) := by omega
      have hd : decide ((j : Int) < (n : Int)) = true := by rw [decide_eq_true_iff]; omega
      have hd2 : decide (j < n) = true := by rw [decide_eq_true_iff]; omega
      obtain ⟨wo, rfl⟩ : ∃ wo, wo = wr := ⟨_, rfl⟩
      have HEV : Hid ((wo.alloc (.cells #[.int .i64 e.tm, .int .i64 e.kd, .int .i64 e.a, .int .i64 e.b] 52)).heap[wo.heap.size]? = some (.cells #[.int .i64 e.tm, .int .i64 e.kd, .int .i64 e.a, .int .i64 e.b] 52 (0, 0))) := Lib.hid (heap_last _ _)
      have HBA : Hid (Below wo.heap.size wo (wo.alloc (.cells #[.int .i64 e.tm, .int .i64 e.kd, .int .i64 e.a, .int .i64 e.b] 52))) := Lib.hid ((Below.refl _ _).alloc (Nat.le_refl _) _)
      clear he hy hO hSO hnone
      go_upto_if 24 with fail
      obtain ⟨wa, hwa⟩ : ∃ wa, wo.alloc (.cells #[.int .i64 e.tm, .int .i64 e.kd, .int .i64 e.a, .int .i64 e.b] 52) = wa := ⟨_, rfl⟩
      rw [hwa] at HEV HBA ⊢
      obtain ⟨g, hg⟩ : ∃ g, wo.heap.size = g := ⟨_, rfl⟩
      have HG := Lib.hid hg
      rw [hg] at HEV ⊢
      clear hwa hg x0 x1 x2 x3 hbl
      go_cut [9] (fun v wx => v = .pointer (some ⟨g, 0, none⟩) ∧ wx.heap[g]? = some (.cells #[.int .i64 y.tm, .int .i64 y.kd, .int .i64 y.a, .int .i64 y.b] 52 (0, 0)) ∧ Below wo.heap.size wo wx)
      case first =>
        by_cases hjm : j < m
        · have hdm : decide ((j : Int) < (m : Int)) = true := by rw [decide_eq_true_iff]; omega
          have hdm2 : decide (j < m) = true := by rw [decide_eq_true_iff]; omega
          have m1 : (j : Int) < (m : Int) := by omega
          obtain ⟨z, hz⟩ : ∃ z, N[j]? = some z := ⟨_, List.getElem?_eq_getElem (by rw [HM.out]; exact hjm)⟩
          obtain ⟨b2, o2, rfl, hb2, z0⟩ := HNS.out j z hz
          have HP := Lib.hid (fun W => pickR_any z s21 W (HI.out z (List.mem_of_getElem? hz)) (by rw [HS21.out]; omega) (by rw [HS21.out]; omega))
          obtain ⟨p, e0, p0, p1⟩ := pick_small (c := z) (n := s21) (by rw [HS21.out]; omega)
          rw [e0] at HP
          have p2 : p ≤ 200 := by have := HS21.out; omega
          obtain ⟨u, hu⟩ : ∃ u, e.tm + p = u := ⟨_, rfl⟩
          obtain ⟨v, hv⟩ : ∃ v, u - s = v := ⟨_, rfl⟩
          obtain ⟨mx, hmx0⟩ : ∃ mx, max v 0 = mx := ⟨_, rfl⟩
          obtain ⟨t', ht'⟩ : ∃ t', min mx 20000 = t' := ⟨_, rfl⟩
          have HYE : Hid (y = ⟨t', e.kd, e.a, e.b⟩) := Lib.hid (by
            rw [← HY.out, hz]
            show { e with tm := min (max (e.tm + pick z (2 * s + 1) - s) 0) 20000 } = _
            rw [← HS21.out, e0, hu, hv, hmx0, ht'])
          have hw3 : IntKind.i64.wrap (e.tm + p) = u := by rw [IntKind.wrap_i64]; omega
          have hw4 : IntKind.i64.wrap (u - s) = v := by rw [IntKind.wrap_i64]; omega
          have hmx := fun W => run_max2 (P := Try.prog) #[3, 3] 3 v 0 W
          have hmn := fun W => run_min2 (P := Try.prog) #[3, 3] 3 mx 20000 W
          rw [hmx0] at hmx
          rw [ht'] at hmn
          obtain ⟨BB, hBB⟩ : ∃ BB : World → Prop, BB = fun wx => Below wa.heap.size wa wx := ⟨_, rfl⟩
          have HBB : Hid (∀ wx, BB wx ↔ Below wa.heap.size wa wx) := Lib.hid (fun wx => by rw [hBB])
          have HB0 : Hid (BB wa.drew) := Lib.hid ((HBB.out _).2 ((Below.refl _ _).drew))
          have HC1 : Hid (∀ wx, BB wx → Calls Try.prog 30 #[.int .i64 z, .int .i64 s21] wx fun z w' => z = .returned (.int .i64 p) ∧ BB w' ∧ Below wx.heap.size wx w') := Lib.hid (fun wx hx => (HP.out wx).mono fun r w' ⟨h1, h2⟩ => ⟨h1, h2 ▸ hx, h2 ▸ Below.refl _ _⟩)
          have HBW := Lib.hid (HB.out.trans (HBA.out.mono HB.out.size))
          have HZ := Lib.hid (And.intro hb2 z0)
          have HCC : Hid (∀ wx, BB wx → wx.cell? ⟨g, 0, none⟩ = some (.int .i64 e.tm) ∧ wx.cell? ⟨b2, o2 + j, none⟩ = some (.int .i64 z)) := Lib.hid (fun wx hx => by
            have hb := (HBB.out wx).1 hx
            have hk := (hb.block _ (Array.getElem?_eq_some_iff.1 HEV.out).1).trans HEV.out
            have h3 := HBW.out.trans (hb.mono HBW.out.size)
            exact ⟨by rw [Lib.cell_of_heap hk]; rfl, ((bcell h3).1 _ _ HZ.out.1).trans HZ.out.2⟩)
          clear hBB hz e0 hu hv hmx0 ht' hb2 z0
          go_upto_region 7 with fail
          refine region_stage (B := BB) 16 (by kernel_rfl) (by kernel_rfl) (by intro _ _ _ d _ h; cases d <;> exact h) HB0.out ?_
          simp only [List.take_succ_cons, List.take_zero, List.drop_succ_cons, List.drop_zero]
          repeat (
            refine wpR_step (fun K hK => ?_)
            go_simp
            first
              | (refine hK _ ?_; clear hK K)
              | (apply Exists.intro
                 refine ⟨fun wx hx => ?_, hK _ ?_⟩
                 · first
                   | exact uponR_value
                   | exact uponR_skip
                   | (apply uponR_enter
                      go_at_call 30
                      exact HC1.out _ hx)
                   | (obtain ⟨c1, c2⟩ := HCC.out _ hx; go_simp; exact uponR_value)
                 clear hK K))
          refine wpR_nil ?_
          refine wpT_last (fun w9 hw9 => ?_)
          have hb9 : Below wa.heap.size wa w9 := (HBB.out _).1 hw9.1
          have HK9 := Lib.hid ((hb9.block _ (Array.getElem?_eq_some_iff.1 HEV.out).1).trans HEV.out)
          have HB9 := Lib.hid (HBA.out.trans (hb9.mono HBA.out.size))
          have c9 : w9.cell? ⟨g, 0, none⟩ = some (.int .i64 e.tm) := by rw [Lib.cell_of_heap HK9.out]; rfl
          have f9 : w9.frozen? ⟨g, 0, none⟩ = false := Lib.frozen_of_heap HK9.out 0
          have HK10 : Hid ((w9.setCell ⟨g, 0, none⟩ (.int .i64 t')).heap[g]? = some (.cells #[.int .i64 y.tm, .int .i64 y.kd, .int .i64 y.a, .int .i64 y.b] 52 (0, 0))) := Lib.hid (by
            have := Go.Joins.block_setCell (i := 0) HK9.out (.int .i64 t')
            rw [HYE.out]
            exact this)
          have HB10 : Hid (Below wo.heap.size wo (w9.setCell ⟨g, 0, none⟩ (.int .i64 t'))) := Lib.hid (HB9.out.setCell (p := ⟨g, 0, none⟩) (by rw [HG.out]; exact Nat.le_refl _) _)
          clear hw9 hb9
          go_wp2_with fail
          refine TQ_normal ?_
          go_wp2_with fail
          go_meet
          exact ⟨rfl, HK10.out, HB10.out⟩
        · have hdm : decide ((j : Int) < (m : Int)) = false := by rw [decide_eq_false_iff_not]; omega
          have HYE : Hid (y = e) := Lib.hid (by rw [← HY.out, List.getElem?_eq_none (by rw [HM.out]; omega)]; rfl)
          go_wp2_with fail
          go_meet
          exact ⟨rfl, by rw [HYE.out]; exact HEV.out, HBA.out⟩
      case rest =>
        obtain ⟨rfl, hk, hb⟩ := hcut
        have HKC := Lib.hid hk
        have HBC := Lib.hid hb
        have HBW := Lib.hid (HB.out.trans (hb.mono HB.out.size))
        clear hk hb HBA HEV
        obtain ⟨wm, rfl⟩ : ∃ wm, wm = wc := ⟨_, rfl⟩
        go_upto_block 2 with fail
        go_cut [10] (fun v wx => ∃ k : Nat, k ≤ j ∧ v = .int .i64 k ∧ place y O j = k ∧ Below wm.heap.size wm wx)
        case first =>
          go_wp2_with fail
          go_loopw [10] (fun i wx => ∃ k : Nat, k ≤ j ∧ i = .int .i64 k ∧ place y O k = place y O j ∧ Below wm.heap.size wm wx) (fun i _ => (intOf i).toNat)
          case atStart => exact ⟨j, by omega, rfl, rfl, Below.refl _ _⟩
          case round =>
            obtain ⟨k, hk, rfl, hpl, hb⟩ := hrel
            have HPL := Lib.hid hpl
            have HBQ := Lib.hid hb
            have hkc := (hb.block _ (Array.getElem?_eq_some_iff.1 HKC.out).1).trans HKC.out
            have HKQ := Lib.hid hkc
            have y0 : wr.cell? ⟨g, 0, none⟩ = some (.int .i64 y.tm) := by rw [Lib.cell_of_heap hkc]; rfl
            clear hpl hb hkc
            by_cases hk0 : 0 < k
            · obtain ⟨q, rfl⟩ : ∃ q, k = q + 1 := ⟨k - 1, by omega⟩
              obtain ⟨f, hf⟩ : ∃ f, O[q]? = some f := ⟨_, List.getElem?_eq_getElem (by rw [HLO.out]; omega)⟩
              obtain ⟨b', o', rfl, hbl, z0, -⟩ := (HSO.out.below (HBC.out.trans (HBQ.out.mono HBC.out.size))) q f hf
              have htq : tmAt O q = f.tm := by rw [tmAt, List.getD_eq_getElem?_getD, hf]; rfl
              have q0 : (0 : Int) ≤ (q : Int) := by omega
              have q1 : (q : Int) < (j : Int) := by omega
              have q2 : decide ((0 : Int) < (q : Int) + 1) = true := by rw [decide_eq_true_iff]; omega
              have q3 : decide (0 < q + 1) = true := by rw [decide_eq_true_iff]; omega
              have HTQ := Lib.hid htq
              clear hf htq
              by_cases hc : y.tm < f.tm
              · have q4 : decide (y.tm < f.tm) = true := decide_eq_true hc
                have HP2 : Hid (place y O q = place y O j) := Lib.hid (by
                  rw [← HPL.out, place, if_pos (by rw [HTQ.out]; exact hc)])
                go_upto_region 9 with fail
                go_quiet (fail)
                go_wp2_with fail
                exact ⟨⟨q, by omega, rfl, HP2.out, Below_drewN HBQ.out _⟩, by simp [intOf]⟩
              · have q4 : decide (y.tm < f.tm) = false := decide_eq_false hc
                have HP2 : Hid (place y O j = q + 1) := Lib.hid (by
                  rw [← HPL.out, place, if_neg (by rw [HTQ.out]; exact hc)])
                go_upto_region 9 with fail
                go_quiet (fail)
                go_wp2_with fail
                go_meet
                exact ⟨q + 1, by omega, by push_cast; rfl, HP2.out, Below_drewN HBQ.out _⟩
            · obtain rfl : k = 0 := by omega
              have hd3 : decide ((0 : Int) < 0) = false := by decide
              have HP2 : Hid (place y O j = 0) := Lib.hid (by rw [← HPL.out]; rfl)
              go_upto_region 9 with fail
              go_quiet (fail)
              go_wp2_with fail
              go_meet
              exact ⟨0, by omega, rfl, HP2.out, Below_drewN HBQ.out _⟩
        case rest =>
          obtain ⟨k, hk, rfl, hpl, hb⟩ := hcut
          have hkc := (hb.block _ (Array.getElem?_eq_some_iff.1 HKC.out).1).trans HKC.out
          have y0 : wc.cell? ⟨g, 0, none⟩ = some (.int .i64 y.tm) := by rw [Lib.cell_of_heap hkc]; rfl
          have y1 : wc.cell? ⟨g, 1, none⟩ = some (.int .i64 y.kd) := by rw [Lib.cell_of_heap hkc]; rfl
          have y2 : wc.cell? ⟨g, 2, none⟩ = some (.int .i64 y.a) := by rw [Lib.cell_of_heap hkc]; rfl
          have y3 : wc.cell? ⟨g, 3, none⟩ = some (.int .i64 y.b) := by rw [Lib.cell_of_heap hkc]; rfl
          have HPL := Lib.hid (show ins y O k = insE O y by rw [insE, HLO.out, hpl])
          have HBX := Lib.hid (HBW.out.trans (hb.mono HBW.out.size))
          have HSC := Lib.hid (HSO.out.below (HBC.out.trans (hb.mono HBC.out.size)))
          have hform : (ao = none ∧ co = 0 ∧ j = 0) ∨ ∃ g0, ao = some ⟨g0, 0, none⟩ := by
            rcases HROW.out.2 with ⟨h1, h2⟩ | ⟨g0, _, _, h1, _⟩
            · injection h1 with h1 h2 h3
              exact .inl ⟨h1, h3, by rw [← HLO.out]; exact h2⟩
            · injection h1 with h1 _ _
              exact .inr ⟨g0, h1⟩
          have hne := World.new_ne wc _ y0
          clear hb hkc hpl
          have hgc : g < wc.heap.size := World.block_lt_of_cell? _ _ y0
          have HTL : Hid ((O.take k).length = k) := Lib.hid (by rw [List.length_take, HLO.out]; omega)
          have HDL : Hid ((O.drop k).length = j - k) := Lib.hid (by rw [List.length_drop, HLO.out])
          have HDL2 : Hid (([y] ++ O.drop k).length = 1 + (j - k)) := Lib.hid (by rw [List.length_append, HDL.out]; rfl)
          have HTK0 : Hid (∀ W, Below wc.heap.size wc W → EvS W ao (O.take k)) := Lib.hid (fun W hW => (HSC.out.below hW).take k)
          rcases hform with ⟨h1, h2, h3⟩ | ⟨g0, rfl⟩
          · subst h1 h2
            have hk0 : k = 0 := by omega
            have HTK := HTK0
            rw [hk0] at HTK HTL HDL HDL2
            rw [h3] at HDL HDL2
            have hO : O.drop 0 = [] := List.eq_nil_of_length_eq_zero HDL.out
            have HSRC : Hid (∀ W, Below wc.heap.size wc W → Src Try.prog 4 25 (.slice none 0 0) 0 (evl (O.drop 0)) W) := Lib.hid (fun W _ => by rw [hO]; exact src_events (EvS.nil W none) 0)
            have HJK : Hid (j = 0 ∧ k = 0) := Lib.hid ⟨h3, hk0⟩
            have hji : (j : Int) = 0 := by omega
            have hki : (k : Int) = 0 := by omega
            clear hO
            go_upto_region 11 with fail
            go_region_held3 (fun w' => w'.cell? ⟨g, 0, none⟩ = some (.int .i64 y.tm) ∧ w'.cell? ⟨g, 1, none⟩ = some (.int .i64 y.kd) ∧ w'.cell? ⟨g, 2, none⟩ = some (.int .i64 y.a) ∧ w'.cell? ⟨g, 3, none⟩ = some (.int .i64 y.b)) (go_keep)
              ((first
                | (refine step_tight (by rfl) _ _ (by rfl) (A := [y]) (X := O.drop 0) (k := 1) (c := 1) (n := 0) (by rfl) (by rfl) (EvS.drew (evs_block (heap_last wc _))) rfl rfl (HSRC.out _ (((Below.refl wc.heap.size wc).alloc (Nat.le_refl _) _).drew)) HDL.out (by omega) ?_
                   intro a5 c5 w5 he5 hb5 hr5
                   have k5 := fun o => hb5.cell (p := ⟨g, o, none⟩) (by simp; omega)
                   have HE5 := Lib.hid he5
                   have HB5 := Lib.hid ((((Below.refl wc.heap.size wc).alloc (Nat.le_refl _) _).drew).trans (hb5.mono (by simp)))
                   clear he5 hb5 hr5)
                | (refine step_tight (by rfl) _ _ (by rfl) (A := O.take 0) (X := [y] ++ O.drop 0) (k := 0) (c := 0) (n := 1) (by rfl) (by rfl) (HTK.out _ HB5.out) HTL.out rfl (by have h := src_events HE5.out c5; rw [HDL2.out] at h; exact h) HDL2.out (by omega) ?_
                   intro a6 c6 w6 he6 hb6 hr6
                   have k6 := fun o => hb6.cell (p := ⟨g, o, none⟩) (Nat.lt_of_lt_of_le hgc HB5.out.size)
                   have HB6 := Lib.hid (HB5.out.trans (hb6.mono HB5.out.size))
                   have HR6 := Lib.hid ((hr6 (by omega)).mono (Nat.le_trans HBX.out.size HB5.out.size))
                   clear he6 hb6 hr6)))
            all_goals
              rename_i hheld
              clear k6 k5 hheld y0 y1 y2 y3 hne
              have HRF : Hid (((shifted s N L).take (j + 1)).foldl insE [] = O.take k ++ ([y] ++ O.drop k)) := Lib.hid (by rw [HNX.out, ← HPL.out]; rfl)
              have HBF := Lib.hid (HBX.out.trans (HB6.out.mono HBX.out.size))
              go_wp2_with fail
              exact ⟨⟨j + 1, by omega, by rw [HJK.out.1]; rfl, by rw [HRF.out, HJK.out.2]; exact HR6.out, HBF.out⟩, by simp [intOf]; omega⟩
          · have k0 : (0 : Int) ≤ (k : Int) := by omega
            have k1 : (k : Int) ≤ (co : Int) := by omega
            have k2 : (k : Int) ≤ (j : Int) := by omega
            have k3 : k ≤ co := by omega
            have HTK := HTK0
            by_cases hck : co = k
            · obtain rfl : j = k := by omega
              subst hck
              have HDL : Hid ((O.drop co).length = 0) := Lib.hid (by rw [HDL.out]; omega)
              have HDL2 : Hid (([y] ++ O.drop co).length = 1) := Lib.hid (by rw [List.length_append, HDL.out]; rfl)
              have hO : O.drop co = [] := List.eq_nil_of_length_eq_zero HDL.out
              have HSRC : Hid (∀ W, Below wc.heap.size wc W → Src Try.prog 4 25 (.slice (some ⟨g0, 0, none⟩) 0 0) 0 (evl (O.drop co)) W) := Lib.hid (fun W _ => by rw [hO]; exact src_events (EvS.nil W _) 0)
              clear hO
              go_upto_region 11 with fail
              go_region_held3 (fun w' => w'.cell? ⟨g, 0, none⟩ = some (.int .i64 y.tm) ∧ w'.cell? ⟨g, 1, none⟩ = some (.int .i64 y.kd) ∧ w'.cell? ⟨g, 2, none⟩ = some (.int .i64 y.a) ∧ w'.cell? ⟨g, 3, none⟩ = some (.int .i64 y.b)) (go_keep)
                ((first
                  | (refine step_tight (by rfl) _ _ (by rfl) (A := [y]) (X := O.drop co) (k := 1) (c := 1) (n := 0) (by rfl) (by rfl) (EvS.drew (evs_block (heap_last wc _))) rfl rfl (HSRC.out _ (((Below.refl wc.heap.size wc).alloc (Nat.le_refl _) _).drew)) HDL.out (by omega) ?_
                     intro a5 c5 w5 he5 hb5 hr5
                     have k5 := fun o => hb5.cell (p := ⟨g, o, none⟩) (by simp; omega)
                     have HE5 := Lib.hid he5
                     have HB5 := Lib.hid ((((Below.refl wc.heap.size wc).alloc (Nat.le_refl _) _).drew).trans (hb5.mono (by simp)))
                     clear he5 hb5 hr5)
                  | (refine step_tight (by rfl) _ _ (by rfl) (A := O.take co) (X := [y] ++ O.drop co) (k := co) (c := co) (n := 1) (by rfl) (by rfl) (HTK.out _ HB5.out) HTL.out rfl (by have h := src_events HE5.out c5; rw [HDL2.out] at h; exact h) HDL2.out (by omega) ?_
                     intro a6 c6 w6 he6 hb6 hr6
                     have k6 := fun o => hb6.cell (p := ⟨g, o, none⟩) (Nat.lt_of_lt_of_le hgc HB5.out.size)
                     have HB6 := Lib.hid (HB5.out.trans (hb6.mono HB5.out.size))
                     have HR6 := Lib.hid ((hr6 (by omega)).mono (Nat.le_trans HBX.out.size HB5.out.size))
                     clear he6 hb6 hr6)))
              all_goals
                rename_i hheld
                clear k6 k5 hheld y0 y1 y2 y3 hne
                have HRF : Hid (((shifted s N L).take (co + 1)).foldl insE [] = O.take co ++ ([y] ++ O.drop co)) := Lib.hid (by rw [HNX.out, ← HPL.out]; rfl)
                have HBF := Lib.hid (HBX.out.trans (HB6.out.mono HBX.out.size))
                go_wp2_with fail
                exact ⟨⟨co + 1, by omega, by push_cast; rfl, by rw [HRF.out]; exact HR6.out, HBF.out⟩, by simp [intOf]; omega⟩
            · have HSRC : Hid (∀ W, Below wc.heap.size wc W → Src Try.prog 4 25 (.slice (some ⟨g0, k * 4, none⟩) (j - k) (co - k)) (j - k) (evl (O.drop k)) W) := Lib.hid (fun W hW => by
                have := src_events (((HSC.out.below hW).dropE k)) (co - k)
                rw [HDL.out, Nat.zero_add] at this
                exact this)
              go_upto_region 11 with fail
              go_region_held3 (fun w' => w'.cell? ⟨g, 0, none⟩ = some (.int .i64 y.tm) ∧ w'.cell? ⟨g, 1, none⟩ = some (.int .i64 y.kd) ∧ w'.cell? ⟨g, 2, none⟩ = some (.int .i64 y.a) ∧ w'.cell? ⟨g, 3, none⟩ = some (.int .i64 y.b)) (go_keep)
                ((first
                  | (refine step_tight (by rfl) _ _ (by rfl) (A := [y]) (X := O.drop k) (k := 1) (c := 1) (n := j - k) (by rfl) (by rfl) (EvS.drew (evs_block (heap_last wc _))) rfl rfl (HSRC.out _ (((Below.refl wc.heap.size wc).alloc (Nat.le_refl _) _).drew)) HDL.out (by omega) ?_
                     intro a5 c5 w5 he5 hb5 hr5
                     have k5 := fun o => hb5.cell (p := ⟨g, o, none⟩) (by simp; omega)
                     have HE5 := Lib.hid he5
                     have HB5 := Lib.hid ((((Below.refl wc.heap.size wc).alloc (Nat.le_refl _) _).drew).trans (hb5.mono (by simp)))
                     clear he5 hb5 hr5)
                  | (refine step_tight (by rfl) _ _ (by rfl) (A := O.take k) (X := [y] ++ O.drop k) (k := k) (c := k) (n := 1 + (j - k)) (by rfl) (by rfl) (HTK.out _ HB5.out) HTL.out rfl (by have h := src_events HE5.out c5; rw [HDL2.out] at h; exact h) HDL2.out (by omega) ?_
                     intro a6 c6 w6 he6 hb6 hr6
                     have k6 := fun o => hb6.cell (p := ⟨g, o, none⟩) (Nat.lt_of_lt_of_le hgc HB5.out.size)
                     have HB6 := Lib.hid (HB5.out.trans (hb6.mono HB5.out.size))
                     have HR6 := Lib.hid ((hr6 (by omega)).mono (Nat.le_trans HBX.out.size HB5.out.size))
                     clear he6 hb6 hr6)))
              all_goals
                rename_i hheld
                clear k6 k5 hheld y0 y1 y2 y3 hne
                have HRF : Hid (((shifted s N L).take (j + 1)).foldl insE [] = O.take k ++ ([y] ++ O.drop k)) := Lib.hid (by rw [HNX.out, ← HPL.out]; rfl)
                have HBF := Lib.hid (HBX.out.trans (HB6.out.mono HBX.out.size))
                go_wp2_with fail
                exact ⟨⟨j + 1, by omega, by push_cast; rfl, by rw [HRF.out]; exact HR6.out, HBF.out⟩, by simp [intOf]; omega⟩
    · obtain rfl : j = n := by omega
      have hd : decide ((j : Int) < (j : Int)) = false := by simp
      have hd2 : decide (j < j) = false := by simp
      rw [HFIN.out] at HROW
      go_wp2_with fail
      go_ret
      exact ⟨_, rfl, HROW.out, HB.out⟩
end Go.Proofs.Ythblehinmbgbdaa
