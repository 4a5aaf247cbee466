/- Since of the reference. The closure of Since, slices.IndexFunc and slices.Backward at stamps. Since of the program. SameStamps of the reference. -/
import Derived.Test.YtkihcigojhcmgaaDoorG14
import Derived.Test.YtkihcigojhcmgaaDoorG07
import Derived.Laws.StructEq
namespace Go.Proofs.YtkihcigojhcmgaaDoor
open Go.RowKit
set_option maxRecDepth 100000

theorem takeWhile_take {α : Type} (p : α → Bool) : ∀ (L : List α) (n : Nat), (∀ i x, i < n → L[i]? = some x → p x = true) → (∀ x, L[n]? = some x → p x = false) → n ≤ L.length → L.takeWhile p = L.take n := by
  intro L
  induction L with
  | nil => intro n _ _ _; simp
  | cons a L ih =>
    intro n h1 h2 hn
    cases n with
    | zero => rw [List.takeWhile_cons_of_neg (by rw [h2 a rfl]; simp)]; simp
    | succ n =>
      rw [List.takeWhile_cons_of_pos (h1 0 a (by omega) rfl), List.take_succ_cons, ih n (fun i x hi hx => h1 (i + 1) x (by omega) (by simpa using hx)) (fun x hx => h2 x (by simpa using hx)) (by simp only [List.length_cons] at hn; omega)]
theorem take_back {L : List Stp} {f : Nat} {s : Stp} (h : L[f]? = some s) : (L.take (f + 1)).reverse = s :: (L.take f).reverse := by rw [take_more h]; simp
/-- What the stamps ahead of place f add to a day. -/
def backAt (L : List Stp) (bs : List Brk) (known : Int) (u : Int) (acc : Option Int) (f : Nat) : Option Int := back bs known u acc (L.take f).reverse
theorem backAt_zero (L : List Stp) (bs : List Brk) (known u : Int) (acc : Option Int) : backAt L bs known u acc 0 = acc := by simp [backAt, back]
theorem backAt_succ {L : List Stp} {bs : List Brk} {known u : Int} {acc : Option Int} {f : Nat} {s : Stp} (h : L[f]? = some s) : backAt L bs known u acc (f + 1) = if good s bs known u = true then backAt L bs known s.day (some s.day) f else acc := by
  unfold backAt; rw [take_back h]; rfl
theorem since_no {L : List Stp} {v : List UInt8} {bs : List Brk} {day : Int} (h : check L v = false) : since L v bs day = none := by simp [since, h]
theorem since_at {L : List Stp} {v : List UInt8} {bs : List Brk} {day : Int} (h : check L v = true) (n : Nat) (h1 : ∀ i x, i < n → L[i]? = some x → x.day ≤ day) (h2 : ∀ x, L[n]? = some x → day < x.day) (hn : n ≤ L.length) : since L v bs day = backAt L bs day day none n := by
  rw [since, if_pos h, backAt, upto, takeWhile_take _ L n (fun i x hi hx => by simpa using h1 i x hi hx) (fun x hx => by have := h2 x hx; simp; omega) hn]

theorem StS.get {W : World} {b o : Nat} {L : List Stp} (h : StS W (some ⟨b, o, none⟩) L) (i : Nat) (s : Stp) (hi : L[i]? = some s) : b < W.heap.size ∧ stAt W b (o + i * 4) s := by
  obtain ⟨b', o', hbo, h1, h2⟩ := h i s hi
  injection hbo with hbo
  injection hbo with e1 e2 _
  subst e1 e2
  exact ⟨h1, h2⟩
theorem StS.some {W : World} {a : Option Addr} {L : List Stp} (h : StS W a L) (hn : 0 < L.length) : ∃ b o, a = some ⟨b, o, none⟩ ∧ b < W.heap.size := by
  obtain ⟨b, o, h1, h2, -⟩ := h 0 _ (List.getElem?_eq_getElem hn)
  exact ⟨b, o, h1, h2⟩
set_option maxHeartbeats 1000000 in
theorem refSince_any (v : List UInt8) (a : Option Addr) (c : Nat) (L : List Stp) (b : Option Addr) (cb : Nat) (bs : List Brk) (day : Int) (w : World) (hS : StS w a L) (hF : ∀ s ∈ L, s.val.length ≤ 1000) (hL : L.length ≤ 64) (hc : L.length ≤ c) (hv : v.length ≤ 1000) (hB : BrS w b bs) (hbs : bs.length ≤ 1000000) :
    Calls Tryd.prog 15 #[.slice a L.length c, .string ⟨v.toArray⟩, .slice b bs.length cb, .int .i64 day] w fun e w' => e = .returned (dayV (since L v bs day)) ∧ Below w.heap.size w w' := by
  have HC := Lib.hid (refCheck_any v a c L w hS hF hL hc hv)
  generalize hR : since L v bs day = R
  have HR := Lib.hid hR
  clear hR
  obtain ⟨m, hm⟩ : ∃ m, L.length = m := ⟨_, rfl⟩
  rw [hm] at HC hL hc ⊢
  have HM := Lib.hid hm
  have HS := Lib.hid hS
  have HB := Lib.hid hB
  clear hm hS hB hF
  go_enter Tryd.func15, Tryd.ntmps15
  go_wp2_with fail
  refine HC.out.mono ?_
  rintro e w1 ⟨rfl, hb1⟩
  cases hck : check L v with
  | false =>
    have hno : R = none := by rw [← HR.out]; exact since_no hck
    subst hno
    go_wp2_with fail
    go_ret2
    exact ⟨rfl, hb1⟩
  | true =>
  have HCK := Lib.hid hck
  have hm0 : 0 < m := by
    have := ((check_iff _ _).1 hck).1
    have := List.length_pos_iff.2 this
    rw [HM.out] at this; exact this
  have hs1 := HS.out.below hb1
  obtain ⟨ba, o, rfl, hbl⟩ := hs1.some (by rw [HM.out]; exact hm0)
  have HS1 := Lib.hid hs1
  clear hs1
  have HBR1 := Lib.hid (HB.out.below hb1)
  have HB1 := Lib.hid hb1
  clear hck hb1 HS HB HC
  go_wp2_with fail
  go_loop [11] (fun x => ∃ n : Nat, n ≤ m ∧ x = .int .i64 n ∧ ∀ i y, i < n → L[i]? = some y → y.day ≤ day) (fun x => m - (intOf x).toNat)
  case atStart => exact ⟨0, by omega, rfl, fun i y h => by omega⟩
  case round =>
    obtain ⟨n, hn, rfl, hall⟩ := hrel
    have HALL := Lib.hid hall
    clear hall
    by_cases hgo : n < m ∧ ∃ y, L[n]? = some y ∧ y.day ≤ day
    · obtain ⟨hlt, y, hy, hyd⟩ := hgo
      obtain ⟨-, x0, -⟩ := HS1.out.get n y hy
      have HY := Lib.hid hy
      have n0 : (0 : Int) ≤ (n : Int) := by omega
      have n1 : (n : Int) < (m : Int) := by omega
      have hd : decide ((n : Int) < (m : Int)) = true := by rw [decide_eq_true_iff]; omega
      have hd2 : decide (n < m) = true := by rw [decide_eq_true_iff]; omega
      clear hy
      go_wp2_with fail
      go_round
      case rel =>
        refine ⟨n + 1, by omega, by go_num, ?_⟩
        intro i z hi hz
        rcases Nat.lt_or_ge i n with h | h
        · exact HALL.out i z h hz
        · obtain rfl : i = n := by omega
          rw [HY.out] at hz; cases hz; exact hyd
      case measure => simp [intOf]; omega
    · have hnext : ∀ y, L[n]? = some y → day < y.day := by
        intro y hy
        have hlt : n < m := by rw [← HM.out]; exact (List.getElem?_eq_some_iff.1 hy).1
        apply Int.lt_of_not_ge
        intro h
        exact absurd ⟨hlt, y, hy, h⟩ hgo
      have HRN := Lib.hid (HR.out.symm.trans (since_at (bs := bs) HCK.out n HALL.out hnext (by rw [HM.out]; exact hn)))
      have HNX := Lib.hid hnext
      clear hnext hgo
      by_cases hlt : n < m
      case' pos =>
        obtain ⟨y, hy⟩ : ∃ y, L[n]? = some y := ⟨_, List.getElem?_eq_getElem (by rw [HM.out]; exact hlt)⟩
        obtain ⟨-, x0, -⟩ := HS1.out.get n y hy
        have hyd := HNX.out y hy
        have n0 : (0 : Int) ≤ (n : Int) := by omega
        have n1 : (n : Int) < (m : Int) := by omega
        have hd : decide ((n : Int) < (m : Int)) = true := by rw [decide_eq_true_iff]; omega
        have hd2 : decide (n < m) = true := by rw [decide_eq_true_iff]; omega
        clear hy
        go_upto_region 7 with fail
        clear hyd n0 n1 hd hd2 x0
      case' neg =>
        have hd : decide ((n : Int) < (m : Int)) = false := by rw [decide_eq_false_iff_not]; omega
        have hd2 : decide (n < m) = false := by rw [decide_eq_false_iff_not]; omega
        go_upto_region 7 with fail
        clear hd hd2
      all_goals
        rcases n with _ | q
        · have hno : R = none := by rw [HRN.out, backAt_zero]
          subst hno
          go_wp2_with fail
          go_ret2
          exact ⟨rfl, HB1.out⟩
        · obtain ⟨s, hsq⟩ : ∃ s, L[q]? = some s := ⟨_, List.getElem?_eq_getElem (by rw [HM.out]; omega)⟩
          have HRS := Lib.hid (HRN.out.trans (backAt_succ hsq))
          obtain ⟨-, x0, x1, x2, x3⟩ := HS1.out.get q s hsq
          have q0 : (0 : Int) ≤ (q : Int) := by omega
          have q1 : (q : Int) < (m : Int) := by omega
          have q2 : ((q + 1 : Nat) : Int) = (q : Int) + 1 := by push_cast; rfl
          have q3 : (((q : Int) + 1) == 0) = false := beq_eq_false_iff_ne.2 (by omega)
          have HG := Lib.hid (fun (y : Stp) (u : Int) W (hb : Below w1.heap.size w1 W) => refGood_any y b cb bs day u W (HBR1.out.below hb) hbs)
          have HSQ := Lib.hid hsq
          clear hsq HRN
          simp only [stv] at HG
          go_wp2_with fail
          refine (HG.out s day _ (Below.refl _ _)).mono ?_
          rintro e w2 ⟨rfl, hb2⟩
          have HB2 := Lib.hid hb2
          clear hb2 x0 x1 x2 x3
          cases hgd : good s bs day day with
          | false =>
            have hno : R = none := by rw [HRS.out, if_neg (by rw [hgd]; simp)]
            subst hno
            go_wp2_with fail
            go_ret2
            exact ⟨rfl, HB1.out.trans (HB2.out.mono HB1.out.size)⟩
          | true =>
          have HRG := Lib.hid (HRS.out.trans (if_pos hgd))
          clear hgd HRS
          go_wp2_with fail
          go_loopw [13] (fun x wx => ∃ (f : Nat) (y : Stp), f < m ∧ x = .int .i64 f ∧ L[f]? = some y ∧ R = backAt L bs day y.day (some y.day) f ∧ Below w1.heap.size w1 wx) (fun x _ => (intOf x).toNat)
          case atStart => exact ⟨q, s, by omega, rfl, HSQ.out, HRG.out, HB2.out⟩
          case round =>
            obtain ⟨f, y, hf, rfl, hfy, hRf, hb⟩ := hrel
            have HFY := Lib.hid hfy
            have HRF := Lib.hid hRf
            have HBW := Lib.hid hb
            obtain ⟨hbl2, y0, y1, y2, y3⟩ := (HS1.out.below hb).get f y hfy
            clear hfy hRf hb
            rcases f with _ | f
            · have hyes : R = some y.day := by rw [HRF.out, backAt_zero]
              subst hyes
              rw [Nat.zero_mul, Nat.add_zero] at y0
              go_wp2_with fail
              go_ret2
              exact ⟨rfl, HB1.out.trans (HBW.out.mono HB1.out.size)⟩
            · obtain ⟨z, hzf⟩ : ∃ z, L[f]? = some z := ⟨_, List.getElem?_eq_getElem (by rw [HM.out]; omega)⟩
              obtain ⟨-, z0, z1, z2, z3⟩ := (HS1.out.below HBW.out).get f z hzf
              have HRZ := Lib.hid (HRF.out.trans (backAt_succ hzf))
              have HZF := Lib.hid hzf
              have j0 : (0 : Int) ≤ (f : Int) := by omega
              have j1 : (f : Int) < (m : Int) := by omega
              have j2 : (0 : Int) ≤ (f : Int) + 1 := by omega
              have j3 : (f : Int) + 1 < (m : Int) := by omega
              have j4 : ((f : Int) + 1).toNat = f + 1 := by omega
              have j5 : ((f + 1 : Nat) : Int) = (f : Int) + 1 := by push_cast; rfl
              have j6 : decide ((0 : Int) < (f : Int) + 1) = true := by rw [decide_eq_true_iff]; omega
              have j7 : IntKind.i64.wrap (f : Int) = f := IntWalk.i64_in _ (by omega)
              have hC0 := Below_drewN (Below.refl wr.heap.size wr) 1
              have HCZ : Hid (∀ wx, Below wr.heap.size wr wx → (wx.cell? ⟨ba, o + f * 4, none⟩ = some (.int .i64 z.day) ∧ wx.cell? ⟨ba, o + f * 4 + 1, none⟩ = some (.int .i64 z.hash) ∧ wx.cell? ⟨ba, o + f * 4 + 2, none⟩ = some (.int .i64 z.wit) ∧ wx.cell? ⟨ba, o + f * 4 + 3, none⟩ = some (.string ⟨z.val.toArray⟩)) ∧ wx.cell? ⟨ba, o + (f + 1) * 4, none⟩ = some (.int .i64 y.day)) := Lib.hid (fun wx hx => ⟨⟨(hx.cell (p := ⟨ba, _, none⟩) hbl2).trans z0, (hx.cell (p := ⟨ba, _, none⟩) hbl2).trans z1, (hx.cell (p := ⟨ba, _, none⟩) hbl2).trans z2, (hx.cell (p := ⟨ba, _, none⟩) hbl2).trans z3⟩, (hx.cell (p := ⟨ba, _, none⟩) hbl2).trans y0⟩)
              have HGZ := Lib.hid (fun wx (hx : Below wr.heap.size wr wx) => (HG.out z y.day wx (HBW.out.trans (hx.mono HBW.out.size))).mono fun e w' h => (⟨h.1, hx.trans (h.2.mono hx.size)⟩ : e = .returned (.bool (good z bs day y.day)) ∧ Below wr.heap.size wr w'))
              have HC0 := Lib.hid hC0
              clear hzf z0 z1 z2 z3 y0 y1 y2 y3 hC0
              rw [j5]
              go_upto_region 14 with fail
              refine region_quietC (C := Below wr.heap.size wr) (by kernel_rfl) (by kernel_rfl) HC0.out ?_
              repeat (
                first
                  | go_big_quiet_skip
                  | (go_big_quiet_want
                     go_big_quiet_op
                     first
                       | go_big_quiet_on
                       | (apply Exists.intro
                          refine ⟨fun wx hx => ?_, ?_⟩
                          · first
                            | (go_at_call 34; exact HGZ.out _ hx)
                            | exact rfl
                            | (obtain ⟨⟨c0, c1, c2, c3⟩, c4⟩ := HCZ.out _ hx; go_simp; exact rfl)
                          go_big_quiet_on)))
              refine wpQuiet_nil ?_
              intro w3 hw3
              have HB3 := Lib.hid (HBW.out.trans (hw3.mono HBW.out.size))
              obtain ⟨-, c4⟩ := HCZ.out _ hw3
              clear hw3
              cases hgd : good z bs day y.day with
              | true =>
                have HRN2 := Lib.hid (HRZ.out.trans (if_pos hgd))
                clear hgd
                go_wp2_with fail
                go_roundw
                case rel => exact ⟨f, z, by omega, rfl, HZF.out, HRN2.out, HB3.out⟩
                case measure => simp [intOf]
              | false =>
                have hyes : R = some y.day := HRZ.out.trans (if_neg (by rw [hgd]; simp))
                subst hyes
                clear hgd
                go_wp2_with fail
                go_ret2
                exact ⟨rfl, HB1.out.trans (HB3.out.mono HB1.out.size)⟩
end Go.Proofs.YtkihcigojhcmgaaDoor

namespace Go.Proofs.YtkihcigojhcmgaaDoor
open Go.RowKit Go.Shelf
set_option maxRecDepth 100000

theorem later_any (s : Stp) (q : Nat) (day : Int) (w : World) (hd : w.cell? ⟨q, 0, none⟩ = some (.int .i64 day)) :
    Calls Tryd.prog 29 #[stv s, .pointer (some ⟨q, 0, none⟩)] w fun e w' => e = .returned (.bool (decide (day < s.day))) ∧ Below w.heap.size w w' := by
  obtain ⟨d, k, t, v⟩ := s
  simp only [stv] at *
  have hlt := World.block_lt_of_cell? _ _ hd
  have zz : ∀ o', (w.alloc o').cell? ⟨q, 0, none⟩ = some (.int .i64 day) := fun o' => (((Below.refl w.heap.size w).alloc (Nat.le_refl _) o').cell (p := ⟨q, 0, none⟩) hlt).trans hd
  go_enter Tryd.func29, Tryd.ntmps29
  go_wp2_with fail
  go_ret
  exact ⟨rfl, (Below.refl _ w).alloc (Nat.le_refl _) _⟩

set_option maxHeartbeats 400000 in
theorem indexLater_any (a : Option Addr) (c : Nat) (L : List Stp) (q : Nat) (day : Int) (w : World) (hS : StS w a L) (hL : L.length ≤ 64) (hd : w.cell? ⟨q, 0, none⟩ = some (.int .i64 day)) :
    Calls Tryd.prog 30 #[.slice a L.length c, .func (.func 29) #[] #[.pointer (some ⟨q, 0, none⟩)]] w fun e w' =>
      (∃ (i : Int), e = .returned (.int .i64 i) ∧ ((∃ j s, i = (j : Nat) ∧ L[j]? = some s ∧ day < s.day ∧ ∀ (k : Nat) (x : Stp), k < j → L[k]? = some x → x.day ≤ day) ∨ (i = -1 ∧ ∀ (k : Nat) (x : Stp), L[k]? = some x → x.day ≤ day))) ∧ Below w.heap.size w w' := by
  obtain ⟨m, hm⟩ : ∃ m, L.length = m := ⟨_, rfl⟩
  rw [hm] at hL ⊢
  have HM := Lib.hid hm
  have HS := Lib.hid hS
  have hq := World.block_lt_of_cell? _ _ hd
  have HD := Lib.hid hd
  clear hm hS hd
  go_enter Tryd.func30, Tryd.ntmps30
  go_wp2_with fail
  go_loopw [8] (fun i wx => ∃ j : Nat, j ≤ m ∧ i = .int .i64 j ∧ (∀ (k : Nat) (x : Stp), k < j → L[k]? = some x → x.day ≤ day) ∧ Below w.heap.size w wx) (fun i _ => m - (intOf i).toNat)
  case atStart => exact ⟨0, by omega, rfl, fun k x h => by omega, Below.refl _ _⟩
  case round =>
    obtain ⟨j, hj, rfl, hp, hb⟩ := hrel
    have hsz := hb.size
    have HP := Lib.hid hp
    clear hp
    by_cases hlt : j < m
    · obtain ⟨s, hsj⟩ : ∃ s, L[j]? = some s := ⟨_, List.getElem?_eq_getElem (by rw [HM.out]; exact hlt)⟩
      obtain ⟨b, o, rfl, hbl, x0, x1, x2, x3⟩ := (HS.out.below hb) j s hsj
      have HSJ := Lib.hid hsj
      have HLA := Lib.hid (later_any s q day wr ((hb.cell (p := ⟨q, 0, none⟩) hq).trans HD.out))
      simp only [stv] at HLA
      have n0 : (0 : Int) ≤ (j : Int) := by omega
      have n1 : (j : Int) < (m : Int) := by omega
      have hd : decide ((j : Int) < (m : Int)) = true := by rw [decide_eq_true_iff]; omega
      have hd2 : decide (j < m) = true := by rw [decide_eq_true_iff]; omega
      clear hsj
      go_wp2_with fail
      refine HLA.out.mono ?_
      rintro e w1 ⟨rfl, hb1⟩
      have hfin : Below w.heap.size w w1 := hb.trans (hb1.mono hsz)
      have HFIN := Lib.hid hfin
      clear hfin hb1
      by_cases hlate : day < s.day
      · have hd3 : decide (day < s.day) = true := by rw [decide_eq_true_iff]; exact hlate
        go_wp2_with fail
        go_ret
        exact ⟨⟨j, rfl, .inl ⟨j, s, rfl, HSJ.out, hlate, HP.out⟩⟩, HFIN.out⟩
      · have hd3 : decide (day < s.day) = false := by rw [decide_eq_false_iff_not]; exact hlate
        have HNL := Lib.hid hlate
        clear hlate
        go_wp2_with fail
        refine ⟨⟨j + 1, by omega, by push_cast; rfl, ?_, HFIN.out⟩, by simp [intOf]; omega⟩
        intro k x hk hx
        rcases Nat.lt_or_ge k j with h | h
        · exact HP.out k x h hx
        · obtain rfl : k = j := by omega
          rw [HSJ.out] at hx; cases hx
          have := HNL.out; omega
    · obtain rfl : j = m := by omega
      have hd : decide ((j : Int) < (j : Int)) = false := by simp
      have hd2 : decide (j < j) = false := by simp
      go_wp2_with fail
      go_ret
      exact ⟨⟨-1, rfl, .inr ⟨rfl, fun k x hx => HP.out k x (by rw [← HM.out]; exact (List.getElem?_eq_some_iff.1 hx).1) hx⟩⟩, hb⟩

theorem backward_any (a : Option Addr) (n c : Nat) (w : World) :
    Calls Tryd.prog 32 #[.slice a n c] w fun e w' => e = .returned (.func (.func 54) #[] #[.pointer (some ⟨w.heap.size, 0, none⟩)]) ∧ w' = w.alloc (.cells #[.slice a n c] 22) := by
  go_enter Tryd.func32, Tryd.ntmps32
  go_wp2_with fail
  go_ret
  exact ⟨rfl, rfl⟩

/-- What the iterator asks of a round: its slice and the stamps lie as they lay. -/
def KeepsBack (b ba o : Nat) (N : Nat) (A B : World) : Prop := B.cell? ⟨b, 0, none⟩ = A.cell? ⟨b, 0, none⟩ ∧ ∀ i, i < N * 4 → B.cell? ⟨ba, o + i, none⟩ = A.cell? ⟨ba, o + i, none⟩
theorem sts_kept {A B : World} {ba o : Nat} {L : List Stp} (h : StS A (some ⟨ba, o, none⟩) L) (hk : ∀ i, i < L.length * 4 → B.cell? ⟨ba, o + i, none⟩ = A.cell? ⟨ba, o + i, none⟩) : StS B (some ⟨ba, o, none⟩) L := by
  intro i s hi
  have hl := (List.getElem?_eq_some_iff.1 hi).1
  obtain ⟨h1, h2, h3, h4, h5⟩ := h.get i s hi
  have e0 := (hk (i * 4) (by omega)).trans h2
  have e1 := (hk (i * 4 + 1) (by omega)).trans h3
  have e2 := (hk (i * 4 + 2) (by omega)).trans h4
  have e3 := (hk (i * 4 + 3) (by omega)).trans h5
  exact ⟨ba, o, rfl, World.block_lt_of_cell? _ _ e0, e0, e1, e2, e3⟩

/-- What the iterator hands to a round. -/
def backE (L : List Stp) (i : Nat) : Array Value := #[Value.int .i64 (i : Int), stv (L.getD i default)]
set_option maxHeartbeats 1000000 in
theorem backward1_in (n : Nat) (hn : 1 ≤ n) (b ba o cap : Nat) (L : List Stp) (hL : L.length ≤ 64) :
    Iter Fence.wide n Tryd.prog 54 #[.pointer (some ⟨b, 0, none⟩)] (fun k : Fin L.length => backE L (L.length - 1 - k.val)) Draws (KeepsBack b ba o L.length)
      (fun xs => xs.map Fin.val = List.range L.length) (fun xs => xs.map Fin.val = List.range xs.length) L.length (fun W => W.cell? ⟨b, 0, none⟩ = some (.slice (some ⟨ba, o, none⟩) L.length cap) ∧ StS W (some ⟨ba, o, none⟩) L) := by
  rintro l J Jx W ⟨hc, hd⟩ hJ hJx hY h0
  refine callsIn_of_wp Tryd.func54 rfl trivial ?_ rfl
  simp only [Tryd.ntmps54, List.size_toArray, List.length_cons, List.length_nil, Nat.reduceAdd, Nat.reduceSub, Array.replicate_succ, Array.replicate_zero, List.push_toArray, List.append_toArray, List.nil_append, List.cons_append]
  obtain ⟨N, hN⟩ : ∃ N, N = L.length := ⟨_, rfl⟩
  have HDD := Lib.hid hd
  clear hd
  have hc' : W.cell? ⟨b, 0, none⟩ = some (.slice (some ⟨ba, o, none⟩) N cap) := by rw [hN]; exact hc
  have hN64 : N ≤ 64 := by omega
  clear hc
  have HN := Lib.hid hN
  clear hN
  have hw0 : IntKind.i64.wrap ((N : Int) - 1) = (N : Int) - 1 := IntWalk.i64_in _ (by omega)
  gi_wp2
  gi_loopw [3] (fun i wr => ∃ (k : Nat) (z : Int) (pre : List (Fin L.length)), pre.map Fin.val = List.range k ∧ z = (N : Int) - 1 - (k : Int) ∧ k ≤ N ∧ i = .int .i64 z ∧ wr.cell? ⟨b, 0, none⟩ = some (.slice (some ⟨ba, o, none⟩) N cap) ∧ StS wr (some ⟨ba, o, none⟩) L ∧ J pre wr)
    (fun i _ => (intOf i + 1).toNat)
  case atStart => exact ⟨0, _, [], rfl, by omega, by omega, rfl, hc', HDD.out, h0⟩
  case round =>
    clear hc' h0
    obtain ⟨k, z, pre, hpre, hz, hk, rfl, hc, hS, hJ1⟩ := hrel
    have hplen : pre.length = k := by have := congrArg List.length hpre; simpa using this
    by_cases hlt : k < N
    · have hkL : k < L.length := by rw [← HN.out]; exact hlt
      have hY1 := hY pre ⟨k, hkL⟩ wr hJ1 (by rw [hplen]; exact hkL)
      have hpre2 : (pre ++ [(⟨k, hkL⟩ : Fin L.length)]).map Fin.val = List.range (k + 1) := by rw [List.map_append, hpre, List.range_succ]; rfl
      have HPRE := Lib.hid hpre2
      have HLEN := Lib.hid (show (pre ++ [(⟨k, hkL⟩ : Fin L.length)]).length = k + 1 by rw [List.length_append, hplen]; rfl)
      obtain ⟨j, hj⟩ : ∃ j : Nat, j = L.length - 1 - k := ⟨_, rfl⟩
      have hjN : j < N := by rw [HN.out]; omega
      have hjz : z = (j : Int) := by have := HN.out; omega
      have HJZ := Lib.hid (show (j : Int) = (N : Int) - 1 - (k : Int) by omega)
      obtain ⟨s, hs⟩ : ∃ s, L[j]? = some s := ⟨_, List.getElem?_eq_getElem (by rw [← HN.out]; exact hjN)⟩
      have hE : backE L (L.length - 1 - k) = #[Value.int .i64 (j : Int), .agg #[.int .i64 s.day, .int .i64 s.hash, .int .i64 s.wit, .string ⟨s.val.toArray⟩]] := by
        rw [← hj, backE, List.getD_eq_getElem?_getD, hs]; rfl
      simp only at hY1
      rw [hE] at hY1
      obtain ⟨hbl, x0, x1, x2, x3⟩ := hS.get j s hs
      have HSS := Lib.hid hS
      obtain ⟨fn, tmps, assign, body, hy, hR⟩ := hY1
      subst hjz
      have j0 : (0 : Int) ≤ (j : Int) := by omega
      have j1 : (j : Int) < (N : Int) := by omega
      have HJ := Lib.hid hJ
      clear hJ hJx hY hJ1 hpre hpre2 hplen hS hs hE hj hz HDD
      gi_wp2
      refine hR.mono ?_
      rintro e W3 (⟨rfl, hJ3, hk3⟩ | ⟨rfl, hJx3⟩)
      · have hc3 : W3.cell? ⟨b, 0, none⟩ = some (.slice (some ⟨ba, o, none⟩) N cap) := hk3.1.trans hc
        have HS3 := Lib.hid (sts_kept HSS.out hk3.2)
        clear hk3 hc x0 x1 x2 x3
        gi_wp2
        exact ⟨⟨k + 1, _, _, HPRE.out, by have := HJZ.out; omega, by omega, rfl, hc3, HS3.out, hJ3⟩, by simp [intOf]⟩
      · gi_wp2
        refine bodyPost_ret (results_none rfl _ _ _) rfl ?_
        exact ⟨⟨_, rfl⟩, .inr ⟨_, by rw [HLEN.out]; exact HPRE.out, hJx3⟩⟩
    · obtain rfl : k = N := by omega
      have hd1 : decide (0 ≤ z) = false := by rw [decide_eq_false_iff_not]; omega
      have HJ1 := Lib.hid hJ1
      have HPRE := Lib.hid hpre
      clear hJ hJx hY hJ1 hpre hplen hS
      gi_wp2
      exact bodyPost_end (results_none rfl _ _ _) rfl ⟨⟨_, rfl⟩, .inl ⟨_, by have := HPRE.out; rw [HN.out] at this; exact this, HJ1.out⟩⟩
end Go.Proofs.YtkihcigojhcmgaaDoor

namespace Go.Proofs.YtkihcigojhcmgaaDoor
open Go.RowKit Go.Shelf
set_option maxRecDepth 100000
attribute [local go_sem] Oper.semAt_some

theorem upto_none {L : List Stp} {v : List UInt8} {bs : List Brk} {day : Int} {s : Stp} (h : check L v = true) (h0 : L[0]? = some s) (hd : day < s.day) : since L v bs day = none := by
  rw [since_at h 0 (fun i x hi => by omega) (fun x hx => by rw [h0] at hx; cases hx; exact hd) (Nat.zero_le _), backAt_zero]

theorem map_snoc {N : Nat} {pre : List (Fin N)} {x : Fin N} (h : (pre ++ [x]).map Fin.val = List.range (pre ++ [x]).length) : pre.map Fin.val = List.range pre.length ∧ x.val = pre.length := by
  rw [List.map_append, List.length_append, List.length_cons, List.length_nil, Nat.zero_add, List.range_succ] at h
  have hl : (pre.map Fin.val).length = (List.range pre.length).length := by simp
  have h2 := List.append_inj h hl
  exact ⟨h2.1, by simpa using h2.2⟩
/-- Two variables are set, whichever first. -/
def TwoSet (A : World) (B bf bu : Nat) (x y : Value) (Z : World) : Prop := Z.heap.size = A.heap.size ∧ Z.heap[bf]? = some (.cells #[x] 3 (0, 0)) ∧ Z.heap[bu]? = some (.cells #[y] 3 (0, 0)) ∧ (∀ k, k ≠ bf → k ≠ bu → Z.heap[k]? = A.heap[k]?) ∧ Below B A Z
theorem twoSet_a {A : World} {B bf bu : Nat} {f u : Value} (h1 : A.heap[bf]? = some (.cells #[f] 3 (0, 0))) (h2 : A.heap[bu]? = some (.cells #[u] 3 (0, 0))) (hne : bf ≠ bu) (hf : B ≤ bf) (hu : B ≤ bu) (x y : Value) :
    TwoSet A B bf bu x y ((A.setCell ⟨bf, 0, none⟩ x).setCell ⟨bu, 0, none⟩ y).drew := by
  have e1 := heap_setCell_same A bf 0 _ _ x h1
  have e2 : (A.setCell ⟨bf, 0, none⟩ x).heap[bu]? = some (.cells #[u] 3 (0, 0)) := (heap_setCell_other A ⟨bf, 0, none⟩ bu x (Ne.symm hne)).trans h2
  refine ⟨?_, ?_, heap_setCell_same _ bu 0 _ _ y e2, ?_, (((Below.refl B A).setCell (p := ⟨bf, 0, none⟩) hf _).setCell (p := ⟨bu, 0, none⟩) hu _).drew⟩
  · show ((A.setCell ⟨bf, 0, none⟩ x).setCell ⟨bu, 0, none⟩ y).heap.size = _
    rw [World.size_setCell, World.size_setCell]
  · exact (heap_setCell_other _ ⟨bu, 0, none⟩ bf y hne).trans e1
  · intro k k1 k2
    exact (heap_setCell_other _ ⟨bu, 0, none⟩ k y k2).trans (heap_setCell_other _ ⟨bf, 0, none⟩ k x k1)
theorem twoSet_b {A : World} {B bf bu : Nat} {f u : Value} (h1 : A.heap[bf]? = some (.cells #[f] 3 (0, 0))) (h2 : A.heap[bu]? = some (.cells #[u] 3 (0, 0))) (hne : bf ≠ bu) (hf : B ≤ bf) (hu : B ≤ bu) (x y : Value) :
    TwoSet A B bf bu x y ((A.setCell ⟨bu, 0, none⟩ y).setCell ⟨bf, 0, none⟩ x).drew := by
  obtain ⟨t1, t2, t3, t4, t5⟩ := twoSet_a h2 h1 (Ne.symm hne) hu hf y x
  exact ⟨t1, t3, t2, fun k k1 k2 => t4 k k2 k1, t5⟩
/-- Which stamp is the first one so far. -/
def AccAt (Lp : List Stp) (f : Int) (acc : Option Int) : Prop := (f = -1 ∧ acc = none) ∨ ∃ (j : Nat) (s : Stp), f = (j : Int) ∧ Lp[j]? = some s ∧ acc = some s.day
/-- What holds at each round's head: the two variables and the iterator's slice. -/
def SinceI (w6 : World) (bf bu bs : Nat) (sl : Value) (Lp : List Stp) (M : Int → Option Int → Prop) (W : World) : Prop :=
  ∃ (u f : Int) (acc : Option Int), W.heap[bf]? = some (.cells #[.int .i64 f] 3 (0, 0)) ∧ W.heap[bu]? = some (.cells #[.int .i64 u] 3 (0, 0)) ∧ W.heap[bs]? = some (.cells #[sl] 22 (0, 0)) ∧
    Below w6.heap.size w6 W ∧ AccAt Lp f acc ∧ M u acc
theorem SinceI.heap {w6 X Y : World} {bf bu bs : Nat} {sl : Value} {Lp : List Stp} {M : Int → Option Int → Prop} (h : SinceI w6 bf bu bs sl Lp M X) (h1 : Y.heap[bf]? = X.heap[bf]?) (h2 : Y.heap[bu]? = X.heap[bu]?) (h3 : Y.heap[bs]? = X.heap[bs]?) (hb : Below w6.heap.size X Y) : SinceI w6 bf bu bs sl Lp M Y := by
  obtain ⟨u, f, acc, c1, c2, c3, c4, c5⟩ := h
  exact ⟨u, f, acc, h1.trans c1, h2.trans c2, h3.trans c3, c4.trans hb, c5⟩
theorem SinceI.grown {w6 X Y : World} {bf bu bs B : Nat} {sl : Value} {Lp : List Stp} {M : Int → Option Int → Prop} (h : SinceI w6 bf bu bs sl Lp M X) {row : Option Nat} (hg : X.grownBy Y row) (hr : ∀ r, row = some r → B ≤ r ∧ ∃ o : Obj, X.heap[r]? = some o ∧ o.isCells = false) (hB : w6.heap.size ≤ B) : SinceI w6 bf bu bs sl Lp M Y := by
  obtain ⟨u, f, acc, c1, c2, c3, c4, c5⟩ := h
  have key : ∀ (k : Nat) (cs : Array Value) (t : TypeId), X.heap[k]? = some (.cells cs t (0, 0)) → Y.heap[k]? = X.heap[k]? := by
    intro k cs t hk
    refine hg.block k (Array.getElem?_eq_some_iff.1 hk).1 ?_
    intro e
    obtain ⟨-, o, ho, hc⟩ := hr k e.symm
    rw [hk] at ho
    cases ho
    cases hc
  exact ⟨u, f, acc, (key _ _ _ c1).trans c1, (key _ _ _ c2).trans c2, (key _ _ _ c3).trans c3, c4.grown hg c4.size (fun k e => Nat.le_trans hB (hr k e).1), c5⟩

set_option maxHeartbeats 2000000 in
theorem since_any (v : List UInt8) (a : Option Addr) (c : Nat) (L : List Stp) (b : Option Addr) (cb : Nat) (bs : List Brk) (day : Int) (w : World) (hS : StS w a L) (hL : L.length ≤ 64) (hc : L.length ≤ c) (hv : v.length ≤ 1000) (hB : BrS w b bs) (hbs : bs.length ≤ 1000000) (hw : RoundAt w) (hg : 0 < w.heap.size) :
    Calls Tryd.prog 14 #[.slice a L.length c, .string ⟨v.toArray⟩, .slice b bs.length cb, .int .i64 day] w fun e w' => e = .returned (dayV (since L v bs day)) ∧ Below w.heap.size w w' := by
  generalize hR : since L v bs day = R
  have HR := Lib.hid hR
  clear hR
  obtain ⟨w1, hw1⟩ : ∃ w1, w.alloc (.cells #[.int .i64 day] 3) = w1 := ⟨_, rfl⟩
  have HB1 := Lib.hid (show Below w.heap.size w w1 by rw [← hw1]; exact (Below.refl _ _).alloc (Nat.le_refl _) _)
  have hlt1 : w.heap.size < w1.heap.size := by rw [← hw1, size_alloc]; omega
  have HD1 := Lib.hid (show w1.cell? ⟨w.heap.size, 0, none⟩ = some (.int .i64 day) by rw [← hw1, Lib.cell_of_heap (heap_last _ _)]; rfl)
  have HC := Lib.hid (check_any v a c L w1 (hS.below HB1.out) hL hv (hw.below hg HB1.out) (Nat.lt_trans hg hlt1))
  obtain ⟨m, hm⟩ : ∃ m, L.length = m := ⟨_, rfl⟩
  have HLX := Lib.hid (fun W (h : StS W a L) hd => indexLater_any a c L w.heap.size day W h hL hd)
  rw [hm] at HC HLX hL hc ⊢
  have HM := Lib.hid hm
  have HS := Lib.hid hS
  have HB := Lib.hid hB
  clear hm hS hB hw hg
  refine (callsIn_wide (n := 5)).1 (callsIn_of_wp_marks Tryd.func14 rfl trivial ?_ rfl)
  simp only [Tryd.ntmps14, List.size_toArray, List.length_cons, List.length_nil, Nat.reduceAdd, Nat.reduceSub, Array.replicate_succ, Array.replicate_zero, List.push_toArray, List.append_toArray, List.nil_append, List.cons_append]
  refine wpIn_wide.2 ?_
  go_wp2_with fail
  refine HC.out.mono ?_
  rintro e w2 ⟨rfl, hb2⟩
  have HB2 := Lib.hid (HB1.out.trans (hb2.mono (Nat.le_of_lt hlt1)))
  have HD2 := Lib.hid ((hb2.cell (p := ⟨w.heap.size, 0, none⟩) hlt1).trans HD1.out)
  have hlt2 : w.heap.size < w2.heap.size := Nat.lt_of_lt_of_le hlt1 hb2.size
  clear hb2 HC HD1 hw1 HB1 hlt1
  cases hck : check L v with
  | false =>
    have hno : R = none := by rw [← HR.out]; exact since_no hck
    subst hno
    go_wp2_with fail
    exact ⟨_, results_tmp2 rfl _ _ _, rfl, HB2.out⟩
  | true =>
  have hm0 : 0 < m := by
    have := ((check_iff _ _).1 hck).1
    have := List.length_pos_iff.2 this
    rw [HM.out] at this; exact this
  have hs2 := HS.out.below HB2.out
  obtain ⟨ba, o, rfl, hbl⟩ := hs2.some (by rw [HM.out]; exact hm0)
  obtain ⟨s0, hs0⟩ : ∃ s, L[0]? = some s := ⟨_, List.getElem?_eq_getElem (by rw [HM.out]; exact hm0)⟩
  obtain ⟨-, x0, x1, x2, x3⟩ := hs2.get 0 s0 hs0
  rw [Nat.zero_mul, Nat.add_zero] at x0 x1 x2 x3
  have HLA := Lib.hid (later_any s0 w.heap.size day w2 HD2.out)
  simp only [stv] at HLA
  have HCK := Lib.hid hck
  have HS2 := Lib.hid hs2
  have HS0 := Lib.hid hs0
  have m1 : (0 : Int) < (m : Int) := by omega
  clear hck hs2 hs0
  go_wp2_with fail
  refine HLA.out.mono ?_
  rintro e w3 ⟨rfl, hb3⟩
  have HB3 := Lib.hid (HB2.out.trans (hb3.mono HB2.out.size))
  have HD3 := Lib.hid ((hb3.cell (p := ⟨w.heap.size, 0, none⟩) hlt2).trans HD2.out)
  have HS3 := Lib.hid (HS2.out.below hb3)
  have hlt3 : w.heap.size < w3.heap.size := Nat.lt_of_lt_of_le hlt2 hb3.size
  clear hb3 HB2 HD2 HS2 HLA x0 x1 x2 x3 hbl hlt2
  by_cases hl0 : day < s0.day
  · have hd0 : decide (day < s0.day) = true := by rw [decide_eq_true_iff]; exact hl0
    have hno : R = none := by rw [← HR.out]; exact upto_none HCK.out HS0.out hl0
    subst hno
    go_wp2_with fail
    exact ⟨_, results_tmp2 rfl _ _ _, rfl, HB3.out⟩
  have hd0 : decide (day < s0.day) = false := by rw [decide_eq_false_iff_not]; exact hl0
  have HL0 := Lib.hid hl0
  clear hl0
  go_wp2_with fail
  refine (HLX.out w3 HS3.out HD3.out).mono ?_
  rintro e w4 ⟨⟨ix, rfl, hix⟩, hb4⟩
  have HIX := Lib.hid hix
  have HB4 := Lib.hid (HB3.out.trans (hb4.mono HB3.out.size))
  have HD4 := Lib.hid ((hb4.cell (p := ⟨w.heap.size, 0, none⟩) hlt3).trans HD3.out)
  have HS4 := Lib.hid (HS3.out.below hb4)
  have hlt4 : w.heap.size < w4.heap.size := Nat.lt_of_lt_of_le hlt3 hb4.size
  clear hix hb4 HB3 HD3 HS3 HLX hlt3 hd0
  go_upto_if 33 with fail
  go_cut [0] from 17 (fun x wx => ∃ n : Nat, x = .slice (some ⟨ba, o, none⟩) n c ∧ n ≤ m ∧ (∀ (i : Nat) (y : Stp), i < n → L[i]? = some y → y.day ≤ day) ∧ (∀ y, L[n]? = some y → day < y.day) ∧ w4 = wx)
  case first =>
    rcases HIX.out with ⟨j, s, rfl, hj, hjd, hall⟩ | ⟨rfl, hall⟩
    · have hjm : j < m := by rw [← HM.out]; exact (List.getElem?_eq_some_iff.1 hj).1
      have HALL := Lib.hid hall
      have HJ := Lib.hid hj
      have n0 : (0 : Int) ≤ (j : Int) := by omega
      have n2 : (j : Int) ≤ (c : Int) := by omega
      clear hall hj
      go_wp2_with fail
      go_meet
      exact ⟨j, rfl, by omega, HALL.out, fun y hy => by rw [HJ.out] at hy; cases hy; exact hjd, rfl⟩
    · have HALL := Lib.hid hall
      clear hall
      go_wp2_with fail
      go_meet
      exact ⟨m, rfl, Nat.le_refl _, fun i y _ hy => HALL.out i y hy, fun y hy => by have := (List.getElem?_eq_some_iff.1 hy).1; rw [HM.out] at this; omega, rfl⟩
  case rest =>
  obtain ⟨n, rfl, hnm, hall, hnext, rfl⟩ := hcut
  have HRN := Lib.hid (HR.out.symm.trans (since_at (bs := bs) HCK.out n hall hnext (by rw [HM.out]; exact hnm)))
  have HALL := Lib.hid hall
  clear hall hnext HIX HR HL0 HS0
  have HNT := Lib.hid (newTrust_any b cb bs day w4 (HB.out.below HB4.out) hbs)
  have hd4 := HD4.out
  go_wp2_with fail
  refine HNT.out.mono ?_
  rintro e w5 ⟨rfl, ht5, hb5⟩
  have HT5 := Lib.hid ht5
  have HB5 := Lib.hid (HB4.out.trans (hb5.mono HB4.out.size))
  have HS5 := Lib.hid (HS4.out.below hb5)
  have hd5 := (hb5.cell (p := ⟨w.heap.size, 0, none⟩) hlt4).trans hd4
  have hlt5 : w.heap.size < w5.heap.size := Nat.lt_of_lt_of_le hlt4 hb5.size
  clear ht5 hb5 HB4 HD4 HS4 HNT hd4
  go_wp2_with fail
  obtain ⟨w6, hw6⟩ : ∃ w6, w5.alloc (.cells #[.pointer (some ⟨w4.heap.size, 0, none⟩)] 61) = w6 := ⟨_, rfl⟩
  have hb56 : Below w5.heap.size w5 w6 := by rw [← hw6]; exact (Below.refl _ _).alloc (Nat.le_refl _) _
  have hx6 : w6.cell? ⟨w5.heap.size, 0, none⟩ = some (.pointer (some ⟨w4.heap.size, 0, none⟩)) := by rw [← hw6, Lib.cell_of_heap (heap_last _ _)]; rfl
  have HT6 := Lib.hid (HT5.out.below hb56)
  have HB6 := Lib.hid (HB5.out.trans (hb56.mono HB5.out.size))
  have HS6 := Lib.hid (HS5.out.below hb56)
  have hd6 := (hb56.cell (p := ⟨w.heap.size, 0, none⟩) hlt5).trans hd5
  have hlt6 : w.heap.size < w6.heap.size := Nat.lt_of_lt_of_le hlt5 hb56.size
  rw [hw6]
  obtain ⟨bx, hbx⟩ : ∃ bx, w5.heap.size = bx := ⟨_, rfl⟩
  obtain ⟨g, hg⟩ : ∃ g, w4.heap.size = g := ⟨_, rfl⟩
  rw [hbx] at hx6 ⊢
  rw [hg] at hx6 HT6 ⊢
  have HX6 := Lib.hid hx6
  have hbx6 := World.block_lt_of_cell? _ _ hx6
  clear hw6 hb56 HT5 HB5 HS5 hd5 hlt5 hlt4 hbx hg hx6
  go_cut [13, 14] from 17 (fun x y wx => ∃ bf bu : Nat, x = .pointer (some ⟨bf, 0, none⟩) ∧ y = .pointer (some ⟨bu, 0, none⟩) ∧ bf ≠ bu ∧ w6.heap.size ≤ bf ∧ w6.heap.size ≤ bu ∧ wx.heap[bf]? = some (.cells #[.int .i64 (-1)] 3 (0, 0)) ∧ wx.heap[bu]? = some (.cells #[.int .i64 day] 3 (0, 0)) ∧ Below w6.heap.size w6 wx)
  case first =>
    have hne : ¬ (w.heap.size = w6.heap.size) := by omega
    have hne2 : ¬ (w6.heap.size = w.heap.size) := by omega
    have hne3 : ¬ (w6.heap.size + 1 = w.heap.size) := by omega
    have zz : ∀ o', (w6.alloc o').cell? ⟨w.heap.size, 0, none⟩ = some (.int .i64 day) := fun o' => (((Below.refl w6.heap.size w6).alloc (Nat.le_refl _) o').cell (p := ⟨w.heap.size, 0, none⟩) hlt6).trans hd6
    go_region
    all_goals
      go_wp2_with fail
      go_meet
      refine ⟨_, _, rfl, rfl, by omega, by omega, by omega, ?_, ?_, (((Below.refl _ _).alloc (Nat.le_refl _) _).alloc (by rw [size_alloc]; omega) _).drew⟩
      · first | exact heap_last' _ _ (by rw [size_alloc]) | exact heap_prev' _ _ _ rfl
      · first | exact heap_last' _ _ (by rw [size_alloc]) | exact heap_prev' _ _ _ rfl
  case rest =>
  obtain ⟨bf, bu, rfl, rfl, hne, hf6, hu6, hcf, hcu, hb67⟩ := hcut
  clear hd6
  obtain ⟨L', hL'⟩ : ∃ L', L' = L.take n := ⟨_, rfl⟩
  obtain rfl : n = L'.length := by rw [hL', List.length_take, HM.out]; omega
  have hRL : R = backAt L' bs day day none L'.length := by
    rw [HRN.out, hL', backAt, backAt, List.take_of_length_le (Nat.le_refl (L.take _).length), ← hL', ← hL']
  have HRL := Lib.hid hRL
  have HS7 := Lib.hid (show StS wc (some ⟨ba, o, none⟩) L' by rw [hL']; exact (HS6.out.below hb67).take _)
  have HSL := Lib.hid (show StS w6 (some ⟨ba, o, none⟩) L' by rw [hL']; exact HS6.out.take _)
  have HCF := Lib.hid hcf
  have HCU := Lib.hid hcu
  have HB67 := Lib.hid hb67
  have hs7 := hb67.size
  have hL'64 : L'.length ≤ 64 := by omega
  clear hRL HRN hcf hcu hb67 hL' HS HALL HCK
  go_wp2_with fail
  refine (backward_any _ _ _ _).mono ?_
  rintro e w8 ⟨rfl, rfl⟩
  go_wp2_with fail
  obtain ⟨bs', hbs'⟩ : ∃ bs', wc.heap.size = bs' := ⟨_, rfl⟩
  have hblk8 : (wc.alloc (.cells #[.slice (some ⟨ba, o, none⟩) L'.length c] 22)).heap[bs']? = some (.cells #[.slice (some ⟨ba, o, none⟩) L'.length c] 22 (0, 0)) := heap_last' _ _ hbs'
  have hb78 := (Below.refl wc.heap.size wc).alloc (Nat.le_refl _) (.cells #[.slice (some ⟨ba, o, none⟩) L'.length c] 22)
  have hlf : bf < wc.heap.size := (Array.getElem?_eq_some_iff.1 HCF.out).1
  have hlu : bu < wc.heap.size := (Array.getElem?_eq_some_iff.1 HCU.out).1
  have hcf8 := (hb78.block bf hlf).trans HCF.out
  have hcu8 := (hb78.block bu hlu).trans HCU.out
  have hb68 := HB67.out.trans (hb78.mono hs7)
  have HS8 := Lib.hid (HS7.out.below hb78)
  have hz8 : (wc.alloc (.cells #[.slice (some ⟨ba, o, none⟩) L'.length c] 22)).heap.size = wc.heap.size + 1 := size_alloc _ _
  rw [hbs']
  generalize wc.alloc (.cells #[.slice (some ⟨ba, o, none⟩) L'.length c] 22) = w8 at *
  have hba6 : ba < w6.heap.size := by
    obtain ⟨s, hs⟩ : ∃ s, L[0]? = some s := ⟨_, List.getElem?_eq_getElem (by rw [HM.out]; exact hm0)⟩
    exact (HS6.out.get 0 s hs).1
  refine (wpIn_wide (n := 5)).1 ?_
  refine wpIn_range (F := Fence.wide) (n := 5) rfl (by omega) (gf := 54) (lb := #[.pointer (some ⟨bs', 0, none⟩)]) rfl trivial (enters_of Tryd.func54 (by kernel_rfl) rfl)
    (backward1_in 4 (by omega) bs' ba o c L' hL'64) Draws.cells ?pre ?kt ?kb (fun _ => rfl)
    (fun pre W => SinceI w6 bf bu bs' (.slice (some ⟨ba, o, none⟩) L'.length c) L' (fun u acc => pre.map Fin.val = List.range pre.length → R = backAt L' bs day u acc (L'.length - pre.length)) W)
    (fun cc pre W => cc = Code.exit 0 ∧ SinceI w6 bf bu bs' (.slice (some ⟨ba, o, none⟩) L'.length c) L' (fun _ acc => pre.map Fin.val = List.range pre.length → R = acc) W) ?own ?ownx ?wr ?wrx ?start ?round ?done ?stop
  case pre =>
    intro W hW
    exact ⟨by rw [Lib.cell_of_heap ((hW.block bs' (by omega)).trans hblk8)]; rfl, HS8.out.below hW⟩
  case kt =>
    intro X Y Z h k
    exact ⟨k.1.trans h.1, fun i hi => (k.2 i hi).trans (h.2 i hi)⟩
  case kb =>
    intro W l o1 o2 hl ho hc1
    exact ⟨World.cell?_of_block (World.putObj_heap_other (show bs' ≠ l by omega)), fun i _ => World.cell?_of_block (World.putObj_heap_other (show ba ≠ l by omega))⟩
  case own =>
    intro pre X Y row hI hg hr
    exact hI.grown hg hr (by omega)
  case ownx =>
    intro cc pre X Y row hI hg hr
    exact ⟨hI.1, hI.2.grown hg hr (by omega)⟩
  case wr =>
    rintro pre X Y hI ⟨q, rfl⟩
    have hh : (X.drewN q).heap = X.heap := by simp
    exact hI.heap (by rw [hh]) (by rw [hh]) (by rw [hh]) (Below_drewN (Below.refl _ X) q)
  case wrx =>
    rintro cc pre X Y ⟨hc0, hI⟩ ⟨q, rfl⟩
    have hh : (X.drewN q).heap = X.heap := by simp
    exact ⟨hc0, hI.heap (by rw [hh]) (by rw [hh]) (by rw [hh]) (Below_drewN (Below.refl _ X) q)⟩
  case start => exact ⟨day, -1, none, hcf8, hcu8, hblk8, hb68, .inl ⟨rfl, rfl⟩, fun _ => HRL.out⟩
  case round =>
    rintro l pre x W hI hlen
    obtain ⟨j, hj⟩ : ∃ j : Nat, j = L'.length - 1 - x.val := ⟨_, rfl⟩
    have hxl := x.isLt
    have hjl : j < L'.length := by omega
    obtain ⟨s, hs⟩ : ∃ s, L'[j]? = some s := ⟨_, List.getElem?_eq_getElem hjl⟩
    have hE : backE L' (L'.length - 1 - x.val) = #[Value.int .i64 (j : Int), .agg #[.int .i64 s.day, .int .i64 s.hash, .int .i64 s.wit, .string ⟨s.val.toArray⟩]] := by
      rw [← hj, backE, List.getD_eq_getElem?_getD, hs]; rfl
    simp only [hE]
    have HJ := Lib.hid hj
    have HSJ := Lib.hid hs
    have HI := Lib.hid hI
    have HALO := (Below.refl W.heap.size W).alloc (Nat.le_refl _) (.cells #[.int .i64 s.day, .int .i64 s.hash, .int .i64 s.wit, .string ⟨s.val.toArray⟩] 28)
    have HAL := Lib.hid HALO
    obtain ⟨u0, f0, acc0, c10, c20, c30, c40, -⟩ := hI
    have l1 : bf < W.heap.size := (Array.getElem?_eq_some_iff.1 c10).1
    have l2 : bu < W.heap.size := (Array.getElem?_eq_some_iff.1 c20).1
    have l3 : bs' < W.heap.size := (Array.getElem?_eq_some_iff.1 c30).1
    have l4 : w6.heap.size ≤ W.heap.size := c40.size
    clear hE hj hs HALO c10 c20 c30 c40 acc0
    gi_wp2
    refine ⟨⟨by rw [size_alloc]; omega, fun k o1 _ h0 _ => (HAL.out.block k (Array.getElem?_eq_some_iff.1 h0).1).trans h0⟩, ⟨HAL.out.cell (p := ⟨bs', 0, none⟩) l3, fun i _ => HAL.out.cell (p := ⟨ba, _, none⟩) (show ba < W.heap.size by omega)⟩, HI.out.heap (HAL.out.block _ l1) (HAL.out.block _ l2) (HAL.out.block _ l3) (HAL.out.mono l4), ?_⟩
    rintro V hvc - hvs hIV
    rw [size_alloc] at hvs
    have hsb : ∀ i, V.cell? ⟨W.heap.size, i, none⟩ = (#[Value.int .i64 s.day, .int .i64 s.hash, .int .i64 s.wit, .string ⟨s.val.toArray⟩])[i]? := fun i => (hvc _).trans (Lib.cell_of_heap (heap_last _ _) i)
    have z0 : V.cell? ⟨W.heap.size, 0, none⟩ = some (.int .i64 s.day) := hsb 0
    have z1 : V.cell? ⟨W.heap.size, 1, none⟩ = some (.int .i64 s.hash) := hsb 1
    have z2 : V.cell? ⟨W.heap.size, 2, none⟩ = some (.int .i64 s.wit) := hsb 2
    have z3 : V.cell? ⟨W.heap.size, 3, none⟩ = some (.string ⟨s.val.toArray⟩) := hsb 3
    obtain ⟨u, f, acc, c1, c2, c3, c4, hac, hRV⟩ := hIV
    have HAC := Lib.hid hac
    clear hac
    have cbu : V.cell? ⟨bu, 0, none⟩ = some (.int .i64 u) := by rw [Lib.cell_of_heap c2]; rfl
    have cbx : V.cell? ⟨bx, 0, none⟩ = some (.pointer (some ⟨g, 0, none⟩)) := (c4.cell (p := ⟨bx, 0, none⟩) hbx6).trans HX6.out
    have hig := (callsIn_wide (n := 2)).2 (isGood_any s g bs day u V (HT6.out.below c4) hbs)
    simp only [stv] at hig
    have HIG := Lib.hid (hig.inRound l)
    have HC1 := Lib.hid c1
    have HC2 := Lib.hid c2
    have HC3 := Lib.hid c3
    have HC4 := Lib.hid c4
    have HRV := Lib.hid hRV
    clear hvc hsb c1 c2 c3 c4 hRV hig
    gi_wp2_with fail
    refine ⟨trivial, ?_⟩
    refine HIG.out.mono ?_
    rintro e W' ⟨rfl, hb'⟩
    have hszV := hb'.size
    have hVf : bf < V.heap.size := by omega
    have hVu : bu < V.heap.size := by omega
    have hVs : bs' < V.heap.size := by omega
    have d1 := (hb'.block bf hVf).trans HC1.out
    have d2 := (hb'.block bu hVu).trans HC2.out
    have d3 := (hb'.block bs' hVs).trans HC3.out
    have HD4 := Lib.hid (HC4.out.trans (hb'.mono (by omega)))
    have HBV := Lib.hid hb'
    have z0' := (hb'.cell (p := ⟨W.heap.size, 0, none⟩) (show W.heap.size < V.heap.size by omega)).trans z0
    have hMR : (pre ++ [x]).map Fin.val = List.range (pre ++ [x]).length → R = if good s bs day u = true then backAt L' bs day s.day (some s.day) j else acc := by
      intro hp
      obtain ⟨h1, h2⟩ := map_snoc hp
      have h3 := HRV.out h1
      rw [show L'.length - pre.length = j + 1 by have := HJ.out; omega, backAt_succ HSJ.out] at h3
      exact h3
    have hjl2 : L'.length - (pre ++ [x]).length = L'.length - (pre.length + 1) := by rw [List.length_append]; rfl
    have HD1 := Lib.hid d1
    have HD2 := Lib.hid d2
    have HD3 := Lib.hid d3
    have HMR := Lib.hid hMR
    have HJ2 := Lib.hid hjl2
    clear hb' z0 z1 z2 z3 d3 hMR hjl2 HIG cbx cbu
    cases hgd : good s bs day u with
    | false =>
      rw [hgd] at HMR
      clear hgd d1 d2
      gi_wp2_with fail
      exact ⟨⟨hszV, fun k o1 _ h0 _ => (HBV.out.block k (Array.getElem?_eq_some_iff.1 h0).1).trans h0⟩, rfl, u, f, acc, HD1.out, HD2.out, HD3.out, HD4.out, HAC.out, fun hp => by have := HMR.out hp; rw [if_neg (by simp)] at this; exact this⟩
    | true =>
      rw [hgd] at HMR
      have cf1 : W'.cell? ⟨bf, 0, none⟩ = some (.int .i64 f) := by rw [Lib.cell_of_heap d1]; rfl
      have cu1 : W'.cell? ⟨bu, 0, none⟩ = some (.int .i64 u) := by rw [Lib.cell_of_heap d2]; rfl
      have ff1 : W'.frozen? ⟨bf, 0, none⟩ = false := by simp [World.frozen?, d1]
      have fu1 : W'.frozen? ⟨bu, 0, none⟩ = false := by simp [World.frozen?, d2]
      have e1 : ¬ (bf = bu) := hne
      have e2 : ¬ (bu = bf) := fun h => hne h.symm
      have e3 : ¬ (W.heap.size = bf) := by omega
      have e4 : ¬ (W.heap.size = bu) := by omega
      have e5 : ¬ (bf = W.heap.size) := by omega
      have e6 : ¬ (bu = W.heap.size) := by omega
      clear hgd d1 d2
      gi_wp2_with fail
      have HFIN : Hid (∀ Z, TwoSet W' w6.heap.size bf bu (.int .i64 (j : Int)) (.int .i64 s.day) Z → KeepsFrom w8.heap.size V Z ∧ KeepsBack bs' ba o L'.length V Z ∧ SinceI w6 bf bu bs' (.slice (some ⟨ba, o, none⟩) L'.length c) L' (fun u acc => (pre ++ [x]).map Fin.val = List.range (pre ++ [x]).length → R = backAt L' bs day u acc (L'.length - (pre ++ [x]).length)) Z) := Lib.hid (by
        rintro Z ⟨t1, t2, t3, t4, t5⟩
        have nf : bs' ≠ bf := by
          intro h; have h1 := HD3.out; rw [h, HD1.out] at h1; cases h1
        have nu : bs' ≠ bu := by
          intro h; have h1 := HD3.out; rw [h, HD2.out] at h1; cases h1
        refine ⟨⟨by omega, fun k o1 _ h0 ho => ?_⟩, ⟨?_, fun i _ => ?_⟩, s.day, (j : Int), some s.day, t2, t3, (t4 bs' nf nu).trans HD3.out, HD4.out.trans t5, .inr ⟨j, s, rfl, HSJ.out, rfl⟩, fun hp => ?_⟩
        · have k1 : k ≠ bf := by
            intro h; rw [h, HC1.out] at h0; cases h0; cases ho
          have k2 : k ≠ bu := by
            intro h; rw [h, HC2.out] at h0; cases h0; cases ho
          exact (t4 k k1 k2).trans ((HBV.out.block k (Array.getElem?_eq_some_iff.1 h0).1).trans h0)
        · exact World.cell?_of_block ((t4 bs' nf nu).trans (HBV.out.block bs' hVs))
        · exact World.cell?_of_block ((t4 ba (by omega) (by omega)).trans (HBV.out.block ba (by omega)))
        · obtain ⟨-, h2⟩ := map_snoc hp
          have h3 := HMR.out hp
          rw [if_pos trivial] at h3
          rw [h3, HJ2.out, show L'.length - (pre.length + 1) = j by have := HJ.out; omega])
      gi_region
      all_goals
        gi_wp2_with fail
        exact HFIN.out _ (by first | exact twoSet_a HD1.out HD2.out hne hf6 hu6 _ _ | exact twoSet_b HD1.out HD2.out hne hf6 hu6 _ _)
  case done =>
    rintro D ys W hD hys ⟨u, f, acc, c1, -, -, c4, hac, hmr⟩ hKd
    have hyl : ys.length = L'.length := by have := congrArg List.length hys; simpa using this
    have hRA : R = acc := by
      have h := hmr (by rw [hyl]; exact hys)
      rw [hyl, Nat.sub_self, backAt_zero] at h
      exact h
    have cf : W.cell? ⟨bf, 0, none⟩ = some (.int .i64 f) := by rw [Lib.cell_of_heap c1]; rfl
    have HKD := Lib.hid hKd
    have HBW := Lib.hid (HB6.out.trans (c4.mono HB6.out.size))
    have hDw : w.heap.size ≤ D := by omega
    clear c1 hmr hys hKd hyl
    rcases hac with ⟨rfl, rfl⟩ | ⟨j, s, rfl, hj, rfl⟩
    · subst hRA
      go_wp2_with fail
      refine ⟨by simp, .inl ⟨_, _, rfl, run_takeDeferred HKD.out, ?_⟩⟩
      exact ⟨_, results_tmp2 rfl _ _ _, rfl, HBW.out.trans (belowK_b (w := w) (Nat.le_refl _) W D _ _ hDw HKD.out rfl rfl)⟩
    · obtain ⟨-, x0, -⟩ := (HSL.out.below c4).get j s hj
      have hjl : j < L'.length := (List.getElem?_eq_some_iff.1 hj).1
      have j0 : (0 : Int) ≤ (j : Int) := by omega
      have j1 : (j : Int) < (L'.length : Int) := by omega
      clear hj
      subst hRA
      go_wp2_with fail
      refine ⟨by simp, .inl ⟨_, _, rfl, run_takeDeferred HKD.out, ?_⟩⟩
      exact ⟨_, results_tmp2 rfl _ _ _, rfl, HBW.out.trans (belowK_b (w := w) (Nat.le_refl _) W D _ _ hDw HKD.out rfl rfl)⟩
  case stop =>
    rintro D cc ys W hD hys ⟨rfl, u, f, acc, c1, -, -, c4, hac, hmr⟩ hKd
    have hRA : R = acc := hmr hys
    have cf : W.cell? ⟨bf, 0, none⟩ = some (.int .i64 f) := by rw [Lib.cell_of_heap c1]; rfl
    have HKD := Lib.hid hKd
    have HBW := Lib.hid (HB6.out.trans (c4.mono HB6.out.size))
    have hDw : w.heap.size ≤ D := by omega
    clear c1 hmr hys hKd
    gi_wp2_with fail
    rcases hac with ⟨rfl, rfl⟩ | ⟨j, s, rfl, hj, rfl⟩
    · subst hRA
      go_wp2_with fail
      refine ⟨by simp, .inl ⟨_, _, rfl, run_takeDeferred HKD.out, ?_⟩⟩
      exact ⟨_, results_tmp2 rfl _ _ _, rfl, HBW.out.trans (belowK_b (w := w) (Nat.le_refl _) W D _ _ hDw HKD.out rfl rfl)⟩
    · obtain ⟨-, x0, -⟩ := (HSL.out.below c4).get j s hj
      have hjl : j < L'.length := (List.getElem?_eq_some_iff.1 hj).1
      have j0 : (0 : Int) ≤ (j : Int) := by omega
      have j1 : (j : Int) < (L'.length : Int) := by omega
      clear hj
      subst hRA
      go_wp2_with fail
      refine ⟨by simp, .inl ⟨_, _, rfl, run_takeDeferred HKD.out, ?_⟩⟩
      exact ⟨_, results_tmp2 rfl _ _ _, rfl, HBW.out.trans (belowK_b (w := w) (Nat.le_refl _) W D _ _ hDw HKD.out rfl rfl)⟩
end Go.Proofs.YtkihcigojhcmgaaDoor

namespace Go.Proofs.YtkihcigojhcmgaaDoor
open Go.RowKit
set_option maxRecDepth 100000

instance : DecidableEq Stp := fun a b => decidable_of_iff (a.day = b.day ∧ a.hash = b.hash ∧ a.wit = b.wit ∧ a.val = b.val) (by
  constructor
  · rintro ⟨h1, h2, h3, h4⟩; cases a; cases b; simp_all
  · rintro rfl; exact ⟨rfl, rfl, rfl, rfl⟩)

theorem stp_eq (s t : Stp) : decide (s = t) = (s.day == t.day && (s.hash == t.hash && (s.wit == t.wit && decide (s.val = t.val)))) := by
  rw [Bool.eq_iff_iff]
  simp only [decide_eq_true_eq, Bool.and_eq_true, beq_iff_eq]
  constructor
  · rintro rfl; exact ⟨rfl, rfl, rfl, rfl⟩
  · rintro ⟨h1, h2, h3, h4⟩; cases s; cases t; simp_all
theorem str_beq (a b : List UInt8) : ((⟨a.toArray⟩ : ByteArray).toList == (⟨b.toArray⟩ : ByteArray).toList) = decide (a = b) := by
  rw [ByteArray.toList_eq, ByteArray.toList_eq, Bool.eq_iff_iff]
  simp
/-- What == says of two stamps. -/
theorem eqStamp (s t : Stp) (w : World) : (Op.equalIn 10000 28 (.agg #[.int .i64 s.day, .int .i64 s.hash, .int .i64 s.wit, .string ⟨s.val.toArray⟩]) (.agg #[.int .i64 t.day, .int .i64 t.hash, .int .i64 t.wit, .string ⟨t.val.toArray⟩])).run Tryd.prog w = .ok (decide (s = t)) w := by
  have hS : Tryd.prog.underlying 28 = some (.struct (Tryd.prog.fieldsOf 28)) := by kernel_rfl
  have hp : Tryd.prog.stoodInHeld 28 = false := by kernel_rfl
  have u3 := Tryd.underlying3
  have u9 := Tryd.underlying9
  have a3 := Tryd.isAgg3
  have a9 := Tryd.isAgg9
  have z3 := Tryd.sizeOf3
  have z9 := Tryd.sizeOf9
  rw [show (10000 : Nat) = 9999 + 1 from rfl, run_equalIn_agg w 9999 28 _ _ hS hp, stp_eq]
  simp only [Program.fieldsOf, Tryd.underlying28]
  have hb := str_beq s.val t.val
  go_simp
  by_cases h1 : s.day = t.day <;> by_cases h2 : s.hash = t.hash <;> by_cases h3 : s.wit = t.wit <;> by_cases h4 : s.val = t.val <;> simp [h1, h2, h3, h4]
theorem guardStamp : Tryd.prog.eqGuardType Tryd.prog.depth 28 = false := by kernel_rfl
set_option maxHeartbeats 400000 in
theorem same_any (a : Option Addr) (c : Nat) (L : List Stp) (a' : Option Addr) (c' : Nat) (M : List Stp) (w : World) (hS : StS w a L) (hM : StS w a' M) (hL : L.length ≤ 1000) (_hL2 : M.length ≤ 1000) :
    Calls Tryd.prog 20 #[.slice a L.length c, .slice a' M.length c'] w fun e w' => e = .returned (.bool (decide (L = M))) ∧ Below w.heap.size w w' := by
  by_cases hl : L.length = M.length
  · obtain ⟨m, hm⟩ : ∃ m, L.length = m := ⟨_, rfl⟩
    rw [← hl, hm]
    rw [hm] at hl hL
    generalize hR : decide (L = M) = R
    have HR := Lib.hid hR
    have HM1 := Lib.hid hm
    have HM2 := Lib.hid hl
    have HS := Lib.hid hS
    have HT := Lib.hid hM
    clear hR hm hl hS hM _hL2
    go_enter Tryd.func20, Tryd.ntmps20
    go_wp2_with fail
    go_loopw [5] (fun i wx => ∃ j : Nat, j ≤ m ∧ i = .int .i64 j ∧ L.take j = M.take j ∧ Below w.heap.size w wx) (fun i _ => m - (intOf i).toNat)
    case atStart => exact ⟨0, by omega, rfl, by simp, Below.refl _ _⟩
    case round =>
      obtain ⟨j, hj, rfl, hp, hb⟩ := hrel
      have HP := Lib.hid hp
      clear hp
      by_cases hlt : j < m
      · obtain ⟨s, hs⟩ : ∃ s, L[j]? = some s := ⟨_, List.getElem?_eq_getElem (by rw [HM1.out]; exact hlt)⟩
        obtain ⟨t, ht⟩ : ∃ t, M[j]? = some t := ⟨_, List.getElem?_eq_getElem (by rw [← HM2.out]; exact hlt)⟩
        obtain ⟨b, o, rfl, hbl, x0, x1, x2, x3⟩ := (HS.out.below hb) j s hs
        obtain ⟨b', o', rfl, hbl', y0, y1, y2, y3⟩ := (HT.out.below hb) j t ht
        have n0 : (0 : Int) ≤ (j : Int) := by omega
        have n1 : (j : Int) < (m : Int) := by omega
        have hd : decide ((j : Int) < (m : Int)) = true := by rw [decide_eq_true_iff]; omega
        have hd2 : decide (j < m) = true := by rw [decide_eq_true_iff]; omega
        have HBB := Lib.hid hb
        have HSS := Lib.hid hs
        have HTT := Lib.hid ht
        clear hs ht hb
        have HEQ := fun W => eqStamp s t W
        have HGU := guardStamp
        go_upto_region 6 with fail
        go_quiet (fail)
        have HBB := Lib.hid (Below_drewN HBB.out nq)
        by_cases he : s = t
        · have hd3 : decide (s = t) = true := by rw [decide_eq_true_iff]; exact he
          have HP2 := Lib.hid (show L.take (j + 1) = M.take (j + 1) by rw [take_more HSS.out, take_more HTT.out, HP.out, he])
          rw [hd3]
          clear HEQ he
          go_wp2_with fail
          exact ⟨⟨j + 1, by omega, by push_cast; rfl, HP2.out, HBB.out⟩, by simp [intOf]; omega⟩
        · have hd3 : decide (s = t) = false := by rw [decide_eq_false_iff_not]; exact he
          have hno : R = false := by
            rw [← HR.out, decide_eq_false_iff_not]
            intro h
            rw [h, HTT.out] at HSS
            have := HSS.out
            exact he (Option.some.inj this).symm
          subst hno
          rw [hd3]
          clear HEQ he
          go_wp2_with fail
          go_ret
          exact ⟨rfl, HBB.out⟩
      · obtain rfl : j = m := by omega
        have hyes : R = true := by
          rw [← HR.out, decide_eq_true_iff]
          have h := HP.out
          rwa [List.take_of_length_le (by rw [HM1.out]; exact Nat.le_refl _), List.take_of_length_le (by rw [← HM2.out]; exact Nat.le_refl _)] at h
        subst hyes
        have hd : decide ((j : Int) < (j : Int)) = false := by simp
        have hd2 : decide (j < j) = false := by simp
        go_wp2_with fail
        go_ret
        exact ⟨rfl, hb⟩
  · have hno : decide (L = M) = false := by rw [decide_eq_false_iff_not]; intro h; exact hl (by rw [h])
    rw [hno]
    have h1 : ((L.length : Int) != (M.length : Int)) = true := by rw [bne_iff_ne]; omega
    clear hno
    go_enter Tryd.func20, Tryd.ntmps20
    go_wp2_with fail
    go_ret
    exact ⟨rfl, Below.refl _ _⟩
end Go.Proofs.YtkihcigojhcmgaaDoor
