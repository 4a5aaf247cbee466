/- partner of the reference. -/
import Derived.Test.YthblehinmbgbdaaG14
import Derived.Test.YthblehinmbgbdaaG13
namespace Go.Proofs.Ythblehinmbgbdaa
open Go.RowKit
set_option maxRecDepth 100000

/-- Times that the machine can hold. -/
def TmI (L : List Ev) : Prop := ∀ e ∈ L, I64 e.tm
theorem partner_hit {r : Rel} {c d : List Ev} {i j : Nat} (hj : j < d.length) (hc : cls (d.getD j default) = cls (c.getD i default)) (hr : rank d j = rank c i) : partner r c d i = near r (tmAt c i) (tmAt d j) := by
  obtain ⟨S, hS⟩ := sorted_exists d (cls (c.getD i default))
  have hat := hS.at hj hc
  rw [hr] at hat
  rw [Bool.eq_iff_iff, partner_iff hS]
  constructor
  · rintro ⟨k, hk, hn⟩
    rw [hat] at hk
    injection hk with hk
    rw [hk]; exact hn
  · intro h; exact ⟨j, hat, h⟩
theorem partner_miss {r : Rel} {c d : List Ev} {i : Nat} (h : ∀ j, j < d.length → ¬ (cls (d.getD j default) = cls (c.getD i default) ∧ rank d j = rank c i)) : partner r c d i = false := by
  unfold partner
  rw [List.any_eq_false]
  intro k hk
  have := h k (by simpa using hk)
  simp only [Bool.and_eq_true, decide_eq_true_eq]
  intro h2; exact this h2.1
set_option maxHeartbeats 2000000 in
theorem partner_any (r : Rel) (a : Option Addr) (c : Nat) (L : List Ev) (a' : Option Addr) (c' : Nat) (M : List Ev) (i : Nat) (w : World) (hS : EvS w a L) (hM : EvS w a' M) (hL : L.length ≤ 1000) (hM2 : M.length ≤ 1000) (hi : i < L.length) (hI : TmI L) (hJ : TmI M) (hk : 0 ≤ r.slack ∧ r.slack ≤ 20000) :
    Calls Try.prog 40 #[relV r, .slice a L.length c, .slice a' M.length c', .int .i64 i] w fun e w' => e = .returned (.bool (partner r L M i)) ∧ Below w.heap.size w w' := by
  obtain ⟨n, hn⟩ : ∃ n, L.length = n := ⟨_, rfl⟩
  obtain ⟨m, hm⟩ : ∃ m, M.length = m := ⟨_, rfl⟩
  have HN := Lib.hid hn
  have HMN := Lib.hid hm
  have HRK := Lib.hid (fun W h => rank_any a c L i W h hL hi)
  have HRM := Lib.hid (fun j W h (hj : j < m) => rank_any a' c' M j W h hM2 (by rw [hm]; exact hj))
  rw [hn] at hL hi HRK ⊢
  rw [hm] at hM2 HRM ⊢
  have HS := Lib.hid hS
  have HT := Lib.hid hM
  obtain ⟨f, hf⟩ : ∃ f, L[i]? = some f := ⟨_, List.getElem?_eq_getElem (by rw [hn]; exact hi)⟩
  have HF := Lib.hid hf
  have hfI := hI f (List.mem_of_getElem? hf)
  have HAL := Lib.hid (fun y hy W => alike_any r f y W hfI hy hk)
  obtain ⟨R, hR⟩ : ∃ R, partner r L M i = R := ⟨_, rfl⟩
  rw [hR]
  have HR := Lib.hid hR
  have HJ := Lib.hid hJ
  obtain ⟨rk, hrk⟩ : ∃ rk, rank L i = rk := ⟨_, rfl⟩
  have HRKE := Lib.hid hrk
  rw [hrk] at HRK
  clear hS hM hn hm hf hfI hI hJ hk hR hrk
  have i0 : (0 : Int) ≤ (i : Int) := by omega
  have i1 : (i : Int) < (n : Int) := by omega
  have di : decide (i < n) = true := by rw [decide_eq_true_iff]; omega
  simp only [relV] at HAL ⊢
  go_enter Try.func40, Try.ntmps40
  go_wp2_with fail
  refine (HRK.out _ (HS.out.alloc _)).mono ?_
  rintro e w1 ⟨rfl, hb⟩
  have HB := Lib.hid (show Below w.heap.size w w1 from ((Below.refl _ _).alloc (Nat.le_refl _) _).trans (hb.mono (by rw [size_alloc]; omega)))
  have HSZ := Lib.hid (show w.heap.size < w1.heap.size from Nat.lt_of_lt_of_le (by rw [size_alloc]; omega) hb.size)
  have hcs : ∀ q, w1.cell? ⟨w.heap.size, q, none⟩ = #[Value.int .i64 r.kinds, .int .i64 r.slack, .bool r.ord][q]? := by
    intro q
    rw [(bcell hb).1 w.heap.size q (by simp only [size_alloc]; omega), Lib.cell_of_heap (heap_last _ _)]
  have HCS := Lib.hid hcs
  clear hb hcs HRK
  go_wp2_with fail
  go_loopw [10, 11, 12] (fun p x y wx => ∃ j : Nat, j ≤ m ∧ p = .int .i64 j ∧ (∀ k, k < j → ¬ (cls (M.getD k default) = cls (L.getD i default) ∧ rank M k = rank L i)) ∧ Below w1.heap.size w1 wx) (fun p _ _ _ => m - (intOf p).toNat)
  case atStart => exact ⟨0, by omega, rfl, fun k hk => by omega, Below.refl _ _⟩
  case round =>
    obtain ⟨j, hj, rfl, hp, hb⟩ := hrel
    have HP := Lib.hid hp
    have HB1 := Lib.hid hb
    have HBW := Lib.hid (HB.out.trans (hb.mono HB.out.size))
    clear hp hb
    by_cases hlt : j < m
    · obtain ⟨e, he⟩ : ∃ e, M[j]? = some e := ⟨_, List.getElem?_eq_getElem (by rw [HMN.out]; exact hlt)⟩
      obtain ⟨b, o, rfl, hbl, x0, x1, x2, x3⟩ := (HT.out.below HBW.out) j e he
      obtain ⟨b', o', rfl, hbl', y0, y1, y2, y3⟩ := (HS.out.below HBW.out) i f HF.out
      have HE := Lib.hid he
      have n0 : (0 : Int) ≤ (j : Int) := by omega
      have n1 : (j : Int) < (m : Int) := by omega
      have hd : decide ((j : Int) < (m : Int)) = true := by rw [decide_eq_true_iff]; omega
      have hd2 : decide (j < m) = true := by rw [decide_eq_true_iff]; omega
      have HA1 := Lib.hid (fun W => HAL.out e (HJ.out e (List.mem_of_getElem? he)) W)
      simp only [evV] at HA1
      obtain ⟨q, hq⟩ : ∃ q, decide (cls f = cls e) = q := ⟨_, rfl⟩
      have HQ := Lib.hid hq
      have HAE := Lib.hid (show alike r f e = (q && near r f.tm e.tm) by rw [alike, hq])
      rw [hq] at HA1
      obtain ⟨al, hal⟩ : ∃ al, alike r f e = al := ⟨_, rfl⟩
      rw [hal] at HA1 HAE
      have HCA : Hid (∀ wx, Below wr.heap.size wr wx → Calls Try.prog 39 #[.agg #[.int .i64 r.kinds, .int .i64 r.slack, .bool r.ord], .agg #[.int .i64 f.tm, .int .i64 f.kd, .int .i64 f.a, .int .i64 f.b], .agg #[.int .i64 e.tm, .int .i64 e.kd, .int .i64 e.a, .int .i64 e.b]] wx fun z w' => z = .returned (.tuple #[.bool al, .bool q]) ∧ Below wr.heap.size wr w') := Lib.hid (fun wx hx => (HA1.out wx).mono fun r w' ⟨h1, h2⟩ => ⟨h1, hx.trans (h2.mono hx.size)⟩)
      have hcs : ∀ k, wr.cell? ⟨w.heap.size, k, none⟩ = #[Value.int .i64 r.kinds, .int .i64 r.slack, .bool r.ord][k]? := fun k => ((bcell HB1.out).1 _ _ HSZ.out).trans (HCS.out k)
      have hwl : w.heap.size < wr.heap.size := Nat.lt_of_lt_of_le HSZ.out HB1.out.size
      have HCC : Hid (∀ wx, Below wr.heap.size wr wx → evAt wx b (o + j * 4) e ∧ evAt wx b' (o' + i * 4) f ∧ (wx.cell? ⟨w.heap.size, 0, none⟩ = some (.int .i64 r.kinds) ∧ wx.cell? ⟨w.heap.size, 1, none⟩ = some (.int .i64 r.slack) ∧ wx.cell? ⟨w.heap.size, 2, none⟩ = some (.bool r.ord))) := Lib.hid (fun wx hx => ⟨evAt.below ⟨x0, x1, x2, x3⟩ hbl hx, evAt.below ⟨y0, y1, y2, y3⟩ hbl' hx, ((bcell hx).1 _ _ hwl).trans (hcs 0), ((bcell hx).1 _ _ hwl).trans (hcs 1), ((bcell hx).1 _ _ hwl).trans (hcs 2)⟩)
      have HC0 := Lib.hid (Below_drewN (Below.refl wr.heap.size wr) 1)
      clear hq he x0 x1 x2 x3 y0 y1 y2 y3 hbl hbl' hal hcs hwl
      go_upto_region 5 with fail
      refine region_quietC (C := Below wr.heap.size wr) (by kernel_rfl) (by kernel_rfl) HC0.out ?_
      repeat (
        first
          | go_big_quiet_skip
          | (go_big_quiet_want
             go_big_quiet_op
             first
               | go_big_quiet_on
               | (apply Exists.intro
                  refine ⟨fun wx hx => ?_, ?_⟩
                  · first
                    | (go_at_call 39; exact HCA.out _ hx)
                    | exact rfl
                    | (obtain ⟨⟨c0, c1, c2, c3⟩, ⟨d0, d1, d2, d3⟩, e0, e1, e2⟩ := HCC.out _ hx; go_simp; exact rfl)
                  go_big_quiet_on)))
      refine wpQuiet_nil ?_
      intro w2 hw2
      have HB2 := Lib.hid (HB1.out.trans (hw2.mono HB1.out.size))
      have HBW2 := Lib.hid (HBW.out.trans (hw2.mono HBW.out.size))
      clear hw2
      cases q with
      | false =>
        have HNO : Hid (∀ k, k < j + 1 → ¬ (cls (M.getD k default) = cls (L.getD i default) ∧ rank M k = rank L i)) := Lib.hid (fun k hk => by
          rcases Nat.lt_or_ge k j with h1 | h1
          · exact HP.out k h1
          · obtain rfl : k = j := by omega
            rintro ⟨h2, -⟩
            rw [getD_ev HE.out, getD_ev HF.out] at h2
            have := HQ.out
            rw [decide_eq_false_iff_not] at this
            exact this h2.symm)
        go_wp2_with fail
        exact ⟨⟨j + 1, by omega, by push_cast; rfl, HNO.out, HB2.out⟩, by simp [intOf]; omega⟩
      | true =>
        have HR1 := Lib.hid (HRM.out j w2 (HT.out.below HBW2.out) hlt)
        obtain ⟨rm, hrm⟩ : ∃ rm, rank M j = rm := ⟨_, rfl⟩
        have HRME := Lib.hid hrm
        rw [hrm] at HR1
        clear hrm
        by_cases heq : rm = rk
        · subst heq
          have HFIN : Hid (al = R) := Lib.hid (by
            rw [HAE.out, ← HR.out, partner_hit (by rw [HMN.out]; exact hlt) (by rw [getD_ev HE.out, getD_ev HF.out]; exact (of_decide_eq_true HQ.out).symm) (HRME.out.trans HRKE.out.symm), tmAt, tmAt, getD_ev HE.out, getD_ev HF.out]
            simp)
          go_wp2_with fail
          refine HR1.out.mono ?_
          rintro z w3 ⟨rfl, hb3⟩
          have HB3 := Lib.hid (HBW2.out.trans (hb3.mono HBW2.out.size))
          clear hb3
          go_wp2_with fail
          go_ret
          exact ⟨by rw [HFIN.out]; rfl, HB3.out⟩
        · have hne : ((rm : Int) == (rk : Int)) = false := by rw [beq_eq_false_iff_ne]; omega
          have hne2 : (rm == rk) = false := by rw [beq_eq_false_iff_ne]; omega
          have HNO : Hid (∀ k, k < j + 1 → ¬ (cls (M.getD k default) = cls (L.getD i default) ∧ rank M k = rank L i)) := Lib.hid (fun k hk => by
            rcases Nat.lt_or_ge k j with h1 | h1
            · exact HP.out k h1
            · obtain rfl : k = j := by omega
              rintro ⟨-, h2⟩
              exact heq (by rw [← HRME.out, ← HRKE.out, h2]))
          go_wp2_with fail
          refine HR1.out.mono ?_
          rintro z w3 ⟨rfl, hb3⟩
          have HB3 := Lib.hid (HB2.out.trans (hb3.mono HB2.out.size))
          clear hb3
          go_wp2_with fail
          exact ⟨⟨j + 1, by omega, by push_cast; rfl, HNO.out, HB3.out⟩, by simp [intOf]; omega⟩
    · obtain rfl : j = m := by omega
      have hd : decide ((j : Int) < (j : Int)) = false := by simp
      have hd2 : decide (j < j) = false := by simp
      have HFIN : Hid (false = R) := Lib.hid (by rw [← HR.out]; exact (partner_miss (fun k hk => HP.out k (by rw [HMN.out] at hk; exact hk))).symm)
      go_wp2_with fail
      go_ret
      exact ⟨by rw [HFIN.out]; rfl, HBW.out⟩
end Go.Proofs.Ythblehinmbgbdaa
