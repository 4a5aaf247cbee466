/- rank of the reference. -/
import Derived.Test.YthblehinmbgbdaaG12
namespace Go.Proofs.Ythblehinmbgbdaa
open Go.RowKit
set_option maxRecDepth 100000

/-- Whether event k stands ahead of event i among those of its class. -/
def ahead (L : List Ev) (i k : Nat) : Bool := decide (cls (L.getD k default) = cls (L.getD i default)) && (decide ((L.getD k default).tm < (L.getD i default).tm) || (decide ((L.getD k default).tm = (L.getD i default).tm) && decide (k < i)))
def rankTo (L : List Ev) (i j : Nat) : Nat := ((List.range j).filter (ahead L i)).length
theorem rankTo_next (L : List Ev) (i j : Nat) : rankTo L i (j + 1) = rankTo L i j + (if ahead L i j then 1 else 0) := by
  rw [rankTo, rankTo, List.range_succ, List.filter_append]
  cases h : ahead L i j <;> simp [h]
theorem rankTo_le (L : List Ev) (i j : Nat) : rankTo L i j ≤ j := by
  have := List.length_filter_le (ahead L i) (List.range j)
  rwa [List.length_range] at this
theorem rankTo_all (L : List Ev) (i : Nat) : rankTo L i L.length = rank L i := rfl
theorem getD_ev {L : List Ev} {j : Nat} {e : Ev} (h : L[j]? = some e) : L.getD j default = e := by rw [List.getD_eq_getElem?_getD, h]; rfl
set_option maxHeartbeats 2000000 in
theorem rank_any (a : Option Addr) (c : Nat) (L : List Ev) (i : Nat) (w : World) (hS : EvS w a L) (hL : L.length ≤ 1000) (hi : i < L.length) :
    Calls Try.prog 52 #[.slice a L.length c, .int .i64 i] w fun e w' => e = .returned (.int .i64 (rank L i)) ∧ Below w.heap.size w w' := by
  obtain ⟨n, hn⟩ : ∃ n, L.length = n := ⟨_, rfl⟩
  have HN := Lib.hid hn
  rw [hn] at hL hi ⊢
  have HR := Lib.hid (show rankTo L i n = rank L i by rw [← hn]; exact rankTo_all L i)
  have HS := Lib.hid hS
  have HCL := Lib.hid (fun x y W => class_any x y W)
  obtain ⟨f, hf⟩ : ∃ f, L[i]? = some f := ⟨_, List.getElem?_eq_getElem (by rw [hn]; exact hi)⟩
  have HF := Lib.hid hf
  clear hS hn hf
  have i0 : (0 : Int) ≤ (i : Int) := by omega
  have i1 : (i : Int) < (n : Int) := by omega
  have di : decide (i < n) = true := by rw [decide_eq_true_iff]; omega
  go_enter Try.func52, Try.ntmps52
  go_wp2_with fail
  go_loopw [5, 6, 7] (fun q p _ wx => ∃ j : Nat, j ≤ n ∧ p = .int .i64 j ∧ q = .int .i64 (rankTo L i j : Nat) ∧ Below w.heap.size w wx) (fun _ p _ _ => n - (intOf p).toNat)
  case atStart => exact ⟨0, by omega, rfl, rfl, Below.refl _ _⟩
  case round =>
    obtain ⟨j, hj, rfl, rfl, hb⟩ := hrel
    have HB := Lib.hid hb
    by_cases hlt : j < n
    · obtain ⟨e, he⟩ : ∃ e, L[j]? = some e := ⟨_, List.getElem?_eq_getElem (by rw [HN.out]; exact hlt)⟩
      obtain ⟨b, o, rfl, hbl, x0, x1, x2, x3⟩ := (HS.out.below hb) j e he
      obtain ⟨b', o', hba, -, y0, y1, y2, y3⟩ := (HS.out.below hb) i f HF.out
      injection hba with hba
      injection hba with h1 h2 _
      subst h1 h2
      have n0 : (0 : Int) ≤ (j : Int) := by omega
      have n1 : (j : Int) < (n : Int) := by omega
      have hd : decide ((j : Int) < (n : Int)) = true := by rw [decide_eq_true_iff]; omega
      have hd2 : decide (j < n) = true := by rw [decide_eq_true_iff]; omega
      have HCLS := Lib.hid (fun W => class_any e f W)
      simp only [evV] at HCLS
      obtain ⟨q, hq⟩ : ∃ q, decide (cls e = cls f) = q := ⟨_, rfl⟩
      rw [hq] at HCLS
      have HAH := Lib.hid (show ahead L i j = (q && (decide (e.tm < f.tm) || (decide (e.tm = f.tm) && decide (j < i)))) by rw [ahead, getD_ev he, getD_ev HF.out, hq])
      have HNX := Lib.hid (rankTo_next L i j)
      have HRL := Lib.hid (rankTo_le L i j)
      have HCA : Hid (∀ wx, Below wr.heap.size wr wx → Calls Try.prog 51 #[.agg #[.int .i64 e.tm, .int .i64 e.kd, .int .i64 e.a, .int .i64 e.b], .agg #[.int .i64 f.tm, .int .i64 f.kd, .int .i64 f.a, .int .i64 f.b]] wx fun r w' => r = .returned (.bool q) ∧ Below wr.heap.size wr w') := Lib.hid (fun wx hx => (HCLS.out wx).mono fun r w' ⟨h1, h2⟩ => ⟨h1, hx.trans (h2.mono hx.size)⟩)
      have HCC : Hid (∀ wx, Below wr.heap.size wr wx → evAt wx b (o + j * 4) e ∧ evAt wx b (o + i * 4) f) := Lib.hid (fun wx hx => ⟨evAt.below ⟨x0, x1, x2, x3⟩ hbl hx, evAt.below ⟨y0, y1, y2, y3⟩ hbl hx⟩)
      have HC0 := Lib.hid (Below_drewN (Below.refl wr.heap.size wr) 1)
      obtain ⟨u, hu⟩ : ∃ u : Nat, rankTo L i j = u := ⟨_, rfl⟩
      rw [hu] at HNX HRL ⊢
      have hu2 : u ≤ 1000 := by have := HRL.out; omega
      clear hu hq he hb x0 x1 x2 x3 y0 y1 y2 y3 hbl
      go_upto_region 5 with fail
      refine region_quietC (C := Below wr.heap.size wr) (by kernel_rfl) (by kernel_rfl) HC0.out ?_
      repeat (
        first
          | go_big_quiet_skip
          | (go_big_quiet_want
             go_big_quiet_op
             first
               | go_big_quiet_on
               | (apply Exists.intro
                  refine ⟨fun wx hx => ?_, ?_⟩
                  · first
                    | (go_at_call 51; exact HCA.out _ hx)
                    | (obtain ⟨⟨c0, c1, c2, c3⟩, ⟨d0, d1, d2, d3⟩⟩ := HCC.out _ hx; go_simp; exact rfl)
                  go_big_quiet_on)))
      refine wpQuiet_nil ?_
      intro w1 hw1
      obtain ⟨⟨x0, x1, x2, x3⟩, ⟨y0, y1, y2, y3⟩⟩ := HCC.out _ hw1
      have HB1 := Lib.hid (HB.out.trans (hw1.mono HB.out.size))
      clear hw1
      obtain ⟨p1, hp1⟩ : ∃ p1, decide (e.tm < f.tm) = p1 := ⟨_, rfl⟩
      obtain ⟨p2, hp2⟩ : ∃ p2, (e.tm == f.tm) = p2 := ⟨_, rfl⟩
      obtain ⟨p3, hp3⟩ : ∃ p3, decide (j < i) = p3 := ⟨_, rfl⟩
      have HA2 : Hid (ahead L i j = (q && (p1 || (p2 && p3)))) := Lib.hid (by rw [HAH.out, hp1, show decide (e.tm = f.tm) = p2 from hp2, ← hp3])
      clear HAH HCLS HCA
      cases q with
      | false =>
        have HN2 : Hid (rankTo L i (j + 1) = u) := Lib.hid (by rw [HNX.out, HA2.out]; simp)
        go_upto_region 6 with fail
        go_quiet (fail)
        go_wp2_with fail
        exact ⟨⟨j + 1, by omega, by push_cast; rfl, by rw [HN2.out], Below_drewN HB1.out _⟩, by simp [intOf]; omega⟩
      | true =>
        cases p1 with
        | true =>
          have HN2 : Hid (rankTo L i (j + 1) = u + 1) := Lib.hid (by rw [HNX.out, HA2.out]; simp)
          go_upto_region 6 with fail
          go_quiet (fail)
          go_wp2_with fail
          exact ⟨⟨j + 1, by omega, by push_cast; rfl, by rw [HN2.out]; push_cast; rfl, Below_drewN HB1.out _⟩, by simp [intOf]; omega⟩
        | false =>
          cases p2 with
          | false =>
            have HN2 : Hid (rankTo L i (j + 1) = u) := Lib.hid (by rw [HNX.out, HA2.out]; simp)
            go_upto_region 6 with fail
            go_quiet (fail)
            go_wp2_with fail
            exact ⟨⟨j + 1, by omega, by push_cast; rfl, by rw [HN2.out], Below_drewN HB1.out _⟩, by simp [intOf]; omega⟩
          | true =>
            cases p3 with
            | false =>
              have HN2 : Hid (rankTo L i (j + 1) = u) := Lib.hid (by rw [HNX.out, HA2.out]; simp)
              go_upto_region 6 with fail
              go_quiet (fail)
              go_wp2_with fail
              exact ⟨⟨j + 1, by omega, by push_cast; rfl, by rw [HN2.out], Below_drewN HB1.out _⟩, by simp [intOf]; omega⟩
            | true =>
              have HN2 : Hid (rankTo L i (j + 1) = u + 1) := Lib.hid (by rw [HNX.out, HA2.out]; simp)
              go_upto_region 6 with fail
              go_quiet (fail)
              go_wp2_with fail
              exact ⟨⟨j + 1, by omega, by push_cast; rfl, by rw [HN2.out]; push_cast; rfl, Below_drewN HB1.out _⟩, by simp [intOf]; omega⟩
    · obtain rfl : j = n := by omega
      have hd : decide ((j : Int) < (j : Int)) = false := by simp
      have hd2 : decide (j < j) = false := by simp
      have HB := Lib.hid hb
      clear hb
      go_wp2_with fail
      go_ret
      exact ⟨by rw [← HR.out]; rfl, HB.out⟩
end Go.Proofs.Ythblehinmbgbdaa
