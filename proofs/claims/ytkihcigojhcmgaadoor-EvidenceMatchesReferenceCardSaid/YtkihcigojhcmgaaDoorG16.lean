/- Evidence and breaks that integers determine. Plain mathematics over the model's bits. stamps of the statements: evidence that integers determine. Rows of breaks that a call owns: what they hold, appending to them, storing into them. broken of the statements: breaks that integers determine. The fixed examples of the statements on evidence, as plain mathematics. The fixed examples of the statements on evidence hold. -/
import Derived.Test.YtkihcigojhcmgaaDoorG15
namespace Go.Proofs.YtkihcigojhcmgaaDoor
open Go.RowKit

def pick (c n : Int) : Int := if c < 0 then (-(c + 1)) % n else c % n
theorem pick_lo {c n : Int} (hn : 1 ≤ n) : 0 ≤ pick c n := by unfold pick; split <;> exact Int.emod_nonneg _ (by omega)
theorem pick_hi {c n : Int} (hn : 1 ≤ n) : pick c n < n := by unfold pick; split <;> exact Int.emod_lt_of_pos _ (by omega)
/-- Three integers. -/
abbrev Tri := Int × Int × Int
/-- Whether an integer is one of the machine's. -/
def I64 (c : Int) : Prop := -9223372036854775808 ≤ c ∧ c ≤ 9223372036854775807
theorem I64.quo {c : Int} (h : I64 c) (n : Int) (hn : 1 ≤ n) : I64 (c.tdiv n) := by
  obtain ⟨h0, h1⟩ := h
  have key : (c.tdiv n).natAbs ≤ c.natAbs := by
    rw [Int.natAbs_tdiv]; exact Nat.div_le_self _ _
  rcases Int.lt_or_le c 0 with hc | hc
  · have h2 := Int.tdiv_nonneg (a := -c) (b := n) (by omega) (by omega)
    rw [Int.neg_tdiv] at h2
    exact ⟨by omega, by omega⟩
  · have := Int.tdiv_nonneg hc (by omega : (0 : Int) ≤ n)
    exact ⟨by omega, by omega⟩
/-- The witnesses that an integer determines. -/
def witOf (c : Int) : Int := bits .or .i64 (7 * 2 ^ (pick c 6).toNat) (pick (c.tdiv 6) 256)
theorem wit_key : ∀ (p : Fin 6) (q : Fin 256), 0 ≤ bits .or .i64 (7 * 2 ^ p.val) (q.val : Int) ∧ bits .or .i64 (7 * 2 ^ p.val) (q.val : Int) < 256 ∧ 2 ≤ popc (bits .or .i64 (7 * 2 ^ p.val) (q.val : Int)).toNat := by decide +kernel
theorem witOf_ok (c : Int) : 0 ≤ witOf c ∧ witOf c < 256 ∧ 2 ≤ popc (witOf c).toNat := by
  have h1 := pick_lo (c := c) (n := 6) (by omega)
  have h2 := pick_hi (c := c) (n := 6) (by omega)
  have h3 := pick_lo (c := c.tdiv 6) (n := 256) (by omega)
  have h4 := pick_hi (c := c.tdiv 6) (n := 256) (by omega)
  have := wit_key ⟨(pick c 6).toNat, by omega⟩ ⟨(pick (c.tdiv 6) 256).toNat, by omega⟩
  simp only [Int.toNat_of_nonneg h3] at this
  exact this
/-- The days of the stamps. -/
def dayTo (X : List Tri) : Nat → Int
  | 0 => 0
  | n + 1 => dayTo X n + pick (X.getD n (0, 0, 0)).1 30
def rawTo (X : List Tri) (n : Nat) : Stp := bare (dayTo X (n + 1)) (pick (X.getD n (0, 0, 0)).2.1 4) (witOf (X.getD n (0, 0, 0)).2.2)
/-- The first n stamps. -/
def stTo (v : List UInt8) (X : List Tri) : Nat → List Stp
  | 0 => []
  | n + 1 => stTo v X n ++ [sealed (stTo v X n) v (rawTo X n)]
def stampsOf (v : List UInt8) (X : List Tri) : List Stp := stTo v X (min X.length 8)
theorem dayTo_bd (X : List Tri) (n : Nat) : 0 ≤ dayTo X n ∧ dayTo X n ≤ 29 * (n : Int) := by
  induction n with
  | zero => exact ⟨Int.le_refl _, Int.le_refl _⟩
  | succ n ih =>
    have h1 := pick_lo (c := (X.getD n (0, 0, 0)).1) (n := 30) (by omega)
    have h2 := pick_hi (c := (X.getD n (0, 0, 0)).1) (n := 30) (by omega)
    simp only [dayTo]
    push_cast
    omega
theorem dayTo_mono (X : List Tri) (n : Nat) : dayTo X n ≤ dayTo X (n + 1) := by
  have h1 := pick_lo (c := (X.getD n (0, 0, 0)).1) (n := 30) (by omega)
  simp only [dayTo]; omega
theorem stTo_length (v : List UInt8) (X : List Tri) (n : Nat) : (stTo v X n).length = n := by
  induction n with
  | zero => rfl
  | succ n ih => rw [stTo, List.length_append, ih]; rfl
theorem rawTo_valid (X : List Tri) (n : Nat) (hn : n ≤ 100) : valid (rawTo X n) = true := by
  rw [valid_iff]
  have h1 := dayTo_bd X (n + 1)
  have h2 := pick_lo (c := (X.getD n (0, 0, 0)).2.1) (n := 4) (by omega)
  have h3 := pick_hi (c := (X.getD n (0, 0, 0)).2.1) (n := 4) (by omega)
  have h4 := witOf_ok (X.getD n (0, 0, 0)).2.2
  refine ⟨h1.1, ?_, h2, ?_, h4.1, h4.2.1, h4.2.2⟩
  · show dayTo X (n + 1) ≤ 100000
    push_cast at h1; omega
  · show pick _ 4 ≤ 7
    omega
theorem stTo_last (v : List UInt8) (X : List Tri) (n : Nat) : lastDay 0 (stTo v X n) = dayTo X n := by
  cases n with
  | zero => rfl
  | succ n => rw [stTo, lastDay_snoc]; rfl
theorem stTo_can (v : List UInt8) (X : List Tri) (n : Nat) (hn : n ≤ 100) : canNext (stTo v X n) (rawTo X n) = true := by
  rw [canNext_iff, stTo_last]
  exact ⟨rawTo_valid X n hn, dayTo_mono X n⟩
theorem stTo_next (v : List UInt8) (X : List Tri) (n : Nat) (hn : n ≤ 100) : next (stTo v X n) v (rawTo X n) = some (stTo v X (n + 1)) := by
  rw [next, if_pos (stTo_can v X n hn)]; rfl
theorem stTo_check (v : List UInt8) (X : List Tri) (n : Nat) (hn : n ≤ 100) : check (stTo v X (n + 1)) v = true := by
  induction n with
  | zero => exact check_next (.inl rfl) (stTo_can v X 0 hn)
  | succ n ih => exact check_next (.inr (ih (by omega))) (stTo_can v X (n + 1) hn)
theorem stTo_renew (v : List UInt8) (X : List Tri) (n : Nat) (hn : n ≤ 100) (h0 : 0 < n) : renew (stTo v X n) v (rawTo X n) = some (stTo v X (n + 1)) := by
  obtain ⟨n, rfl⟩ : ∃ k, n = k + 1 := ⟨n - 1, by omega⟩
  rw [renew, if_pos (stTo_check v X n (by omega)), stTo_next v X (n + 1) hn]
theorem start_ok (v : List UInt8) (X : List Tri) (n : Nat) (hn : n ≤ 100) : ∃ s, start v (rawTo X n) = some [s] := by
  refine ⟨sealed [] v (rawTo X n), ?_⟩
  rw [start, next, if_pos]
  · rfl
  · rw [canNext_iff]
    exact ⟨rawTo_valid X n hn, (dayTo_bd X (n + 1)).1⟩
end Go.Proofs.YtkihcigojhcmgaaDoor

namespace Go.Proofs.YtkihcigojhcmgaaDoor
open Go.RowKit
set_option maxRecDepth 100000

theorem ret_int {k : IntKind} {a b : Int} (h : a = b) : Ending.returned (Value.int k a) = .returned (.int k b) := by rw [h]
theorem pick_any (c n : Int) (w : World) (h : I64 c) (hn : 1 ≤ n) (hn2 : n ≤ 9223372036854775807) :
    Calls Tryd.prog 13 #[.int .i64 c, .int .i64 n] w fun e w' => e = .returned (.int .i64 (pick c n)) ∧ w = w' := by
  obtain ⟨h0, h1⟩ := h
  by_cases hc : c < 0
  · go_enter Tryd.func13, Tryd.ntmps13
    go_wp2
    go_ret
    refine ⟨ret_int ?_, rfl⟩
    unfold pick
    rw [if_pos hc, ← Int.tmod_eq_emod_of_nonneg (by omega), Int.neg_tmod]
  · go_enter Tryd.func13, Tryd.ntmps13
    go_wp2
    go_ret
    refine ⟨ret_int ?_, rfl⟩
    unfold pick
    rw [if_neg (by omega)]

/-- Triples of integers that a slice holds. -/
def TrS (W : World) (a : Option Addr) (X : List Tri) : Prop := ∀ i p, X[i]? = some p → ∃ b o, a = some ⟨b, o, none⟩ ∧ b < W.heap.size ∧ W.cell? ⟨b, o + i * 3, none⟩ = some (.int .i64 p.1) ∧ W.cell? ⟨b, o + i * 3 + 1, none⟩ = some (.int .i64 p.2.1) ∧ W.cell? ⟨b, o + i * 3 + 2, none⟩ = some (.int .i64 p.2.2)
theorem TrS.below {W W1 : World} {a : Option Addr} {X : List Tri} (h : TrS W a X) (hw : Below W.heap.size W W1) : TrS W1 a X := by
  intro i p hi
  obtain ⟨b, o, ha, hb, h0, h1, h2⟩ := h i p hi
  exact ⟨b, o, ha, Nat.lt_of_lt_of_le hb hw.size, ((bcell hw).1 b _ hb).trans h0, ((bcell hw).1 b _ hb).trans h1, ((bcell hw).1 b _ hb).trans h2⟩
def TriOk (X : List Tri) : Prop := ∀ p ∈ X, I64 p.1 ∧ I64 p.2.1 ∧ I64 p.2.2
theorem wit_walk (c : Int) : bits .or .i64 (wrap64 (7 * 2 ^ (pick c 6).toNat)) (pick (c.tdiv 6) 256) = witOf c := by
  have h1 := pick_lo (c := c) (n := 6) (by omega)
  have h2 := pick_hi (c := c) (n := 6) (by omega)
  have key : ∀ p : Fin 6, wrap64 (7 * 2 ^ p.val) = 7 * 2 ^ p.val := by decide +kernel
  have := key ⟨(pick c 6).toNat, by omega⟩
  simp only at this
  rw [this]; rfl

set_option maxHeartbeats 1000000 in
theorem stamps_any (v : List UInt8) (a : Option Addr) (c : Nat) (X : List Tri) (w : World) (hX : TrS w a X) (hk : TriOk X) (hv : v.length ≤ 1000) (hb2 : X.length ≤ 9223372036854775807) :
    Calls Tryd.prog 11 #[.string ⟨v.toArray⟩, .slice a X.length c] w fun e w' => ∃ x, e = .returned x ∧ SRow w' w.heap.size x (stampsOf v X) ∧ Below w.heap.size w w' := by
  obtain ⟨m, hm⟩ : ∃ m, X.length = m := ⟨_, rfl⟩
  have hst : stampsOf v X = stTo v X (min m 8) := by rw [← hm]; rfl
  rw [hm, hst]
  rw [hm] at hb2
  obtain ⟨Z, hZ⟩ : ∃ Z, Z = stTo v X (min m 8) := ⟨_, rfl⟩
  rw [← hZ]
  have HZ := Lib.hid hZ
  clear hZ
  have HM := Lib.hid hm
  have HX := Lib.hid hX
  have HK := Lib.hid hk
  clear hm hX hk hst
  go_enter Tryd.func11, Tryd.ntmps11
  go_wp2_with fail
  go_loopw [5, 6, 7] (fun l d i wx => ∃ n : Nat, n ≤ m ∧ n ≤ 8 ∧ i = .int .i64 n ∧ d = .int .i64 (dayTo X n) ∧ SRow wx w.heap.size l (stTo v X n) ∧ Below w.heap.size w wx) (fun _ _ i _ => 8 - (intOf i).toNat)
  case atStart => exact ⟨0, by omega, by omega, rfl, rfl, SRow.nil _ _, Below.refl _ _⟩
  case round =>
    obtain ⟨n, hn, hn8, rfl, rfl, hrow, hb⟩ := hrel
    by_cases hlt : n < m ∧ n < 8
    · obtain ⟨hlt, hlt8⟩ := hlt
      obtain ⟨p, hp⟩ : ∃ p, X[n]? = some p := ⟨_, List.getElem?_eq_getElem (by rw [HM.out]; exact hlt)⟩
      obtain ⟨xb, xo, rfl, hxb, x0, x1, x2⟩ := (HX.out.below hb) n p hp
      obtain ⟨k0, k1, k2⟩ := HK.out p (List.mem_of_getElem? hp)
      have hg : X.getD n (0, 0, 0) = p := by rw [List.getD_eq_getElem?_getD, hp]; rfl
      have HG := Lib.hid hg
      have hd1 := dayTo_bd X n
      have HDN : Hid (dayTo X (n + 1) = dayTo X n + pick p.1 30) := Lib.hid (by rw [← hg]; rfl)
      have hp1 := pick_lo (c := p.1) (n := 30) (by omega)
      have hp2 := pick_hi (c := p.1) (n := 30) (by omega)
      have HPK := Lib.hid (fun (c' n' : Int) W h1 h2 h3 => pick_any c' n' W h1 h2 h3)
      have n0 : (0 : Int) ≤ (n : Int) := by omega
      have n1 : (n : Int) < (m : Int) := by omega
      have n2 : (n : Int) < 8 := by omega
      have e1 : decide ((n : Int) < (m : Int)) = true := by rw [decide_eq_true_iff]; omega
      have e2 : decide (n < m) = true := by rw [decide_eq_true_iff]; omega
      have e3 : decide ((n : Int) < 8) = true := by rw [decide_eq_true_iff]; omega
      obtain ⟨a5, c5, h5, hlc5, hS5, -⟩ := hrow.isSlice
      rw [stTo_length] at h5 hlc5
      subst h5
      have HS5 := Lib.hid hS5
      have HRW := Lib.hid hrow
      have HBB := Lib.hid hb
      have HRAW : Hid (rawTo X n = bare (dayTo X n + pick p.1 30) (pick p.2.1 4) (witOf p.2.2)) := Lib.hid (by rw [← hg]; rfl)
      clear hS5
      have K0 := Lib.hid k0
      have K1 := Lib.hid k1
      have K2 := Lib.hid k2
      clear hp hg hrow hb k0 k1 k2
      obtain ⟨c0, c1, c2⟩ := p
      simp only at *
      go_wp2_with fail
      refine (HPK.out c0 30 _ K0.out (by omega) (by omega)).mono ?_
      rintro e w1 ⟨rfl, rfl⟩
      go_wp2_with fail
      have HC0 := Lib.hid (Below_drewN (Below.refl wr.heap.size wr) 1)
      have HCX : Hid (∀ wx, Below wr.heap.size wr wx → wx.cell? ⟨xb, xo + n * 3 + 2, none⟩ = some (.int .i64 c2)) := Lib.hid (fun wx hx => (hx.cell (p := ⟨xb, _, none⟩) hxb).trans x2)
      have HPC : Hid (∀ (c' n' : Int) wx, Below wr.heap.size wr wx → I64 c' → 1 ≤ n' → n' ≤ 9223372036854775807 → Calls Tryd.prog 13 #[.int .i64 c', .int .i64 n'] wx fun e w' => e = .returned (.int .i64 (pick c' n')) ∧ Below wr.heap.size wr w') := Lib.hid (by
        intro c' n' wx hx h1 h2 h3
        refine (pick_any c' n' wx h1 h2 h3).mono ?_
        rintro e w' ⟨rfl, rfl⟩
        exact ⟨rfl, hx⟩)
      have K3 := Lib.hid (K2.out.quo 6 (by omega))
      have hwq : wrap64 (c2.tdiv 6) = c2.tdiv 6 := wrap_small _ K3.out.1 K3.out.2
      have hq6 := pick_lo (c := c2) (n := 6) (by omega)
      have hq7 := pick_hi (c := c2) (n := 6) (by omega)
      have hww := wit_walk c2
      have HWW := Lib.hid hww
      obtain ⟨q, hq⟩ : ∃ q : Nat, pick c2 6 = q := ⟨(pick c2 6).toNat, by omega⟩
      have HQ := Lib.hid hq
      have HX1 := Lib.hid x1
      clear hww hq x0 x2 x1
      refine region_quietC (C := Below wr.heap.size wr) (by kernel_rfl) (by kernel_rfl) HC0.out ?_
      repeat (
        first
          | go_big_quiet_skip
          | (go_big_quiet_want
             go_big_quiet_op
             first
               | go_big_quiet_on
               | (apply Exists.intro
                  refine ⟨fun wx hx => ?_, ?_⟩
                  · first
                    | (go_at_call 13; exact HPC.out _ _ _ hx (by first | exact K2.out | exact K3.out) (by omega) (by omega))
                    | exact rfl
                    | (have c4 := HCX.out _ hx; go_simp; exact rfl)
                  go_big_quiet_on)))
      refine wpQuiet_nil ?_
      intro w2 hw2
      have x1' := (hw2.cell (p := ⟨xb, _, none⟩) hxb).trans HX1.out
      rw [HWW.out]
      have HB2 := Lib.hid (HBB.out.trans (hw2.mono HBB.out.size))
      have HS2 := Lib.hid (HS5.out.below hw2)
      have hxb2 : xb < w2.heap.size := Nat.lt_of_lt_of_le hxb hw2.size
      rw [← HDN.out] at HRAW ⊢
      have HSS := Lib.hid (fun W => refStart_any v (dayTo X (n + 1)) (pick c1 4) (witOf c2) W hv)
      have hd2 := dayTo_bd X (n + 1)
      rw [← HRAW.out] at HSS
      clear hw2 HPC HCX HC0 hwq hq6 hq7 hp1 hp2
      go_wp2_with fail
      refine (HPK.out c1 4 _ K1.out (by omega) (by omega)).mono ?_
      rintro e w3 ⟨rfl, rfl⟩
      go_wp2_with fail
      refine (HSS.out _).mono ?_
      intro e w3 hgave
      rcases Nat.eq_zero_or_pos n with hn0 | hn0
      · subst hn0
        have hst : start v (rawTo X 0) = some (stTo v X 1) := stTo_next v X 0 (by omega)
        rw [hst] at hgave
        obtain ⟨hb3, g3, c3, rfl, hrow3⟩ := hgave
        have HR3 := Lib.hid hrow3
        have HB3 := Lib.hid (HB2.out.trans (hb3.mono HB2.out.size))
        have hsz2 := HB2.out.size
        clear hrow3 hb3 hst
        go_wp2_with fail
        go_roundw
        case rel => exact ⟨1, by omega, by omega, rfl, rfl, HR3.out.mono hsz2, HB3.out⟩
        case measure => simp [intOf]
      · obtain ⟨hb3, x3, n3, rfl, -⟩ := hgave.cases
        have hxb3 : xb < w3.heap.size := Nat.lt_of_lt_of_le hxb2 hb3.size
        have x1'' := (hb3.cell (p := ⟨xb, _, none⟩) hxb2).trans x1'
        have HB3 := Lib.hid (HB2.out.trans (hb3.mono HB2.out.size))
        have hlen : (stTo v X n).length = n := stTo_length v X n
        have hck : check (stTo v X n) v = true := by
          obtain ⟨k, rfl⟩ : ∃ k, n = k + 1 := ⟨n - 1, by omega⟩
          exact stTo_check v X k (by omega)
        have hren := refRenew_any v a5 c5 (stTo v X n) (dayTo X (n + 1)) (pick c1 4) (witOf c2) w3 (HS2.out.below hb3) (fun s hs => (check_fine hck s hs).2.2.2) (by omega) (by omega) hv
        rw [← HRAW.out, stTo_renew v X n (by omega) hn0, hlen] at hren
        have HREN := Lib.hid hren
        have hni : (0 : Int) < (n : Int) := by omega
        have hsz2 := HB2.out.size
        have hsz3 := HB3.out.size
        clear hb3 hgave hck hren hlen x1'
        go_wp2_with fail
        refine (HPK.out c1 4 _ K1.out (by omega) (by omega)).mono ?_
        rintro e w4 ⟨rfl, rfl⟩
        go_wp2_with fail
        refine HREN.out.mono ?_
        rintro e w4 ⟨hb4, g4, c4, rfl, hrow4⟩
        have HR4 := Lib.hid hrow4
        have HB4 := Lib.hid (HB3.out.trans (hb4.mono HB3.out.size))
        clear hrow4 hb4
        go_wp2_with fail
        go_roundw
        case rel => exact ⟨n + 1, by omega, by omega, by push_cast; rfl, rfl, HR4.out.mono hsz3, HB4.out⟩
        case measure => simp [intOf]; omega
    · have hmin : min m 8 = n := by omega
      have hzn : Z = stTo v X n := by rw [HZ.out, hmin]
      subst hzn
      have HRW := Lib.hid hrow
      have HBB := Lib.hid hb
      clear hrow hb hmin
      by_cases hlt2 : n < m
      · obtain rfl : n = 8 := by omega
        have e1 : decide (((8 : Nat) : Int) < (m : Int)) = true := by rw [decide_eq_true_iff]; omega
        have e2 : decide (8 < m) = true := by rw [decide_eq_true_iff]; omega
        rw [show ((8 : Nat) : Int) = 8 from rfl]
        go_wp2_with fail
        go_ret
        exact ⟨_, rfl, HRW.out, HBB.out⟩
      · have e1 : decide ((n : Int) < (m : Int)) = false := by rw [decide_eq_false_iff_not]; omega
        have e2 : decide (n < m) = false := by rw [decide_eq_false_iff_not]; omega
        go_wp2_with fail
        go_ret
        exact ⟨_, rfl, HRW.out, HBB.out⟩
end Go.Proofs.YtkihcigojhcmgaaDoor

namespace Go.Proofs.YtkihcigojhcmgaaDoor
open Go.RowKit
set_option maxRecDepth 100000

theorem Tryd.infoBreak : (Tryd.prog.info? 48).map (fun i => (i.zero, i.size, i.bytes)) = some (some (.agg #[.int .i64 0, .int .i64 0, .int .i64 0, .int .i64 0]), 4, 32) := by kernel_rfl
/-- A break's cells. -/
def brc (s : Brk) : List Value := [.int .i64 s.hash, .int .i64 s.wit, .int .i64 s.frm, .int .i64 s.known]
def brl : List Brk → List Value
  | [] => []
  | s :: L => brc s ++ brl L
theorem brl_length (L : List Brk) : (brl L).length = L.length * 4 := by
  induction L with
  | nil => rfl
  | cons s L ih => rw [brl, List.length_append, ih, List.length_cons]; simp [brc]; omega
theorem brl_append (L M : List Brk) : brl (L ++ M) = brl L ++ brl M := by
  induction L with
  | nil => rfl
  | cons s L ih => rw [List.cons_append, brl, brl, ih, List.append_assoc]
theorem brl_one (s : Brk) : brl [s] = brc s := by simp [brl]
theorem brl_at : ∀ (L : List Brk) (i : Nat) (s : Brk), L[i]? = some s → ∀ j, j < 4 → (brl L)[i * 4 + j]? = (brc s)[j]?
  | [], i, s, h, _, _ => by simp at h
  | t :: L, 0, s, h, j, hj => by
    simp at h
    subst h
    rw [brl, List.getElem?_append_left (by simp [brc]; omega)]
    simp
  | t :: L, i + 1, s, h, j, hj => by
    rw [brl, List.getElem?_append_right (by simp [brc]; omega)]
    have := brl_at L i s (by simpa using h) j hj
    rw [← this]
    congr 1
    simp [brc]; omega
theorem brl_cell (L : List Brk) (j : Nat) (u : Value) (h : (brl L)[j]? = some u) : ∃ s, L[j / 4]? = some s ∧ (brc s)[j % 4]? = some u := by
  have hl : j < (brl L).length := by
    rcases Nat.lt_or_ge j (brl L).length with h1 | h1
    · exact h1
    · rw [List.getElem?_eq_none h1] at h; cases h
  rw [brl_length] at hl
  have hi : j / 4 < L.length := by omega
  refine ⟨L[j / 4], List.getElem?_eq_getElem hi, ?_⟩
  have := brl_at L (j / 4) L[j / 4] (List.getElem?_eq_getElem hi) (j % 4) (by omega)
  rw [show j / 4 * 4 + j % 4 = j by omega, h] at this
  exact this.symm
theorem brl_one' (L : List Brk) : ∀ u ∈ brl L, u.oneCell' = true := by
  induction L with
  | nil => intro u hu; cases hu
  | cons s L ih =>
    intro u hu
    rw [brl, List.mem_append] at hu
    rcases hu with hu | hu
    · simp [brc] at hu
      rcases hu with rfl | rfl | rfl | rfl <;> rfl
    · exact ih u hu

/-- A row of breaks that the call owns. -/
def BRow (W : World) (base : Nat) (v : Value) (L : List Brk) : Prop := W.ownsRow base 48 4 v L.length (brl L)
theorem BRow.alloc {W : World} {base : Nat} {v : Value} {L : List Brk} (h : BRow W base v L) (o : Obj) : BRow (W.alloc o) base v L := World.ownsRow.alloc h o
theorem BRow.drew {W : World} {base : Nat} {v : Value} {L : List Brk} (h : BRow W base v L) : BRow W.drew base v L := h
theorem BRow.nil (W : World) (base : Nat) : BRow W base (.slice none 0 0) [] := World.ownsRow_nil _ _ _ _
theorem BRow.empty {W : World} {base g : Nat} (h : W.heap[g]? = some (.cells #[] 48 (0, 0))) (hb : base ≤ g) : BRow W base (.slice (some ⟨g, 0, none⟩) 0 0) [] :=
  ⟨rfl, .inr ⟨g, 0, #[], rfl, hb, h, Nat.le_refl _, Nat.zero_le _, rfl, rfl⟩⟩
theorem BRow.mono {W : World} {b base : Nat} {v : Value} {L : List Brk} (h : BRow W base v L) (hb : b ≤ base) : BRow W b v L := by
  refine ⟨h.1, ?_⟩
  rcases h.2 with h2 | ⟨g, cap, cur, h1, h2, h3⟩
  · exact .inl h2
  · exact .inr ⟨g, cap, cur, h1, Nat.le_trans hb h2, h3⟩
theorem BRow.below {W W' : World} {base : Nat} {v : Value} {L : List Brk} (h : BRow W base v L) (hb : Below W.heap.size W W') : BRow W' base v L := by
  refine ⟨h.1, ?_⟩
  rcases h.2 with h2 | ⟨g, cap, cur, h1, h2, h3, h4⟩
  · exact .inl h2
  · refine .inr ⟨g, cap, cur, h1, h2, ?_, h4⟩
    have hlt := (h.lt g (by rw [h1]; rfl)).2
    rw [hb.block g hlt]; exact h3
theorem BRow.form {W : World} {base : Nat} {v : Value} {L : List Brk} (h : BRow W base v L) (hn : 0 < L.length) : ∃ g cap, v = .slice (some ⟨g, 0, none⟩) L.length cap ∧ base ≤ g ∧ g < W.heap.size := World.ownsRow.form h hn
theorem BRow.isSlice {W : World} {base : Nat} {v : Value} {L : List Brk} (h : BRow W base v L) : ∃ a c, v = .slice a L.length c ∧ L.length ≤ c ∧ BrS W a L ∧ (a = none → c = 0) := by
  rcases h.2 with ⟨h2, h3⟩ | ⟨g, cap, cur, h1, h2, h3, h4, h5, h6, h7⟩
  · have : L = [] := List.eq_nil_of_length_eq_zero h3
    subst this
    exact ⟨none, 0, h2, Nat.le_refl _, BrS.nil _ _, fun _ => rfl⟩
  · refine ⟨_, cap, h1, h4, ?_, fun h => by cases h⟩
    subst h1
    have hlt := (h.lt g rfl).2
    intro i s hi
    have hil : i < L.length := (List.getElem?_eq_some_iff.1 hi).1
    have key : ∀ j, j < 4 → W.cell? ⟨g, 0 + i * 4 + j, none⟩ = (brc s)[j]? := by
      intro j hj
      rw [Nat.zero_add, ← brl_at L i s hi j hj]
      exact World.ownsRow.cellAt h (i * 4 + j) (by omega)
    exact ⟨g, 0, rfl, hlt, key 0 (by omega), key 1 (by omega), key 2 (by omega), key 3 (by omega)⟩
theorem BRow.sts {W : World} {base g c : Nat} {L : List Brk} (h : BRow W base (.slice (some ⟨g, 0, none⟩) L.length c) L) : BrS W (some ⟨g, 0, none⟩) L := by
  obtain ⟨a, c', h1, -, h2, -⟩ := h.isSlice
  injection h1 with h1 _ _
  rw [h1]; exact h2

theorem brs_news {W : World} {xb xo : Nat} {X : List Brk} (h : BrS W (some ⟨xb, xo, none⟩) X) (j : Nat) (u : Value) (hj : (brl X)[j]? = some u) : W.cell? (Addr.add ⟨xb, xo, none⟩ j) = some u := by
  obtain ⟨s, h1, h2⟩ := brl_cell X j u hj
  obtain ⟨b, o, hbo, -, c0, c1, c2, c3⟩ := h (j / 4) s h1
  injection hbo with hbo
  injection hbo with e1 e2 _
  subst e1 e2
  rw [Go.WideShapes.add_plain, show xo + j = xo + j / 4 * 4 + j % 4 by omega]
  generalize hq : j % 4 = q at *
  have hq4 : q < 4 := by omega
  rcases q with _ | _ | _ | _ | q
  · exact c0.trans h2
  · exact c1.trans h2
  · exact c2.trans h2
  · exact c3.trans h2
  · omega
/-- Several breaks appended. -/
theorem append_breaks {ops : Array Oper} {rest : List Oper} {o : Oper} {a : Act} {Q : Exit → Act → World → Prop} {w0 : World} (hgd : o.guard = none) (s x : Operand)
    (ho : o.op = .call { callee := .builtin .append, args := #[s, x], argTypes := #[23, 23] })
    {base : Nat} {v : Value} {L : List Brk} (hs : a.eval s = v) (hown : BRow w0 base v L) (hbase : base ≤ w0.heap.size) (hlen : L.length ≤ 1000)
    {xb xo m xc : Nat} (hx : a.eval x = .slice (some ⟨xb, xo, none⟩) m xc) {X : List Brk} (hX : BrS w0 (some ⟨xb, xo, none⟩) X) (hXl : X.length = m) (hm : 0 < m) (hm2 : m ≤ 1000) {M : List Brk} (hM : M = L ++ X)
    (h : ∀ g cap w', BRow w' base (.slice (some ⟨g, 0, none⟩) M.length cap) M → Below base w0 w' → w0.grownBy w' v.ownBlock → (v.ownBlock = some g ∨ g = w0.heap.size) →
      wpList Tryd.prog ops Q rest (a.put o.dst (.slice (some ⟨g, 0, none⟩) M.length cap)) w') :
    wpList Tryd.prog ops Q (o :: rest) a w0 := by
  obtain ⟨i0, hi, hz0, hz1, hz2⟩ := info_parts Tryd.infoBreak
  subst hXl
  refine wpList_append_lies _ hgd s x 23 ho base 48 i0 _ 4 32 Tryd.underlying23 hi hz0 hz1 hz2 rfl (by decide) v L.length (brl L) hs hown ⟨xb, xo, none⟩ X.length xc (brl X) hx (brl_length X) (brs_news hX) (brl_one' X) hm (by unfold maxLen; omega) (by omega) hbase _ rfl ?_
  intro g cap w1 hown' hgrow hat hlt
  have hl : M.length = L.length + X.length := by rw [hM, List.length_append]
  rw [← hl] at hown' ⊢
  refine h g cap w1 ?_ ((Below.refl _ _).grown hgrow hbase (fun k hk => (hown.lt k hk).1)) hgrow hat
  show w1.ownsRow base _ 4 _ M.length (brl M)
  rw [hM, brl_append, ← hM]; exact hown'
/-- The same at a step of a region that draws its order. -/
theorem step_append_breaks {ops : Array Oper} {o : Oper} {a : Act} {K : Act → World → Prop} {Q : Exit → Act → World → Prop} {E : Prop} {w0 : World} (hgd : o.guard = none) (s x : Operand)
    (ho : o.op = .call { callee := .builtin .append, args := #[s, x], argTypes := #[23, 23] })
    {base : Nat} {v : Value} {L : List Brk} (hs : a.eval s = v) (hown : BRow w0 base v L) (hbase : base ≤ w0.heap.size) (hlen : L.length ≤ 1000)
    {xb xo m xc : Nat} (hx : a.eval x = .slice (some ⟨xb, xo, none⟩) m xc) {X : List Brk} (hX : BrS w0 (some ⟨xb, xo, none⟩) X) (hXl : X.length = m) (hm : 0 < m) (hm2 : m ≤ 1000) {M : List Brk} (hM : M = L ++ X)
    (h : ∀ g cap w', BRow w' base (.slice (some ⟨g, 0, none⟩) M.length cap) M → Below base w0 w' → w0.grownBy w' v.ownBlock → (v.ownBlock = some g ∨ g = w0.heap.size) →
      K (a.put o.dst (.slice (some ⟨g, 0, none⟩) M.length cap)) w') :
    if Region.wanted o (yielded ops a.tmps) = true then Oper.wp Tryd.prog o a w0 K Q else E := by
  obtain ⟨i0, hi, hz0, hz1, hz2⟩ := info_parts Tryd.infoBreak
  subst hXl
  refine step_append_lies _ hgd s x 23 ho base 48 i0 _ 4 32 Tryd.underlying23 hi hz0 hz1 hz2 rfl (by decide) v L.length (brl L) hs hown ⟨xb, xo, none⟩ X.length xc (brl X) hx (brl_length X) (brs_news hX) (brl_one' X) hm (by unfold maxLen; omega) (by omega) hbase _ rfl ?_
  intro g cap w1 hown' hgrow hat hlt
  have hl : M.length = L.length + X.length := by rw [hM, List.length_append]
  rw [← hl] at hown' ⊢
  refine h g cap w1 ?_ ((Below.refl _ _).grown hgrow hbase (fun k hk => (hown.lt k hk).1)) hgrow hat
  show w1.ownsRow base _ 4 _ M.length (brl M)
  rw [hM, brl_append, ← hM]; exact hown'
/-- Nothing appended, at a step of a region. -/
theorem step_append_bnil {ops : Array Oper} {o : Oper} {a : Act} {K : Act → World → Prop} {Q : Exit → Act → World → Prop} {E : Prop} {w0 : World} (hgd : o.guard = none) (s x : Operand)
    (ho : o.op = .call { callee := .builtin .append, args := #[s, x], argTypes := #[23, 23] })
    {base : Nat} {v : Value} {L : List Brk} (hs : a.eval s = v) (hown : BRow w0 base v L) (hx : a.eval x = .slice none 0 0) (h : K (a.put o.dst v) w0) :
    if Region.wanted o (yielded ops a.tmps) = true then Oper.wp Tryd.prog o a w0 K Q else E := by
  have hw : Region.wanted o (yielded ops a.tmps) = true := by simp [Region.wanted, hgd]
  rw [if_pos hw]
  obtain ⟨i0, hi, hz0, hz1, hz2⟩ := info_parts Tryd.infoBreak
  have hrun := run_append_owned_none (P := Tryd.prog) (w := w0) base 23 o.type 48 i0 4 Tryd.underlying23 hi v L.length (brl L) hown
  unfold Oper.wp
  simp [execOp, ho, resolve, invoke, builtin, hs, hx, hrun, Result.andThen]
  exact h
theorem BrS.alloc {W : World} {a : Option Addr} {L : List Brk} (h : BrS W a L) (o : Obj) : BrS (W.alloc o) a L := h.below ((Below.refl _ _).alloc (Nat.le_refl _) _)
theorem BrS.drew {W : World} {a : Option Addr} {L : List Brk} (h : BrS W a L) : BrS W.drew a L := h
/-- A break in a new block. -/
theorem brs_block {W : World} {g : Nat} {s : Brk} (h : W.heap[g]? = some (.cells #[.int .i64 s.hash, .int .i64 s.wit, .int .i64 s.frm, .int .i64 s.known] 48 (0, 0))) : BrS W (some ⟨g, 0, none⟩) [s] := by
  intro i t hi
  match i, hi with
  | 0, hi =>
    simp at hi
    subst hi
    refine ⟨g, 0, rfl, ?_, ?_⟩
    · rcases Nat.lt_or_ge g W.heap.size with h1 | h1
      · exact h1
      · rw [Array.getElem?_eq_none h1] at h; cases h
    · refine ⟨?_, ?_, ?_, ?_⟩ <;> (rw [Lib.cell_of_heap h]; rfl)

theorem brl_set_len (L : List Brk) (j : Nat) (u : Value) : ((brl L).set j u).length = L.length * 4 := by rw [List.length_set, brl_length]
theorem brl_set : ∀ (L : List Brk) (i k : Nat) (b c : Brk) (u : Value), L[i]? = some b → k < 4 → brc c = (brc b).set k u → (brl L).set (i * 4 + k) u = brl (L.set i c)
  | [], i, _, _, _, _, h, _, _ => by simp at h
  | t :: L, 0, k, b, c, u, h, hk, hc => by
    simp at h
    subst h
    rw [brl, List.set_cons_zero, brl, hc, List.set_append_left _ _ (by simp [brc]; omega)]
    simp
  | t :: L, i + 1, k, b, c, u, h, hk, hc => by
    rw [brl, List.set_cons_succ, brl, ← brl_set L i k b c u (by simpa using h) hk hc, List.set_append_right _ _ (by simp [brc]; omega)]
    congr 2
    simp [brc]; omega
/-- A number of a break is set. -/
theorem BRow.store {W : World} {base g c : Nat} {L : List Brk} (h : BRow W base (.slice (some ⟨g, 0, none⟩) L.length c) L) (i k : Nat) (b d : Brk) (u : Value) (hi : L[i]? = some b) (hk : k < 4) (hd : brc d = (brc b).set k u) :
    BRow (W.setCell ⟨g, i * 4 + k, none⟩ u) base (.slice (some ⟨g, 0, none⟩) L.length c) (L.set i d) := by
  have := (World.ownsRow.stored h (i * 4 + k) u).1
  rw [brl_set L i k b d u hi hk hd] at this
  unfold BRow
  rw [List.length_set]
  exact this
theorem BRow.cells {W : World} {base g c : Nat} {L : List Brk} (h : BRow W base (.slice (some ⟨g, 0, none⟩) L.length c) L) : ∀ j, W.frozen? ⟨g, j, none⟩ = false := fun j => World.ownsRow.frozenAt h j
end Go.Proofs.YtkihcigojhcmgaaDoor

namespace Go.Proofs.YtkihcigojhcmgaaDoor
open Go.RowKit
set_option maxRecDepth 100000

theorem BRow.heap_of {W W' : World} {base : Nat} {v : Value} {L : List Brk} (h : BRow W base v L) (hb : ∀ g, v.ownBlock = some g → W'.heap[g]? = W.heap[g]?) : BRow W' base v L := by
  refine ⟨h.1, ?_⟩
  rcases h.2 with h2 | ⟨g, cap, cur, h1, h2, h3, h4⟩
  · exact .inl h2
  · refine .inr ⟨g, cap, cur, h1, h2, ?_, h4⟩
    rw [hb g (by rw [h1]; rfl)]; exact h3
/-- Four integers. -/
abbrev Qud := Int × Int × Int × Int
def brOf (q : Qud) : Brk := { hash := pick q.1 4, wit := if pick q.2.1 2 = 0 then 1 + pick (q.2.1.tdiv 2) 8 else 0, frm := pick q.2.2.1 200, known := pick q.2.2.2 250 }
def brokenOf (Y : List Qud) : List Brk := (Y.take 8).map brOf
theorem brokenOf_len (Y : List Qud) : (brokenOf Y).length ≤ 8 := by
  unfold brokenOf; rw [List.length_map, List.length_take]; omega
/-- Quadruples that a slice holds. -/
def QdS (W : World) (a : Option Addr) (X : List Qud) : Prop := ∀ i p, X[i]? = some p → ∃ b o, a = some ⟨b, o, none⟩ ∧ b < W.heap.size ∧ W.cell? ⟨b, o + i * 4, none⟩ = some (.int .i64 p.1) ∧ W.cell? ⟨b, o + i * 4 + 1, none⟩ = some (.int .i64 p.2.1) ∧ W.cell? ⟨b, o + i * 4 + 2, none⟩ = some (.int .i64 p.2.2.1) ∧ W.cell? ⟨b, o + i * 4 + 3, none⟩ = some (.int .i64 p.2.2.2)
theorem QdS.below {W W1 : World} {a : Option Addr} {X : List Qud} (h : QdS W a X) (hw : Below W.heap.size W W1) : QdS W1 a X := by
  intro i p hi
  obtain ⟨b, o, ha, hb, h0, h1, h2, h3⟩ := h i p hi
  exact ⟨b, o, ha, Nat.lt_of_lt_of_le hb hw.size, ((bcell hw).1 b _ hb).trans h0, ((bcell hw).1 b _ hb).trans h1, ((bcell hw).1 b _ hb).trans h2, ((bcell hw).1 b _ hb).trans h3⟩
def QudOk (X : List Qud) : Prop := ∀ p ∈ X, I64 p.1 ∧ I64 p.2.1 ∧ I64 p.2.2.1 ∧ I64 p.2.2.2

set_option maxHeartbeats 2000000 in
theorem broken_any (a : Option Addr) (c : Nat) (X : List Qud) (w : World) (hX : QdS w a X) (hk : QudOk X) (hb2 : X.length ≤ 9223372036854775807) :
    Calls Tryd.prog 12 #[.slice a X.length c] w fun e w' => ∃ x, e = .returned x ∧ BRow w' w.heap.size x (brokenOf X) ∧ Below w.heap.size w w' := by
  obtain ⟨m, hm⟩ : ∃ m, X.length = m := ⟨_, rfl⟩
  obtain ⟨Z, hZ⟩ : ∃ Z, Z = brokenOf X := ⟨_, rfl⟩
  rw [hm, ← hZ]
  rw [hm] at hb2
  have HM := Lib.hid hm
  have HZ := Lib.hid hZ
  have HX := Lib.hid hX
  have HK := Lib.hid hk
  clear hm hX hk hZ
  go_enter Tryd.func12, Tryd.ntmps12
  go_wp2_with fail
  go_loopw [3, 4] (fun l i wx => ∃ n : Nat, n ≤ m ∧ n ≤ 8 ∧ i = .int .i64 n ∧ BRow wx w.heap.size l ((X.take n).map brOf) ∧ Below w.heap.size w wx) (fun _ i _ => 8 - (intOf i).toNat)
  case atStart => exact ⟨0, by omega, by omega, rfl, BRow.nil _ _, Below.refl _ _⟩
  case round =>
    obtain ⟨n, hn, hn8, rfl, hrow, hb⟩ := hrel
    by_cases hlt : n < m ∧ n < 8
    · obtain ⟨hlt, hlt8⟩ := hlt
      obtain ⟨p, hp⟩ : ∃ p, X[n]? = some p := ⟨_, List.getElem?_eq_getElem (by rw [HM.out]; exact hlt)⟩
      obtain ⟨xb, xo, rfl, hxb, x0, x1, x2, x3⟩ := (HX.out.below hb) n p hp
      obtain ⟨k0, k1, k2, k3⟩ := HK.out p (List.mem_of_getElem? hp)
      have HTK := Lib.hid (show (X.take (n + 1)).map brOf = (X.take n).map brOf ++ [brOf p] by rw [take_more hp, List.map_append]; rfl)
      have HLN := Lib.hid (show ((X.take n).map brOf).length = n by rw [List.length_map, List.length_take, HM.out]; omega)
      have n0 : (0 : Int) ≤ (n : Int) := by omega
      have n1 : (n : Int) < (m : Int) := by omega
      have n2 : (n : Int) < 8 := by omega
      have e1 : decide ((n : Int) < (m : Int)) = true := by rw [decide_eq_true_iff]; omega
      have e2 : decide (n < m) = true := by rw [decide_eq_true_iff]; omega
      have e3 : decide ((n : Int) < 8) = true := by rw [decide_eq_true_iff]; omega
      have HRW := Lib.hid hrow
      have HBB := Lib.hid hb
      have hsz := hb.size
      have K0 := Lib.hid k0
      have K1 := Lib.hid k1
      have K2 := Lib.hid k2
      have K3 := Lib.hid k3
      have HPK := Lib.hid (fun (c' n' : Int) W h1 h2 h3 => pick_any c' n' W h1 h2 h3)
      generalize (X.take n).map brOf = l at *
      clear hp hrow hb k0 k1 k2 k3
      obtain ⟨c0, c1, c2, c3⟩ := p
      simp only at *
      go_upto_region 5 with fail
      go_cut [5] (fun x wx => x = .pointer (some ⟨wr.heap.size, 0, none⟩) ∧ wx.heap[wr.heap.size]? = some (.cells #[.int .i64 (pick c0 4), .int .i64 0, .int .i64 (pick c2 200), .int .i64 (pick c3 250)] 48 (0, 0)) ∧ Below wr.heap.size wr wx)
      case first =>
        have hne := World.new_ne wr _ x0
        go_region_held3 (fun w' => w'.cell? ⟨xb, xo + n * 4, none⟩ = some (.int .i64 c0) ∧ w'.cell? ⟨xb, xo + n * 4 + 2, none⟩ = some (.int .i64 c2) ∧ w'.cell? ⟨xb, xo + n * 4 + 3, none⟩ = some (.int .i64 c3))
          (go_keep)
          ((go_at_call 13; refine (HPK.out _ _ _ (by first | exact K0.out | exact K2.out | exact K3.out) (by omega) (by omega)).mono ?_; rintro e w' ⟨rfl, rfl⟩))
        all_goals
          go_wp2_with fail
          go_meet
          exact ⟨rfl, heap_last _ _, ((Below.refl _ _).alloc (Nat.le_refl _) _).drew⟩
      case rest =>
      obtain ⟨rfl, hblk, hbc⟩ := hcut
      have HBC := Lib.hid (HBB.out.trans (hbc.mono hsz))
      have HRC := Lib.hid (HRW.out.below hbc)
      have y1 := (hbc.cell (p := ⟨xb, _, none⟩) hxb).trans x1
      have hxc : xb < wc.heap.size := Nat.lt_of_lt_of_le hxb hbc.size
      have hsc := HBC.out.size
      have HBLK := Lib.hid hblk
      have hwc : wr.heap.size < wc.heap.size := (Array.getElem?_eq_some_iff.1 hblk).1
      have K4 := Lib.hid (K1.out.quo 2 (by omega))
      have hwq : wrap64 (c1.tdiv 2) = c1.tdiv 2 := wrap_small _ K4.out.1 K4.out.2
      have z1 : wc.cell? ⟨wr.heap.size, 1, none⟩ = some (.int .i64 0) := by rw [Lib.cell_of_heap hblk]; rfl
      have zf : wc.frozen? ⟨wr.heap.size, 1, none⟩ = false := by simp [World.frozen?, hblk]
      clear x0 x1 x2 x3 hbc hblk
      go_wp2_with fail
      refine (HPK.out c1 2 _ K1.out (by omega) (by omega)).mono ?_
      rintro e w' ⟨rfl, rfl⟩
      by_cases h0 : pick c1 2 = 0
      · have h0b : (pick c1 2 == 0) = true := beq_iff_eq.2 h0
        have HBR := Lib.hid (show brOf (c0, c1, c2, c3) = { hash := pick c0 4, wit := 1 + pick (c1.tdiv 2) 8, frm := pick c2 200, known := pick c3 250 } by simp only [brOf]; rw [if_pos h0])
        have hp1 := pick_lo (c := c1.tdiv 2) (n := 8) (by omega)
        have hp2 := pick_hi (c := c1.tdiv 2) (n := 8) (by omega)
        clear h0
        go_wp2_with fail
        refine (HPK.out (c1.tdiv 2) 8 _ K4.out (by omega) (by omega)).mono ?_
        rintro e w' ⟨rfl, rfl⟩
        go_upto_region 8 with fail
        have hb3 := heap_setCell_same wc wr.heap.size 1 _ _ (.int .i64 (1 + pick (c1.tdiv 2) 8)) HBLK.out
        have HB3 := Lib.hid (HBC.out.setCell (p := ⟨wr.heap.size, 1, none⟩) (show w.heap.size ≤ wr.heap.size from hsz) (.int .i64 (1 + pick (c1.tdiv 2) 8)))
        have HR3 : Hid (BRow (wc.setCell ⟨wr.heap.size, 1, none⟩ (.int .i64 (1 + pick (c1.tdiv 2) 8))) w.heap.size u3 l) := Lib.hid (HRC.out.heap_of fun g hg => heap_setCell_other wc ⟨wr.heap.size, 1, none⟩ g _ (by
          have := (World.ownsRow.lt HRW.out g hg).2
          show g ≠ wr.heap.size
          omega))
        have hs3 : (wc.setCell ⟨wr.heap.size, 1, none⟩ (.int .i64 (1 + pick (c1.tdiv 2) 8))).heap.size = wc.heap.size := World.size_setCell _ _ _
        generalize wc.setCell ⟨wr.heap.size, 1, none⟩ (.int .i64 (1 + pick (c1.tdiv 2) 8)) = w3 at *
        have v0 : w3.cell? ⟨wr.heap.size, 0, none⟩ = some (.int .i64 (pick c0 4)) := by rw [Lib.cell_of_heap hb3]; rfl
        have v1 : w3.cell? ⟨wr.heap.size, 1, none⟩ = some (.int .i64 (1 + pick (c1.tdiv 2) 8)) := by rw [Lib.cell_of_heap hb3]; rfl
        have v2 : w3.cell? ⟨wr.heap.size, 2, none⟩ = some (.int .i64 (pick c2 200)) := by rw [Lib.cell_of_heap hb3]; rfl
        have v3 : w3.cell? ⟨wr.heap.size, 3, none⟩ = some (.int .i64 (pick c3 250)) := by rw [Lib.cell_of_heap hb3]; rfl
        clear hb3 z1 zf y1
        have hs3' : w.heap.size ≤ w3.heap.size := by omega
        have hl8 : l.length ≤ 1000 := by rw [HLN.out]; omega
        clear hs3
        go_wp2_with (at_builtin; refine append_breaks rfl _ _ rfl (by rfl) (base := w.heap.size) (L := l) (X := [brOf (c0, c1, c2, c3)]) (M := l ++ [brOf (c0, c1, c2, c3)]) (HR3.out.alloc _) (by first | omega | (simp; done) | (simp; omega)) hl8 (by rfl) (brs_block (by rw [HBR.out]; exact heap_last' _ _ (by first | rfl | simp))) (by rfl) (by omega) (by omega) (by rfl) ?_; intro g' c' w5 hrow5 hb5 _ _)
        go_roundw
        case rel => exact ⟨n + 1, by omega, by omega, by push_cast; rfl, by rw [HTK.out]; rw [List.length_append] at hrow5; exact hrow5, (HB3.out.alloc hs3' _).trans hb5⟩
        case measure => simp [intOf]; omega
      · have h0b : (pick c1 2 == 0) = false := beq_eq_false_iff_ne.2 h0
        have HBR := Lib.hid (show brOf (c0, c1, c2, c3) = { hash := pick c0 4, wit := 0, frm := pick c2 200, known := pick c3 250 } by simp only [brOf]; rw [if_neg h0])
        have v0 : wc.cell? ⟨wr.heap.size, 0, none⟩ = some (.int .i64 (pick c0 4)) := by rw [Lib.cell_of_heap HBLK.out]; rfl
        have v2 : wc.cell? ⟨wr.heap.size, 2, none⟩ = some (.int .i64 (pick c2 200)) := by rw [Lib.cell_of_heap HBLK.out]; rfl
        have v3 : wc.cell? ⟨wr.heap.size, 3, none⟩ = some (.int .i64 (pick c3 250)) := by rw [Lib.cell_of_heap HBLK.out]; rfl
        have hl8 : l.length ≤ 1000 := by rw [HLN.out]; omega
        clear h0 zf y1
        go_wp2_with (at_builtin; refine append_breaks rfl _ _ rfl (by rfl) (base := w.heap.size) (L := l) (X := [brOf (c0, c1, c2, c3)]) (M := l ++ [brOf (c0, c1, c2, c3)]) (HRC.out.alloc _) (by first | omega | (simp; done) | (simp; omega)) hl8 (by rfl) (brs_block (by rw [HBR.out]; exact heap_last' _ _ (by first | rfl | simp))) (by rfl) (by omega) (by omega) (by rfl) ?_; intro g' c' w5 hrow5 hb5 _ _)
        go_roundw
        case rel => exact ⟨n + 1, by omega, by omega, by push_cast; rfl, by rw [HTK.out]; rw [List.length_append] at hrow5; exact hrow5, (HBC.out.alloc hsc _).trans hb5⟩
        case measure => simp [intOf]; omega
    · have hzn : Z = (X.take n).map brOf := by
        rw [HZ.out, brokenOf]
        by_cases hlt2 : n < m
        · obtain rfl : n = 8 := by omega
          rfl
        · rw [List.take_of_length_le (by rw [HM.out]; omega), List.take_of_length_le (by rw [HM.out]; omega)]
      have HRW := Lib.hid hrow
      have HBB := Lib.hid hb
      clear hrow hb
      generalize (X.take n).map brOf = l at *
      subst hzn
      by_cases hlt2 : n < m
      · obtain rfl : n = 8 := by omega
        have e1 : decide (((8 : Nat) : Int) < (m : Int)) = true := by rw [decide_eq_true_iff]; omega
        have e2 : decide (8 < m) = true := by rw [decide_eq_true_iff]; omega
        rw [show ((8 : Nat) : Int) = 8 from rfl]
        go_wp2_with fail
        go_ret
        exact ⟨_, rfl, HRW.out, HBB.out⟩
      · have e1 : decide ((n : Int) < (m : Int)) = false := by rw [decide_eq_false_iff_not]; omega
        have e2 : decide (n < m) = false := by rw [decide_eq_false_iff_not]; omega
        go_wp2_with fail
        go_ret
        exact ⟨_, rfl, HRW.out, HBB.out⟩
end Go.Proofs.YtkihcigojhcmgaaDoor

namespace Go.Proofs.YtkihcigojhcmgaaDoor
set_option maxRecDepth 100000

def exA : Stp := sealed [] [97] (bare 10 1 7)
def exB : Stp := sealed [exA] [97] (bare 50 2 7)
def br (h w f k : Int) : Brk := ⟨h, w, f, k⟩
theorem ex1 : start [97] (bare 10 1 7) = some [exA] := by
  rw [start, next, if_pos (by decide +kernel)]; rfl
theorem exCA : check [exA] [97] = true := check_next (.inl rfl) (by decide +kernel)
theorem exNB : canNext [exA] (bare 50 2 7) = true := by decide +kernel
theorem ex2 : renew [exA] [97] (bare 50 2 7) = some [exA, exB] := by
  rw [renew, if_pos exCA, next, if_pos exNB]; rfl
theorem ex9 : check [exA, exB] [97] = true := check_next (.inr exCA) exNB
theorem exS (bs : List Brk) (r : Option Int) (h : back bs 60 60 none (upto 60 [exA, exB]).reverse = r) : since [exA, exB] [97] bs 60 = r := by rw [since, if_pos ex9, h]
theorem ex3 : since [exA, exB] [97] [] 60 = some 10 := exS _ _ (by decide +kernel)
theorem ex4 : since [exA, exB] [97] [br 1 0 51 55] 60 = some 10 := exS _ _ (by decide +kernel)
theorem ex5 : since [exA, exB] [97] [br 1 0 50 55] 60 = some 50 := exS _ _ (by decide +kernel)
theorem ex6 : since [exA, exB] [97] [br 1 0 50 61] 60 = some 10 := exS _ _ (by decide +kernel)
theorem ex7 : since [exA, exB] [97] [br 0 1 20 0, br 0 2 20 0] 60 = none := exS _ _ (by decide +kernel)
theorem ex8 : due [exA, exB] [br 2 0 61 0] 60 = some 60 := by decide +kernel
theorem ex10 : check [exA, exB] [98] = false := by
  cases h : check [exA, exB] [98] with
  | false => rfl
  | true =>
    have h1 := ((chk_cons _ _ _ _).1 ((check_iff _ _).1 h).2).2.2.1
    exact absurd h1 (by decide +kernel)
theorem ex11 : hashV 8 [] = [] := by decide +kernel
theorem ex12 : exA.val ≠ exB.val := by decide +kernel
theorem exA_len : exA.val.length = 32 := ((okS_iff _).1 (okS_sealed (l := []) (v := [97]) (s := bare 10 1 7) (by decide +kernel))).2
theorem exB_len : exB.val.length = 32 := ((okS_iff _).1 (okS_sealed (l := [exA]) (v := [97]) (s := bare 50 2 7) (by decide +kernel))).2
end Go.Proofs.YtkihcigojhcmgaaDoor

namespace Go.Proofs.YtkihcigojhcmgaaDoor
open Go.RowKit
set_option maxRecDepth 100000

theorem sinceIs {L : List Stp} {v : List UInt8} {bs : List Brk} {day : Int} {r : Option Int} (h : since L v bs day = r) (a : Option Addr) (c : Nat) (b : Option Addr) (cb : Nat) (w : World) (hS : StS w a L) (hL : L.length ≤ 64) (hc : L.length ≤ c) (hv : v.length ≤ 1000) (hB : BrS w b bs) (hbs : bs.length ≤ 1000000) (hw : RoundAt w) (hg : 0 < w.heap.size) :
    Calls Tryd.prog 14 #[.slice a L.length c, .string ⟨v.toArray⟩, .slice b bs.length cb, .int .i64 day] w fun e w' => e = .returned (dayV r) ∧ Below w.heap.size w w' := by
  rw [← h]; exact since_any v a c L b cb bs day w hS hL hc hv hB hbs hw hg
theorem dueIs {L : List Stp} {bs : List Brk} {day : Int} {r : Option Int} (h : due L bs day = r) (a : Option Addr) (c : Nat) (b : Option Addr) (cb : Nat) (w : World) (hS : StS w a L) (hL : L.length ≤ 64) (hB : BrS w b bs) (hbs : bs.length ≤ 1000000) (hdl : -9223372036854775808 ≤ day) :
    Calls Tryd.prog 16 #[.slice a L.length c, .slice b bs.length cb, .int .i64 day] w fun e w' => e = .returned (dayV r) ∧ Below w.heap.size w w' := by
  rw [← h]; exact due_any a c L b cb bs day w hS hL hB hbs hdl
/-- Two breaks in a new block. -/
theorem brs_two {W : World} {g : Nat} {s t : Brk} (h : W.heap[g]? = some (.cells #[.int .i64 s.hash, .int .i64 s.wit, .int .i64 s.frm, .int .i64 s.known, .int .i64 t.hash, .int .i64 t.wit, .int .i64 t.frm, .int .i64 t.known] 48 (0, 0))) : BrS W (some ⟨g, 0, none⟩) [s, t] := by
  have hlt : g < W.heap.size := (Array.getElem?_eq_some_iff.1 h).1
  intro i x hi
  match i, hi with
  | 0, hi =>
    simp at hi
    subst hi
    refine ⟨g, 0, rfl, hlt, ?_, ?_, ?_, ?_⟩ <;> (rw [Lib.cell_of_heap h]; rfl)
  | 1, hi =>
    simp at hi
    subst hi
    refine ⟨g, 0, rfl, hlt, ?_, ?_, ?_, ?_⟩ <;> (rw [Lib.cell_of_heap h]; rfl)

theorem SRow.cap {W : World} {base c : Nat} {p : Option Addr} {L : List Stp} (h : SRow W base (.slice p L.length c) L) : L.length ≤ c := by
  obtain ⟨a, c', h1, h2, -⟩ := h.isSlice
  injection h1 with _ _ h1
  omega
set_option maxHeartbeats 2000000 in
theorem sane_any (w : World) (hw : RoundAt w) (hg : 0 < w.heap.size) :
    Calls Tryd.prog 10 #[] w fun e w' => e = .returned (.bool true) ∧ Below w.heap.size w w' := by
  have HRA : Hid (∀ W, Below w.heap.size w W → RoundAt W ∧ 0 < W.heap.size) := Lib.hid (fun W hb => ⟨hw.below hg hb, Nat.lt_of_lt_of_le hg hb.size⟩)
  have H1 := Lib.hid (start_any [97] 10 1 7 w (by decide) hw hg)
  rw [ex1] at H1
  clear hw hg
  go_enter Tryd.func10, Tryd.ntmps10
  go_wp2_with fail
  refine H1.out.mono ?_
  rintro e w1 ⟨hb1, g1, c1, rfl, hrow1⟩
  have hS1 := hrow1.sts
  have HB1 := Lib.hid hb1
  have HS1 := Lib.hid hS1
  have H2 := Lib.hid (renew_any [97] (some ⟨g1, 0, none⟩) c1 [exA] 50 2 7 w1 hS1 (by decide) (by decide) (HRA.out w1 hb1).1 (HRA.out w1 hb1).2)
  rw [ex2] at H2
  clear hS1 hrow1 hb1 H1
  go_wp2_with fail
  refine H2.out.mono ?_
  rintro e w2 ⟨hb2, g2, c2, rfl, hrow2⟩
  have hc2 : 2 ≤ c2 := hrow2.cap
  have hS2 := hrow2.sts
  have HB2 := Lib.hid (HB1.out.trans (hb2.mono HB1.out.size))
  obtain ⟨hl2, x0, x1, x2, x3⟩ := hS2.get 0 exA rfl
  obtain ⟨-, y0, y1, y2, y3⟩ := (HS1.out.below hb2).get 0 exA rfl
  simp only [Nat.zero_mul, Nat.zero_add] at x0 x1 x2 x3 y0 y1 y2 y3
  have HS2 := Lib.hid hS2
  have hAA : decide (exA = exA) = true := by simp
  have HEQ := fun W => eqStamp exA exA W
  rw [hAA] at HEQ
  have HGU := guardStamp
  clear hS2 hrow2 hb2 H2 HS1 hAA
  generalize hA : exA.day = da at *
  generalize hA2 : exA.hash = ha at *
  generalize hA3 : exA.wit = wa at *
  generalize hA4 : exA.val = va at *
  simp only [List.length_cons, List.length_nil, Nat.zero_add, Nat.reduceAdd]
  go_upto_region 3 with fail
  go_quiet (fail)
  obtain ⟨w3, hw3⟩ : ∃ w3, w2.drewN nq = w3 := ⟨_, rfl⟩
  have HB3 := Lib.hid (show Below w.heap.size w w3 by rw [← hw3]; exact Below_drewN HB2.out _)
  have HT3 := Lib.hid (show StS w3 (some ⟨g2, 0, none⟩) [exA, exB] by rw [← hw3]; exact HS2.out.below (Below_drewN (Below.refl _ _) _))
  rw [hw3]
  clear hw3 HEQ HGU x0 x1 x2 x3 y0 y1 y2 y3 HS2 HB1 HB2
  have HC4 := Lib.hid (sinceIs ex3 (some ⟨g2, 0, none⟩) c2 none 0 w3 HT3.out (by decide) hc2 (by decide) (BrS.nil _ _) (by decide) (HRA.out _ HB3.out).1 (HRA.out _ HB3.out).2)
  simp only [dayV] at HC4
  go_wp2_with fail
  refine HC4.out.mono ?_
  rintro e w4 ⟨rfl, hb4⟩
  have HB4 := Lib.hid (HB3.out.trans (hb4.mono HB3.out.size))
  have HT4 := Lib.hid (HT3.out.below hb4)
  clear hb4 HC4
  have HC5 := Lib.hid (sinceIs ex4 (some ⟨g2, 0, none⟩) c2 (some ⟨w4.heap.size, 0, none⟩) 1 (w4.alloc (.cells #[.int .i64 1, .int .i64 0, .int .i64 51, .int .i64 55] 48)) (HT4.out.alloc _) (by decide) hc2 (by decide) (brs_block (heap_last _ _)) (by decide) (HRA.out _ (HB4.out.alloc HB4.out.size _)).1 (HRA.out _ (HB4.out.alloc HB4.out.size _)).2)
  simp only [dayV] at HC5
  go_wp2_with fail
  refine HC5.out.mono ?_
  rintro e w5 ⟨rfl, hb5⟩
  have HB5 := Lib.hid ((HB4.out.alloc HB4.out.size (.cells #[.int .i64 1, .int .i64 0, .int .i64 51, .int .i64 55] 48)).trans (hb5.mono (by rw [size_alloc]; have := HB4.out.size; omega)))
  have HT5 := Lib.hid ((HT4.out.alloc (.cells #[.int .i64 1, .int .i64 0, .int .i64 51, .int .i64 55] 48)).below hb5)
  clear hb5 HC5
  have HC6 := Lib.hid (sinceIs ex5 (some ⟨g2, 0, none⟩) c2 (some ⟨w5.heap.size, 0, none⟩) 1 (w5.alloc (.cells #[.int .i64 1, .int .i64 0, .int .i64 50, .int .i64 55] 48)) (HT5.out.alloc _) (by decide) hc2 (by decide) (brs_block (heap_last _ _)) (by decide) (HRA.out _ (HB5.out.alloc HB5.out.size _)).1 (HRA.out _ (HB5.out.alloc HB5.out.size _)).2)
  simp only [dayV] at HC6
  go_wp2_with fail
  refine HC6.out.mono ?_
  rintro e w6 ⟨rfl, hb6⟩
  have HB6 := Lib.hid ((HB5.out.alloc HB5.out.size (.cells #[.int .i64 1, .int .i64 0, .int .i64 50, .int .i64 55] 48)).trans (hb6.mono (by rw [size_alloc]; have := HB5.out.size; omega)))
  have HT6 := Lib.hid ((HT5.out.alloc (.cells #[.int .i64 1, .int .i64 0, .int .i64 50, .int .i64 55] 48)).below hb6)
  clear hb6 HC6
  have HC7 := Lib.hid (sinceIs ex6 (some ⟨g2, 0, none⟩) c2 (some ⟨w6.heap.size, 0, none⟩) 1 (w6.alloc (.cells #[.int .i64 1, .int .i64 0, .int .i64 50, .int .i64 61] 48)) (HT6.out.alloc _) (by decide) hc2 (by decide) (brs_block (heap_last _ _)) (by decide) (HRA.out _ (HB6.out.alloc HB6.out.size _)).1 (HRA.out _ (HB6.out.alloc HB6.out.size _)).2)
  simp only [dayV] at HC7
  go_wp2_with fail
  refine HC7.out.mono ?_
  rintro e w7 ⟨rfl, hb7⟩
  have HB7 := Lib.hid ((HB6.out.alloc HB6.out.size (.cells #[.int .i64 1, .int .i64 0, .int .i64 50, .int .i64 61] 48)).trans (hb7.mono (by rw [size_alloc]; have := HB6.out.size; omega)))
  have HT7 := Lib.hid ((HT6.out.alloc (.cells #[.int .i64 1, .int .i64 0, .int .i64 50, .int .i64 61] 48)).below hb7)
  clear hb7 HC7
  have HC8 := Lib.hid (sinceIs ex7 (some ⟨g2, 0, none⟩) c2 (some ⟨w7.heap.size, 0, none⟩) 2 (w7.alloc (.cells #[.int .i64 0, .int .i64 1, .int .i64 20, .int .i64 0, .int .i64 0, .int .i64 2, .int .i64 20, .int .i64 0] 48)) (HT7.out.alloc _) (by decide) hc2 (by decide) (brs_two (heap_last _ _)) (by decide) (HRA.out _ (HB7.out.alloc HB7.out.size _)).1 (HRA.out _ (HB7.out.alloc HB7.out.size _)).2)
  simp only [dayV] at HC8
  go_wp2_with fail
  refine HC8.out.mono ?_
  rintro e w8 ⟨rfl, hb8⟩
  have HB8 := Lib.hid ((HB7.out.alloc HB7.out.size (.cells #[.int .i64 0, .int .i64 1, .int .i64 20, .int .i64 0, .int .i64 0, .int .i64 2, .int .i64 20, .int .i64 0] 48)).trans (hb8.mono (by rw [size_alloc]; have := HB7.out.size; omega)))
  have HT8 := Lib.hid ((HT7.out.alloc (.cells #[.int .i64 0, .int .i64 1, .int .i64 20, .int .i64 0, .int .i64 0, .int .i64 2, .int .i64 20, .int .i64 0] 48)).below hb8)
  clear hb8 HC8
  have HC9 := Lib.hid (dueIs ex8 (some ⟨g2, 0, none⟩) c2 (some ⟨w8.heap.size, 0, none⟩) 1 (w8.alloc (.cells #[.int .i64 2, .int .i64 0, .int .i64 61, .int .i64 0] 48)) (HT8.out.alloc _) (by decide) (brs_block (heap_last _ _)) (by decide) (by decide))
  simp only [dayV] at HC9
  go_wp2_with fail
  refine HC9.out.mono ?_
  rintro e w9 ⟨rfl, hb9⟩
  have HB9 := Lib.hid ((HB8.out.alloc HB8.out.size (.cells #[.int .i64 2, .int .i64 0, .int .i64 61, .int .i64 0] 48)).trans (hb9.mono (by rw [size_alloc]; have := HB8.out.size; omega)))
  have HT9 := Lib.hid ((HT8.out.alloc (.cells #[.int .i64 2, .int .i64 0, .int .i64 61, .int .i64 0] 48)).below hb9)
  clear hb9 HC9
  go_wp2_with fail
  have hl9 : g2 < w9.heap.size := (HT9.out.get 0 exA rfl).1
  have HCA : Hid (∀ wx, Below w9.heap.size w9 wx → wx.cell? ⟨g2, 3, none⟩ = some (.string ⟨exA.val.toArray⟩) ∧ wx.cell? ⟨g2, 7, none⟩ = some (.string ⟨exB.val.toArray⟩)) := Lib.hid (fun wx hx => by
    obtain ⟨-, -, -, -, q3⟩ := (HT9.out.below hx).get 0 exA rfl
    obtain ⟨-, -, -, -, r3⟩ := (HT9.out.below hx).get 1 exB rfl
    simp only [Nat.zero_mul, Nat.one_mul, Nat.zero_add, Nat.reduceAdd] at q3 r3
    exact ⟨q3, r3⟩)
  have HCK1 : Hid (∀ wx, Below w9.heap.size w9 wx → Calls Tryd.prog 21 #[.slice (some ⟨g2, 0, none⟩) 2 c2, .string ⟨#[97]⟩] wx fun e w' => e = .returned (.bool true) ∧ Below w9.heap.size w9 w') := Lib.hid (by
    intro wx hx
    have hb := HB9.out.trans (hx.mono HB9.out.size)
    have h := check_any [97] (some ⟨g2, 0, none⟩) c2 [exA, exB] wx (HT9.out.below hx) (by decide) (by decide) (HRA.out _ hb).1 (HRA.out _ hb).2
    rw [ex9] at h
    exact h.mono fun e w' ⟨h1, h2⟩ => ⟨h1, hx.trans (h2.mono hx.size)⟩)
  have HCK2 : Hid (∀ wx, Below w9.heap.size w9 wx → Calls Tryd.prog 21 #[.slice (some ⟨g2, 0, none⟩) 2 c2, .string ⟨#[98]⟩] wx fun e w' => e = .returned (.bool false) ∧ Below w9.heap.size w9 w') := Lib.hid (by
    intro wx hx
    have hb := HB9.out.trans (hx.mono HB9.out.size)
    have h := check_any [98] (some ⟨g2, 0, none⟩) c2 [exA, exB] wx (HT9.out.below hx) (by decide) (by decide) (HRA.out _ hb).1 (HRA.out _ hb).2
    rw [ex10] at h
    exact h.mono fun e w' ⟨h1, h2⟩ => ⟨h1, hx.trans (h2.mono hx.size)⟩)
  have HHA : Hid (∀ wx, Below w9.heap.size w9 wx → Calls Tryd.prog 25 #[.int .i64 8, .string ⟨#[]⟩] wx fun e w' => e = .returned (.string ⟨#[]⟩) ∧ Below w9.heap.size w9 w') := Lib.hid (by
    intro wx hx
    have hb := HB9.out.trans (hx.mono HB9.out.size)
    have h := hash_any 8 [] wx (HRA.out _ hb).1 (HRA.out _ hb).2 (by decide)
    rw [ex11] at h
    exact h.mono fun e w' ⟨h1, h2⟩ => ⟨h1, hx.trans (h2.mono hx.size)⟩)
  have HC0 := Lib.hid (Below_drewN (Below.refl w9.heap.size w9) 1)
  have hne : (exA.val == exB.val) = false := beq_eq_false_iff_ne.2 ex12
  have hne2 : (exA.val != exB.val) = true := bne_iff_ne.2 ex12
  generalize exA.val = vA at *
  generalize exB.val = vB at *
  clear hA hA2 hA3 hA4 hl2
  refine region_quietC (C := Below w9.heap.size w9) (by kernel_rfl) (by kernel_rfl) HC0.out ?_
  repeat (
    first
      | go_big_quiet_skip
      | (go_big_quiet_want
         go_big_quiet_op
         first
           | go_big_quiet_on
           | (apply Exists.intro
              refine ⟨fun wx hx => ?_, ?_⟩
              · first
                | (go_at_call 21; first | (with_reducible exact HCK1.out _ hx) | (with_reducible exact HCK2.out _ hx))
                | (go_at_call 25; exact HHA.out _ hx)
                | exact rfl
                | (obtain ⟨q3, r3⟩ := HCA.out _ hx; go_simp; exact rfl)
              go_big_quiet_on)))
  refine wpQuiet_nil ?_
  intro w10 hw10
  have HB10 := Lib.hid (HB9.out.trans (hw10.mono HB9.out.size))
  clear hw10
  go_wp2_with fail
  go_ret
  exact ⟨rfl, HB10.out⟩
end Go.Proofs.YtkihcigojhcmgaaDoor
