/- The inputs of the statements: pick, relation, agree, Some. append onto a slice of events without room: nothing is appended and the slice stays, or a new row is laid. -/
import Derived.Test.YthblehinmbgbdaaG24
import Derived.Test.YthblehinmbgbdaaG23
import Derived.Test.YthblehinmbgbdaaG17
import Derived.Deep.RegionHeld3
import Derived.Test.YthblehinmbgbdaaG08
import Derived.Deep.AppendSrc
import Derived.Deep.Upon
namespace Go.Proofs.Ythblehinmbgbdaa
open Go.RowKit
set_option maxRecDepth 100000

theorem pickL_any (c n : Int) (w : World) (hc : I64 c) (hn : 1 ≤ n) (hn2 : n ≤ 100000) :
    Calls Try.prog 14 #[.int .i64 c, .int .i64 n] w fun e w' => e = .returned (.int .i64 (pick c n)) ∧ w = w' := by
  obtain ⟨h0, h1⟩ := hc
  by_cases hc : c < 0
  · go_enter Try.func14, Try.ntmps14
    go_wp2
    go_ret
    refine ⟨ret_int ?_, rfl⟩
    unfold pick
    rw [if_pos hc, ← Int.tmod_eq_emod_of_nonneg (by omega), Int.neg_tmod]
  · go_enter Try.func14, Try.ntmps14
    go_wp2
    go_ret
    refine ⟨ret_int ?_, rfl⟩
    unfold pick
    rw [if_neg (by omega)]
theorem pickR_any (c n : Int) (w : World) (hc : I64 c) (hn : 1 ≤ n) (hn2 : n ≤ 100000) :
    Calls Try.prog 30 #[.int .i64 c, .int .i64 n] w fun e w' => e = .returned (.int .i64 (pick c n)) ∧ w = w' := by
  obtain ⟨h0, h1⟩ := hc
  by_cases hc : c < 0
  · go_enter Try.func30, Try.ntmps30
    go_wp2
    go_ret
    refine ⟨ret_int ?_, rfl⟩
    unfold pick
    rw [if_pos hc, ← Int.tmod_eq_emod_of_nonneg (by omega), Int.neg_tmod]
  · go_enter Try.func30, Try.ntmps30
    go_wp2
    go_ret
    refine ⟨ret_int ?_, rfl⟩
    unfold pick
    rw [if_neg (by omega)]
theorem pick_small {c n : Int} (hn : 1 ≤ n) : ∃ p, pick c n = p ∧ 0 ≤ p ∧ p < n := ⟨_, rfl, pick_lo hn, pick_hi hn⟩
set_option maxHeartbeats 1000000 in
theorem relation_any (x y z : Int) (w : World) (hx : I64 x) (hy : I64 y) (hz : I64 z) :
    Calls Try.prog 15 #[.agg #[.int .i64 x, .int .i64 y, .int .i64 z]] w fun e w' => e = .returned (relV (relOf x y z)) ∧ Below w.heap.size w w' := by
  have HR := Lib.hid (show relV (relOf x y z) = .agg #[.int .i64 (2 * pick x 32), .int .i64 (pick y 6), .bool (decide (pick z 2 = 0))] from rfl)
  rw [HR.out]
  have HP0 := Lib.hid (fun W => pickL_any x 32 W hx (by omega) (by omega))
  have HP1 := Lib.hid (fun W => pickL_any y 6 W hy (by omega) (by omega))
  have HP2 := Lib.hid (fun W => pickL_any z 2 W hz (by omega) (by omega))
  obtain ⟨p0, e0, b0, b1⟩ := pick_small (c := x) (n := 32) (by omega)
  obtain ⟨p1, e1, b2, b3⟩ := pick_small (c := y) (n := 6) (by omega)
  obtain ⟨p2, e2, b4, b5⟩ := pick_small (c := z) (n := 2) (by omega)
  rw [e0] at HP0 ⊢
  rw [e1] at HP1 ⊢
  rw [e2] at HP2 ⊢
  have hw : IntKind.i64.wrap (2 * p0) = 2 * p0 := by rw [IntKind.wrap_i64]; omega
  clear HR hx hy hz e0 e1 e2
  go_enter Try.func15, Try.ntmps15
  go_upto_region 1 with fail
  go_region_held3 (fun w' => w'.cell? ⟨w.heap.size, 0, none⟩ = some (.int .i64 x) ∧ w'.cell? ⟨w.heap.size, 1, none⟩ = some (.int .i64 y) ∧ w'.cell? ⟨w.heap.size, 2, none⟩ = some (.int .i64 z)) (go_keep)
    ((first
      | (go_at_call_of 14 (Value.int IntKind.i64 x); refine (HP0.out _).mono ?_; rintro e w' ⟨rfl, rfl⟩)
      | (go_at_call_of 14 (Value.int IntKind.i64 y); refine (HP1.out _).mono ?_; rintro e w' ⟨rfl, rfl⟩)
      | (go_at_call_of 14 (Value.int IntKind.i64 z); refine (HP2.out _).mono ?_; rintro e w' ⟨rfl, rfl⟩)))
  all_goals
    go_wp2_with fail
    refine bodyPost_ret (v := .agg #[.int .i64 (2 * p0), .int .i64 p1, .bool (p2 == 0)]) (results_cell_row (p := 2) (ty := 23) rfl _ _ (w.heap.size + 1) 23 #[.int .i64 (2 * p0), .int .i64 p1, .bool (p2 == 0)] (0, 0) _ (by rfl) (heap_last' _ _ (size_alloc _ _)) Try.underlying23 rfl (by kernel_rfl)) rfl ⟨rfl, ?_⟩
    exact (((Below.refl w.heap.size w).alloc (Nat.le_refl _) _).alloc (by rw [size_alloc]; omega) _).drew
/-- Numbers that the machine can hold. -/
def EvI (X : List Ev) : Prop := ∀ e ∈ X, I64 e.tm ∧ I64 e.kd ∧ I64 e.a ∧ I64 e.b
theorem EvI.tm {X : List Ev} (h : EvI X) : TmI X := fun e he => (h e he).1
theorem EvI.cl {X : List Ev} (h : EvI X) : ClI X := fun e he => (h e he).2
theorem Sml.evI {m : Int} {X : List Ev} (h : Sml m X) (hm : m ≤ 20000) : EvI X := fun e he => by
  have := h e he
  unfold I64
  omega
theorem compare_in (r : Rel) (a : Option Addr) (c : Nat) (X : List Ev) (a' : Option Addr) (c' : Nat) (Y : List Ev) (w : World) (hS : EvS w a X) (hM : EvS w a' Y) (hX : X.length < 40) (hY : Y.length < 40) (hI : EvI X) (hJ : EvI Y) :
    Calls Try.prog 23 #[relV r, .slice a X.length c, .slice a' Y.length c'] w fun e w' => e = .returned (cmpV (compareR r X Y)) ∧ Below w.heap.size w w' := compare_any' r a c X a' c' Y w hS hM hX hY hI.tm hJ.tm hI.cl hJ.cl
set_option maxHeartbeats 1000000 in
theorem agree_any (r : Rel) (a : Option Addr) (c : Nat) (X : List Ev) (a' : Option Addr) (c' : Nat) (Y : List Ev) (w : World) (hS : EvS w a X) (hM : EvS w a' Y) (hX : X.length < 40) (hY : Y.length < 40) (hI : EvI X) (hJ : EvI Y) :
    Calls Try.prog 29 #[relV r, .slice a X.length c, .slice a' Y.length c'] w fun e w' => e = .returned (.bool (agr r X Y)) ∧ Below w.heap.size w w' := by
  have HB := Lib.hid ((Below.refl w.heap.size w).alloc (Nat.le_refl _) (.cells #[.int .i64 r.kinds, .int .i64 r.slack, .bool r.ord] 23))
  have HC := Lib.hid (compare_in r a c X a' c' Y _ (hS.below HB.out) (hM.below HB.out) hX hY hI hJ)
  have HA := Lib.hid (show agr r X Y = (compareR r X Y).2 from rfl)
  rw [HA.out]
  generalize compareR r X Y = q at *
  generalize X.length = n at *
  generalize Y.length = m at *
  simp only [relV, cmpV] at HC ⊢
  clear hS hM hX hY hI hJ HA
  go_enter Try.func29, Try.ntmps29
  go_wp2_with fail
  refine HC.out.mono ?_
  rintro e w1 ⟨rfl, hb⟩
  have HB1 := Lib.hid (HB.out.trans (hb.mono HB.out.size))
  clear hb
  go_wp2_with fail
  go_ret
  exact ⟨rfl, HB1.out⟩

/-- Quadruples that a slice holds. -/
def QdS (W : World) (a : Option Addr) (X : List Qd) : Prop := ∀ i p, X[i]? = some p → ∃ b o, a = some ⟨b, o, none⟩ ∧ b < W.heap.size ∧ W.cell? ⟨b, o + i * 4, none⟩ = some (.int .i64 p.x) ∧ W.cell? ⟨b, o + i * 4 + 1, none⟩ = some (.int .i64 p.y) ∧ W.cell? ⟨b, o + i * 4 + 2, none⟩ = some (.int .i64 p.z) ∧ W.cell? ⟨b, o + i * 4 + 3, none⟩ = some (.int .i64 p.u)
theorem QdS.below {W W1 : World} {a : Option Addr} {X : List Qd} (h : QdS W a X) (hw : Below W.heap.size W W1) : QdS W1 a X := by
  intro i s hi
  obtain ⟨b, o, ha, hb, h0, h1, h2, h3⟩ := h i s hi
  exact ⟨b, o, ha, Nat.lt_of_lt_of_le hb hw.size, ((bcell hw).1 b _ hb).trans h0, ((bcell hw).1 b _ hb).trans h1, ((bcell hw).1 b _ hb).trans h2, ((bcell hw).1 b _ hb).trans h3⟩
def QdI (X : List Qd) : Prop := ∀ p ∈ X, I64 p.x ∧ I64 p.y ∧ I64 p.z ∧ I64 p.u
theorem lastT_some (X : List Qd) : ∀ t, t ≤ lastT t (someFrom t X) ∧ lastT t (someFrom t X) ≤ t + 8 * X.length := by
  induction X with
  | nil => intro t; simp [someFrom, lastT]
  | cons q X ih =>
    intro t
    have h := ih (t + pick q.x 9)
    have h1 := pick_lo (c := q.x) (n := 9) (by omega)
    have h2 := pick_hi (c := q.x) (n := 9) (by omega)
    have e : lastT t (someFrom t (q :: X)) = lastT (t + pick q.x 9) (someFrom (t + pick q.x 9) X) := rfl
    rw [e]
    simp only [List.length_cons]
    push_cast
    omega
set_option maxHeartbeats 4000000 in
theorem some_any (a : Option Addr) (c : Nat) (X : List Qd) (w : World) (hX : QdS w a X) (hI : QdI X) (hl : X.length ≤ 9223372036854775807) :
    Calls Try.prog 12 #[.slice a X.length c] w fun e w' => ∃ v, e = .returned v ∧ ERow w' w.heap.size v (someOf X) ∧ Below w.heap.size w w' := by
  obtain ⟨n, hn⟩ : ∃ n, X.length = n := ⟨_, rfl⟩
  have HN := Lib.hid hn
  have HX := Lib.hid hX
  have HI := Lib.hid hI
  have HFIN : Hid (∀ j, j ≤ n → ¬ (j < n ∧ j < 30) → j ≤ 30 → someFrom 0 (X.take j) = someOf X) := Lib.hid (fun j h1 h2 h3 => by
    unfold someOf
    congr 1
    by_cases h : j = 30
    · rw [h]
    · rw [List.take_of_length_le (by omega), List.take_of_length_le (by omega)])
  rw [hn] at hl ⊢
  clear hn hX hI
  go_enter Try.func12, Try.ntmps12
  go_wp2_with fail
  go_loopw [3, 4, 5] (fun o t i wx => ∃ j : Nat, j ≤ n ∧ j ≤ 30 ∧ i = .int .i64 j ∧ t = .int .i64 (lastT 0 (someFrom 0 (X.take j))) ∧ ERow wx w.heap.size o (someFrom 0 (X.take j)) ∧ Below w.heap.size w wx) (fun _ _ i _ => n - (intOf i).toNat)
  case atStart => exact ⟨0, by omega, by omega, rfl, rfl, ERow.nil _ _, Below.refl _ _⟩
  case round =>
    obtain ⟨j, hj, hj30, rfl, rfl, hrow, hb⟩ := hrel
    have HROW := Lib.hid hrow
    have HB := Lib.hid hb
    clear hrow hb
    by_cases hlt : j < n ∧ j < 30
    · obtain ⟨hlt, hlt30⟩ := hlt
      obtain ⟨q, hq⟩ : ∃ q, X[j]? = some q := ⟨_, List.getElem?_eq_getElem (by rw [HN.out]; exact hlt)⟩
      obtain ⟨bl, o, rfl, hbl, x0, x1, x2, x3⟩ := HX.out j q hq
      have x0 := ((bcell HB.out).1 _ _ hbl).trans x0
      obtain ⟨i0, i1, i2, i3⟩ := HI.out q (List.mem_of_getElem? hq)
      have HNX := Lib.hid (show someFrom 0 (X.take (j + 1)) = someFrom 0 (X.take j) ++ [evQ (lastT 0 (someFrom 0 (X.take j))) q] by
        rw [show X.take (j + 1) = X.take j ++ [q] by rw [List.take_add_one, hq]; rfl, someFrom_snoc])
      have hlb : 0 ≤ lastT 0 (someFrom 0 (X.take j)) ∧ lastT 0 (someFrom 0 (X.take j)) ≤ 240 := by
        have h := lastT_some (X.take j) 0
        have h2 : (X.take j).length ≤ 30 := by rw [List.length_take]; omega
        omega
      have HLS : Hid ((someFrom 0 (X.take j)).length = j) := Lib.hid (by rw [someFrom_length, List.length_take, HN.out]; omega)
      obtain ⟨A, hA⟩ : ∃ A, someFrom 0 (X.take j) = A := ⟨_, rfl⟩
      rw [hA] at HROW HNX HLS hlb ⊢
      obtain ⟨t, ht⟩ : ∃ t, lastT 0 A = t := ⟨_, rfl⟩
      rw [ht] at HNX hlb ⊢
      have HP0 := Lib.hid (fun W => pickR_any q.x 9 W i0 (by omega) (by omega))
      have HP1 := Lib.hid (fun W => pickR_any q.y 5 W i1 (by omega) (by omega))
      have HP2 := Lib.hid (fun W => pickR_any q.z 3 W i2 (by omega) (by omega))
      have HP3 := Lib.hid (fun W => pickR_any q.u 2 W i3 (by omega) (by omega))
      obtain ⟨p0, e0, b0, b1⟩ := pick_small (c := q.x) (n := 9) (by omega)
      obtain ⟨p1, e1, b2, b3⟩ := pick_small (c := q.y) (n := 5) (by omega)
      obtain ⟨p2, e2, b4, b5⟩ := pick_small (c := q.z) (n := 3) (by omega)
      obtain ⟨p3, e3, b6, b7⟩ := pick_small (c := q.u) (n := 2) (by omega)
      rw [e0] at HP0
      rw [e1] at HP1
      rw [e2] at HP2
      rw [e3] at HP3
      have htb := hlb
      obtain ⟨t', ht'⟩ : ∃ t', t + p0 = t' := ⟨_, rfl⟩
      obtain ⟨k', hk'⟩ : ∃ k', 1 + p1 = k' := ⟨_, rfl⟩
      have HEV : Hid (evQ t q = ⟨t', k', p2, p3⟩) := Lib.hid (by rw [evQ, e0, e1, e2, e3, ht', hk'])
      have hw0 : IntKind.i64.wrap (t + p0) = t' := by rw [IntKind.wrap_i64]; omega
      have hw1 : IntKind.i64.wrap (1 + p1) = k' := by rw [IntKind.wrap_i64]; omega
      have HXS := Lib.hid (And.intro hbl (And.intro x1 (And.intro x2 x3)))
      have n0 : (0 : Int) ≤ (j : Int) := by omega
      have n1 : (j : Int) < (n : Int) := by omega
      have hd : decide ((j : Int) < (n : Int)) = true := by rw [decide_eq_true_iff]; omega
      have hd2 : decide (j < n) = true := by rw [decide_eq_true_iff]; omega
      have hd3 : decide ((j : Int) < 30) = true := by rw [decide_eq_true_iff]; omega
      have hd4 : decide (j < 30) = true := by rw [decide_eq_true_iff]; omega
      clear hq i0 i1 i2 i3 e0 e1 e2 e3 ht' hk' hA ht b0 b1 b2 b3 b4 b5 b6 b7 x1 x2 x3 hlb
      go_wp2_with fail
      refine (HP0.out _).mono ?_
      rintro e w1 ⟨rfl, rfl⟩
      clear x0 hbl
      obtain ⟨BB, hBB⟩ : ∃ BB : World → Prop, BB = fun wx => Below w.heap.size w wx := ⟨_, rfl⟩
      have HBB : Hid (∀ wx, BB wx ↔ Below w.heap.size w wx) := Lib.hid (fun wx => by rw [hBB])
      have HB0 : Hid (BB wr.drew) := Lib.hid ((HBB.out _).2 HB.out.drew)
      have HC1 : Hid (∀ wx, BB wx → Calls Try.prog 30 #[.int .i64 q.y, .int .i64 5] wx fun z w' => z = .returned (.int .i64 p1) ∧ BB w' ∧ Below wx.heap.size wx w') := Lib.hid (fun wx hx => (HP1.out wx).mono fun r w' ⟨h1, h2⟩ => ⟨h1, h2 ▸ hx, h2 ▸ Below.refl _ _⟩)
      have HC2 : Hid (∀ wx, BB wx → Calls Try.prog 30 #[.int .i64 q.z, .int .i64 3] wx fun z w' => z = .returned (.int .i64 p2) ∧ BB w' ∧ Below wx.heap.size wx w') := Lib.hid (fun wx hx => (HP2.out wx).mono fun r w' ⟨h1, h2⟩ => ⟨h1, h2 ▸ hx, h2 ▸ Below.refl _ _⟩)
      have HC3 : Hid (∀ wx, BB wx → Calls Try.prog 30 #[.int .i64 q.u, .int .i64 2] wx fun z w' => z = .returned (.int .i64 p3) ∧ BB w' ∧ Below wx.heap.size wx w') := Lib.hid (fun wx hx => (HP3.out wx).mono fun r w' ⟨h1, h2⟩ => ⟨h1, h2 ▸ hx, h2 ▸ Below.refl _ _⟩)
      have HCC : Hid (∀ wx, BB wx → wx.cell? ⟨bl, o + j * 4 + 1, none⟩ = some (.int .i64 q.y) ∧ wx.cell? ⟨bl, o + j * 4 + 2, none⟩ = some (.int .i64 q.z) ∧ wx.cell? ⟨bl, o + j * 4 + 3, none⟩ = some (.int .i64 q.u)) := Lib.hid (fun wx hx => by
        have hb := (HBB.out wx).1 hx
        obtain ⟨hbl, x1, x2, x3⟩ := HXS.out
        exact ⟨((bcell hb).1 _ _ hbl).trans x1, ((bcell hb).1 _ _ hbl).trans x2, ((bcell hb).1 _ _ hbl).trans x3⟩)
      clear hBB
      go_upto_region 7 with fail
      refine region_stage (B := BB) 22 (by kernel_rfl) (by kernel_rfl) (by intro _ _ _ d _ h; cases d <;> exact h) HB0.out ?_
      simp only [List.take_succ_cons, List.take_zero, List.drop_succ_cons, List.drop_zero]
      repeat (
        refine wpR_step (fun K hK => ?_)
        go_simp
        first
          | (refine hK _ ?_; clear hK K)
          | (apply Exists.intro
             refine ⟨fun wx hx => ?_, hK _ ?_⟩
             · first
               | exact uponR_value
               | exact uponR_skip
               | (apply uponR_enter
                  first
                  | (go_at_call_of 30 (Value.int IntKind.i64 q.y); exact HC1.out _ hx)
                  | (go_at_call_of 30 (Value.int IntKind.i64 q.z); exact HC2.out _ hx)
                  | (go_at_call_of 30 (Value.int IntKind.i64 q.u); exact HC3.out _ hx))
               | (obtain ⟨c1, c2, c3⟩ := HCC.out _ hx; go_simp; exact uponR_value)
             clear hK K))
      refine wpR_nil ?_
      refine wpT_more (fun w2 hw2 => ?_)
      have HR2 := Lib.hid (ERow.below (W := wr.drew) HROW.out.drew hw2.2)
      have HB2 := Lib.hid ((HBB.out _).1 hw2.1)
      clear hw2
      go_wp2_with fail
      have HR3 := Lib.hid (HR2.out.alloc (.cells #[.int .i64 t', .int .i64 k', .int .i64 p2, .int .i64 p3] 52))
      have HB3 := Lib.hid (HB2.out.alloc HB2.out.size (.cells #[.int .i64 t', .int .i64 k', .int .i64 p2, .int .i64 p3] 52))
      have hk3 := heap_last w2 (.cells #[.int .i64 t', .int .i64 k', .int .i64 p2, .int .i64 p3] 52)
      obtain ⟨w3, hw3⟩ : ∃ w3, w2.alloc (.cells #[.int .i64 t', .int .i64 k', .int .i64 p2, .int .i64 p3] 52) = w3 := ⟨_, rfl⟩
      obtain ⟨g3, hg3⟩ : ∃ g3, w2.heap.size = g3 := ⟨_, rfl⟩
      rw [hw3] at HR3 HB3 hk3 ⊢
      rw [hg3] at hk3 ⊢
      have HK3 := Lib.hid hk3
      have HBB3 := Lib.hid ((HBB.out _).2 HB3.out)
      clear hw3 hg3 hk3
      refine TQ_normal ⟨HBB3.out, ?_⟩
      refine wpT_more (fun w4 hw4 => ?_)
      have HB4 := Lib.hid (HB3.out.trans (hw4.2.mono HB3.out.size))
      have HR4 := Lib.hid (ERow.below HR3.out hw4.2)
      have HK4 := Lib.hid ((hw4.2.block _ (Array.getElem?_eq_some_iff.1 HK3.out).1).trans HK3.out)
      have HLA : Hid (A.length ≤ 1000) := Lib.hid (by rw [HLS.out]; omega)
      clear hw4
      go_wp2_with (at_builtin; refine append_events rfl _ _ rfl (by rfl) (base := w.heap.size) (L := A) (X := [⟨t', k', p2, p3⟩]) (M := A ++ [⟨t', k', p2, p3⟩]) HR4.out HB4.out.size HLA.out (by rfl) (evs_block HK4.out) (by rfl) (by omega) (by omega) rfl ?_; intro g' c' w5 hrow5 hb5 hg5 _)
      have HR5 := Lib.hid hrow5
      have HB5 := Lib.hid (HB4.out.trans hb5)
      have HBB5 := Lib.hid ((HBB.out _).2 HB5.out)
      clear hrow5 hb5 hg5
      refine TQ_normal ⟨HBB5.out, ?_⟩
      refine wpT_last (fun w6 hw6 => ?_)
      have HR6 := Lib.hid (ERow.below HR5.out hw6.2)
      have HB6 := Lib.hid ((HBB.out _).1 hw6.1)
      clear hw6
      go_wp2_with fail
      refine TQ_normal ?_
      go_wp2_with fail
      have HS6 : Hid (someFrom 0 (X.take (j + 1)) = A ++ [⟨t', k', p2, p3⟩]) := Lib.hid (by rw [HNX.out, HEV.out])
      have HT6 : Hid (lastT 0 (someFrom 0 (X.take (j + 1))) = t') := Lib.hid (by rw [HS6.out, lastT_snoc])
      exact ⟨⟨j + 1, by omega, by omega, by push_cast; rfl, by rw [HT6.out], by rw [HS6.out]; have h := HR6.out; rw [List.length_append] at h; exact h, HB6.out⟩, by simp [intOf]; omega⟩
    · have HF := Lib.hid (HFIN.out j hj hlt hj30)
      rw [HF.out] at HROW
      clear HFIN
      by_cases h1 : j < n
      · have hd : decide ((j : Int) < (n : Int)) = true := by rw [decide_eq_true_iff]; omega
        have hd2 : decide (j < n) = true := by rw [decide_eq_true_iff]; omega
        have hd3 : decide ((j : Int) < 30) = false := by rw [decide_eq_false_iff_not]; omega
        have hd4 : decide (j < 30) = false := by rw [decide_eq_false_iff_not]; omega
        clear hlt
        go_wp2_with fail
        go_ret
        exact ⟨_, rfl, HROW.out, HB.out⟩
      · have hd : decide ((j : Int) < (n : Int)) = false := by rw [decide_eq_false_iff_not]; omega
        have hd2 : decide (j < n) = false := by rw [decide_eq_false_iff_not]; omega
        clear hlt
        go_wp2_with fail
        go_ret
        exact ⟨_, rfl, HROW.out, HB.out⟩
end Go.Proofs.Ythblehinmbgbdaa

namespace Go.Proofs.Ythblehinmbgbdaa
open Go.RowKit
set_option maxRecDepth 100000

/-- What is appended. -/
theorem src_events {W : World} {a : Option Addr} {X : List Ev} (h : EvS W a X) (c : Nat) : Src Try.prog 4 25 (.slice a X.length c) X.length (evl X) W := by
  cases a with
  | none =>
    have : X = [] := by
      cases X with
      | nil => rfl
      | cons x X => obtain ⟨b, o, hb, -⟩ := h 0 x rfl; cases hb
    subst this
    exact Src.ofNil (e' := 52) W Try.underlying25 c
  | some ad =>
    refine Src.ofSlice (e' := 52) W Try.underlying25 ad X.length c (evl X) (evl_length X) ?_ (evl_one' X)
    intro j u hj
    obtain ⟨s, h1, h2⟩ := evl_cell X j u hj
    obtain ⟨b, o, hbo, -⟩ := h (j / 4) s h1
    injection hbo with hbo
    subst hbo
    exact evs_news h j u hj
theorem hold_events {W : World} {a : Option Addr} {A : List Ev} (h : EvS W a A) (c : Nat) : (Builtin.firstCells 4 A.length (.slice a A.length c)).run Try.prog W.drew = .ok (evl A).toArray W.drew := (src_events h c).cellsD
theorem tight_events {W : World} {a : Option Addr} {A X : List Ev} (hA : EvS W a A) {c : Nat} {x : Value} {n : Nat} (hx : Src Try.prog 4 25 x n (evl X) W) (hn : X.length = n) (hc : c = A.length) (hl : A.length + X.length ≤ 1000) (ty : TypeId) :
    ∃ a' c' w', (Builtin.append_ #[25, 25] ty #[.slice a A.length c, x]).run Try.prog W = .ok (.slice a' (A.length + X.length) c') w' ∧ EvS w' a' (A ++ X) ∧ Below W.heap.size W w' ∧ (0 < X.length → ERow w' W.heap.size (.slice a' (A.length + X.length) c') (A ++ X)) := by
  obtain ⟨i0, hi, hz0, hz1, hz2⟩ := info_parts Try.infoEvent
  subst hn
  by_cases h0 : X.length = 0
  · have hX : X = [] := List.eq_nil_of_length_eq_zero h0
    subst hX
    have := run_append_nothing (P := Try.prog) W 25 25 ty 52 i0 Try.underlying25 hi a A.length c (by omega) x (by rw [hz1]; exact hx)
    refine ⟨a, c, W, this, by simpa using hA, Below.refl _ _, fun h => absurd h (by simp)⟩
  · have hr := run_append_grow_src (P := Try.prog) W 25 25 ty 52 i0 _ Try.underlying25 hi hz0 a A.length c (evl A) (by rw [hz1]; exact hold_events hA c) x X.length (evl X) (by rw [hz1]; exact hx) (by omega) (by omega) (by rw [hz2]; exact growslice_fits (by omega) (by omega))
    have hge := grownCap_ge W (A.length + X.length) c 52
    have hle := grownCap_le_maxLen W (A.length + X.length) c 52 (by unfold maxLen; omega)
    have hrow : ERow (W.drew.alloc (.cells ((evl A ++ evl X).toArray ++ Builtin.zeroCells (Value.cells (.agg #[.int .i64 0, .int .i64 0, .int .i64 0, .int .i64 0])) (grownCap W (A.length + X.length) c 52 - (A.length + X.length))) 52)) W.heap.size (.slice (some ⟨W.heap.size, 0, none⟩) (A.length + X.length) (grownCap W (A.length + X.length) c 52)) (A ++ X) := by
      have e1 : (evl A ++ evl X).length = (A.length + X.length) * 4 := by rw [List.length_append, evl_length, evl_length]; omega
      refine ⟨by rw [evl_length], .inr ⟨W.heap.size, _, _, by rw [List.length_append], Nat.le_refl _, heap_last W.drew _, by rw [List.length_append]; exact hge, hle, ?_, ?_⟩⟩
      · rw [Array.size_append, List.size_toArray, e1]
        rw [size_zeroCells]
        show _ + _ * 4 = _
        omega
      · rw [Array.toList_append, List.length_append, evl_append, List.take_append_of_le_length (by simp [e1]), List.take_of_length_le (by simp [e1])]
    refine ⟨_, _, _, hr, ?_, ((Below.refl W.heap.size W).drew).alloc (Nat.le_refl _) _, fun _ => hrow⟩
    obtain ⟨a2, c2, h1, -, h2, -⟩ := hrow.isSlice
    injection h1 with h1 _ _
    rw [h1]
    exact h2
/-- The same at a step of a region that draws its order. -/
theorem step_tight {ops : Array Oper} {o : Oper} {a : Act} {K : Act → World → Prop} {Q : Exit → Act → World → Prop} {E : Prop} {W : World} (hgd : o.guard = none) (s x : Operand)
    (ho : o.op = .call { callee := .builtin .append, args := #[s, x], argTypes := #[25, 25] })
    {sb : Option Addr} {A X : List Ev} {k c n : Nat} {y : Value} (hs : a.eval s = .slice sb k c) (hx : a.eval x = y) (hA : EvS W sb A) (hk : A.length = k) (hc : c = k) (hsrc : Src Try.prog 4 25 y n (evl X) W) (hn : X.length = n) (hl : k + n ≤ 1000)
    (h : ∀ a' c' w', EvS w' a' (A ++ X) → Below W.heap.size W w' → (0 < n → ERow w' W.heap.size (.slice a' (k + n) c') (A ++ X)) → K (a.put o.dst (.slice a' (k + n) c')) w') :
    if Region.wanted o (yielded ops a.tmps) = true then Oper.wp Try.prog o a W K Q else E := by
  subst hk hn hc
  have hw : Region.wanted o (yielded ops a.tmps) = true := by simp [Region.wanted, hgd]
  rw [if_pos hw]
  obtain ⟨a', c', w', hrun, h1, h2, h3⟩ := tight_events hA hsrc rfl rfl hl o.type
  unfold Oper.wp
  simp [execOp, ho, resolve, invoke, builtin, hs, hx, hrun, Result.andThen]
  exact h a' c' w' h1 h2 h3
end Go.Proofs.Ythblehinmbgbdaa
