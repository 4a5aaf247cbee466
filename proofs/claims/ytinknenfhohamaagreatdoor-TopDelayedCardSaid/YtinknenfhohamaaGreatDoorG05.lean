/- symMerge of the library's sort: two sorted halves of a row are merged, and equal times keep their order. -/
import Derived.Test.YtinknenfhohamaaGreatDoorG04
namespace Go.Proofs.YtinknenfhohamaaGreatDoor
open Go.RowKit
set_option maxRecDepth 100000

/-- What symMerge does, for halves of at most f places together. -/
def SymTo (g cap N bx gl o n c : Nat) (t : Nat → Int) (f : Nat) : Prop := ∀ (A L R B : List Nat) (a m b : Nat) (w : World), L.length + R.length ≤ f → IR w g (A ++ (L ++ (R ++ B))) → TimesAt w bx gl o n c t → A.length = a → a + L.length = m → m + R.length = b → b + B.length = N →
  0 < L.length → 0 < R.length → Srt t L → Srt t R → Low L R → (∀ y ∈ L, y < n) → (∀ y ∈ R, y < n) →
  Calls Tryz.prog 152 #[.slice (some ⟨g, 0, none⟩) N cap, .int .i64 a, .int .i64 m, .int .i64 b, .func (.func 51) #[] #[.pointer (some ⟨bx, 0, none⟩)]] w fun e w' => e = .returned (.tuple #[]) ∧ ∃ S, S.Perm (L ++ R) ∧ Srt t S ∧ IR w' g (A ++ (S ++ B)) ∧ w.grownBy w' (some g)
/-- What the search has found. -/
def Found (t : Nat → Int) (L R : List Nat) (a m n0 s0 r0 s r : Nat) : Prop :=
  (s = s0 ∨ ∃ x y, L[s - 1 - a]? = some x ∧ R[n0 - s - m]? = some y ∧ ¬ t y < t x) ∧ (r = r0 ∨ ∃ x y, L[r - a]? = some x ∧ R[n0 - 1 - r - m]? = some y ∧ t y < t x)
theorem found_split {t : Nat → Int} {L R : List Nat} {a m b n0 s0 r0 s : Nat} (hF : Found t L R a m n0 s0 r0 s s) (hL : Srt t L) (hR : Srt t R) (hlow : Low L R) (hm : a + L.length = m) (hb : m + R.length = b)
    (h0 : a ≤ s0) (h1 : s0 ≤ s) (h2 : s ≤ r0) (h3 : r0 ≤ m) (h4 : n0 - s0 ≤ b) (h5 : m + r0 ≤ n0) (h6 : s0 = a ∨ n0 - s0 = b) (h7 : r0 = m ∨ n0 - r0 = m) :
    ∀ x ∈ L.take (s - a) ++ R.take (n0 - s - m), ∀ y ∈ L.drop (s - a) ++ R.drop (n0 - s - m), Bf t x y := by
  obtain ⟨f1, f2⟩ := hF
  refine split_bf (by rw [List.take_append_drop]; exact hL) (by rw [List.take_append_drop]; exact hR) (by rw [List.take_append_drop, List.take_append_drop]; exact hlow) ?_ ?_
  · rcases f1 with rfl | ⟨x, y, hx, hy, hxy⟩
    · rcases h6 with rfl | h6
      · left; simp
      · right; left; exact List.drop_of_length_le (by omega)
    · rcases Nat.eq_zero_or_pos (s - a) with h | h
      · left; rw [h]; rfl
      · right; right
        refine ⟨L.take (s - 1 - a), x, R.drop (n0 - s - m + 1), y, ?_, drop_at hy, hxy⟩
        rw [← take_at hx]; congr 1; omega
  · rcases f2 with rfl | ⟨x, y, hx, hy, hxy⟩
    · rcases h7 with rfl | h7
      · right; left; exact List.drop_of_length_le (by omega)
      · left; rw [h7]; simp
    · rcases Nat.eq_zero_or_pos (n0 - s - m) with h | h
      · left; rw [h]; rfl
      · right; right
        refine ⟨R.take (n0 - 1 - s - m), y, L.drop (s - a + 1), x, ?_, drop_at hx, hxy⟩
        rw [← take_at hy]; congr 1; omega

set_option maxHeartbeats 4000000 in
theorem symMerge_step (g cap N bx gl o n c : Nat) (t : Nat → Int) (f : Nat) (h1 : bx ≠ g) (h2 : gl ≠ g) (hN2 : N ≤ 1000) (hn : n ≤ 1000) (ih : SymTo g cap N bx gl o n c t f)
    (A L R B : List Nat) (a m b : Nat) (w : World) (hf : L.length + R.length ≤ f + 1) (hrow : IR w g (A ++ (L ++ (R ++ B)))) (hT : TimesAt w bx gl o n c t) (ha : A.length = a) (hm : a + L.length = m) (hb : m + R.length = b) (hN : b + B.length = N)
    (hl2 : 2 ≤ L.length) (hr2 : 2 ≤ R.length) (hL : Srt t L) (hR : Srt t R) (hlow : Low L R) (hLn : ∀ y ∈ L, y < n) (hRn : ∀ y ∈ R, y < n) :
    Calls Tryz.prog 152 #[.slice (some ⟨g, 0, none⟩) N cap, .int .i64 a, .int .i64 m, .int .i64 b, .func (.func 51) #[] #[.pointer (some ⟨bx, 0, none⟩)]] w fun e w' => e = .returned (.tuple #[]) ∧ ∃ S, S.Perm (L ++ R) ∧ Srt t S ∧ IR w' g (A ++ (S ++ B)) ∧ w.grownBy w' (some g) := by
  have HA := Lib.hid ha
  have HROW := Lib.hid hrow
  have HT := Lib.hid hT
  have HL := Lib.hid hL
  have HR := Lib.hid hR
  have HLOW := Lib.hid hlow
  have HLN := Lib.hid hLn
  have HRN := Lib.hid hRn
  have HIH := Lib.hid ih
  have HF := Lib.hid hf
  obtain ⟨ll, hll⟩ : ∃ ll, L.length = ll := ⟨_, rfl⟩
  obtain ⟨lr, hlr⟩ : ∃ lr, R.length = lr := ⟨_, rfl⟩
  obtain ⟨lb, hlb⟩ : ∃ lb, B.length = lb := ⟨_, rfl⟩
  have HLL := Lib.hid hll
  have HLR := Lib.hid hlr
  have HLB := Lib.hid hlb
  rw [hll] at hm hl2
  rw [hlr] at hb hr2
  rw [hlb] at hN
  have HM := Lib.hid hm
  have HB := Lib.hid hb
  have HN := Lib.hid hN
  have hma : ((m : Int) - (a : Int) == 1) = false := beq_eq_false_iff_ne.2 (by omega)
  have hma2 : ¬ ((m : Int) - (a : Int) = 1) := by omega
  have hma3 : decide ((m : Int) - (a : Int) = 1) = false := decide_eq_false hma2
  have hbm : ((b : Int) - (m : Int) == 1) = false := beq_eq_false_iff_ne.2 (by omega)
  have hbm2 : ¬ ((b : Int) - (m : Int) = 1) := by omega
  have hbm3 : decide ((b : Int) - (m : Int) = 1) = false := decide_eq_false hbm2
  obtain ⟨mid, hmid⟩ : ∃ mid : Nat, mid = (a + b) / 2 := ⟨_, rfl⟩
  have hmid1 : ((a : Int) + (b : Int)) / 2 = (mid : Int) := by omega
  obtain ⟨n0, hn0⟩ : ∃ n0 : Nat, n0 = mid + m := ⟨_, rfl⟩
  have hn1 : (mid : Int) + (m : Int) = (n0 : Int) := by omega
  have hmidb : mid ≤ 1000 := by omega
  have hbN : b ≤ N := by omega
  have hmb : m + 2 ≤ b := by omega
  have ham : a + 2 ≤ m := by omega
  obtain ⟨s0, r0, hsr⟩ : ∃ s0 r0 : Nat, (mid < m → s0 = n0 - b ∧ r0 = mid) ∧ (m ≤ mid → s0 = a ∧ r0 = m) := by
    by_cases h : mid < m
    · exact ⟨n0 - b, mid, fun _ => ⟨rfl, rfl⟩, fun h' => by omega⟩
    · exact ⟨a, m, fun h' => absurd h' h, fun _ => ⟨rfl, rfl⟩⟩
  obtain ⟨hsr1, hsr2⟩ := hsr
  have hq : a ≤ s0 ∧ s0 ≤ r0 ∧ r0 ≤ m ∧ n0 - s0 ≤ b ∧ m + r0 ≤ n0 ∧ (s0 = a ∨ n0 - s0 = b) ∧ (r0 = m ∨ n0 - r0 = m) := by
    by_cases h : mid < m
    · obtain ⟨e1, e2⟩ := hsr1 h
      refine ⟨by omega, by omega, by omega, by omega, by omega, by omega, by omega⟩
    · obtain ⟨e1, e2⟩ := hsr2 (by omega)
      refine ⟨by omega, by omega, by omega, by omega, by omega, by omega, by omega⟩
  obtain ⟨g1, g2, g3, g4, g5, g6, g7⟩ := hq
  have HG6 := Lib.hid g6
  have HG7 := Lib.hid g7
  have HMID := Lib.hid hmid
  have HN0 := Lib.hid hn0
  have HSR1 := Lib.hid hsr1
  have HSR2 := Lib.hid hsr2
  clear ha hrow hT hL hR hlow hLn hRn ih hf hll hlr hlb hm hb hN g6 g7 hmid hn0 hsr1 hsr2
  go_enter Tryz.func152, Tryz.ntmps152
  go_upto_if 140 with fail
  go_cut [20, 21] (fun s r wx => s = .int .i64 s0 ∧ r = .int .i64 r0 ∧ wx = w)
  case first => as_aux_lemma =>
    by_cases h : mid < m
    · obtain ⟨e1, e2⟩ := HSR1.out h
      have hd : decide ((mid : Int) < (m : Int)) = true := by rw [decide_eq_true_iff]; omega
      have hsub : (n0 : Int) - (b : Int) = (s0 : Int) := by have := HMID.out; have := HN0.out; have := HM.out; have := HB.out; omega
      subst e2
      clear e1
      go_wp2_with fail
      go_meet
      exact ⟨rfl, rfl, rfl⟩
    · obtain ⟨e1, e2⟩ := HSR2.out (by omega)
      have hd : decide ((mid : Int) < (m : Int)) = false := by rw [decide_eq_false_iff_not]; omega
      subst e1 e2
      go_wp2_with fail
      go_meet
      exact ⟨rfl, rfl, rfl⟩
  case rest =>
  obtain ⟨rfl, rfl, hwc⟩ := hcut
  rw [hwc]
  clear hwc
  obtain ⟨pp, hpp⟩ : ∃ pp : Nat, n0 = pp + 1 := ⟨n0 - 1, by omega⟩
  have hpp1 : (n0 : Int) - 1 = (pp : Int) := by omega
  have HPP := Lib.hid hpp
  have hppN : pp ≤ 2000 := by have := HN0.out; omega
  clear hpp
  go_wp2_with fail
  go_loopw [20, 21] (fun s r wx => ∃ (sv rv d : Nat), s = .int .i64 sv ∧ r = .int .i64 rv ∧ s0 ≤ sv ∧ sv ≤ rv ∧ rv ≤ r0 ∧ Found t L R a m n0 s0 r0 sv rv ∧ wx = w.drewN d) (fun s r _ => (intOf r).toNat - (intOf s).toNat)
  case atStart => exact ⟨s0, r0, 0, rfl, rfl, by omega, g2, by omega, ⟨.inl rfl, .inl rfl⟩, rfl⟩
  case round =>
    obtain ⟨p, q, d, rfl, rfl, hp, hpq, hqb, hfound, rfl⟩ := hrel
    have hp0 : (0 : Int) ≤ (p : Int) := by omega
    have hq0 : (0 : Int) ≤ (q : Int) := by omega
    have HTD : Hid (TimesAt (w.drewN d) bx gl o n c t) := Lib.hid HT.out
    have HRD : Hid (IR (w.drewN d) g (A ++ (L ++ (R ++ B)))) := Lib.hid HROW.out
    have HGD : Hid (w.grownBy (w.drewN d) (some g)) := Lib.hid (grown_drewN _ _ _)
    obtain ⟨wd, hwd⟩ : ∃ wd, w.drewN d = wd := ⟨_, rfl⟩
    rw [hwd] at HTD HRD HGD ⊢
    have HWD := Lib.hid hwd
    have HFO := Lib.hid hfound
    clear hwd hfound
    by_cases hlt : p < q
    · as_aux_lemma =>
      have hd : decide ((p : Int) < (q : Int)) = true := by rw [decide_eq_true_iff]; omega
      have hlt2 : (p : Int) < (q : Int) := by omega
      obtain ⟨h, hh⟩ : ∃ h : Nat, h = (p + q) / 2 := ⟨_, rfl⟩
      have e1 : ((p : Int) + (q : Int)) / 2 = (h : Int) := by omega
      have hph : p ≤ h := by omega
      have hhq : h < q := by omega
      obtain ⟨v, hv⟩ : ∃ v : Nat, n0 = v + 1 + h := ⟨n0 - 1 - h, by omega⟩
      have hv1 : (pp : Int) - (h : Int) = (v : Int) := by have := HPP.out; omega
      obtain ⟨x, hx⟩ : ∃ x, L[h - a]? = some x := ⟨_, List.getElem?_eq_getElem (by have := HM.out; rw [HLL.out]; omega)⟩
      obtain ⟨y, hy⟩ : ∃ y, R[v - m]? = some y := ⟨_, List.getElem?_eq_getElem (by have := HB.out; rw [HLR.out]; omega)⟩
      have hcx : wd.cell? ⟨g, h, none⟩ = some (.int .i64 (x : Int)) := (HRD.out h x (by have := get_left (A := A) (B := R ++ B) hx; rw [HA.out, show a + (h - a) = h by omega] at this; exact this)).1
      have hcy : wd.cell? ⟨g, v, none⟩ = some (.int .i64 (y : Int)) := (HRD.out v y (by
        have := get_left (A := A ++ L) (B := B) hy
        rw [List.length_append, HA.out, HLL.out, HM.out, show m + (v - m) = v by omega, List.append_assoc] at this; exact this)).1
      have hxn := HLN.out x (List.mem_of_getElem? hx)
      have hyn := HRN.out y (List.mem_of_getElem? hy)
      have HC := Lib.hid (fun mm => closure_at HTD.out hn hyn hxn mm)
      have hneg := cmpI_lt (t y) (t x)
      generalize cmpI (t y) (t x) = cv at *
      have w1 : IntKind.i64.wrap (v : Int) = (v : Int) := IntWalk.i64_in _ (by omega)
      have w2 : IntKind.i64.wrap ((pp : Int) - (h : Int)) = (v : Int) := by rw [hv1]; exact w1
      have hvN : v < N := by omega
      have i1 : (h : Int) < (N : Int) := by omega
      have i2 : (v : Int) < (N : Int) := by omega
      have i3 : (0 : Int) ≤ (h : Int) := by omega
      have i4 : (0 : Int) ≤ (v : Int) := by omega
      have d1 : decide (h < N) = true := by rw [decide_eq_true_iff]; omega
      have d2 : decide (v < N) = true := by rw [decide_eq_true_iff]; omega
      have HX := Lib.hid hx
      have HY := Lib.hid hy
      have HV := Lib.hid hv
      have hqr : q ≤ 1000 := by omega
      clear hh hx hy hxn hyn hv
      by_cases hxy : t y < t x
      · have hn1' : decide (cv < 0) = true := by rw [hneg]; exact decide_eq_true hxy
        have hn2' : cv < 0 := of_decide_eq_true hn1'
        clear hneg
        go_upto_region 35 with fail
        go_quiet ((go_at_call 51; exact Calls.quiet_of (HC.out _)))
        go_wp2_with fail
        go_roundw
        case rel =>
          refine ⟨p, h, d + nq, rfl, rfl, hp, hph, by omega, ⟨HFO.out.1, .inr ⟨x, y, HX.out, ?_, hxy⟩⟩, by rw [← HWD.out, World.drewN_drewN]⟩
          rw [show n0 - 1 - h - m = v - m by have := HV.out; omega]; exact HY.out
        case measure => simp [intOf]; omega
      · have hn1' : decide (cv < 0) = false := by rw [hneg]; exact decide_eq_false hxy
        have hn2' : ¬ cv < 0 := of_decide_eq_false hn1'
        clear hneg
        go_upto_region 35 with fail
        go_quiet ((go_at_call 51; exact Calls.quiet_of (HC.out _)))
        go_wp2_with fail
        go_roundw
        case rel =>
          refine ⟨h + 1, q, d + nq, by push_cast; rfl, rfl, by omega, by omega, hqb, ⟨.inr ⟨x, y, ?_, ?_, hxy⟩, HFO.out.2⟩, by rw [← HWD.out, World.drewN_drewN]⟩
          · rw [show h + 1 - 1 - a = h - a by omega]; exact HX.out
          · rw [show n0 - (h + 1) - m = v - m by have := HV.out; omega]; exact HY.out
        case measure => simp [intOf]; omega
    · obtain rfl : p = q := by omega
      have hd : decide ((p : Int) < (p : Int)) = false := by simp
      have HBF := Lib.hid (found_split HFO.out HL.out HR.out HLOW.out (by rw [HLL.out]; exact HM.out) (by rw [HLR.out]; exact HB.out) g1 hp hqb g3 g4 g5 HG6.out HG7.out)
      obtain ⟨e, he⟩ : ∃ e : Nat, e = n0 - p := ⟨_, rfl⟩
      have he1 : (n0 : Int) - (p : Int) = (e : Int) := by omega
      rw [← he] at HBF
      obtain ⟨L1, hL1⟩ : ∃ L1, L.take (p - a) = L1 := ⟨_, rfl⟩
      obtain ⟨L2, hL2⟩ : ∃ L2, L.drop (p - a) = L2 := ⟨_, rfl⟩
      obtain ⟨R1, hR1⟩ : ∃ R1, R.take (e - m) = R1 := ⟨_, rfl⟩
      obtain ⟨R2, hR2⟩ : ∃ R2, R.drop (e - m) = R2 := ⟨_, rfl⟩
      have hLL : L = L1 ++ L2 := by rw [← hL1, ← hL2, List.take_append_drop]
      have hRR : R = R1 ++ R2 := by rw [← hR1, ← hR2, List.take_append_drop]
      have hme : m ≤ e := by omega
      have heb : e ≤ b := by omega
      have hap : a ≤ p := by omega
      have hpm : p ≤ m := by omega
      have hl1 : a + L1.length = p := by rw [← hL1, List.length_take, HLL.out]; have := HM.out; omega
      have hl2' : p + L2.length = m := by rw [← hL2, List.length_drop, HLL.out]; have := HM.out; omega
      have hr1 : m + R1.length = e := by rw [← hR1, List.length_take, HLR.out]; have := HB.out; omega
      have hr2' : e + R2.length = b := by rw [← hR2, List.length_drop, HLR.out]; have := HB.out; omega
      rw [hL1, hL2, hR1, hR2] at HBF
      have hsum : p + e = mid + m := by have := HN0.out; omega
      have HLLL := Lib.hid hLL
      have HRRR := Lib.hid hRR
      have HL1 := Lib.hid hl1
      have HL2 := Lib.hid hl2'
      have HR1 := Lib.hid hr1
      have HR2 := Lib.hid hr2'
      have HE := Lib.hid he
      clear hL1 hL2 hR1 hR2 hLL hRR hl1 hl2' hr1 hr2' he hlt
      go_upto_region 39 with fail
      obtain ⟨rb, hrb⟩ : ∃ rb : Bool, rb = decide (p < m ∧ m < e) := ⟨_, rfl⟩
      have HRB := Lib.hid hrb
      clear hrb
      go_cut [185] (fun v wx => v = .bool rb ∧ wx = wd)
      case first => as_aux_lemma =>
        by_cases hp1 : p < m
        · have d1 : decide ((p : Int) < (m : Int)) = true := by rw [decide_eq_true_iff]; omega
          have d2 : decide (p < m) = true := by rw [decide_eq_true_iff]; omega
          by_cases hm1 : m < e
          · have d3 : decide ((m : Int) < (e : Int)) = true := by rw [decide_eq_true_iff]; omega
            have d4 : decide (m < e) = true := by rw [decide_eq_true_iff]; omega
            have d5 : decide (p < m ∧ m < e) = true := decide_eq_true ⟨hp1, hm1⟩
            have D5 := Lib.hid (HRB.out.trans d5)
            clear d5
            go_wp2_with fail
            go_meet
            exact ⟨by rw [D5.out], rfl⟩
          · have d3 : decide ((m : Int) < (e : Int)) = false := by rw [decide_eq_false_iff_not]; omega
            have d4 : decide (m < e) = false := by rw [decide_eq_false_iff_not]; omega
            have d5 : decide (p < m ∧ m < e) = false := decide_eq_false (fun h => hm1 h.2)
            have D5 := Lib.hid (HRB.out.trans d5)
            clear d5
            go_wp2_with fail
            go_meet
            exact ⟨by rw [D5.out], rfl⟩
        · have d1 : decide ((p : Int) < (m : Int)) = false := by rw [decide_eq_false_iff_not]; omega
          have d2 : decide (p < m) = false := by rw [decide_eq_false_iff_not]; omega
          have d5 : decide (p < m ∧ m < e) = false := decide_eq_false (fun h => hp1 h.1)
          have D5 := Lib.hid (HRB.out.trans d5)
          clear d5
          go_wp2_with fail
          go_meet
          exact ⟨by rw [D5.out], rfl⟩
      case rest =>
      obtain ⟨rfl, rfl⟩ := hcut
      go_upto_if 185 with fail
      go_cut [24] (fun v wx => v = .int .i64 e ∧ IR wx g (A ++ ((L1 ++ R1) ++ ((L2 ++ R2) ++ B))) ∧ w.grownBy wx (some g))
      case first => as_aux_lemma =>
        cases rb with
        | true =>
          have hrot : p < m ∧ m < e := of_decide_eq_true HRB.out.symm
          have hrowx : IR wc g ((A ++ L1) ++ (L2 ++ (R1 ++ (R2 ++ B)))) := by have := HRD.out; rw [HLLL.out, HRRR.out] at this; simpa [List.append_assoc] using this
          have HRO := Lib.hid (rotate_any g cap N (A ++ L1) L2 R1 (R2 ++ B) (.func (.func 51) #[] #[.pointer (some ⟨bx, 0, none⟩)]) p m e wc hrowx (by rw [List.length_append, HA.out]; exact HL1.out) HL2.out HR1.out (by have := HL2.out; omega) (by have := HR1.out; omega) (by rw [List.length_append, HLB.out]; have := HR2.out; have := HN.out; omega) hN2)
          clear hrowx
          go_wp2_with fail
          refine HRO.out.mono ?_
          rintro e5 w5 ⟨rfl, hrow5, hg5⟩
          have HR5 := Lib.hid hrow5
          have HG5 := Lib.hid (grown_trans HGD.out hg5)
          clear hrow5 hg5
          go_wp2_with fail
          go_meet
          exact ⟨rfl, by simpa [List.append_assoc] using HR5.out, HG5.out⟩
        | false =>
          have hrot : ¬ (p < m ∧ m < e) := of_decide_eq_false HRB.out.symm
          have hsame : A ++ ((L1 ++ R1) ++ ((L2 ++ R2) ++ B)) = A ++ (L ++ (R ++ B)) := by
            rw [HLLL.out, HRRR.out]
            by_cases hp1 : p < m
            · have : R1 = [] := List.length_eq_zero_iff.1 (by have := HR1.out; have : ¬ m < e := fun h => hrot ⟨hp1, h⟩; omega)
              rw [this]; simp [List.append_assoc]
            · have : L2 = [] := List.length_eq_zero_iff.1 (by have := HL2.out; omega)
              rw [this]; simp [List.append_assoc]
          have HSAME := Lib.hid hsame
          clear hsame hrot
          go_wp2_with fail
          go_meet
          exact ⟨rfl, by rw [HSAME.out]; exact HRD.out, HGD.out⟩
      case rest =>
      obtain ⟨rfl, hrow2, hg2⟩ := hcut
      obtain ⟨w2, hw2⟩ : ∃ w2, wc = w2 := ⟨_, rfl⟩
      rw [hw2] at hrow2 hg2 ⊢
      clear hw2
      have HT2 := Lib.hid (HT.out.grown hg2 h1 h2)
      have HROW2 := Lib.hid hrow2
      have HG2 := Lib.hid hg2
      have HLa : Hid (Srt t L1 ∧ Srt t L2) := Lib.hid (by have := HL.out; rw [HLLL.out] at this; exact ⟨(srt_append.1 this).1, (srt_append.1 this).2.1⟩)
      have HRa : Hid (Srt t R1 ∧ Srt t R2) := Lib.hid (by have := HR.out; rw [HRRR.out] at this; exact ⟨(srt_append.1 this).1, (srt_append.1 this).2.1⟩)
      have HLOa : Hid (Low L1 R1 ∧ Low L2 R2) := Lib.hid (by
        have := HLOW.out
        rw [HLLL.out, HRRR.out] at this
        exact ⟨fun x hx y hy => this x (List.mem_append_left _ hx) y (List.mem_append_left _ hy), fun x hx y hy => this x (List.mem_append_right _ hx) y (List.mem_append_right _ hy)⟩)
      have HLNa : Hid ((∀ y ∈ L1, y < n) ∧ ∀ y ∈ L2, y < n) := Lib.hid (by have := HLN.out; rw [HLLL.out] at this; exact ⟨fun y hy => this y (List.mem_append_left _ hy), fun y hy => this y (List.mem_append_right _ hy)⟩)
      have HRNa : Hid ((∀ y ∈ R1, y < n) ∧ ∀ y ∈ R2, y < n) := Lib.hid (by have := HRN.out; rw [HRRR.out] at this; exact ⟨fun y hy => this y (List.mem_append_left _ hy), fun y hy => this y (List.mem_append_right _ hy)⟩)
      have hmidp : p ≤ mid := by omega
      have hmide : mid ≤ e := by omega
      clear hrow2 hg2
      go_upto_region 41 with fail
      obtain ⟨rc, hrc⟩ : ∃ rc : Bool, rc = decide (a < p ∧ p < mid) := ⟨_, rfl⟩
      have Hrc := Lib.hid hrc
      clear hrc
      go_cut [199] (fun v wx => v = .bool rc ∧ wx = w2)
      case first => as_aux_lemma =>
        by_cases hp1 : a < p
        · have d1 : decide ((a : Int) < (p : Int)) = true := by rw [decide_eq_true_iff]; omega
          have d2 : decide (a < p) = true := by rw [decide_eq_true_iff]; omega
          by_cases hm1 : p < mid
          · have d3 : decide ((p : Int) < (mid : Int)) = true := by rw [decide_eq_true_iff]; omega
            have d4 : decide (p < mid) = true := by rw [decide_eq_true_iff]; omega
            have D5 := Lib.hid (Hrc.out.trans (decide_eq_true ⟨hp1, hm1⟩))
            go_wp2_with fail
            go_meet
            exact ⟨by rw [D5.out], rfl⟩
          · have d3 : decide ((p : Int) < (mid : Int)) = false := by rw [decide_eq_false_iff_not]; omega
            have d4 : decide (p < mid) = false := by rw [decide_eq_false_iff_not]; omega
            have D5 := Lib.hid (Hrc.out.trans (decide_eq_false (fun h => hm1 h.2)))
            go_wp2_with fail
            go_meet
            exact ⟨by rw [D5.out], rfl⟩
        · have d1 : decide ((a : Int) < (p : Int)) = false := by rw [decide_eq_false_iff_not]; omega
          have d2 : decide (a < p) = false := by rw [decide_eq_false_iff_not]; omega
          have D5 := Lib.hid (Hrc.out.trans (decide_eq_false (fun h => hp1 h.1)))
          go_wp2_with fail
          go_meet
          exact ⟨by rw [D5.out], rfl⟩
      case rest =>
      obtain ⟨rfl, rfl⟩ := hcut
      go_upto_if 199 with fail
      go_cut [24] (fun v wx => v = .int .i64 e ∧ ∃ S1, S1.Perm (L1 ++ R1) ∧ Srt t S1 ∧ IR wx g (A ++ (S1 ++ ((L2 ++ R2) ++ B))) ∧ w.grownBy wx (some g))
      case first => as_aux_lemma =>
        cases rc with
        | true =>
          have hrc : a < p ∧ p < mid := of_decide_eq_true Hrc.out.symm
          have HCA := Lib.hid (HIH.out A L1 R1 ((L2 ++ R2) ++ B) a p mid wc (by have h1 := HF.out; have h2 := HL1.out; have h3 := HR1.out; have h4 := HLL.out; have h5 := HLR.out; have h6 := HM.out; have h7 := HB.out; omega) (by have := HROW2.out; simpa [List.append_assoc] using this) HT2.out HA.out HL1.out (by have := HR1.out; omega) (by rw [List.length_append, List.length_append, HLB.out]; have := HL2.out; have := HR2.out; have := HN.out; omega) (by have := HL1.out; omega) (by have := HR1.out; omega) HLa.out.1 HRa.out.1 HLOa.out.1 HLNa.out.1 HRNa.out.1)
          clear hrc
          go_wp2_with fail
          refine HCA.out.mono ?_
          rintro e5 w5 ⟨rfl, S1, hp5, hs5, hrow5, hg5⟩
          have HFIN := Lib.hid (show ∃ S1, S1.Perm (L1 ++ R1) ∧ Srt t S1 ∧ IR w5 g (A ++ (S1 ++ ((L2 ++ R2) ++ B))) ∧ w.grownBy w5 (some g) from ⟨S1, hp5, hs5, hrow5, grown_trans HG2.out hg5⟩)
          clear hp5 hs5 hrow5 hg5
          go_wp2_with fail
          go_meet
          exact ⟨rfl, HFIN.out⟩
        | false =>
          have hrc : ¬ (a < p ∧ p < mid) := of_decide_eq_false Hrc.out.symm
          have HFIN : Hid (∃ S1, S1.Perm (L1 ++ R1) ∧ Srt t S1 ∧ IR wc g (A ++ (S1 ++ ((L2 ++ R2) ++ B))) ∧ w.grownBy wc (some g)) := Lib.hid (by
            refine ⟨L1 ++ R1, List.Perm.refl _, ?_, HROW2.out, HG2.out⟩
            by_cases hp1 : a < p
            · have : R1 = [] := List.length_eq_zero_iff.1 (by have := HR1.out; have : ¬ p < mid := fun h => hrc ⟨hp1, h⟩; omega)
              rw [this, List.append_nil]; exact HLa.out.1
            · have : L1 = [] := List.length_eq_zero_iff.1 (by have := HL1.out; omega)
              rw [this, List.nil_append]; exact HRa.out.1)
          clear hrc
          go_wp2_with fail
          go_meet
          exact ⟨rfl, HFIN.out⟩
      case rest =>
      obtain ⟨rfl, S1, hS1, hs1, hrow3, hg3⟩ := hcut
      obtain ⟨w3, hw3⟩ : ∃ w3, wc = w3 := ⟨_, rfl⟩
      rw [hw3] at hrow3 hg3 ⊢
      clear hw3
      have HT3 := Lib.hid (HT.out.grown hg3 h1 h2)
      have HROW3 := Lib.hid hrow3
      have HG3 := Lib.hid hg3
      have HS1 := Lib.hid hS1
      have HSS1 := Lib.hid hs1
      have HLS1 : Hid (a + S1.length = mid) := Lib.hid (by rw [hS1.length_eq, List.length_append]; have := HL1.out; have := HR1.out; omega)
      clear hrow3 hg3 hS1 hs1
      go_upto_region 43 with fail
      obtain ⟨rd, hrd⟩ : ∃ rd : Bool, rd = decide (mid < e ∧ e < b) := ⟨_, rfl⟩
      have Hrd := Lib.hid hrd
      clear hrd
      go_cut [213] (fun v wx => v = .bool rd ∧ wx = w3)
      case first => as_aux_lemma =>
        by_cases hp1 : mid < e
        · have d1 : decide ((mid : Int) < (e : Int)) = true := by rw [decide_eq_true_iff]; omega
          have d2 : decide (mid < e) = true := by rw [decide_eq_true_iff]; omega
          by_cases hm1 : e < b
          · have d3 : decide ((e : Int) < (b : Int)) = true := by rw [decide_eq_true_iff]; omega
            have d4 : decide (e < b) = true := by rw [decide_eq_true_iff]; omega
            have D5 := Lib.hid (Hrd.out.trans (decide_eq_true ⟨hp1, hm1⟩))
            go_wp2_with fail
            go_meet
            exact ⟨by rw [D5.out], rfl⟩
          · have d3 : decide ((e : Int) < (b : Int)) = false := by rw [decide_eq_false_iff_not]; omega
            have d4 : decide (e < b) = false := by rw [decide_eq_false_iff_not]; omega
            have D5 := Lib.hid (Hrd.out.trans (decide_eq_false (fun h => hm1 h.2)))
            go_wp2_with fail
            go_meet
            exact ⟨by rw [D5.out], rfl⟩
        · have d1 : decide ((mid : Int) < (e : Int)) = false := by rw [decide_eq_false_iff_not]; omega
          have d2 : decide (mid < e) = false := by rw [decide_eq_false_iff_not]; omega
          have D5 := Lib.hid (Hrd.out.trans (decide_eq_false (fun h => hp1 h.1)))
          go_wp2_with fail
          go_meet
          exact ⟨by rw [D5.out], rfl⟩
      case rest =>
      obtain ⟨rfl, rfl⟩ := hcut
      go_upto_if 213 with fail
      have HMERGE : Hid (∀ W S2, S2.Perm (L2 ++ R2) → Srt t S2 → IR W g (A ++ (S1 ++ (S2 ++ B))) → w.grownBy W (some g) → ∃ S, S.Perm (L ++ R) ∧ Srt t S ∧ IR W g (A ++ (S ++ B)) ∧ w.grownBy W (some g)) := Lib.hid (by
        intro W S2 hS2 hs2 hrow4 hg4
        obtain ⟨m1, m2⟩ := merged HBF.out HS1.out hS2 HSS1.out hs2
        exact ⟨S1 ++ S2, by rw [HLLL.out, HRRR.out]; exact m2, m1, by simpa [List.append_assoc] using hrow4, hg4⟩)
      cases rd with
      | true => as_aux_lemma =>
        have hrd : mid < e ∧ e < b := of_decide_eq_true Hrd.out.symm
        have HCA := Lib.hid (HIH.out (A ++ S1) L2 R2 B mid e b wc (by have h1 := HF.out; have h2 := HL2.out; have h3 := HR2.out; have h4 := HLL.out; have h5 := HLR.out; have h6 := HM.out; have h7 := HB.out; omega) (by have := HROW3.out; simpa [List.append_assoc] using this) HT3.out (by rw [List.length_append, HA.out]; exact HLS1.out) (by have := HL2.out; omega) HR2.out (by rw [HLB.out]; exact HN.out) (by have := HL2.out; omega) (by have := HR2.out; omega) HLa.out.2 HRa.out.2 HLOa.out.2 HLNa.out.2 HRNa.out.2)
        clear hrd
        go_wp2_with fail
        refine HCA.out.mono ?_
        rintro e5 w5 ⟨rfl, S2, hp5, hs5, hrow5, hg5⟩
        have HFIN := Lib.hid (HMERGE.out w5 S2 hp5 hs5 (by simpa [List.append_assoc] using hrow5) (grown_trans HG3.out hg5))
        clear hp5 hs5 hrow5 hg5
        go_wp2_with fail
        go_end0
        exact ⟨rfl, HFIN.out⟩
      | false => as_aux_lemma =>
        have hrd : ¬ (mid < e ∧ e < b) := of_decide_eq_false Hrd.out.symm
        have HFIN := Lib.hid (HMERGE.out wc (L2 ++ R2) (List.Perm.refl _) (by
          by_cases hp1 : mid < e
          · have : R2 = [] := List.length_eq_zero_iff.1 (by have := HR2.out; have : ¬ e < b := fun h => hrd ⟨hp1, h⟩; omega)
            rw [this, List.append_nil]; exact HLa.out.2
          · have : L2 = [] := List.length_eq_zero_iff.1 (by have := HL2.out; omega)
            rw [this, List.nil_append]; exact HRa.out.2) HROW3.out HG3.out)
        clear hrd
        go_wp2_with fail
        go_end0
        exact ⟨rfl, HFIN.out⟩
theorem symMerge_any (g cap N bx gl o n c : Nat) (t : Nat → Int) (h1 : bx ≠ g) (h2 : gl ≠ g) (hN2 : N ≤ 1000) (hn : n ≤ 1000) (f : Nat) : SymTo g cap N bx gl o n c t f := by
  induction f with
  | zero => intro A L R B a m b w hf _ _ _ _ _ _ hl hr _ _ _ _ _; omega
  | succ f ih =>
    intro A L R B a m b w hf hrow hT ha hm hb hN hl hr hL hR hlow hLn hRn
    by_cases hl1 : L.length = 1
    · obtain ⟨x, rfl⟩ := List.length_eq_one_iff.1 hl1
      exact symMerge_one g cap N bx gl o n c t A R B x a m b w hrow hT h1 h2 ha hm hb hN hN2 hn hR (fun y hy => hlow x (by simp) y hy) (hLn x (by simp)) hRn
    · by_cases hr1 : R.length = 1
      · obtain ⟨x, rfl⟩ := List.length_eq_one_iff.1 hr1
        exact symMerge_last g cap N bx gl o n c t A L B x a m b w hrow hT h1 h2 ha hm (by omega) hb hN hN2 hn hL (fun y hy => hlow y hy x (by simp)) (hRn x (by simp)) hLn
      · exact symMerge_step g cap N bx gl o n c t f h1 h2 hN2 hn ih A L R B a m b w hf hrow hT ha hm hb hN (by omega) (by omega) hL hR hlow hLn hRn
end Go.Proofs.YtinknenfhohamaaGreatDoor
