/- TopDelayed: the walk of the statement, given its first call. -/
import Derived.Test.YtinknenfhohamaaGreatDoorG27
import Derived.Test.YtinknenfhohamaaGreatDoorG35
import Derived.Test.YtinknenfhohamaaGreatDoorG36
import Derived.Test.YtinknenfhohamaaGreatDoorG25
namespace Go.Proofs.YtinknenfhohamaaGreatDoor
open Go.RowKit
set_option maxRecDepth 100000

/-- What the events of the computer are. -/
theorem run_ok (s : Nat) : ∀ m, OkM m → ∀ e ∈ runM s m, e.kd = 1 ∧ 0 ≤ e.a ∧ e.a < 80 ∧ 0 ≤ e.b ∧ e.b ≤ 255 ∧ m.t ≤ e.tm ∧ e.tm < m.t + s := by
  induction s with
  | zero => intro m _ e he; cases he
  | succ s ih =>
    intro m hm e he
    rw [runM] at he
    rcases List.mem_append.1 he with he | he
    · have hc := hm.c
      have h0 := hm.n0
      have ha := hm.a0
      obtain ⟨ks, n, a, c, t⟩ := m
      simp only at hc h0 ha
      rcases hc with rfl | rfl | rfl | rfl | rfl | rfl | rfl
      · cases ks with
        | nil => simp [stepM] at he
        | cons k ks => simp only [stepM] at he; split at he <;> simp at he
      · simp only [stepM] at he; split at he <;> simp at he
      · simp [stepM] at he
        subst he
        simp only
        refine ⟨trivial, by omega, by omega, ha.1, ha.2, by omega, by push_cast; omega⟩
      all_goals simp [stepM] at he
    · have h := ih _ (step_ok hm) e he
      rw [stepM_t] at h
      push_cast at h ⊢
      omega
theorem keys_ok (l : List (Int × Int)) (d : Int) (h : 0 ≤ d ∧ d ≤ 200) : ∀ e ∈ (typedR l).map (shiftE d), KeyOk e := by
  intro e he
  obtain ⟨x, hx, rfl⟩ := List.mem_map.1 he
  have := (typedR_facts l).2 x hx
  unfold KeyOk
  simp only [shiftE]
  omega
theorem shift_zero (L : List Ev) : L.map (shiftE 0) = L := by
  have : shiftE 0 = id := by funext e; simp [shiftE]
  rw [this, List.map_id]
theorem keysArg {W : World} {a : Option Addr} {c : Nat} {l : List (Int × Int)} {d : Int} (h : 0 ≤ d ∧ d ≤ 200) (hS : EvS W a ((typedR l).map (shiftE d))) (hn : (typedR l).map (shiftE d) = [] → a = none ∧ c = 0) : KeysArg W a c ((typedR l).map (shiftE d)) :=
  ⟨hS, hn, by rw [List.length_map]; exact (typedR_facts l).1, keys_ok l d h, (typedFrom_asc _ 0).shift d⟩
set_option maxHeartbeats 4000000 in
theorem topDelayed_any (a : Option Addr) (c : Nat) (X : List (Int × Int)) (z : Int) (w : World) (hAW : ∀ W, Calls Tryz.prog 4 #[] W fun e w' => e = .returned (.bool true) ∧ Below W.heap.size W w') (hX : PrS w a X) (hI : PrI X) (hl : X.length ≤ 9223372036854775807) (hz : I64 z) :
    Calls Tryz.prog 3 #[.slice a X.length c, .int .i64 z] w fun e w' => e = .returned (.bool true) ∧ Below w.heap.size w w' := by
  have HAW := Lib.hid (hAW w)
  have HTY := Lib.hid (fun (W : World) (h : PrS W a X) => typed_any a c X W h hI hl)
  have HX := Lib.hid hX
  have HP := Lib.hid (fun W => pickT_any z 100 W hz (by omega) (by omega))
  obtain ⟨p, ep, p0, p1⟩ := pick_some (c := z) (n := 100) (by omega)
  rw [ep] at HP
  obtain ⟨q, rfl⟩ : ∃ q : Nat, p = (q : Int) := ⟨p.toNat, by omega⟩
  obtain ⟨D, hD⟩ : ∃ D : Nat, 2 * q = D := ⟨_, rfl⟩
  have hwD : IntKind.i64.wrap (2 * (q : Int)) = (D : Int) := by rw [IntWalk.i64_in _ (by omega)]; omega
  have HD := Lib.hid hD
  have hDb : D ≤ 198 := by omega
  have HTOP := Lib.hid (top_facts X q (by omega))
  generalize X.length = m at *
  clear hAW hX hI hl hz ep p0 p1 hD
  go_enter Tryz.func3, Tryz.ntmps3
  go_wp2_with fail
  refine HAW.out.mono ?_
  rintro e w1 ⟨rfl, hb1⟩
  have HB1 := Lib.hid hb1
  clear hb1 HAW
  go_wp2_with fail
  refine (HTY.out w1 (HX.out.below HB1.out)).mono ?_
  rintro e w2 ⟨v, rfl, hr, hnil, hb2⟩
  have HR := Lib.hid (hr.mono HB1.out.size)
  have HNIL := Lib.hid hnil
  have HB2 := Lib.hid (HB1.out.trans (hb2.mono HB1.out.size))
  clear hr hnil hb2 HTY HX HB1
  go_wp2_with fail
  refine (HP.out _).mono ?_
  rintro e w3 ⟨rfl, rfl⟩
  have hK20 := (typedR_facts X).1
  have HKF := Lib.hid (typedR_facts X).2
  obtain ⟨K, hK⟩ : ∃ K, typedR X = K := ⟨_, rfl⟩
  rw [hK] at HR HNIL hK20 HKF
  have HKX := Lib.hid hK
  obtain ⟨ak, ck, rfl, -, h2, -⟩ := HR.out.isSlice
  have HS := Lib.hid h2
  obtain ⟨n, hn⟩ : ∃ n, K.length = n := ⟨_, rfl⟩
  rw [hn] at HR HNIL hK20 ⊢
  have HN := Lib.hid hn
  have HNA : Hid (K = [] → ak = none ∧ ck = 0) := Lib.hid (fun h => by have h := HNIL.out h; injection h with h1 h2 h3; exact ⟨h1, h3⟩)
  clear hK h2 hn HNIL HR
  go_wp2_with fail
  go_loopw [8, 9] (fun o i wx => ∃ j : Nat, j ≤ n ∧ i = .int .i64 j ∧ ERow wx w2.heap.size o ((K.take j).map (shiftE D)) ∧ (j = 0 → o = .slice none 0 0) ∧ Below w2.heap.size w2 wx) (fun _ i _ => n - (intOf i).toNat)
  case atStart => exact ⟨0, by omega, rfl, ERow.nil _ _, fun _ => rfl, Below.refl _ _⟩
  case round =>
    obtain ⟨j, hj, rfl, hrow, hnil, hb⟩ := hrel
    have HROW := Lib.hid hrow
    have HNL := Lib.hid hnil
    have HB := Lib.hid hb
    clear hrow hnil hb
    by_cases hlt : j < n
    · obtain ⟨e, hej⟩ : ∃ e, K[j]? = some e := ⟨_, List.getElem?_eq_getElem (by rw [HN.out]; exact hlt)⟩
      obtain ⟨bl, o, rfl, hbl, x0, x1, x2, x3⟩ := (HS.out.below HB.out) j e hej
      have hef := HKF.out e (List.mem_of_getElem? hej)
      have HNX := Lib.hid (show (K.take (j + 1)).map (shiftE D) = (K.take j).map (shiftE D) ++ [shiftE D e] by rw [take_more hej, List.map_append]; rfl)
      have HLS : Hid (((K.take j).map (shiftE D)).length = j) := Lib.hid (by rw [List.length_map, List.length_take, HN.out]; omega)
      obtain ⟨A, hA⟩ : ∃ A, (K.take j).map (shiftE D) = A := ⟨_, rfl⟩
      rw [hA] at HROW HNX HLS
      obtain ⟨t, k, ea, eb⟩ := e
      simp only [shiftE] at HNX hef x0 x1 x2 x3
      obtain ⟨t', ht'⟩ : ∃ t', t + (D : Int) = t' := ⟨_, rfl⟩
      have hw0 : IntKind.i64.wrap (t + (D : Int)) = t' := by rw [IntWalk.i64_in _ (by omega)]; exact ht'
      rw [ht'] at HNX
      have HEF := Lib.hid hef
      have n0 : (0 : Int) ≤ (j : Int) := by omega
      have n1 : (j : Int) < (n : Int) := by omega
      have hd : decide ((j : Int) < (n : Int)) = true := by rw [decide_eq_true_iff]; omega
      have hd2 : decide (j < n) = true := by rw [decide_eq_true_iff]; omega
      clear hej ht' hA hef hlt
      have hbz := HB.out.size
      obtain ⟨w3, hw3⟩ : ∃ w3, (wr.alloc (.cells #[.int .i64 t', .int .i64 k, .int .i64 ea, .int .i64 eb] 28)).alloc (.cells #[.int .i64 t', .int .i64 k, .int .i64 ea, .int .i64 eb] 28) = w3 := ⟨_, rfl⟩
      have HK3 := Lib.hid (show w3.heap[wr.heap.size + 1]? = some (.cells #[.int .i64 t', .int .i64 k, .int .i64 ea, .int .i64 eb] 28 (0, 0)) by rw [← hw3]; exact heap_last' _ _ (size_alloc _ _))
      have HR3 := Lib.hid (show ERow w3 w2.heap.size u8 A by rw [← hw3]; exact (HROW.out.alloc _).alloc _)
      have HB3 := Lib.hid (show Below w2.heap.size w2 w3 by rw [← hw3]; exact (HB.out.alloc hbz _).alloc (by rw [size_alloc]; omega) _)
      have HLA : Hid (A.length ≤ 1000) := Lib.hid (by rw [HLS.out]; omega)
      go_wp2_with (at_builtin; refine append_events rfl _ _ rfl (by rfl) (base := w2.heap.size) (L := A) (X := [⟨t', k, ea, eb⟩]) (M := A ++ [⟨t', k, ea, eb⟩]) HR3.out HB3.out.size HLA.out (by rfl) (evs_block HK3.out) (by rfl) (by omega) (by omega) rfl ?_; intro g' c' w5 hrow5 hb5 hg5 _)
      exact ⟨⟨j + 1, by omega, by push_cast; rfl, by rw [HNX.out]; have h := hrow5; rw [List.length_append] at h; exact h, fun h => by omega, HB3.out.trans hb5⟩, by simp [intOf]; omega⟩
    · obtain rfl : j = n := by omega
      have hd : decide ((j : Int) < (j : Int)) = false := by simp
      have hd2 : decide (j < j) = false := by simp
      have hall : K.take j = K := List.take_of_length_le (by rw [HN.out]; exact Nat.le_refl _)
      rw [hall] at HROW
      clear hall
      have hD2 : (2 * (q : Int)) = (D : Int) := by have := HD.out; omega
      have hT := HTOP.out
      rw [hD2, HD.out, HKX.out, HN.out] at hT
      obtain ⟨E1, hE1⟩ : ∃ E1, runM 3000 (startM K) = E1 := ⟨_, rfl⟩
      rw [hE1] at hT
      obtain ⟨t1, t2, t3, t4⟩ := hT
      have hok1 : OkM (startM K) := start_ok (by rw [HN.out]; exact hK20) (fun k hk => by have := HKF.out k hk; exact ⟨this.2.2.1, this.2.2.2.1⟩)
      have HRO : Hid (∀ e ∈ E1, e.kd = 1 ∧ 0 ≤ e.a ∧ e.a < 80 ∧ 0 ≤ e.b ∧ e.b ≤ 255 ∧ 0 ≤ e.tm ∧ e.tm < 3000) := Lib.hid (fun e he => by
        have h := run_ok 3000 _ hok1 e (by rw [hE1]; exact he)
        simp only [startM] at h
        omega)
      have HRO2 : Hid (∀ e ∈ E1.map (shiftE D), e.kd = 1 ∧ 0 ≤ e.a ∧ e.a < 80 ∧ 0 ≤ e.b ∧ e.b ≤ 255 ∧ 0 ≤ e.tm ∧ e.tm < 4000) := Lib.hid (fun e he => by
        obtain ⟨x, hx, rfl⟩ := List.mem_map.1 he
        have h := HRO.out x hx
        simp only [shiftE]
        omega)
      have hev : ∀ L : List Ev, (∀ e ∈ L, e.kd = 1 ∧ 0 ≤ e.a ∧ e.a < 80 ∧ 0 ≤ e.b ∧ e.b ≤ 255 ∧ 0 ≤ e.tm ∧ e.tm < 4000) → EvI L := fun L h e he => by
        have := h e he
        unfold I64
        omega
      have HEI1 := Lib.hid (hev E1 (fun e he => by have := HRO.out e he; omega))
      have HEI2 := Lib.hid (hev _ HRO2.out)
      have HSH1 : Hid (Shows E1) := Lib.hid (fun e he => by have := HRO.out e he; omega)
      have HSH2 : Hid (Shows (E1.map (shiftE D))) := Lib.hid (fun e he => by have := HRO2.out e he; omega)
      have HP1 := Lib.hid (fun (W : World) (h : EvS W ak K) => perform_any ak ck K 3000 E1 W (by have := keysArg (l := X) (d := 0) (a := ak) (c := ck) (W := W) (by omega) (by rw [shift_zero, HKX.out]; exact h) (by rw [shift_zero, HKX.out]; exact HNA.out); rw [shift_zero, HKX.out] at this; exact this) (by omega) hE1 (by omega))
      have HP2 := Lib.hid (fun (W : World) (b : Option Addr) (c2 : Nat) (h : EvS W b (K.map (shiftE D))) (h0 : K.map (shiftE D) = [] → b = none ∧ c2 = 0) => perform_any b c2 (K.map (shiftE D)) (3000 + D) (E1.map (shiftE D)) W (by have := keysArg (l := X) (d := D) (a := b) (c := c2) (W := W) (by omega) (by rw [HKX.out]; exact h) (by rw [HKX.out]; exact h0); rw [HKX.out] at this; exact this) (by omega) t1 (by rw [List.length_map]; omega))
      have e2 : ((3000 + D : Nat) : Int) = 3000 + (D : Int) := by push_cast; rfl
      rw [List.length_map, HN.out] at HP2
      rw [e2] at HP2
      rw [HN.out] at HP1
      have HT := Lib.hid (And.intro t2 (And.intro t3 t4))
      have HE2L : Hid ((E1.map (shiftE D)).length = j) := Lib.hid (by rw [List.length_map]; exact t2)
      have hEL : E1.length < 40 := by omega
      have HC := Lib.hid (fun (r : Rel) (a1 : Option Addr) (c1 : Nat) (a2 : Option Addr) (c2 : Nat) (W : World) (h1 : EvS W a1 E1) (h2 : EvS W a2 (E1.map (shiftE D))) => compare_in r a1 c1 E1 a2 c2 (E1.map (shiftE D)) W h1 h2 hEL (by rw [List.length_map]; exact hEL) HEI1.out HEI2.out)
      have HSC1 := Lib.hid (fun (a1 : Option Addr) (c1 : Nat) (W : World) (h1 : EvS W a1 E1) => screen_any a1 c1 E1 W h1 (by omega) HSH1.out)
      have HSC2 := Lib.hid (fun (a1 : Option Addr) (c1 : Nat) (W : World) (h1 : EvS W a1 (E1.map (shiftE D))) => screen_any a1 c1 (E1.map (shiftE D)) W h1 (by rw [List.length_map]; omega) HSH2.out)
      rw [HE2L.out] at HC HSC2
      rw [t2] at HC HSC1
      rw [screen_shift] at HSC2
      obtain ⟨SB, hSB⟩ : ∃ SB : ByteArray, ⟨(screenR E1).toArray⟩ = SB := ⟨_, rfl⟩
      rw [hSB] at HSC1 HSC2
      obtain ⟨M1, hM1⟩ : ∃ M1, K.map (shiftE D) = M1 := ⟨_, rfl⟩
      obtain ⟨E2, hE2⟩ : ∃ E2, E1.map (shiftE D) = E2 := ⟨_, rfl⟩
      rw [hM1] at HROW HP2
      rw [hE2] at HC HSC2 HP2 HE2L HT
      have HNM : Hid (M1 = [] → j = 0) := Lib.hid (fun h => by rw [← hM1] at h; have := congrArg List.length h; rw [List.length_map, HN.out] at this; exact this)
      have HML : Hid (M1.length = j) := Lib.hid (by rw [← hM1, List.length_map, HN.out])
      clear t1 t2 t3 t4 hE1 hok1 hev e2 hSB hM1 hE2 hD2 HRO HRO2 HEI1 HEI2 HSH1 HSH2 HTOP hEL
      obtain ⟨am, cm, rfl, -, hsm, -⟩ := HROW.out.isSlice
      rw [HML.out] at HNL ⊢
      have HSM := Lib.hid hsm
      have HNM2 : Hid (M1 = [] → am = none ∧ cm = 0) := Lib.hid (fun h => by have h := HNL.out (HNM.out h); injection h with h1 h2 h3; exact ⟨h1, h3⟩)
      clear hsm HROW HNL HNM
      go_wp2_with fail
      refine (HP1.out wr (HS.out.below HB.out)).mono ?_
      rintro e w4 ⟨v1, rfl, hr4, hb4⟩
      obtain ⟨a1, c1, rfl, -, hs4, -⟩ := hr4.isSlice
      have HL1 := Lib.hid HT.out.1
      rw [HL1.out]
      have HE4 := Lib.hid hs4
      have HB4 := Lib.hid (HB.out.trans (hb4.mono HB.out.size))
      have HM4 := Lib.hid (HSM.out.below hb4)
      clear hr4 hb4 hs4 HP1 HSM
      go_wp2_with fail
      refine (HP2.out w4 am cm HM4.out HNM2.out).mono ?_
      rintro e w5 ⟨v2, rfl, hr5, hb5⟩
      obtain ⟨a2, c2, rfl, -, hs5, -⟩ := hr5.isSlice
      rw [HE2L.out]
      have HE5 := Lib.hid hs5
      have HA5 := Lib.hid (HE4.out.below hb5)
      have HB5 := Lib.hid (HB4.out.trans (hb5.mono HB4.out.size))
      clear hr5 hb5 hs5 HP2 HM4 HNM2 HE4 HML HE2L HL1
      obtain ⟨hT1, hT2, hT3⟩ := HT.out
      obtain ⟨i1, hi1⟩ : ∃ i1, (compareR ⟨2, (D : Int), true⟩ E1 E2).1 = i1 := ⟨_, rfl⟩
      have HC1 := Lib.hid (fun W h1 h2 => HC.out ⟨2, (D : Int), true⟩ a1 c1 a2 c2 W h1 h2)
      simp only [relV, cmpV, hT2, hi1] at HC1
      obtain ⟨mx, hmx⟩ : ∃ mx, max 0 ((D : Int) - 1) = mx := ⟨_, rfl⟩
      rw [hmx] at hT3
      obtain ⟨i2, hi2⟩ : ∃ i2, (compareR ⟨2, mx, true⟩ E1 E2).1 = i2 := ⟨_, rfl⟩
      have HC2 := Lib.hid (fun W h1 h2 => HC.out ⟨2, mx, true⟩ a1 c1 a2 c2 W h1 h2)
      simp only [relV, cmpV, hT3, hi2] at HC2
      have hrm := fun ats ty wx => run_max2 (P := Tryz.prog) ats ty 0 ((D : Int) - 1) wx
      rw [hmx] at hrm
      have HS1 := Lib.hid (fun W h1 => HSC1.out a1 c1 W h1)
      have HS2 := Lib.hid (fun W h1 => HSC2.out a2 c2 W h1)
      clear hT1 hT2 hT3 hi1 hi2 hmx HT HC HSC1 HSC2
      go_wp2_with fail
      refine (HC1.out w5 HA5.out HE5.out).mono ?_
      rintro e w6 ⟨rfl, hb6⟩
      have HE6 := Lib.hid (HE5.out.below hb6)
      have HA6 := Lib.hid (HA5.out.below hb6)
      have HB6 := Lib.hid (HB5.out.trans (hb6.mono HB5.out.size))
      clear hb6 HE5 HA5 HC1
      go_wp2_with fail
      refine (HC2.out w6 HA6.out HE6.out).mono ?_
      rintro e w7 ⟨rfl, hb7⟩
      have HE7 := Lib.hid (HE6.out.below hb7)
      have HA7 := Lib.hid (HA6.out.below hb7)
      have HB7 := Lib.hid (HB6.out.trans (hb7.mono HB6.out.size))
      clear hb7 HE6 HA6 HC2 hrm
      obtain ⟨nb, hnb⟩ : ∃ nb, decide ((D : Int) = 0 ∨ j = 0) = nb := ⟨_, rfl⟩
      rw [hnb]
      have HNB := Lib.hid hnb
      clear hnb
      go_wp2_with fail
      refine (HS1.out w7 HA7.out).mono ?_
      rintro e w8 ⟨rfl, hb8⟩
      have HE8 := Lib.hid (HE7.out.below hb8)
      have HB8 := Lib.hid (HB7.out.trans (hb8.mono HB7.out.size))
      clear hb8 HE7 HA7 HS1
      go_wp2_with fail
      refine (HS2.out w8 HE8.out).mono ?_
      rintro e w9 ⟨rfl, hb9⟩
      have HB9 := Lib.hid (HB8.out.trans (hb9.mono HB8.out.size))
      have HFIN : Hid (Below w.heap.size w w9) := Lib.hid (HB2.out.trans (HB9.out.mono HB2.out.size))
      clear hb9 HE8 HS2 HB9 HB8 HB7 HB6 HB5 HB4
      by_cases hD0 : (D : Int) = 0
      · have hq : ((D : Int) == 0) = true := beq_iff_eq.2 hD0
        obtain rfl : nb = true := by rw [← HNB.out]; simp [hD0]
        clear hD0
        go_wp2_with fail
        go_ret
        exact ⟨rfl, HFIN.out⟩
      · have hq : ((D : Int) == 0) = false := beq_eq_false_iff_ne.2 hD0
        by_cases hj0 : j = 0
        · have hr : ((j : Int) == 0) = true := by rw [beq_iff_eq]; omega
          have hr2 : (j == 0) = true := by rw [beq_iff_eq]; exact hj0
          obtain rfl : nb = true := by rw [← HNB.out]; simp [hj0]
          clear hj0 hD0
          go_wp2_with fail
          go_ret
          exact ⟨rfl, HFIN.out⟩
        · have hr : ((j : Int) == 0) = false := by rw [beq_eq_false_iff_ne]; omega
          have hr2 : (j == 0) = false := by rw [beq_eq_false_iff_ne]; exact hj0
          obtain rfl : nb = false := by rw [← HNB.out]; rw [decide_eq_false_iff_not]; intro h; rcases h with h | h; exact hD0 h; exact hj0 h
          clear hj0 hD0
          go_wp2_with fail
          go_ret
          exact ⟨rfl, HFIN.out⟩
end Go.Proofs.YtinknenfhohamaaGreatDoor
