/- EvidenceRefuses: evidence with one thing wrong is none, proves nothing, and is not renewed. -/
import Derived.Test.YtkihcigojhcmgaaDoorG20
import Derived.Test.YtkihcigojhcmgaaDoorG19
import Derived.Deep.CutBlock
namespace Go.Proofs.YtkihcigojhcmgaaDoor
open Go.RowKit
set_option maxRecDepth 100000

theorem scs_set : ∀ (L : List Stp) (i k : Nat) (b c : Stp) (u : Value), L[i]? = some b → k < 4 → stc c = (stc b).set k u → (scs L).set (i * 4 + k) u = scs (L.set i c)
  | [], i, _, _, _, _, h, _, _ => by simp at h
  | t :: L, 0, k, b, c, u, h, hk, hc => by
    simp at h
    subst h
    rw [scs, List.set_cons_zero, scs, hc, List.set_append_left _ _ (by simp [stc]; omega)]
    simp
  | t :: L, i + 1, k, b, c, u, h, hk, hc => by
    rw [scs, List.set_cons_succ, scs, ← scs_set L i k b c u (by simpa using h) hk hc, List.set_append_right _ _ (by simp [stc]; omega)]
    congr 2
    simp [stc]; omega
/-- A field of a stamp is set. -/
theorem SRow.store {W : World} {base g c : Nat} {L : List Stp} (h : SRow W base (.slice (some ⟨g, 0, none⟩) L.length c) L) (i k : Nat) (b d : Stp) (u : Value) (hi : L[i]? = some b) (hk : k < 4) (hd : stc d = (stc b).set k u) :
    SRow (W.setCell ⟨g, i * 4 + k, none⟩ u) base (.slice (some ⟨g, 0, none⟩) L.length c) (L.set i d) := by
  have := (World.ownsRow.stored h (i * 4 + k) u).1
  rw [scs_set L i k b d u hi hk hd] at this
  unfold SRow
  rw [List.length_set]
  exact this
theorem SRow.cells {W : World} {base g c : Nat} {L : List Stp} (h : SRow W base (.slice (some ⟨g, 0, none⟩) L.length c) L) : ∀ j, W.frozen? ⟨g, j, none⟩ = false := fun j => World.ownsRow.frozenAt h j
/-- What the switch leaves: evidence with one thing wrong. -/
def Wrong (w : World) (V : List UInt8) (v : Value) (W : World) : Prop := ∃ a c, ∃ M : List Stp, v = .slice a M.length c ∧ StS W a M ∧ check M V = false ∧ M.length ≤ 8 ∧ M.length ≤ c ∧ Below w.heap.size w W
theorem Wrong.of {w W : World} {V : List UInt8} {g c m : Nat} {L : List Stp} {base k q : Nat} {s d : Stp} {u : Value} (h : SRow W base (.slice (some ⟨g, 0, none⟩) L.length c) L) (hm : L.length = m) (hl : L.length ≤ 8) (hc : L.length ≤ c) (hb : Below w.heap.size w W) (hg : w.heap.size ≤ g) (hi : L[k]? = some s) (hq : q < 4) (hd : stc d = (stc s).set q u) (hk : check (L.set k d) V = false) : Wrong w V (.slice (some ⟨g, 0, none⟩) m c) (W.setCell ⟨g, k * 4 + q, none⟩ u) := by
  have h1 := h.store k q s d u hi hq hd
  have hl2 : (L.set k d).length = L.length := List.length_set
  refine ⟨_, c, L.set k d, by rw [hl2, hm], ?_, hk, by omega, by omega, hb.setCell (p := ⟨g, k * 4 + q, none⟩) hg u⟩
  have h2 : SRow (W.setCell ⟨g, k * 4 + q, none⟩ u) base (.slice (some ⟨g, 0, none⟩) (L.set k d).length c) (L.set k d) := by rw [hl2]; exact h1
  exact h2.sts

set_option maxHeartbeats 2000000 in
theorem evRef_any (t : ByteArray) (ax : Option Addr) (cx : Nat) (X : List Tri) (what which nn : Int) (w : World) (hX : TrS w ax X) (hk : TriOk X) (hxl : X.length ≤ 9223372036854775807) (hwh : I64 what) (hea : I64 which) (hda : I64 nn) (_ht : t.size ≤ 9223372036854775807)
    (hw : RoundAt w) (hg : 0 < w.heap.size) :
    Calls Tryd.prog 9 #[.string t, .slice ax X.length cx, .int .i64 what, .int .i64 which, .int .i64 nn] w fun e w' => e = .returned (.bool true) ∧ Below w.heap.size w w' := by
  have HRA : Hid (∀ W, Below w.heap.size w W → RoundAt W ∧ 0 < W.heap.size) := Lib.hid (fun W hb => ⟨hw.below hg hb, Nat.lt_of_lt_of_le hg hb.size⟩)
  obtain ⟨k, V, hmin, hkt, hext, hV, -⟩ := cut60 t
  have hmm : ∀ wx, (Builtin.min_ #[3, 3] 3 #[.int .i64 (t.size : Int), .int .i64 60]).run Tryd.prog wx = .ok (.int .i64 (k : Int)) wx := fun wx => by rw [run_min2, hmin]
  have HX := Lib.hid hX
  have HK := Lib.hid hk
  have HWI := Lib.hid hwh
  have HEI := Lib.hid hea
  have HDI := Lib.hid hda
  obtain ⟨m, hm⟩ : ∃ m, X.length = m := ⟨_, rfl⟩
  rw [hm] at hxl ⊢
  have HM := Lib.hid hm
  have k0 : (0 : Int) ≤ (k : Int) := by omega
  have k1 : (k : Int) ≤ (t.size : Int) := by omega
  have HSA := Lib.hid (sane_any w (HRA.out w (Below.refl _ _)).1 (HRA.out w (Below.refl _ _)).2)
  clear hmin hm hX hk hwh hea hda hw hg
  go_enter Tryd.func9, Tryd.ntmps9
  go_wp2_with fail
  refine HSA.out.mono ?_
  rintro e w1 ⟨rfl, hb1⟩
  have HB1 := Lib.hid hb1
  have hnot : ¬ ((t.size : Int) < (k : Int)) := by omega
  have HST := Lib.hid (stamps_any V ax cx X w1 (HX.out.below hb1) HK.out (by omega) (by rw [HM.out]; exact hxl))
  rw [HM.out] at HST
  have hsz1 := hb1.size
  clear hb1 HSA
  go_wp2_with fail
  refine HST.out.mono ?_
  rintro e w2 ⟨xs, rfl, hrow2, hb2⟩
  obtain ⟨hl8, hckl, -⟩ := stampsOf_facts V X
  generalize stampsOf V X = L at *
  have HCKL := Lib.hid hckl
  clear hckl
  have HB2 := Lib.hid (HB1.out.trans (hb2.mono HB1.out.size))
  obtain ⟨n, hn⟩ : ∃ n, L.length = n := ⟨_, rfl⟩
  have HN := Lib.hid hn
  by_cases h0 : n = 0
  · subst h0
    obtain ⟨a2, cp2, h2, -, -, -⟩ := hrow2.isSlice
    subst h2
    rw [hn]
    have HCK := Lib.hid (check_any V a2 cp2 [] w2 (StS.nil _ _) (by decide) (by omega) (HRA.out w2 HB2.out).1 (HRA.out w2 HB2.out).2)
    rw [refuse_nil] at HCK
    simp only [List.length_nil] at HCK
    clear hrow2 hb2 HST hn
    go_wp2_with fail
    refine HCK.out.mono ?_
    rintro e w3 ⟨rfl, hb3⟩
    go_wp2_with fail
    go_ret
    exact ⟨rfl, HB2.out.trans (hb3.mono HB2.out.size)⟩
  · obtain ⟨g, cp2, h2, hg2, hgl⟩ := hrow2.form (by omega)
    subst h2
    have hcp2 := hrow2.cap
    have HR2 := Lib.hid hrow2
    have hp1 := pick_lo (c := which) (n := (n : Int)) (by omega)
    have hp2 := pick_hi (c := which) (n := (n : Int)) (by omega)
    have hq1 := pick_lo (c := what) (n := 6) (by omega)
    have hq2 := pick_hi (c := what) (n := 6) (by omega)
    have HP1 := Lib.hid (fun W => pick_any which (n : Int) W HEI.out (by omega) (by omega))
    have HP2 := Lib.hid (fun W => pick_any what 6 W HWI.out (by omega) (by omega))
    obtain ⟨q, hq⟩ := Int.eq_ofNat_of_zero_le hp1
    rw [hq] at HP1 hp2
    generalize pick what 6 = pw at *
    have hqn : q < n := by omega
    obtain ⟨s, hs⟩ : ∃ s, L[q]? = some s := ⟨_, List.getElem?_eq_getElem (by omega)⟩
    have hn0 : decide ((n : Int) = 0) = false := by rw [decide_eq_false_iff_not]; omega
    have hn1 : ((n : Int) == 0) = false := beq_eq_false_iff_ne.2 (by omega)
    rw [hn] at hcp2 hl8 ⊢
    have HS := Lib.hid hs
    have nn0 : (0 : Int) ≤ (n : Int) := by omega
    have hg1 : w.heap.size ≤ g := by omega
    clear hrow2 hb2 HST hn hs hq
    go_wp2_with fail
    refine (HP1.out w2).mono ?_
    rintro e w3 ⟨rfl, rfl⟩
    go_wp2_with fail
    refine (HP2.out w2).mono ?_
    rintro e w3 ⟨rfl, rfl⟩
    go_upto_block 0 with fail
    go_cut [12] (fun v wx => Wrong w V v wx)
    case first =>
      have hsS := HR2.out.sts
      obtain ⟨-, x0, x1, x2, x3⟩ := hsS.get q s HS.out
      simp only [Nat.zero_add] at x0 x1 x2 x3
      have f0 := HR2.out.cells (q * 4)
      have f1 := HR2.out.cells (q * 4 + 1)
      have f2 := HR2.out.cells (q * 4 + 2)
      have f3 := HR2.out.cells (q * 4 + 3)
      have hlq : decide (q < n) = true := by rw [decide_eq_true_iff]; omega
      have hpw : pw = 0 ∨ pw = 1 ∨ pw = 2 ∨ pw = 3 ∨ pw = 4 ∨ pw = 5 := by omega
      clear hsS
      rcases hpw with rfl | rfl | rfl | rfl | rfl | rfl
      · have HP3 := Lib.hid (fun W => pick_any nn 100 W HDI.out (by omega) (by omega))
        have r1 := pick_lo (c := nn) (n := 100) (by omega)
        have r2 := pick_hi (c := nn) (n := 100) (by omega)
        generalize pick nn 100 = pd at *
        have hw1 : IntKind.i64.wrap (-1 - pd) = -1 - pd := IntWalk.i64_in _ (by omega)
        go_wp2_with fail
        refine (HP3.out w2).mono ?_
        rintro e w3 ⟨rfl, rfl⟩
        go_wp2_with fail
        go_meet
        exact Wrong.of (q := 0) (d := { s with day := -1 - pd }) HR2.out HN.out (by rw [HN.out]; omega) (by rw [HN.out]; omega) HB2.out hg1 HS.out (by omega) rfl (refuse_ok (set_at HS.out) (bad_day s _ (by omega)))
      · have HP3 := Lib.hid (fun W => pick_any nn 100 W HDI.out (by omega) (by omega))
        have r1 := pick_lo (c := nn) (n := 100) (by omega)
        have r2 := pick_hi (c := nn) (n := 100) (by omega)
        generalize pick nn 100 = pd at *
        have hw1 : IntKind.i64.wrap (8 + pd) = 8 + pd := IntWalk.i64_in _ (by omega)
        go_wp2_with fail
        refine (HP3.out w2).mono ?_
        rintro e w3 ⟨rfl, rfl⟩
        go_wp2_with fail
        go_meet
        exact Wrong.of (q := 1) (d := { s with hash := 8 + pd }) HR2.out HN.out (by rw [HN.out]; omega) (by rw [HN.out]; omega) HB2.out hg1 HS.out (by omega) rfl (refuse_ok (set_at HS.out) (bad_hash s _ (by omega)))
      · have HP3 := Lib.hid (fun W => pick_any nn 8 W HDI.out (by omega) (by omega))
        have r1 := pick_lo (c := nn) (n := 8) (by omega)
        have r2 := pick_hi (c := nn) (n := 8) (by omega)
        obtain ⟨p, hp⟩ := Int.eq_ofNat_of_zero_le r1
        rw [hp] at HP3 r2
        have hp8 : p < 8 := by omega
        have p0 : (0 : Int) ≤ (p : Int) := by omega
        have h2p := one_shl p hp8
        have H2P := Lib.hid h2p
        clear r1 r2 hp h2p
        go_wp2_with fail
        refine (HP3.out w2).mono ?_
        rintro e w3 ⟨rfl, rfl⟩
        go_wp2_with fail
        go_meet
        rw [H2P.out]
        exact Wrong.of (q := 2) (d := { s with wit := ((2 ^ p : Nat) : Int) }) HR2.out HN.out (by rw [HN.out]; omega) (by rw [HN.out]; omega) HB2.out hg1 HS.out (by omega) rfl (refuse_ok (set_at HS.out) (bad_wit s _ hp8))
      · have HP3 := Lib.hid (fun W => pick_any nn 32 W HDI.out (by omega) (by omega))
        have r1 := pick_lo (c := nn) (n := 32) (by omega)
        have r2 := pick_hi (c := nn) (n := 32) (by omega)
        obtain ⟨p, hp⟩ := Int.eq_ofNat_of_zero_le r1
        rw [hp] at HP3 r2
        have hp8 : p < 32 := by omega
        have p0 : (0 : Int) ≤ (p : Int) := by omega
        have hvl : s.val.length = 32 := ((okS_iff s).1 (chk_ok ((check_iff _ _).1 (HCKL.out (by rw [HN.out]; omega))).2 s (List.mem_of_getElem? HS.out))).2
        obtain ⟨tb, htb⟩ : ∃ tb : ByteArray, tb = ⟨s.val.toArray⟩ := ⟨_, rfl⟩
        have htl : tb.size = 32 := by rw [htb, str_size, hvl]
        have HEX : Hid ((tb.extract 0 p) = ⟨(s.val.take p).toArray⟩) := Lib.hid (by
          rw [← bytes_eq (tb.extract 0 p), Lib.extract_data, htb]; simp)
        rw [← htb] at x3
        have HCX : Hid (∀ wx, Below w2.heap.size w2 wx → wx.cell? ⟨g, q * 4 + 3, none⟩ = some (.string tb)) := Lib.hid (fun wx hx => (hx.cell (p := ⟨g, _, none⟩) hgl).trans x3)
        have HC0 := Lib.hid (Below_drewN (Below.refl w2.heap.size w2) 1)
        have HTB := Lib.hid htb
        have e32 : (p : Int) ≤ 32 := by omega
        have e33 : ¬ ((32 : Int) < (p : Int)) := by omega
        clear r1 r2 hp hvl htb
        go_upto_region 19 with fail
        refine region_tailC (C := Below w2.heap.size w2) 12 (by kernel_rfl) (by kernel_rfl) HC0.out ?_
        simp only [List.take_succ_cons, List.take_zero, List.drop_succ_cons, List.drop_zero]
        repeat (
          first
            | go_big_quiet_skip
            | (go_big_quiet_want
               go_big_quiet_op
               first
                 | go_big_quiet_on
                 | (apply Exists.intro
                    refine ⟨fun wx hx => ?_, ?_⟩
                    · first
                      | (go_at_call 13; exact (HP3.out wx).mono fun e w' ⟨h1, h2⟩ => ⟨h1, h2 ▸ hx⟩)
                      | exact rfl
                      | (have q3 := HCX.out _ hx; go_simp; exact rfl)
                    go_big_quiet_on)))
        refine wpQuiet_nil ?_
        intro w3 hw3
        have HR3 := Lib.hid (HR2.out.below hw3)
        have HB3 := Lib.hid (HB2.out.trans (hw3.mono HB2.out.size))
        have f4 := HR3.out.cells (q * 4 + 3)
        have z3 := HCX.out _ hw3
        clear hw3 f0 f1 f2 f3 x0 x1 x2 x3
        go_wp2_with fail
        go_meet
        rw [HEX.out]
        exact Wrong.of (q := 3) (d := { s with val := s.val.take p }) HR3.out HN.out (by rw [HN.out]; omega) (by rw [HN.out]; omega) HB3.out hg1 HS.out (by omega) rfl (refuse_ok (set_at HS.out) (bad_val s _ (by rw [List.length_take]; omega)))
      · go_wp2_with fail
        go_meet
        exact ⟨some ⟨g, 0, none⟩, cp2, [], rfl, StS.nil _ _, rfl, by decide, by simp, HB2.out⟩
      · have hvall : ∀ (i : Nat) (a : Stp), L[i]? = some a → 0 ≤ a.day ∧ a.day ≤ 100000 := fun i a hi => by
          obtain ⟨v0, v1, -⟩ := (valid_iff a).1 (check_valid (HCKL.out (by rw [HN.out]; omega)) hi)
          exact ⟨v0, v1⟩
        obtain ⟨s0, hs0⟩ : ∃ s, L[0]? = some s := ⟨_, List.getElem?_eq_getElem (by rw [HN.out]; omega)⟩
        have HS0 := Lib.hid hs0
        have g2 := HR2.out.cells (0 * 4 + 2)
        rw [show 0 * 4 + 2 = 2 from rfl] at g2
        obtain ⟨-, -, -, c2, -⟩ := HR2.out.sts.get 0 s0 hs0
        rw [show 0 + 0 * 4 + 2 = 2 from rfl] at c2
        have hend : Hid (Wrong w V (.slice (some ⟨g, 0, none⟩) n cp2) (w2.setCell ⟨g, 2, none⟩ (.int .i64 256))) := Lib.hid (Wrong.of (k := 0) (q := 2) (d := { s0 with wit := 256 }) HR2.out HN.out (by rw [HN.out]; omega) (by rw [HN.out]; omega) HB2.out hg1 HS0.out (by omega) rfl (refuse_ok (set_at HS0.out) (bad_wit2 s0)))
        have i0 : (0 : Int) < (n : Int) := by omega
        have i00 : decide (0 < n) = true := by rw [decide_eq_true_iff]; omega
        clear hs0 f0 f1 f2 f3 x0 x1 x2 x3
        by_cases h2 : 1 < n
        · obtain ⟨n2, hn2⟩ : ∃ n2, n = n2 + 2 := ⟨n - 2, by omega⟩
          obtain ⟨n1, hn1⟩ : ∃ n1, n1 = n2 + 1 := ⟨_, rfl⟩
          obtain ⟨sz, hsz⟩ : ∃ s, L[n1]? = some s := ⟨_, List.getElem?_eq_getElem (by rw [HN.out]; omega)⟩
          obtain ⟨sy, hsy⟩ : ∃ s, L[n2]? = some s := ⟨_, List.getElem?_eq_getElem (by rw [HN.out]; omega)⟩
          have hsS := HR2.out.sts
          obtain ⟨-, z0, -, -, -⟩ := hsS.get n1 sz hsz
          obtain ⟨-, y0, -, -, -⟩ := hsS.get n2 sy hsy
          simp only [Nat.zero_add] at z0 y0
          obtain ⟨v0, v1⟩ := hvall n2 sy hsy
          have HSZ := Lib.hid hsz
          have HSY := Lib.hid hsy
          have HE := Lib.hid hn1
          have e1 : (n : Int) - 1 = (n1 : Int) := by omega
          have e2 : (n : Int) - 2 = (n2 : Int) := by omega
          have e3 : IntKind.i64.wrap (n1 : Int) = (n1 : Int) := IntWalk.i64_in _ (by omega)
          have e4 : IntKind.i64.wrap (n2 : Int) = (n2 : Int) := IntWalk.i64_in _ (by omega)
          have e5 : IntKind.i64.wrap ((n : Int) - 1) = (n1 : Int) := by rw [e1]; exact e3
          have e6 : IntKind.i64.wrap ((n : Int) - 2) = (n2 : Int) := by rw [e2]; exact e4
          have i1 : (n1 : Int) < (n : Int) := by omega
          have i2 : (n2 : Int) < (n : Int) := by omega
          have i3 : n1 < n := by omega
          have i4 : n2 < n := by omega
          have i5 : (0 : Int) ≤ (n1 : Int) := by omega
          have i6 : (0 : Int) ≤ (n2 : Int) := by omega
          have d1 : decide (1 < (n : Int)) = true := by rw [decide_eq_true_iff]; omega
          have d2 : decide (n1 < n) = true := by rw [decide_eq_true_iff]; omega
          have d3 : decide (n2 < n) = true := by rw [decide_eq_true_iff]; omega
          have d4 : decide (1 < n) = true := by rw [decide_eq_true_iff]; omega
          clear hvall hsS hsz hsy hn1 hn2 h2
          by_cases hz : 0 < sz.day
          · have d5 : decide (0 < sz.day) = true := by rw [decide_eq_true_iff]; omega
            have hw1 : IntKind.i64.wrap (sy.day - 1) = sy.day - 1 := IntWalk.i64_in _ (by omega)
            have f4 := HR2.out.cells (n1 * 4)
            clear g2
            go_wp2_with fail
            go_meet
            exact Wrong.of (k := n1) (q := 0) (d := { sz with day := sy.day - 1 }) HR2.out HN.out (by rw [HN.out]; omega) (by rw [HN.out]; omega) HB2.out hg1 HSZ.out (by omega) rfl (refuse_sort (n := n2) (a := sy) (b := { sz with day := sy.day - 1 }) (by rw [set_off (by rw [HE.out]; omega)]; exact HSY.out) (by rw [← HE.out]; exact set_at HSZ.out) (by show sy.day - 1 < sy.day; omega))
          · have d5 : decide (0 < sz.day) = false := by rw [decide_eq_false_iff_not]; omega
            clear hz y0
            go_wp2_with fail
            go_meet
            exact hend.out
        · have d1 : decide (1 < (n : Int)) = false := by rw [decide_eq_false_iff_not]; omega
          clear hvall h2
          go_wp2_with fail
          go_meet
          exact hend.out
    case rest =>
      obtain ⟨a3, c3, M, rfl, hS3, hck3, hl3, hc3, hb3⟩ := hcut
      have HB3 := Lib.hid hb3
      have HS3 := Lib.hid hS3
      have HCK := Lib.hid hck3
      obtain ⟨m3, hm3⟩ : ∃ m3, M.length = m3 := ⟨_, rfl⟩
      have HM3 := Lib.hid hm3
      have HSI : Hid (∀ W, Below wc.heap.size wc W → Calls Tryd.prog 14 #[.slice a3 m3 c3, .string ⟨V.toArray⟩, .slice none 0 0, .int .i64 1000] W fun e w' => e = .returned (dayV none) ∧ Below W.heap.size W w') := Lib.hid (by
        intro W hW
        have hb' := HB3.out.trans (hW.mono HB3.out.size)
        have h := sinceIs (since_no (bs := []) (day := 1000) HCK.out) a3 c3 none 0 W (HS3.out.below hW) (by omega) (by omega) (by omega) (BrS.nil _ _) (by decide) (HRA.out W hb').1 (HRA.out W hb').2
        rw [HM3.out] at h
        exact h)
      rw [hm3]
      have HCA : Hid (∀ W, Below wc.heap.size wc W → Calls Tryd.prog 21 #[.slice a3 m3 c3, .string ⟨V.toArray⟩] W fun e w' => e = .returned (.bool false) ∧ Below W.heap.size W w') := Lib.hid (by
        intro W hW
        have hb' := HB3.out.trans (hW.mono HB3.out.size)
        have h := check_any V a3 c3 M W (HS3.out.below hW) (by omega) (by omega) (HRA.out W hb').1 (HRA.out W hb').2
        rw [HCK.out, HM3.out] at h
        exact h)
      have HRN : Hid (∀ W, Below wc.heap.size wc W → Calls Tryd.prog 18 #[.slice a3 m3 c3, .string ⟨V.toArray⟩, .int .i64 1000, .int .i64 1, .int .i64 7] W fun e w' => Gave W none e w') := Lib.hid (by
        intro W hW
        have hb' := HB3.out.trans (hW.mono HB3.out.size)
        have h := renew_any V a3 c3 M 1000 1 7 W (HS3.out.below hW) (by omega) (by omega) (HRA.out W hb').1 (HRA.out W hb').2
        rw [refuse_renew _ HCK.out, HM3.out] at h
        exact h)
      clear hS3 hck3 hl3 hc3 hb3 hm3
      simp only [dayV] at HSI
      go_wp2_with fail
      refine (HSI.out wc (Below.refl _ _)).mono ?_
      rintro e w4 ⟨rfl, hb4⟩
      have HB4 := Lib.hid hb4
      clear hb4 HSI
      go_wp2_with fail
      refine (HRN.out w4 HB4.out).mono ?_
      rintro e w5 ⟨hb5, rfl⟩
      have HB5 := Lib.hid (HB4.out.trans (hb5.mono HB4.out.size))
      clear hb5 HRN HB4
      go_wp2_with fail
      refine (HCA.out w5 HB5.out).mono ?_
      rintro e w6 ⟨rfl, hb6⟩
      have HB6 := Lib.hid (HB5.out.trans (hb6.mono HB5.out.size))
      clear hb6 HCA HB5
      go_wp2_with fail
      go_ret
      exact ⟨rfl, HB3.out.trans (HB6.out.mono HB3.out.size)⟩
end Go.Proofs.YtkihcigojhcmgaaDoor
