/- A stamp that was not good any more on the day of the next one proves nothing: plain mathematics. EvidenceGap: a stamp that was not good any more on the day of the next one proves nothing, and neither does what stands ahead of it. -/
import Derived.Test.YtkihcigojhcmgaaDoorG16
import Derived.Test.YtkihcigojhcmgaaDoorG17
namespace Go.Proofs.YtkihcigojhcmgaaDoor

theorem check_le {L : List Stp} {v : List UInt8} (h : check L v = true) {i j : Nat} {a b : Stp} (hi : L[i]? = some a) (hj : L[j]? = some b) (hij : i ≤ j) : a.day ≤ b.day := by
  have hs := chk_sorted ((check_iff _ _).1 h).2
  obtain ⟨hi1, rfl⟩ := List.getElem?_eq_some_iff.1 hi
  obtain ⟨hj1, rfl⟩ := List.getElem?_eq_some_iff.1 hj
  rcases Nat.lt_or_ge i j with hlt | hge
  · exact List.pairwise_iff_getElem.1 hs i j hi1 hj1 hlt
  · obtain rfl : i = j := by omega
    exact Int.le_refl _
theorem check_valid {L : List Stp} {v : List UInt8} (h : check L v = true) {i : Nat} {a : Stp} (hi : L[i]? = some a) : valid a = true :=
  ((okS_iff a).1 (chk_ok ((check_iff _ _).1 h).2 a (List.mem_of_getElem? hi))).1
theorem since_last {L : List Stp} {v : List UInt8} {bs : List Brk} {u : Int} {n : Nat} {s : Stp} (h : check L v = true) (hn : L.length = n + 1) (hs : L[n]? = some s) (hu : s.day ≤ u) : since L v bs u = backAt L bs u u none (n + 1) :=
  since_at h (n + 1) (fun _ x hi hx => Int.le_trans (check_le h hx hs (by omega)) hu) (fun x hx => by rw [List.getElem?_eq_none (by omega)] at hx; cases hx) (by omega)
/-- The one break of the statement. -/
def gapB (h f : Int) : List Brk := [⟨h, 0, f, 0⟩]
theorem witGone_gap (x h f k u : Int) (hx : 1 ≤ x) : witGone x (gapB h f) k u = false := by
  unfold witGone gapB
  have : ¬ ((0 : Int) = x) := by omega
  simp [this]
theorem witSum_gap (t : Nat) (h f k u : Int) : ∀ n, witSum t (gapB h f) k u n = witSum t [] k u n := by
  intro n
  induction n with
  | zero => rfl
  | succ n ih =>
    rw [witSum, witSum, ih]
    congr 1
    unfold witOk
    rw [witGone_gap _ _ _ _ _ (by omega)]
    rfl
theorem witSum_nil {s : Stp} (h : valid s = true) (k u : Int) : 2 ≤ witSum s.wit.toNat [] k u 8 := by
  obtain ⟨-, -, -, -, h0, h1, h2⟩ := (valid_iff s).1 h
  rwa [← (Left.start (t := s.wit.toNat) (by omega) k u).popc]
theorem good_gap {s : Stp} (hv : valid s = true) (h f k u : Int) : good s (gapB h f) k u = !(decide (0 ≤ k) && decide (f ≤ u) && decide (s.hash = h)) := by
  have hg : hashGone s.hash (gapB h f) k u = (decide (0 ≤ k) && decide (f ≤ u) && decide (s.hash = h)) := by
    rw [Bool.eq_iff_iff]
    simp only [hashGone, gapB, List.any_cons, List.any_nil, Bool.or_false, live, Bool.and_eq_true, decide_eq_true_eq]
    constructor
    · rintro ⟨h1, -, h2⟩; exact ⟨⟨h1.1, h1.2.1⟩, h2.symm⟩
    · rintro ⟨⟨h1, h2⟩, h3⟩; exact ⟨⟨h1, h2, by omega, by omega⟩, trivial, h3.symm⟩
  rw [good, hv, hg, witSum_gap]
  have := witSum_nil hv k u
  simp [this]
/-- From a place behind the gap: nothing ahead of the gap's end. -/
theorem gap_bound {L : List Stp} {v : List UInt8} (h : check L v = true) {k : Nat} {a b : Stp} (ha : L[k]? = some a) (hb : L[k + 1]? = some b) {f known : Int} (hf : f ≤ b.day) (hk : 0 ≤ known) :
    ∀ (m : Nat) (u : Int) (acc : Option Int), b.day ≤ u → (∀ x, acc = some x → b.day ≤ x) → k + 1 + m ≤ L.length → ∀ x, backAt L (gapB a.hash f) known u acc (k + 1 + m) = some x → b.day ≤ x := by
  intro m
  induction m with
  | zero =>
    intro u acc hu hacc _ x hx
    rw [Nat.add_zero, backAt_succ ha, if_neg] at hx
    · exact hacc x hx
    · rw [good_gap (check_valid h ha)]
      have : f ≤ u := by omega
      simp [hk, this]
  | succ m ih =>
    intro u acc hu hacc hl x hx
    obtain ⟨s, hs⟩ : ∃ s, L[k + 1 + m]? = some s := ⟨_, List.getElem?_eq_getElem (by omega)⟩
    have hd := check_le h hb hs (by omega)
    rw [show k + 1 + (m + 1) = (k + 1 + m) + 1 by omega, backAt_succ hs] at hx
    split at hx
    · exact ih s.day (some s.day) hd (fun y hy => by injection hy with hy; omega) (by omega) x hx
    · exact hacc x hx
/-- Where no later stamp shares the hash function, all of them are good. -/
theorem gap_all {L : List Stp} {v : List UInt8} (h : check L v = true) {k : Nat} {a b : Stp} (ha : L[k]? = some a) (hb : L[k + 1]? = some b) {f known : Int} (hf : f ≤ b.day) (hk : 0 ≤ known)
    (hno : ∀ i s, k + 1 ≤ i → L[i]? = some s → s.hash ≠ a.hash) :
    ∀ (m : Nat) (u : Int) (acc : Option Int), b.day ≤ u → k + 1 + m ≤ L.length → backAt L (gapB a.hash f) known u acc (k + 1 + m) = if m = 0 then acc else some b.day := by
  intro m
  induction m with
  | zero =>
    intro u acc hu _
    rw [if_pos rfl, Nat.add_zero, backAt_succ ha, if_neg]
    rw [good_gap (check_valid h ha)]
    have : f ≤ u := by omega
    simp [hk, this]
  | succ m ih =>
    intro u acc hu hl
    obtain ⟨s, hs⟩ : ∃ s, L[k + 1 + m]? = some s := ⟨_, List.getElem?_eq_getElem (by omega)⟩
    have hd := check_le h hb hs (by omega)
    rw [show k + 1 + (m + 1) = (k + 1 + m) + 1 by omega, backAt_succ hs, if_pos, ih s.day (some s.day) hd (by omega), if_neg (show ¬ m + 1 = 0 by omega)]
    · by_cases hm : m = 0
      · subst hm
        rw [if_pos rfl]
        rw [Nat.add_zero, hb] at hs
        injection hs with hs
        rw [hs]
      · rw [if_neg hm]
    · rw [good_gap (check_valid h hs)]
      simp [hno (k + 1 + m) s (by omega) hs]
/-- Whether one of the stamps from a place to another has a hash function. -/
def sameTo (L : List Stp) (k : Nat) (h : Int) (j : Nat) : Bool := ((L.take j).drop (k + 1)).any fun s => decide (s.hash = h)
theorem sameTo_start (L : List Stp) (k : Nat) (h : Int) : sameTo L k h (k + 1) = false := by
  unfold sameTo
  rw [List.drop_eq_nil_of_le (by rw [List.length_take]; omega)]; rfl
theorem sameTo_succ {L : List Stp} {k j : Nat} {h : Int} {s : Stp} (hj : k + 1 ≤ j) (hs : L[j]? = some s) : sameTo L k h (j + 1) = (sameTo L k h j || decide (s.hash = h)) := by
  unfold sameTo
  have hl := (List.getElem?_eq_some_iff.1 hs).1
  rw [take_more hs, List.drop_append_of_le_length (by rw [List.length_take]; omega), List.any_append]
  simp
theorem sameTo_no {L : List Stp} {k : Nat} {h : Int} (hn : sameTo L k h L.length = false) : ∀ i s, k + 1 ≤ i → L[i]? = some s → s.hash ≠ h := by
  intro i s hi hs he
  unfold sameTo at hn
  rw [List.take_length, List.any_eq_false] at hn
  refine hn s ?_ (by simpa using he)
  refine List.mem_of_getElem? (i := i - (k + 1)) ?_
  rw [List.getElem?_drop, show k + 1 + (i - (k + 1)) = i by omega, hs]
/-- What the statement says. -/
theorem gap_law {L : List Stp} {v : List UInt8} (h : check L v = true) {n k : Nat} {a b z : Stp} (hn : L.length = n + 1) (hk : k < n) (ha : L[k]? = some a) (hb : L[k + 1]? = some b) (hz : L[n]? = some z) {f day : Int} (hf : f ≤ b.day) (hday : z.day ≤ day) :
    (∀ x, since L v (gapB a.hash f) day = some x → b.day ≤ x) ∧ (sameTo L k a.hash L.length = false → since L v (gapB a.hash f) day = some b.day) := by
  have hbz := check_le h hb hz (by omega)
  have h0 : 0 ≤ b.day := by
    have := check_valid h hb
    exact ((valid_iff b).1 this).1
  rw [since_last h hn hz hday]
  have e : n + 1 = k + 1 + (n - k) := by omega
  refine ⟨?_, ?_⟩
  · intro x hx
    rw [e] at hx
    exact gap_bound h ha hb hf (by omega) (n - k) day none (by omega) (fun y hy => by cases hy) (by omega) x hx
  · intro hs
    rw [e, gap_all h ha hb hf (by omega) (sameTo_no hs) (n - k) day none (by omega) (by omega), if_neg (by omega)]
end Go.Proofs.YtkihcigojhcmgaaDoor

namespace Go.Proofs.YtkihcigojhcmgaaDoor
open Go.RowKit
set_option maxRecDepth 100000

/-- What is known of evidence that integers determine. -/
theorem stampsOf_facts (V : List UInt8) (X : List Tri) : (stampsOf V X).length ≤ 8 ∧ (0 < (stampsOf V X).length → check (stampsOf V X) V = true) ∧ ∀ s ∈ stampsOf V X, 0 ≤ s.day ∧ s.day ≤ 100000 ∧ I64 s.hash ∧ I64 s.wit := by
  have h1 : (stampsOf V X).length = min X.length 8 := stTo_length _ _ _
  have h2 : 0 < (stampsOf V X).length → check (stampsOf V X) V = true := by
    intro h
    obtain ⟨n, hn⟩ : ∃ n, min X.length 8 = n + 1 := ⟨min X.length 8 - 1, by omega⟩
    unfold stampsOf
    rw [hn]; exact stTo_check V X n (by omega)
  refine ⟨by omega, h2, ?_⟩
  intro s hs
  have hl : 0 < (stampsOf V X).length := List.length_pos_of_mem hs
  have hv := ((okS_iff s).1 (chk_ok ((check_iff _ _).1 (h2 hl)).2 s hs)).1
  obtain ⟨a1, a2, a3, a4, a5, a6, -⟩ := (valid_iff s).1 hv
  exact ⟨a1, a2, ⟨by omega, by omega⟩, ⟨by omega, by omega⟩⟩

set_option maxHeartbeats 2000000 in
theorem evGap_any (t : ByteArray) (ax : Option Addr) (cx : Nat) (X : List Tri) (which early day : Int) (w : World) (hX : TrS w ax X) (hk : TriOk X) (hxl : X.length ≤ 9223372036854775807) (hwh : I64 which) (hea : I64 early) (hda : I64 day) (_ht : t.size ≤ 9223372036854775807)
    (hw : RoundAt w) (hg : 0 < w.heap.size) :
    Calls Tryd.prog 5 #[.string t, .slice ax X.length cx, .int .i64 which, .int .i64 early, .int .i64 day] w fun e w' => e = .returned (.bool true) ∧ Below w.heap.size w w' := by
  have HRA : Hid (∀ W, Below w.heap.size w W → RoundAt W ∧ 0 < W.heap.size) := Lib.hid (fun W hb => ⟨hw.below hg hb, Nat.lt_of_lt_of_le hg hb.size⟩)
  obtain ⟨k, V, hmin, hkt, hext, hV, -⟩ := cut60 t
  have hmm : ∀ wx, (Builtin.min_ #[3, 3] 3 #[.int .i64 (t.size : Int), .int .i64 60]).run Tryd.prog wx = .ok (.int .i64 (k : Int)) wx := fun wx => by rw [run_min2, hmin]
  have HX := Lib.hid hX
  have HK := Lib.hid hk
  have HWI := Lib.hid hwh
  have HEI := Lib.hid hea
  have HDI := Lib.hid hda
  obtain ⟨m, hm⟩ : ∃ m, X.length = m := ⟨_, rfl⟩
  rw [hm] at hxl ⊢
  have HM := Lib.hid hm
  have k0 : (0 : Int) ≤ (k : Int) := by omega
  have k1 : (k : Int) ≤ (t.size : Int) := by omega
  have HSA := Lib.hid (sane_any w (HRA.out w (Below.refl _ _)).1 (HRA.out w (Below.refl _ _)).2)
  clear hmin hm hX hk hwh hea hda hw hg
  go_enter Tryd.func5, Tryd.ntmps5
  go_wp2_with fail
  refine HSA.out.mono ?_
  rintro e w1 ⟨rfl, hb1⟩
  have HB1 := Lib.hid hb1
  have hnot : ¬ ((t.size : Int) < (k : Int)) := by omega
  have HST := Lib.hid (stamps_any V ax cx X w1 (HX.out.below hb1) HK.out (by omega) (by rw [HM.out]; exact hxl))
  rw [HM.out] at HST
  clear hb1 HSA
  go_wp2_with fail
  refine HST.out.mono ?_
  rintro e w2 ⟨xs, rfl, hrow2, hb2⟩
  obtain ⟨hl8, hck, hfa⟩ := stampsOf_facts V X
  generalize stampsOf V X = L at *
  obtain ⟨a2, cp2, h2, hcp2, hS2, -⟩ := hrow2.isSlice
  subst h2
  have HS2 := Lib.hid hS2
  have HCK := Lib.hid hck
  have HFA := Lib.hid hfa
  have HB2 := Lib.hid (HB1.out.trans (hb2.mono HB1.out.size))
  obtain ⟨n1, hn1⟩ : ∃ n1, L.length = n1 := ⟨_, rfl⟩
  rw [hn1] at hcp2 hl8 hrow2 ⊢
  have HN := Lib.hid hn1
  have n0 : (0 : Int) ≤ (n1 : Int) := by omega
  by_cases hlt : n1 < 2
  · have hd : decide ((n1 : Int) < 2) = true := by rw [decide_eq_true_iff]; omega
    clear hrow2 hS2 hb2 HST hck hfa hn1
    go_wp2_with fail
    go_ret
    exact ⟨rfl, HB2.out⟩
  · have hd : decide ((n1 : Int) < 2) = false := by rw [decide_eq_false_iff_not]; omega
    obtain ⟨n, rfl⟩ : ∃ n, n1 = n + 1 := ⟨n1 - 1, by omega⟩
    obtain ⟨g, o, rfl, hgl⟩ := hS2.some (by omega)
    have hp1 := pick_lo (c := which) (n := (n : Int)) (by omega)
    have hp2 := pick_hi (c := which) (n := (n : Int)) (by omega)
    have hq1 := pick_lo (c := early) (n := 5) (by omega)
    have hq2 := pick_hi (c := early) (n := 5) (by omega)
    have hr1 := pick_lo (c := day) (n := 50) (by omega)
    have hr2 := pick_hi (c := day) (n := 50) (by omega)
    have hsub : ((n + 1 : Nat) : Int) - 1 = (n : Int) := by push_cast; omega
    have HP1 := Lib.hid (fun W => pick_any which (((n + 1 : Nat) : Int) - 1) W HWI.out (by omega) (by omega))
    rw [hsub] at HP1
    have HP2 := Lib.hid (fun W => pick_any early 5 W HEI.out (by omega) (by omega))
    have HP3 := Lib.hid (fun W => pick_any day 50 W HDI.out (by omega) (by omega))
    obtain ⟨q, hq⟩ := Int.eq_ofNat_of_zero_le hp1
    rw [hq] at HP1 hp2
    generalize pick early 5 = pe at *
    generalize pick day 50 = pd at *
    have hqn : q < n := by omega
    obtain ⟨sa, hsa⟩ : ∃ s, L[q]? = some s := ⟨_, List.getElem?_eq_getElem (by omega)⟩
    obtain ⟨sb, hsb⟩ : ∃ s, L[q + 1]? = some s := ⟨_, List.getElem?_eq_getElem (by omega)⟩
    obtain ⟨sz, hsz⟩ : ∃ s, L[n]? = some s := ⟨_, List.getElem?_eq_getElem (by omega)⟩
    obtain ⟨-, -, xa1, -, -⟩ := hS2.get q sa hsa
    obtain ⟨-, xb0, -, -, -⟩ := hS2.get (q + 1) sb hsb
    obtain ⟨-, xz0, -, -, -⟩ := hS2.get n sz hsz
    have hfb := hfa sb (List.mem_of_getElem? hsb)
    have hfz := hfa sz (List.mem_of_getElem? hsz)
    have hfa' := hfa sa (List.mem_of_getElem? hsa)
    obtain ⟨b0, b1, -, -⟩ := hfb
    obtain ⟨z0, z1, -, -⟩ := hfz
    have HIA := Lib.hid hfa'.2.2.1
    have HSA' := Lib.hid hsa
    have HSB := Lib.hid hsb
    have HSZ := Lib.hid hsz
    have HLAW := Lib.hid (fun f d hf hd' => gap_law (L := L) (v := V) (HCK.out (by omega)) HN.out hqn HSA'.out HSB.out HSZ.out (f := f) (day := d) hf hd')
    have hdn : decide (q < n + 1) = true := by rw [decide_eq_true_iff]; omega
    have hw1 : IntKind.i64.wrap ((q : Int) + 1) = (q : Int) + 1 := IntWalk.i64_in _ (by omega)
    clear hrow2 hS2 hb2 HST hck hfa hn1 hfa' hsa hsb hsz hq HCK
    go_wp2_with fail
    refine (HP1.out w2).mono ?_
    rintro e w3 ⟨rfl, rfl⟩
    go_wp2_with fail
    refine (HP2.out w2).mono ?_
    rintro e w3 ⟨rfl, rfl⟩
    go_upto_region 8 with fail
    go_region
    go_upto_region 9 with fail
    have e1 : (n : Int) < (n : Int) + 1 := by omega
    have e2 : IntKind.i64.wrap ((n : Int) + 1 - 1) = (n : Int) := by rw [show (n : Int) + 1 - 1 = (n : Int) by omega]; exact IntWalk.i64_in _ (by omega)
    have e3 : IntKind.i64.wrap (n : Int) = (n : Int) := IntWalk.i64_in _ (by omega)
    have e4 : (n : Int) + 1 - 1 = (n : Int) := by omega
    have e5 : n < n + 1 := by omega
    obtain ⟨w3, hw3⟩ : ∃ w3, (w2.alloc (.cells #[.int .i64 sa.hash, .int .i64 0, .int .i64 (sb.day - pe), .int .i64 0] 48)).drew = w3 := ⟨_, rfl⟩
    have hb23 : Below w2.heap.size w2 w3 := by rw [← hw3]; exact Below_drewN ((Below.refl _ _).alloc (Nat.le_refl _) _) 1
    have hbr3 : BrS w3 (some ⟨w2.heap.size, 0, none⟩) (gapB sa.hash (sb.day - pe)) := by rw [← hw3]; exact BrS.drew <| brs_block (s := ⟨sa.hash, 0, sb.day - pe, 0⟩) (heap_last _ _)
    rw [hw3]
    have HB3 := Lib.hid (HB2.out.trans (hb23.mono HB2.out.size))
    have HS3 := Lib.hid (HS2.out.below hb23)
    have HBR3 := Lib.hid hbr3
    have xz3 := (HS3.out.get n sz HSZ.out).2.1
    have xb3 := (HS3.out.get (q + 1) sb HSB.out).2.1
    have xa3 := (HS3.out.get q sa HSA'.out).2.2.1
    clear hw3 hb23 hbr3 xa1 xb0 xz0 HS2
    have HCA : Hid (∀ wx, Below w3.heap.size w3 wx → wx.cell? ⟨g, o + n * 4, none⟩ = some (.int .i64 sz.day)) := Lib.hid (fun wx hx => ((HS3.out.below hx).get n sz HSZ.out).2.1)
    have HC0 := Lib.hid (Below_drewN (Below.refl w3.heap.size w3) 1)
    refine region_quietC (C := Below w3.heap.size w3) (by kernel_rfl) (by kernel_rfl) HC0.out ?_
    repeat (
      first
        | go_big_quiet_skip
        | (go_big_quiet_want
           go_big_quiet_op
           first
             | go_big_quiet_on
             | (apply Exists.intro
                refine ⟨fun wx hx => ?_, ?_⟩
                · first
                  | (go_at_call 13; exact (HP3.out wx).mono fun e w' ⟨h1, h2⟩ => ⟨h1, h2 ▸ hx⟩)
                  | exact rfl
                  | (have q3 := HCA.out _ hx; go_simp; exact rfl)
                go_big_quiet_on)))
    refine wpQuiet_nil ?_
    intro w4 hb4
    have HB4 := Lib.hid (HB3.out.trans (hb4.mono HB3.out.size))
    have HS4 := Lib.hid (HS3.out.below hb4)
    have HSI := Lib.hid (since_any V (some ⟨g, o, none⟩) cp2 L (some ⟨w2.heap.size, 0, none⟩) 1 (gapB sa.hash (sb.day - pe)) (sz.day + pd) w4 HS4.out (by rw [HN.out]; omega) (by rw [HN.out]; exact hcp2) (by omega) (HBR3.out.below hb4) (by simp [gapB]) (HRA.out w4 HB4.out).1 (HRA.out w4 HB4.out).2)
    rw [HN.out, show (gapB sa.hash (sb.day - pe)).length = 1 from rfl] at HSI
    obtain ⟨hl1, hl2⟩ := HLAW.out (sb.day - pe) (sz.day + pd) (by omega) (by omega)
    obtain ⟨r, hr⟩ : ∃ r, since L V (gapB sa.hash (sb.day - pe)) (sz.day + pd) = r := ⟨_, rfl⟩
    rw [hr] at HSI hl1 hl2
    obtain ⟨x, ok, hx, hok⟩ : ∃ x ok, dayV r = .tuple #[.int .i64 x, .bool ok] ∧ r = (if ok = true then some x else none) := by
      cases r with
      | none => exact ⟨0, false, rfl, rfl⟩
      | some x => exact ⟨x, true, rfl, rfl⟩
    rw [hx] at HSI
    have HL1 := Lib.hid hl1
    have HL2 := Lib.hid hl2
    have HOK := Lib.hid hok
    clear hb4 hr hx hl1 hl2 hok HC0 HCA HBR3 xz3 xa3 xb3 HLAW HS3 HB3
    go_wp2_with fail
    refine HSI.out.mono ?_
    rintro e w5 ⟨rfl, hb5⟩
    have HB5 := Lib.hid (HB4.out.trans (hb5.mono HB4.out.size))
    have HS5 := Lib.hid (HS4.out.below hb5)
    have xb5 := (HS5.out.get (q + 1) sb HSB.out).2.1
    have hsz5 := HB5.out.size
    clear hb5 HSI HS4 HB4
    have hend : Hid (sameTo L q sa.hash (n + 1) = false → ok = true ∧ x = sb.day) := Lib.hid (by
      intro h
      have h1 := HL2.out (by rw [HN.out]; exact h)
      have h2 := HOK.out
      rw [h1] at h2
      cases ok with
      | false => cases h2
      | true => injection h2 with h2; exact ⟨rfl, h2.symm⟩)
    have hxd : Hid (ok = true → sb.day ≤ x) := Lib.hid (fun h => HL1.out x (by rw [HOK.out, if_pos h]))
    have hdnn : decide ((n : Int) + 1 < (n : Int) + 1) = false := by simp
    cases ok
    all_goals
      (first
        | (have hlt1 : decide (x < sb.day) = false := by have := hxd.out rfl; rw [decide_eq_false_iff_not]; omega)
        | skip)
      clear HL1 HL2 HOK
      go_wp2_with fail
      go_loopw [17, 18] (fun s i wx => ∃ j : Nat, q + 1 ≤ j ∧ j ≤ n + 1 ∧ s = .bool (sameTo L q sa.hash j) ∧ i = .int .i64 j ∧ Below w5.heap.size w5 wx) (fun _ i _ => n + 1 - (intOf i).toNat)
      case atStart => exact ⟨q + 1, by omega, by omega, by rw [sameTo_start], by push_cast; rfl, Below.refl _ _⟩
      case round =>
        obtain ⟨j, hj0, hj1, rfl, rfl, hbr⟩ := hrel
        have HBR := Lib.hid hbr
        have HSR := Lib.hid (HS5.out.below hbr)
        have xbr := (HSR.out.get (q + 1) sb HSB.out).2.1
        have n0 : (0 : Int) ≤ (j : Int) := by omega
        by_cases hlt : j < n + 1
        · obtain ⟨s, hs⟩ : ∃ s, L[j]? = some s := ⟨_, List.getElem?_eq_getElem (by rw [HN.out]; exact hlt)⟩
          have xjr := (HSR.out.get j s hs).2.2.1
          have xar := (HSR.out.get q sa HSA'.out).2.2.1
          have HSUC := Lib.hid (sameTo_succ (h := sa.hash) hj0 hs)
          have n1 : (j : Int) < (n : Int) + 1 := by omega
          have hd1 : decide ((j : Int) < (n : Int) + 1) = true := by rw [decide_eq_true_iff]; omega
          have hd2 : decide (j < n + 1) = true := by rw [decide_eq_true_iff]; omega
          have hq0 : decide (q < n + 1) = true := by rw [decide_eq_true_iff]; omega
          have hq1 : (q : Int) < (n : Int) + 1 := by omega
          clear hs hbr
          cases hsm : sameTo L q sa.hash j with
          | true =>
            have HSM := Lib.hid hsm
            clear hsm
            go_upto_region 17 with fail
            go_quiet (fail)
            go_wp2_with fail
            go_roundw
            case rel => exact ⟨j + 1, by omega, by omega, by rw [HSUC.out, HSM.out]; rfl, by push_cast; rfl, Below_drewN HBR.out _⟩
            case measure => simp [intOf]; omega
          | false =>
            have HSM := Lib.hid hsm
            clear hsm
            go_upto_region 17 with fail
            go_quiet (fail)
            go_wp2_with fail
            go_roundw
            case rel => exact ⟨j + 1, by omega, by omega, by rw [HSUC.out, HSM.out]; rfl, by push_cast; rfl, Below_drewN HBR.out _⟩
            case measure => simp [intOf]; omega
        · obtain rfl : j = n + 1 := by omega
          have HBE := Lib.hid (HB5.out.trans (hbr.mono hsz5))
          cases hsm : sameTo L q sa.hash (n + 1) with
          | true =>
            clear hsm hbr
            go_wp2_with fail
            go_ret
            exact ⟨rfl, HBE.out⟩
          | false =>
            first
              | (have h := (hend.out hsm).1; cases h; done)
              | (have h := (hend.out hsm).2
                 subst h
                 clear hsm hbr
                 go_wp2_with fail
                 go_ret
                 exact ⟨rfl, HBE.out⟩)
end Go.Proofs.YtkihcigojhcmgaaDoor
