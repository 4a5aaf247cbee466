/- EvidenceDue: the last stamp is good on every day up to Due, and on no later one. -/
import Derived.Test.YtkihcigojhcmgaaDoorG16
namespace Go.Proofs.YtkihcigojhcmgaaDoor
open Go.RowKit
set_option maxRecDepth 100000

theorem bytes_eq (s : ByteArray) : (⟨s.data.toList.toArray⟩ : ByteArray) = s := by cases s; simp
/-- A string cut to sixty bytes. -/
theorem cut60 (t : ByteArray) : ∃ (k : Nat) (V : List UInt8), min (t.size : Int) 60 = (k : Int) ∧ k ≤ t.size ∧ t.extract 0 k = ⟨V.toArray⟩ ∧ V.length ≤ 60 ∧ V = t.data.toList.take 60 := by
  refine ⟨min t.size 60, t.data.toList.take (min t.size 60), by omega, by omega, ?_, by rw [List.length_take]; omega, ?_⟩
  · rw [← bytes_eq (t.extract 0 (min t.size 60)), Lib.extract_data]; simp
  · have hl : t.data.toList.length = t.size := by simp
    by_cases h : t.size ≤ 60
    · rw [show min t.size 60 = t.size by omega, List.take_of_length_le (by omega), List.take_of_length_le (by omega)]
    · rw [show min t.size 60 = 60 by omega]
/-- A break that was known from day 0 on. -/
def early (b : Brk) : Brk := { b with known := 0 }
def zl (j : Nat) (bs : List Brk) : List Brk := (bs.take j).map early ++ bs.drop j
theorem zl_zero (bs : List Brk) : zl 0 bs = bs := by simp [zl]
theorem zl_all (bs : List Brk) : zl bs.length bs = bs.map early := by simp [zl]
theorem zl_len (j : Nat) (bs : List Brk) : (zl j bs).length = bs.length := by simp [zl]; omega
theorem zl_at {j : Nat} {bs : List Brk} {b : Brk} (h : bs[j]? = some b) : (zl j bs)[j]? = some b := by
  have hl := (List.getElem?_eq_some_iff.1 h).1
  unfold zl
  rw [List.getElem?_append_right (by simp; omega)]
  simp
  rw [show j - min j bs.length = 0 by omega, Nat.add_zero]
  exact h
theorem zl_set {j : Nat} {bs : List Brk} {b : Brk} (h : bs[j]? = some b) : (zl j bs).set j (early b) = zl (j + 1) bs := by
  have hl := (List.getElem?_eq_some_iff.1 h).1
  have hb := (List.getElem?_eq_some_iff.1 h).2
  unfold zl
  rw [take_more h, List.map_append, List.set_append_right _ _ (by simp; omega)]
  have : ((bs.take j).map early).length = j := by simp; omega
  rw [this, Nat.sub_self, List.drop_eq_getElem_cons hl, List.set_cons_zero]
  simp

/-! ### The plain law -/
theorem one_check (v : List UInt8) (t : Tri) : check (stTo v [t] 1) v = true := stTo_check v [t] 0 (by omega)
theorem one_stamp (v : List UInt8) (t : Tri) : ∃ s, stTo v [t] 1 = [s] ∧ 0 ≤ s.day ∧ s.day ≤ 29 := by
  refine ⟨_, rfl, ?_, ?_⟩
  · exact (dayTo_bd [t] 1).1
  · exact (dayTo_bd [t] 1).2
theorem since_one {v : List UInt8} {s : Stp} {bs : List Brk} {u : Int} (h : check [s] v = true) (hu : s.day ≤ u) : since [s] v bs u = if good s bs u u = true then some s.day else none := by
  rw [since_at h 1 (fun i x hi hx => by
    obtain rfl : i = 0 := by omega
    simp at hx
    rw [← hx]; exact hu) (fun x hx => by simp at hx) (by simp)]
  rw [backAt_succ (L := [s]) (f := 0) (s := s) rfl, backAt_zero]
theorem early_known (bs : List Brk) (u : Int) (hu : 0 ≤ u) : ∀ b ∈ bs.map early, b.known ≤ u := by
  intro b hb
  obtain ⟨x, -, rfl⟩ := List.mem_map.1 hb
  exact hu
/-- What the statement says of a stamp that is good, and of one that is not. -/
theorem due_no {v : List UInt8} {s : Stp} {bs : List Brk} (h : check [s] v = true) (h1 : s.day ≤ 29) (hd : due [s] bs s.day = none) : since [s] v bs s.day = none := by
  rw [due_at [s] 0 s bs s.day rfl rfl] at hd
  rw [since_one h (Int.le_refl _)]
  cases hg : good s bs s.day s.day with
  | false => rfl
  | true => rw [if_pos ⟨by omega, hg⟩] at hd; cases hd
theorem due_yes {v : List UInt8} {s : Stp} {cs : List Brk} {d : Int} (h : check [s] v = true) (h0 : 0 ≤ s.day) (h1 : s.day ≤ 29) (hf : ∀ b ∈ cs, b.frm ≤ 199) (hd : due [s] (cs.map early) s.day = some d) :
    s.day ≤ d ∧ d ≤ 100000 ∧ since [s] v (cs.map early) s.day = some s.day ∧ (∀ u, s.day ≤ u → u ≤ d → since [s] v (cs.map early) u = some s.day) ∧ (∀ u, d < u → since [s] v (cs.map early) u = if d = 100000 then some s.day else none) := by
  rw [due_at [s] 0 s (cs.map early) s.day rfl rfl] at hd
  cases hg : good s (cs.map early) s.day s.day with
  | false => rw [if_neg (by rw [hg]; simp)] at hd; cases hd
  | true =>
  rw [if_pos ⟨by omega, hg⟩] at hd
  injection hd with hd
  obtain ⟨k1, k2, k3, k4⟩ := dueOf_spec (by omega) hg
  rw [hd] at k1 k2 k3 k4
  have hk : ∀ u, 0 ≤ u → good s (cs.map early) u u = good s (cs.map early) s.day u := fun u hu => good_known (early_known cs u hu) (early_known cs s.day h0)
  have key : ∀ u, s.day ≤ u → u ≤ d → since [s] v (cs.map early) u = some s.day := by
    intro u hu hu2
    rw [since_one h hu, if_pos]
    rw [hk u (by omega)]
    exact good_day hu2 k3
  refine ⟨k1, k2, key s.day (Int.le_refl _) k1, key, ?_⟩
  intro u hu
  rw [since_one h (by omega), hk u (by omega)]
  by_cases hm : d = 100000
  · rw [if_pos hm, if_pos]
    have := good_stays k3 (u - d).toNat (by
      intro b hb hb1 _
      obtain ⟨x, hx, rfl⟩ := List.mem_map.1 hb
      have := hf x hx
      have e : (early x).frm = x.frm := rfl
      omega)
    rwa [show d + ((u - d).toNat : Int) = u by omega] at this
  · rw [if_neg hm, if_neg]
    intro hgu
    have := good_day (show d + 1 ≤ u by omega) hgu
    rcases k4 with k4 | k4
    · exact hm k4
    · rw [k4] at this; cases this
theorem brokenOf_frm (Y : List Qud) : ∀ b ∈ brokenOf Y, b.frm ≤ 199 := by
  intro b hb
  unfold brokenOf at hb
  obtain ⟨q, -, rfl⟩ := List.mem_map.1 hb
  have := pick_hi (c := q.2.2.1) (n := 200) (by omega)
  show pick q.2.2.1 200 ≤ 199
  omega

set_option maxHeartbeats 2000000 in
theorem evDue_any (t : ByteArray) (c0 c1 c2 : Int) (a : Option Addr) (c : Nat) (Y : List Qud) (before after : Int) (w : World) (hX : TriOk [(c0, c1, c2)]) (hY : QdS w a Y) (hk : QudOk Y) (hyl : Y.length ≤ 9223372036854775807) (hb : I64 before) (ha : I64 after) (_ht : t.size ≤ 9223372036854775807)
    (hw : RoundAt w) (hg : 0 < w.heap.size) :
    Calls Tryd.prog 8 #[.string t, .agg #[.int .i64 c0, .int .i64 c1, .int .i64 c2], .slice a Y.length c, .int .i64 before, .int .i64 after] w fun e w' => e = .returned (.bool true) ∧ Below w.heap.size w w' := by
  have HRA : Hid (∀ W, Below w.heap.size w W → RoundAt W ∧ 0 < W.heap.size) := Lib.hid (fun W hb => ⟨hw.below hg hb, Nat.lt_of_lt_of_le hg hb.size⟩)
  obtain ⟨k, V, hmin, hkt, hext, hV, -⟩ := cut60 t
  have hmm : ∀ wx, (Builtin.min_ #[3, 3] 3 #[.int .i64 (t.size : Int), .int .i64 60]).run Tryd.prog wx = .ok (.int .i64 (k : Int)) wx := fun wx => by rw [run_min2, hmin]
  have HY := Lib.hid hY
  have HK := Lib.hid hk
  have HX := Lib.hid hX
  have HBI := Lib.hid hb
  have HAI := Lib.hid ha
  obtain ⟨m, hm⟩ : ∃ m, Y.length = m := ⟨_, rfl⟩
  rw [hm] at hyl ⊢
  have HM := Lib.hid hm
  have k0 : (0 : Int) ≤ (k : Int) := by omega
  have k1 : (k : Int) ≤ (t.size : Int) := by omega
  obtain ⟨w0, hw0⟩ : ∃ w0, w.alloc (.cells #[.int .i64 c0, .int .i64 c1, .int .i64 c2] 49) = w0 := ⟨_, rfl⟩
  have hb0 : Below w.heap.size w w0 := by rw [← hw0]; exact (Below.refl _ _).alloc (Nat.le_refl _) _
  have hblk0 : w0.heap[w.heap.size]? = some (.cells #[.int .i64 c0, .int .i64 c1, .int .i64 c2] 49) := by rw [← hw0]; exact heap_last _ _
  have HB0 := Lib.hid hb0
  have HBK0 := Lib.hid hblk0
  have HSA := Lib.hid (sane_any w0 (HRA.out w0 hb0).1 (HRA.out w0 hb0).2)
  clear hmin hm hX hY hk hb ha hw hg hblk0 hb0
  go_enter Tryd.func8, Tryd.ntmps8
  go_wp2_with fail
  refine HSA.out.mono ?_
  rintro e w1 ⟨rfl, hb1⟩
  have HB1 := Lib.hid (HB0.out.trans (hb1.mono HB0.out.size))
  have hlt0 : w.heap.size < w0.heap.size := (Array.getElem?_eq_some_iff.1 HBK0.out).1
  have hbk1 := (hb1.block w.heap.size hlt0).trans HBK0.out
  have HBK1 := Lib.hid hbk1
  have hlt1 : w.heap.size < w1.heap.size := Nat.lt_of_lt_of_le hlt0 hb1.size
  have q0 : w1.cell? ⟨w.heap.size, 0, none⟩ = some (.int .i64 c0) := by rw [Lib.cell_of_heap hbk1]; rfl
  have q1 : w1.cell? ⟨w.heap.size, 1, none⟩ = some (.int .i64 c1) := by rw [Lib.cell_of_heap hbk1]; rfl
  have q2 : w1.cell? ⟨w.heap.size, 2, none⟩ = some (.int .i64 c2) := by rw [Lib.cell_of_heap hbk1]; rfl
  have hnot : ¬ ((t.size : Int) < (k : Int)) := by omega
  clear hb1 HSA HB0 HBK0 hw0 hbk1
  go_wp2_with fail
  have htr : TrS (w1.alloc (.cells #[.int .i64 c0, .int .i64 c1, .int .i64 c2] 49)) (some ⟨w1.heap.size, 0, none⟩) [(c0, c1, c2)] := by
    intro i p hp
    have hh := heap_last w1 (.cells #[.int .i64 c0, .int .i64 c1, .int .i64 c2] 49)
    match i, hp with
    | 0, hp =>
      simp at hp
      subst hp
      refine ⟨w1.heap.size, 0, rfl, by rw [size_alloc]; omega, ?_, ?_, ?_⟩ <;> (rw [Lib.cell_of_heap hh]; rfl)
  have HST := Lib.hid (stamps_any V (some ⟨w1.heap.size, 0, none⟩) 1 [(c0, c1, c2)] _ htr HX.out (by omega) (by simp))
  have hsz1 := HB1.out.size
  clear htr q0 q1 q2
  refine HST.out.mono ?_
  rintro e w2 ⟨xs, rfl, hrow2, hb2⟩
  have hst : stampsOf V [(c0, c1, c2)] = stTo V [(c0, c1, c2)] 1 := rfl
  rw [hst] at hrow2
  have hck := one_check V (c0, c1, c2)
  obtain ⟨s, hs1, hd0, hd29⟩ := one_stamp V (c0, c1, c2)
  rw [hs1] at hrow2 hck
  obtain ⟨a2, cp2, h2, hcp2, hS2, -⟩ := hrow2.isSlice
  subst h2
  obtain ⟨ba, o, rfl, -⟩ := hS2.some (by simp)
  have HS2 := Lib.hid hS2
  have HCK := Lib.hid hck
  have HB2 := Lib.hid ((HB1.out.alloc hsz1 (.cells #[.int .i64 c0, .int .i64 c1, .int .i64 c2] 49)).trans (hb2.mono (by rw [size_alloc]; omega)))
  have HBR := Lib.hid (broken_any a c Y w2 (HY.out.below HB2.out) HK.out (by rw [HM.out]; exact hyl))
  rw [HM.out] at HBR
  have hcp2' : 1 ≤ cp2 := hcp2
  clear hst hs1 hrow2 hS2 hb2 HST hck hcp2
  simp only [List.length_cons, List.length_nil, Nat.zero_add]
  go_wp2_with fail
  refine HBR.out.mono ?_
  rintro e w3 ⟨xb, rfl, hrow3, hb3⟩
  obtain ⟨m3, hm3⟩ : ∃ m3, (brokenOf Y).length = m3 := ⟨_, rfl⟩
  have hm8 : m3 ≤ 8 := by rw [← hm3]; exact brokenOf_len Y
  have hfr := brokenOf_frm Y
  generalize brokenOf Y = bs at *
  obtain ⟨b3, cp3, h3, hcp3, hBS3⟩ := hrow3.isSlice
  subst h3
  have HB3 := Lib.hid (HB2.out.trans (hb3.mono HB2.out.size))
  have HS3 := Lib.hid (HS2.out.below hb3)
  have hsz2 := HB2.out.size
  have hsz3 := hb3.size
  have HR3 := Lib.hid hrow3
  have HB23 := Lib.hid hb3
  have HM3 := Lib.hid hm3
  have HFR := Lib.hid hfr
  rw [hm3] at hcp3 ⊢
  clear hrow3 hb3 hm3 hfr HBR hBS3
  go_wp2_with fail
  go_loopw [14] (fun i wx => ∃ j : Nat, j ≤ m3 ∧ i = .int .i64 j ∧ BRow wx w2.heap.size (.slice b3 m3 cp3) (zl j bs) ∧ Below w2.heap.size w2 wx) (fun i _ => m3 - (intOf i).toNat)
  case atStart => exact ⟨0, by omega, rfl, by rw [zl_zero, ← HM3.out]; exact HR3.out, HB23.out⟩
  case round =>
    obtain ⟨j, hj, rfl, hrow, hb⟩ := hrel
    by_cases hlt : j < m3
    · obtain ⟨x, hx⟩ : ∃ x, bs[j]? = some x := ⟨_, List.getElem?_eq_getElem (by rw [HM3.out]; exact hlt)⟩
      have hlen : (zl j bs).length = m3 := by rw [zl_len, HM3.out]
      have HLEN := Lib.hid hlen
      have hrow' : BRow wr w2.heap.size (.slice b3 (zl j bs).length cp3) (zl j bs) := by rw [hlen]; exact hrow
      obtain ⟨g3, cp', hv3, hg3, hgl⟩ := hrow'.form (by rw [hlen]; omega)
      injection hv3 with e1 _ e3
      subst e1 e3
      obtain ⟨av, cv, hv, -, hbs, -⟩ := hrow'.isSlice
      injection hv with e1 _ _
      subst e1
      obtain ⟨gb, go, hgo, -, y0, y1, y2, y3⟩ := hbs j x (zl_at hx)
      injection hgo with hgo
      injection hgo with e1 e2 _
      subst e1 e2
      have hfz := hrow'.cells (j * 4 + 3)
      have hst := hrow'.store j 3 x (early x) (.int .i64 0) (zl_at hx) (by omega) rfl
      rw [zl_set hx, hlen] at hst
      have HST := Lib.hid hst
      have HBB := Lib.hid (hb.setCell (p := ⟨g3, j * 4 + 3, none⟩) hg3 (.int .i64 0))
      rw [Nat.zero_add] at y3
      have n0 : (0 : Int) ≤ (j : Int) := by omega
      have n1 : (j : Int) < (m3 : Int) := by omega
      have hd : decide ((j : Int) < (m3 : Int)) = true := by rw [decide_eq_true_iff]; omega
      have hd2 : decide (j < m3) = true := by rw [decide_eq_true_iff]; omega
      clear hrow hrow' hst hbs hx hlen y0 y1 y2 hb
      go_wp2_with fail
      go_roundw
      case rel => exact ⟨j + 1, by omega, by push_cast; rfl, HST.out, HBB.out⟩
      case measure => simp [intOf]; omega
    · obtain rfl : j = m3 := by omega
      have hzl : zl j bs = bs.map early := by rw [← HM3.out]; exact zl_all bs
      rw [hzl] at hrow
      have hlen : (bs.map early).length = j := by rw [List.length_map, HM3.out]
      have HBS : Hid (BrS wr b3 (bs.map early)) := by
        have hrow' : BRow wr w2.heap.size (.slice b3 (bs.map early).length cp3) (bs.map early) := by rw [hlen]; exact hrow
        obtain ⟨av, cv, hv, -, hbs, -⟩ := hrow'.isSlice
        injection hv with e1 _ _
        rw [e1]; exact hbs
      have HB4 := Lib.hid (HB2.out.trans (hb.mono hsz2))
      have HS4 := Lib.hid (HS2.out.below hb)
      have HLEN := Lib.hid hlen
      have HEND := Lib.hid (fun d (h : due [s] (bs.map early) s.day = some d) => due_yes HCK.out hd0 hd29 HFR.out h)
      have HNO := Lib.hid (fun (h : due [s] (bs.map early) s.day = none) => due_no HCK.out hd29 h)
      have hR4 := HRA.out wr HB4.out
      obtain ⟨hlb, x0, -⟩ := HS4.out.get 0 s rfl
      rw [Nat.zero_mul, Nat.add_zero] at x0
      generalize bs.map early = cs at *
      have HDU := Lib.hid (due_any (some ⟨ba, o, none⟩) cp2 [s] b3 cp3 cs s.day wr HS4.out (by simp) HBS.out (by rw [HLEN.out]; omega) (by omega))
      rw [HLEN.out] at HDU
      have HSI : Hid (∀ (u : Int) W, Below wr.heap.size wr W → Calls Tryd.prog 14 #[.slice (some ⟨ba, o, none⟩) 1 cp2, .string ⟨V.toArray⟩, .slice b3 j cp3, .int .i64 u] W fun e w' => e = .returned (dayV (since [s] V cs u)) ∧ Below W.heap.size W w') := Lib.hid (by
        intro u W hW
        have hb' := HB4.out.trans (hW.mono HB4.out.size)
        have h := since_any V (some ⟨ba, o, none⟩) cp2 [s] b3 cp3 cs u W (HS4.out.below hW) (by simp) hcp2' (by omega) (HBS.out.below hW) (by rw [HLEN.out]; omega) (HRA.out W hb').1 (HRA.out W hb').2
        rw [HLEN.out] at h
        exact h)
      have HSD := Lib.hid (HSI.out s.day)
      have hd : decide ((j : Int) < (j : Int)) = false := by simp
      have hd2 : decide (j < j) = false := by simp
      have HDS := Lib.hid hd0
      have HDT := Lib.hid hd29
      generalize s.day = d0 at *
      clear hR4 hrow hzl hlen
      go_wp2_with fail
      refine HDU.out.mono ?_
      rintro e w5 ⟨rfl, hb5⟩
      have HB5 := Lib.hid hb5
      have y0 := (hb5.cell (p := ⟨ba, _, none⟩) hlb).trans x0
      clear hb5 x0 HDU
      cases hdu : due [s] cs d0 with
      | none =>
        have hno := HNO.out hdu
        rw [hno] at HSD
        simp only [dayV] at HSD ⊢
        clear hdu hno
        go_wp2_with fail
        refine (HSD.out w5 HB5.out).mono ?_
        rintro e w6 ⟨rfl, hb6⟩
        go_wp2_with fail
        go_ret
        exact ⟨rfl, HB4.out.trans ((HB5.out.trans (hb6.mono HB5.out.size)).mono HB4.out.size)⟩
      | some D =>
        obtain ⟨r1, r2, r3, r4, r5⟩ := HEND.out D hdu
        rw [r3] at HSD
        have HR4 := Lib.hid r4
        have HR5 := Lib.hid r5
        simp only [dayV] at HSD ⊢
        clear hdu r3 r4 r5 HEND HNO
        go_wp2_with fail
        refine (HSD.out w5 HB5.out).mono ?_
        rintro e w6 ⟨rfl, hb6⟩
        have HB6 := Lib.hid (HB5.out.trans (hb6.mono HB5.out.size))
        have hp1 := pick_lo (c := before) (n := D - d0 + 1) (by omega)
        have hp2 := pick_hi (c := before) (n := D - d0 + 1) (by omega)
        have hp3 := pick_lo (c := after) (n := 50) (by omega)
        have hp4 := pick_hi (c := after) (n := 50) (by omega)
        have HP1 := Lib.hid (fun W => pick_any before (D - d0 + 1) W HBI.out (by omega) (by omega))
        have HP2 := Lib.hid (fun W => pick_any after 50 W HAI.out (by omega) (by omega))
        clear hb6 HSD
        generalize pick before (D - d0 + 1) = pb at *
        generalize pick after 50 = pa at *
        have HS1 := Lib.hid (HSI.out (D - pb))
        rw [HR4.out (D - pb) (by omega) (by omega)] at HS1
        have HS2' := Lib.hid (HSI.out (D + 1 + pa))
        rw [HR5.out (D + 1 + pa) (by omega)] at HS2'
        simp only [dayV] at HS1
        go_wp2_with fail
        refine (HP1.out w6).mono ?_
        rintro e w7 ⟨rfl, rfl⟩
        go_wp2_with fail
        refine (HS1.out w6 HB6.out).mono ?_
        rintro e w7 ⟨rfl, hb7⟩
        have HB7 := Lib.hid (HB6.out.trans (hb7.mono HB6.out.size))
        clear hb7 HS1
        go_wp2_with fail
        refine (HP2.out w7).mono ?_
        rintro e w8 ⟨rfl, rfl⟩
        go_wp2_with fail
        by_cases hD : D = 100000
        · rw [if_pos hD] at HS2'
          simp only [dayV] at HS2'
          subst hD
          refine (HS2'.out w7 HB7.out).mono ?_
          rintro e w8 ⟨rfl, hb8⟩
          have HB8 := Lib.hid (HB7.out.trans (hb8.mono HB7.out.size))
          clear hb8 HS2'
          go_wp2_with fail
          go_ret
          exact ⟨rfl, HB4.out.trans (HB8.out.mono HB4.out.size)⟩
        · rw [if_neg hD] at HS2'
          simp only [dayV] at HS2'
          have hDb : (D == 100000) = false := beq_eq_false_iff_ne.2 hD
          clear hD HR5
          refine (HS2'.out w7 HB7.out).mono ?_
          rintro e w8 ⟨rfl, hb8⟩
          have HB8 := Lib.hid (HB7.out.trans (hb8.mono HB7.out.size))
          clear hb8 HS2'
          go_wp2_with fail
          go_ret
          exact ⟨rfl, HB4.out.trans (HB8.out.mono HB4.out.size)⟩
end Go.Proofs.YtkihcigojhcmgaaDoor
