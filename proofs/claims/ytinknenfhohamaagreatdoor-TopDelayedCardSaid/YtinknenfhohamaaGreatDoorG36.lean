/- The screen after some events. -/
import Derived.Test.YtinknenfhohamaaGreatDoorG26
import Derived.Test.YtinknenfhohamaaGreatDoorG08
import Derived.Test.YtinknenfhohamaaGreatDoorG28
import Derived.StillTailTactics
import Derived.Deep.RegionWith
import Derived.Laws.CopyRow
import Derived.Lib.Bytes
namespace Go.Proofs.YtinknenfhohamaaGreatDoor
open Go.RowKit
set_option maxRecDepth 100000

theorem mul_80 (w : World) : Calls Tryz.prog 116 #[.int .u64 1, .int .u64 80] w fun e w' => e = .returned (.tuple #[.int .u64 0, .int .u64 80]) ∧ w = w' := by
  go_enter Tryz.func116, Tryz.ntmps116
  go_wp2
  go_ret2
  exact ⟨congrArg (fun x => Ending.returned (.tuple #[.int .u64 x, .int .u64 80])) (by decide +kernel), rfl⟩
/-- Eighty cells of which the first n hold spaces. -/
def spacesL (n : Nat) : List Value := List.replicate n (.int .u8 32) ++ List.replicate (80 - n) (.int .u8 0)
theorem spacesL_length (n : Nat) (h : n ≤ 80) : (spacesL n).length = 80 := by simp [spacesL]; omega
theorem spacesL_more (n : Nat) (h : n ≤ 80) : (spacesL n).take n ++ List.replicate (min (80 - n) n) (.int .u8 32) ++ (spacesL n).drop (n + min (80 - n) n) = spacesL (n + min (80 - n) n) := by
  unfold spacesL
  rw [List.take_left' (by simp), List.drop_append, List.drop_eq_nil_of_le (by simp), List.nil_append, List.length_replicate, List.drop_replicate, List.replicate_append_replicate]
  congr 2
  omega
theorem setRow_below' (w : World) (g : Nat) (cs : Array Value) : Below g w (w.setRow g cs) := ⟨rfl, rfl, rfl, by simp, fun k hk => setRow_other w g k cs (by omega)⟩
theorem make_80 : ∀ w, (Instr.makeSlice 62 (.int .i64 80) (.int .i64 80)).run Tryz.prog w = .ok (.slice (some ⟨w.heap.size, 0, none⟩) 80 80) (w.alloc (.cells (spacesL 0).toArray 5)) := fun _ => by kernel_rfl
theorem copy_first (w : World) (g r : Nat) (hg : w.heap[g]? = some (.cells #[.int .u8 32] 5 (0, 0))) (hr : w.heap[r]? = some (.cells (spacesL 0).toArray 5 (0, 0))) :
    (Builtin.copy_ #[62, 62] 3 #[.slice (some ⟨r, 0, none⟩) 80 80, .slice (some ⟨g, 0, none⟩) 1 1]).run Tryz.prog w = .ok (.int .i64 1) (w.setRow r (spacesL 1).toArray) := by
  have h1 := run_copy_row (P := Tryz.prog) w 62 62 3 5 r 0 80 80 ⟨g, 0, none⟩ 1 1 _ 5 [.int .u8 32] Tryz.underlying62 (by kernel_rfl) hr (by decide) (fun j v hj => by
    rcases j with _ | j
    · simp at hj; subst hj; rw [show (⟨g, 0, none⟩ : Addr).add 0 = ⟨g, 0, none⟩ from rfl, Lib.cell_of_heap hg]; rfl
    · simp at hj) (by simp [spacesL]) (by intro v hv; simp at hv; subst hv; rfl)
  rw [h1]
  rfl
theorem copy_more (w : World) (r n : Nat) (hn : n < 80) (hr : w.heap[r]? = some (.cells (spacesL n).toArray 5 (0, 0))) :
    (Builtin.copy_ #[62, 62] 3 #[.slice (some ⟨r, n, none⟩) (80 - n) (80 - n), .slice (some ⟨r, 0, none⟩) n 80]).run Tryz.prog w = .ok (.int .i64 ((min (80 - n) n : Nat) : Int)) (w.setRow r (spacesL (n + min (80 - n) n)).toArray) := by
  have h1 := run_copy_row (P := Tryz.prog) w 62 62 3 5 r n (80 - n) (80 - n) ⟨r, 0, none⟩ n 80 _ 5 (List.replicate (min (80 - n) n) (.int .u8 32)) Tryz.underlying62 (by kernel_rfl) hr (by rw [List.length_replicate, Nat.min_comm]) (fun j v hj => by
    rw [List.getElem?_replicate] at hj
    split at hj
    · rename_i h
      cases hj
      rw [Go.WideShapes.add_plain, Nat.zero_add, Lib.cell_of_heap hr, List.getElem?_toArray, spacesL, List.getElem?_append_left (by rw [List.length_replicate]; omega), List.getElem?_replicate, if_pos (by omega)]
    · cases hj) (by rw [List.size_toArray, spacesL_length n (by omega), List.length_replicate]; omega) (by intro v hv; rw [List.mem_replicate] at hv; rw [hv.2]; rfl)
  rw [h1, List.toList_toArray, List.length_replicate, spacesL_more n (by omega)]
  rfl
set_option maxHeartbeats 1000000 in
theorem repeat_80 (g : Nat) (w : World) (hg : w.heap[g]? = some (.cells #[.int .u8 32] 5 (0, 0))) : Calls Tryz.prog 53 #[.slice (some ⟨g, 0, none⟩) 1 1, .int .i64 80] w fun e w' => ∃ r, e = .returned (.slice (some ⟨r, 0, none⟩) 80 80) ∧ w.heap.size ≤ r ∧ w'.heap[r]? = some (.cells (List.replicate 80 (.int .u8 32)).toArray 5 (0, 0)) ∧ Below w.heap.size w w' := by
  have HM := Lib.hid (mul_80 w)
  have HG := Lib.hid hg
  have hmk := make_80
  clear hg
  go_enter Tryz.func53, Tryz.ntmps53
  go_wp2_with fail
  refine HM.out.mono ?_
  rintro e w1 ⟨rfl, rfl⟩
  go_upto_region 7 with fail
  obtain ⟨r, hr⟩ : ∃ r, w.heap.size = r := ⟨_, rfl⟩
  obtain ⟨w1, hw1⟩ : ∃ w1, w.alloc (.cells (spacesL 0).toArray 5) = w1 := ⟨_, rfl⟩
  have h1 : w1.heap[r]? = some (.cells (spacesL 0).toArray 5 (0, 0)) := by rw [← hw1]; exact heap_last' _ _ hr
  have h2 : Below w.heap.size w w1 := by rw [← hw1]; exact (Below.refl _ _).alloc (Nat.le_refl _) _
  have hcp := copy_first w1 g r ((h2.block g (Array.getElem?_eq_some_iff.1 HG.out).1).trans HG.out) h1
  obtain ⟨w2, hw2⟩ : ∃ w2, w1.setRow r (spacesL 1).toArray = w2 := ⟨_, rfl⟩
  rw [hw2] at hcp
  have HR2 := Lib.hid (show w2.heap[r]? = some (.cells (spacesL 1).toArray 5 (0, 0)) by rw [← hw2]; exact setRow_heap w1 r _ _ _ _ h1)
  have HB2 := Lib.hid (show Below w.heap.size w w2 by rw [← hw2]; exact h2.trans ((setRow_below' w1 r _).mono (Nat.le_of_eq hr)))
  have HWR := Lib.hid hr
  rw [hw1, hr]
  clear hw1 hw2 h1 h2 hr hmk
  go_wp2_with fail
  clear hcp HG
  go_loopw [8] (fun n wx => ∃ k : Nat, 1 ≤ k ∧ k ≤ 80 ∧ n = .int .i64 k ∧ wx.heap[r]? = some (.cells (spacesL k).toArray 5 (0, 0)) ∧ Below w.heap.size w wx) (fun n _ => 80 - (intOf n).toNat)
  case atStart => exact ⟨1, by omega, by omega, rfl, HR2.out, HB2.out⟩
  case round =>
    obtain ⟨k, hk1, hk2, rfl, hrow, hb⟩ := hrel
    have HROW := Lib.hid hrow
    have HB := Lib.hid hb
    clear hrow hb
    by_cases hlt : k < 80
    · have hd : decide ((k : Int) < 80) = true := by rw [decide_eq_true_iff]; omega
      have hd2 : decide (k < 80) = true := by rw [decide_eq_true_iff]; omega
      have n0 : (0 : Int) ≤ (k : Int) := by omega
      have n1 : (k : Int) ≤ 80 := by omega
      obtain ⟨m, hm⟩ : ∃ m, min (80 - k) k = m := ⟨_, rfl⟩
      have hcp := copy_more wr.drew r k hlt HROW.out
      rw [hm] at hcp
      have HM2 : Hid (k + m ≤ 80 ∧ 1 ≤ m) := Lib.hid (by omega)
      have hwm : IntKind.i64.wrap ((k : Int) + (m : Int)) = (k : Int) + (m : Int) := IntWalk.i64_in _ (by omega)
      clear hm
      go_wp2_with fail
      have hne : ¬ (80 = k) := by omega
      go_region
      all_goals
        go_wp2_with fail
        exact ⟨⟨k + m, by have := HM2.out; omega, HM2.out.1, by push_cast; rfl, setRow_heap _ _ _ _ _ _ HROW.out, HB.out.drew.trans ((setRow_below' _ _ _).mono (by have := HWR.out; omega))⟩, by have := HM2.out; simp [intOf]; omega⟩
    · obtain rfl : k = 80 := by omega
      go_wp2_with fail
      go_ret
      exact ⟨r, rfl, by rw [HWR.out]; exact Nat.le_refl _, HROW.out, HB.out⟩
theorem byte_any (x : Int) (w : World) (h : 0 ≤ x ∧ x ≤ 255) : Calls Tryz.prog 26 #[.int .i64 x] w fun e w' => e = .returned (.int .u8 x) ∧ w = w' := by
  have hw : IntKind.u8.wrap x = x := by show x % 256 = x; omega
  go_enter Tryz.func26, Tryz.ntmps26
  go_wp2_with fail
  go_ret
  exact ⟨rfl, rfl⟩
/-- Events that show a text. -/
def Shows (L : List Ev) : Prop := ∀ e ∈ L, e.kd = 1 ∧ 0 ≤ e.a ∧ e.a < 80 ∧ 0 ≤ e.b ∧ e.b ≤ 255
def cellsB (l : List UInt8) : List Value := l.map fun x => .int .u8 (x.toNat : Int)
theorem screenR_length (L : List Ev) : (screenR L).length = 80 := by
  have key : ∀ (L : List Ev) (s : List UInt8), s.length = 80 → (L.foldl (fun s e => if e.kd = 1 ∧ 0 ≤ e.a ∧ e.a < 80 then s.set e.a.toNat (UInt8.ofNat e.b.toNat) else s) s).length = 80 := by
    intro L
    induction L with
    | nil => intro s h; exact h
    | cons e L ih =>
      intro s h
      rw [List.foldl_cons]
      apply ih
      split
      · rw [List.length_set, h]
      · exact h
  exact key L _ (by simp)
theorem screenR_snoc (L : List Ev) (e : Ev) (h : e.kd = 1 ∧ 0 ≤ e.a ∧ e.a < 80) : screenR (L ++ [e]) = (screenR L).set e.a.toNat (UInt8.ofNat e.b.toNat) := by
  rw [screenR, List.foldl_append, List.foldl_cons, List.foldl_nil, if_pos h]
  rfl
theorem cellsB_set (l : List UInt8) (i : Nat) (b : Int) (h : 0 ≤ b ∧ b ≤ 255) : (cellsB l).toArray.setIfInBounds i (.int .u8 b) = (cellsB (l.set i (UInt8.ofNat b.toNat))).toArray := by
  unfold cellsB
  rw [List.map_set, List.setIfInBounds_toArray]
  congr 2
  rw [UInt8.toNat_ofNat']
  congr 1
  omega
set_option maxHeartbeats 1000000 in
theorem shown_any (a : Option Addr) (c : Nat) (L : List Ev) (w : World) (hS : EvS w a L) (hL : L.length ≤ 64) (hk : Shows L) :
    Calls Tryz.prog 25 #[.slice a L.length c, .int .i64 1, .int .u8 32, .int .i64 80, .func (.func 26) #[] #[]] w fun e w' => e = .returned (.string ⟨(screenR L).toArray⟩) ∧ Below w.heap.size w w' := by
  obtain ⟨m, hm⟩ : ∃ m, L.length = m := ⟨_, rfl⟩
  rw [hm] at hL ⊢
  have HM := Lib.hid hm
  have HS := Lib.hid hS
  have HK := Lib.hid hk
  obtain ⟨w1, hw1⟩ : ∃ w1, w.alloc (.cells #[.int .u8 32] 5) = w1 := ⟨_, rfl⟩
  have HB1 := Lib.hid (show Below w.heap.size w w1 by rw [← hw1]; exact (Below.refl _ _).alloc (Nat.le_refl _) _)
  have HR := Lib.hid (repeat_80 w.heap.size w1 (by rw [← hw1]; exact heap_last _ _))
  clear hm hS hk
  go_enter Tryz.func25, Tryz.ntmps25
  go_wp2_with fail
  refine HR.out.mono ?_
  rintro e w2 ⟨r, rfl, hr, hrow, hb⟩
  have HROW := Lib.hid hrow
  have HB2 := Lib.hid (HB1.out.trans (hb.mono HB1.out.size))
  have HRW : Hid (w.heap.size ≤ r) := Lib.hid (by have := HB1.out.size; omega)
  clear hrow hb hr HR hw1
  go_wp2_with fail
  go_loopw [20] (fun i wx => ∃ j : Nat, j ≤ m ∧ i = .int .i64 j ∧ wx.heap[r]? = some (.cells (cellsB (screenR (L.take j))).toArray 5 (0, 0)) ∧ Below w.heap.size w wx) (fun i _ => m - (intOf i).toNat)
  case atStart => exact ⟨0, by omega, rfl, by rw [HROW.out]; rfl, HB2.out⟩
  case round =>
    obtain ⟨j, hj, rfl, hrow, hb⟩ := hrel
    have HROWJ := Lib.hid hrow
    have HB := Lib.hid hb
    clear hrow hb
    by_cases hlt : j < m
    · obtain ⟨s, hsj⟩ : ∃ s, L[j]? = some s := ⟨_, List.getElem?_eq_getElem (by rw [HM.out]; exact hlt)⟩
      obtain ⟨b, o, rfl, hbl, x0, x1, x2, x3⟩ := (HS.out.below HB.out) j s hsj
      obtain ⟨k1, k2, k3, k4, k5⟩ := HK.out s (List.mem_of_getElem? hsj)
      have HSC := Lib.hid (show screenR (L.take (j + 1)) = (screenR (L.take j)).set s.a.toNat (UInt8.ofNat s.b.toNat) by rw [take_more hsj, screenR_snoc _ _ ⟨k1, k2, k3⟩])
      obtain ⟨tm, kd, sa, sb⟩ := s
      simp only at k1 k2 k3 k4 k5 x0 x1 x2 x3 HSC
      subst k1
      obtain ⟨k, rfl⟩ : ∃ k : Nat, sa = (k : Int) := ⟨sa.toNat, by omega⟩
      rw [Int.toNat_natCast] at HSC
      have hk80 : k < 80 := by omega
      obtain ⟨g, hg⟩ : ∃ g, wr.heap.size = g := ⟨_, rfl⟩
      obtain ⟨w3, hw3⟩ : ∃ w3, wr.alloc (.cells #[.int .i64 tm, .int .i64 1, .int .i64 (k : Int), .int .i64 sb] 28) = w3 := ⟨_, rfl⟩
      have hb3 : Below wr.heap.size wr w3 := by rw [← hw3]; exact (Below.refl _ _).alloc (Nat.le_refl _) _
      have hev : w3.heap[g]? = some (.cells #[.int .i64 tm, .int .i64 1, .int .i64 (k : Int), .int .i64 sb] 28 (0, 0)) := by rw [← hw3]; exact heap_last' _ _ hg
      have hrw : w3.heap[r]? = some (.cells (cellsB (screenR (L.take j))).toArray 5 (0, 0)) := (hb3.block r (Array.getElem?_eq_some_iff.1 HROWJ.out).1).trans HROWJ.out
      have e1 : w3.cell? ⟨g, 1, none⟩ = some (.int .i64 1) := by rw [Lib.cell_of_heap hev]; rfl
      have e2 : w3.cell? ⟨g, 2, none⟩ = some (.int .i64 (k : Int)) := by rw [Lib.cell_of_heap hev]; rfl
      have e3 : w3.cell? ⟨g, 3, none⟩ = some (.int .i64 sb) := by rw [Lib.cell_of_heap hev]; rfl
      obtain ⟨old, hold⟩ : ∃ old, w3.cell? ⟨r, k, none⟩ = some old := by
        rw [Lib.cell_of_heap hrw, List.getElem?_toArray]
        exact ⟨_, List.getElem?_eq_getElem (by rw [cellsB, List.length_map, screenR_length]; exact hk80)⟩
      have hfr : w3.frozen? ⟨r, k, none⟩ = false := Lib.frozen_of_heap hrw k
      have HRW3 := Lib.hid hrw
      have HB3 := Lib.hid (HB.out.trans (hb3.mono HB.out.size))
      have HZ : Hid ((w3.setCell ⟨r, k, none⟩ (.int .u8 sb)).drew.heap[r]? = some (.cells (cellsB (screenR (L.take (j + 1)))).toArray 5 (0, 0))) := Lib.hid (by rw [HSC.out, ← cellsB_set _ _ _ ⟨k4, k5⟩]; exact heap_setCell_at w3 r k _ _ _ _ HRW3.out)
      have HBZ : Hid (Below w.heap.size w (w3.setCell ⟨r, k, none⟩ (.int .u8 sb)).drew) := Lib.hid ((HB3.out.setCell (p := ⟨r, k, none⟩) HRW.out _).drew)
      have HBY := Lib.hid (fun W => byte_any sb W ⟨k4, k5⟩)
      have n0 : (0 : Int) ≤ (j : Int) := by omega
      have n1 : (j : Int) < (m : Int) := by omega
      have hd : decide ((j : Int) < (m : Int)) = true := by rw [decide_eq_true_iff]; omega
      have hd2 : decide (j < m) = true := by rw [decide_eq_true_iff]; omega
      have d1 : decide ((0 : Int) ≤ (k : Int)) = true := by rw [decide_eq_true_iff]; omega
      have d2 : decide ((k : Int) < 80) = true := by rw [decide_eq_true_iff]; omega
      have d3 : decide (k < 80) = true := by rw [decide_eq_true_iff]; omega
      clear hsj hev hrw hb3 k4 k5 k2 k3
      go_upto_region 5 with fail
      clear hw3 hg x0 x1 x2 x3 hbl
      go_wp2_with fail
      go_region_with (go_at_call 26; refine (HBY.out _).mono ?_; rintro e w' ⟨rfl, rfl⟩)
      all_goals
        go_wp2_with fail
        exact ⟨⟨j + 1, by omega, by push_cast; rfl, HZ.out, HBZ.out⟩, by simp [intOf]; omega⟩
    · obtain rfl : j = m := by omega
      have hd : decide ((j : Int) < (j : Int)) = false := by simp
      have hd2 : decide (j < j) = false := by simp
      have hcv := run_convert_bytes_back (P := Tryz.prog) wr 62 9 5 ⟨r, 0, none⟩ 80 (screenR L) Tryz.underlying62 Tryz.underlying5 Tryz.underlying9 (fun i hi => by
        have h := HROWJ.out
        rw [List.take_of_length_le (by rw [HM.out]; exact Nat.le_refl _)] at h
        rw [Go.WideShapes.add_plain, Nat.zero_add, Lib.cell_of_heap h, List.getElem?_toArray, cellsB, List.getElem?_map, List.getElem?_eq_getElem hi]
        rfl)
      rw [screenR_length] at hcv
      go_wp2_with fail
      go_ret
      exact ⟨rfl, HB.out⟩
theorem screen_any (a : Option Addr) (c : Nat) (L : List Ev) (w : World) (hS : EvS w a L) (hL : L.length ≤ 64) (hk : Shows L) :
    Calls Tryz.prog 9 #[.slice a L.length c] w fun e w' => e = .returned (.string ⟨(screenR L).toArray⟩) ∧ Below w.heap.size w w' := by
  have HC := Lib.hid (shown_any a c L w hS hL hk)
  clear hS hL hk
  generalize L.length = m at *
  go_enter Tryz.func9, Tryz.ntmps9
  go_wp2_with fail
  refine HC.out.mono ?_
  rintro e w' ⟨rfl, hb⟩
  go_wp2_with fail
  go_ret
  exact ⟨rfl, hb⟩
end Go.Proofs.YtinknenfhohamaaGreatDoor
