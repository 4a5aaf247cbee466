/- Package digest: the words of a block. -/
import Derived.Test.YtkihcigojhcmgaaDoorG04
import Derived.Deep.DeepMust
import Derived.Deep.DrawnRows
import Derived.Laws.CopyOwn
namespace Go.Proofs.YtkihcigojhcmgaaDoor
open Go.RowKit
attribute [local go_sem ↓] Go.wp_at_zero Go.wp_at_succ

theorem mix2 (x a b : Nat) : mix x [a, b] 0 = rotr x a ^^^ rotr x b := by
  rw [mix, mix, mix, Nat.zero_xor]
theorem mix3 (x a b c : Nat) : mix x [a, b, c] 0 = (rotr x a ^^^ rotr x b) ^^^ rotr x c := by
  rw [mix, mix, mix, mix, Nat.zero_xor]
theorem mixed2 (x a b bl c : Nat) (w : World) (hx : x < 4294967296) (ha : 1 ≤ a ∧ a ≤ 31) (hb : 1 ≤ b ∧ b ≤ 31) (h0 : w.cell? ⟨bl, 0, none⟩ = some (.int .i64 (a : Int))) (h1 : w.cell? ⟨bl, 1, none⟩ = some (.int .i64 (b : Int))) :
    Calls Tryd.prog 76 #[.int .u32 (x : Int), .slice (some ⟨bl, 0, none⟩) 2 c] w fun e w' => e = .returned (.int .u32 ((rotr x a ^^^ rotr x b : Nat) : Int)) ∧ w = w' := by
  have h := mixed_any x [a, b] bl c w hx (by
    intro i hi
    match i, hi with
    | 0, _ => exact h0
    | 1, _ => exact h1) (by
    intro i hi
    match i, hi with
    | 0, _ => exact ha
    | 1, _ => exact hb) (by simp)
  rw [mix2] at h
  exact h
theorem mixed3 (x a b d bl c : Nat) (w : World) (hx : x < 4294967296) (ha : 1 ≤ a ∧ a ≤ 31) (hb : 1 ≤ b ∧ b ≤ 31) (hd : 1 ≤ d ∧ d ≤ 31) (h0 : w.cell? ⟨bl, 0, none⟩ = some (.int .i64 (a : Int))) (h1 : w.cell? ⟨bl, 1, none⟩ = some (.int .i64 (b : Int))) (h2 : w.cell? ⟨bl, 2, none⟩ = some (.int .i64 (d : Int))) :
    Calls Tryd.prog 76 #[.int .u32 (x : Int), .slice (some ⟨bl, 0, none⟩) 3 c] w fun e w' => e = .returned (.int .u32 (((rotr x a ^^^ rotr x b) ^^^ rotr x d : Nat) : Int)) ∧ w = w' := by
  have h := mixed_any x [a, b, d] bl c w hx (by
    intro i hi
    match i, hi with
    | 0, _ => exact h0
    | 1, _ => exact h1
    | 2, _ => exact h2) (by
    intro i hi
    match i, hi with
    | 0, _ => exact ha
    | 1, _ => exact hb
    | 2, _ => exact hd) (by simp)
  rw [mix3] at h
  exact h

theorem keep2 {W : World} {X Y : Obj} {a : Addr} {v : Value} (h : W.cell? a = some v) : ((W.alloc X).alloc Y).drew.cell? a = some v := by
  have h1 : (W.alloc X).cell? a = some v := (World.cell?_alloc_lt _ _ _ (World.block_lt_of_cell? _ _ h)).trans h
  exact (World.cell?_alloc_lt _ _ _ (World.block_lt_of_cell? _ _ h1)).trans h1
theorem sched_bits (x16 x15 x7 x2 : Nat) (h15 : x15 < 4294967296) (h2 : x2 < 4294967296) :
    ((((x16 : Int) + bits .xor .u32 ((rotr x15 7 ^^^ rotr x15 18 : Nat) : Int) ((x15 : Int) / 8)) % 4294967296 + (x7 : Int)) % 4294967296 + bits .xor .u32 ((rotr x2 17 ^^^ rotr x2 19 : Nat) : Int) ((x2 : Int) / 1024)) % 4294967296 =
      (((((x16 + sig0 x15) % 4294967296 + x7) % 4294967296 + sig1 x2) % 4294967296 : Nat) : Int) := by
  rw [show (x15 : Int) / 8 = ((x15 / 8 : Nat) : Int) by omega, show (x2 : Int) / 1024 = ((x2 / 1024 : Nat) : Int) by omega,
    u32_xor_nat' _ _ (xor_lt32 (rotr_lt x15 7 h15) (rotr_lt x15 18 h15)) (by omega), u32_xor_nat' _ _ (xor_lt32 (rotr_lt x2 17 h2) (rotr_lt x2 19 h2)) (by omega)]
  have e0 : (rotr x15 7 ^^^ rotr x15 18) ^^^ x15 / 8 = sig0 x15 := rfl
  have e1 : (rotr x2 17 ^^^ rotr x2 19) ^^^ x2 / 1024 = sig1 x2 := rfl
  rw [e0, e1]
  generalize sig0 x15 = a
  generalize sig1 x2 = b
  omega
theorem sizeOf127 : (Tryd.prog.info? 127).map (·.size) = some 64 := by kernel_rfl
theorem word_bits2 (a b c d : Nat) (ha : a < 256) (hb : b < 256) (hc : c < 256) (hd : d < 256) :
    bits .or .u32 (bits .or .u32 (bits .or .u32 ((a : Int) * 16777216) ((b : Int) * 65536)) ((c : Int) * 256)) (d : Int) = ((word4 a b c d : Nat) : Int) := by
  have o1 : a * 16777216 ||| b * 65536 < 2 ^ 32 := Nat.or_lt_two_pow (by omega) (by omega)
  have o2 : (a * 16777216 ||| b * 65536) ||| c * 256 < 2 ^ 32 := Nat.or_lt_two_pow o1 (by omega)
  rw [show (a : Int) * 16777216 = ((a * 16777216 : Nat) : Int) from (Int.natCast_mul a 16777216).symm, show (b : Int) * 65536 = ((b * 65536 : Nat) : Int) from (Int.natCast_mul b 65536).symm, show (c : Int) * 256 = ((c * 256 : Nat) : Int) from (Int.natCast_mul c 256).symm,
    u32_or_nat' _ _ (by omega) (by omega), u32_or_nat' _ _ (by omega) (by omega), u32_or_nat' _ _ (by omega) (by omega)]
  rfl

set_option maxRecDepth 100000 in
set_option maxHeartbeats 2000000 in
theorem schedule_any (B : List UInt8) (bb bo bc : Nat) (w : World) (hB : B.length = 64) (hbb : Octets w bb bo B) (hbl : bb < w.heap.size) :
    Calls Tryd.prog 75 #[.slice (some ⟨bb, bo, none⟩) 64 bc] w fun e w' => e = .returned (.agg (ucs (sched B)).toArray) ∧ Below w.heap.size w w' := by
  go_enter Tryd.func75, Tryd.ntmps75
  go_wp2_with fail
  generalize hw1 : w.alloc _ = w1
  have hrow1 : w1.ownsRow w.heap.size 127 1 (.slice (some ⟨w.heap.size, 0, none⟩) 64 64) 64 (ucs (List.replicate 64 0)) := by
    rw [← hw1]
    exact ownsRow_of_block (heap_alloc_new w _) (Nat.le_refl _) rfl (by unfold maxLen; omega)
  have hb1 : Below w.heap.size w w1 := by rw [← hw1]; exact (Below.refl _ _).alloc (Nat.le_refl _) _
  clear hw1
  have hbsz := hb1.size
  go_loopw [3, 7] (fun _ i wx => ∃ j : Nat, j ≤ 16 ∧ i = .int .i64 j ∧ wx.ownsRow w.heap.size 127 1 (.slice (some ⟨w.heap.size, 0, none⟩) 64 64) 64 (ucs ((List.range j).map (word0 B) ++ List.replicate (64 - j) 0)) ∧ Below w.heap.size w wx) (fun _ i _ => 16 - (intOf i).toNat)
  case atStart => exact ⟨0, by omega, rfl, hrow1, hb1⟩
  case round =>
    obtain ⟨j, hj, rfl, hrow, hbw⟩ := hrel
    have hbs := hbw.size
    by_cases hlt : j < 16
    · obtain ⟨x0, hx0⟩ : ∃ x0 : Nat, (B.getD (4 * j) 0).toNat = x0 := ⟨_, rfl⟩
      obtain ⟨x1, hx1⟩ : ∃ x1 : Nat, (B.getD (4 * j + 1) 0).toNat = x1 := ⟨_, rfl⟩
      obtain ⟨x2, hx2⟩ : ∃ x2 : Nat, (B.getD (4 * j + 2) 0).toNat = x2 := ⟨_, rfl⟩
      obtain ⟨x3, hx3⟩ : ∃ x3 : Nat, (B.getD (4 * j + 3) 0).toNat = x3 := ⟨_, rfl⟩
      have hoct := hbb.below hbw hbl
      have c0 := hoct (4 * j) (by omega)
      have c1 := hoct (4 * j + 1) (by omega)
      have c2 := hoct (4 * j + 2) (by omega)
      have c3 := hoct (4 * j + 3) (by omega)
      rw [hx0] at c0
      rw [hx1] at c1
      rw [hx2] at c2
      rw [hx3] at c3
      have b0 : (0 : Int) ≤ 4 * (j : Int) := by omega
      have b1 : 4 * (j : Int) < 64 := by omega
      have b2 : (0 : Int) ≤ 4 * (j : Int) + 1 := by omega
      have b3 : 4 * (j : Int) + 1 < 64 := by omega
      have b4 : (0 : Int) ≤ 4 * (j : Int) + 2 := by omega
      have b5 : 4 * (j : Int) + 2 < 64 := by omega
      have b6 : (0 : Int) ≤ 4 * (j : Int) + 3 := by omega
      have b7 : 4 * (j : Int) + 3 < 64 := by omega
      have m0 : IntKind.i64.wrap (4 * (j : Int)) = 4 * (j : Int) := by rw [IntKind.wrap_i64]; omega
      have m1 : IntKind.i64.wrap (4 * (j : Int) + 1) = 4 * (j : Int) + 1 := by rw [IntKind.wrap_i64]; omega
      have m2 : IntKind.i64.wrap (4 * (j : Int) + 2) = 4 * (j : Int) + 2 := by rw [IntKind.wrap_i64]; omega
      have m3 : IntKind.i64.wrap (4 * (j : Int) + 3) = 4 * (j : Int) + 3 := by rw [IntKind.wrap_i64]; omega
      have n0 : (4 * (j : Int)).toNat = 4 * j := by omega
      have n1 : (4 * (j : Int) + 1).toNat = 4 * j + 1 := by omega
      have n2 : (4 * (j : Int) + 2).toNat = 4 * j + 2 := by omega
      have n3 : (4 * (j : Int) + 3).toNat = 4 * j + 3 := by omega
      have k0 : x0 < 256 := by rw [← hx0]; exact UInt8.toNat_lt _
      have k1 : x1 < 256 := by rw [← hx1]; exact UInt8.toNat_lt _
      have k2 : x2 < 256 := by rw [← hx2]; exact UInt8.toNat_lt _
      have k3 : x3 < 256 := by rw [← hx3]; exact UInt8.toNat_lt _
      have hM : ((List.range j).map (word0 B) ++ List.replicate (64 - j) 0).set j (word4 x0 x1 x2 x3) = (List.range (j + 1)).map (word0 B) ++ List.replicate (64 - (j + 1)) 0 := by
        have h := set_next ((List.range j).map (word0 B)) (word4 x0 x1 x2 x3) (64 - j) (by omega)
        rw [List.length_map, List.length_range] at h
        rw [h, List.range_succ, List.map_append, ← hx0, ← hx1, ← hx2, ← hx3, show 64 - (j + 1) = 64 - j - 1 by omega]; rfl
      have hst := fun z hz => row_store hrow j (word4 x0 x1 x2 x3) (z := z) hz
      rw [hM] at hst
      have hcell : ∃ old, wr.cell? ⟨w.heap.size, j, none⟩ = some old := by
        rw [hrow.cellAt j (by omega), ucs_at _ j (by simp; omega)]; exact ⟨_, rfl⟩
      obtain ⟨old, hcell⟩ := hcell
      have hfr := hrow.frozenAt j
      have HST := Lib.hid hst
      have hne1 : ¬ (w.heap.size = bb) := by omega
      have hne2 : ¬ (bb = w.heap.size) := by omega
      have d0 : (0 : Int) ≤ (j : Int) := by omega
      have d1 : (j : Int) < 64 := by omega
      clear hoct hM hx0 hx1 hx2 hx3 hst hrow
      go_wp2_with fail
      go_region_held3 (fun w' => w'.cell? ⟨bb, bo + 4 * j, none⟩ = some (.int .u8 (x0 : Int)) ∧ w'.cell? ⟨bb, bo + (4 * j + 1), none⟩ = some (.int .u8 (x1 : Int)) ∧ w'.cell? ⟨bb, bo + (4 * j + 2), none⟩ = some (.int .u8 (x2 : Int)) ∧ w'.cell? ⟨bb, bo + (4 * j + 3), none⟩ = some (.int .u8 (x3 : Int)))
        (go_keep) (fail)
      go_wp2_with fail
      exact ⟨⟨j + 1, by omega, by push_cast; rfl, (HST.out _ (by first | exact word_bits2 x0 x1 x2 x3 k0 k1 k2 k3 | exact word_bits x0 x1 x2 x3 k0 k1 k2 k3)).drew, (hbw.setCell (p := ⟨w.heap.size, j, none⟩) (Nat.le_refl _) _).drew⟩, by simp [intOf]; omega⟩
    · obtain rfl : j = 16 := by omega
      rw [show ((16 : Nat) : Int) = 16 from rfl]
      obtain ⟨wo, rfl⟩ : ∃ wo : World, wo = wr := ⟨_, rfl⟩
      obtain ⟨W0, hW0⟩ : ∃ W0, W0 = (List.range 16).map (word0 B) := ⟨_, rfl⟩
      have hW0l : W0.length = 16 := by rw [hW0]; simp
      have hW0t : ∀ i, W0.getD i 0 < 4294967296 := by rw [hW0]; exact word0_lt B 16
      have hS0 : sched B = extW 48 W0 := by rw [hW0]; rfl
      rw [← hW0] at hrow
      have HS0 := Lib.hid hS0
      clear hW0 hS0
      go_wp2_with fail
      go_loopw [4] (fun i wx => ∃ (m q : Nat), m ≤ 48 ∧ q = 16 + m ∧ i = .int .i64 (q : Int) ∧ wx.ownsRow w.heap.size 127 1 (.slice (some ⟨w.heap.size, 0, none⟩) 64 64) 64 (ucs (extW m W0 ++ List.replicate (64 - q) 0)) ∧ Below w.heap.size w wx) (fun i _ => 64 - (intOf i).toNat)
      case atStart => exact ⟨0, 16, by omega, by omega, rfl, hrow, hbw⟩
      case round =>
        clear hrow hbw hbs
        obtain ⟨m, q, hm, hq, rfl, hrow, hbw⟩ := hrel
        have hbs := hbw.size
        have hLl : (extW m W0).length = q := by rw [extW_length, hW0l, hq]
        have hwd := words_ownE hrow (by simp [hLl]; omega)
        have hLt := extW_lt m W0 hW0t
        by_cases hlt : m < 48
        · have hg : ∀ i, i < q → (extW m W0 ++ List.replicate (64 - q) 0).getD i 0 = (extW m W0).getD i 0 := by
            intro i hi
            rw [List.getD_eq_getElem?_getD, List.getD_eq_getElem?_getD, List.getElem?_append_left (by omega)]
          have hlen : (extW m W0 ++ List.replicate (64 - q) 0).length = 64 := by simp [hLl]; omega
          have c15 := hwd (m + 1) (by omega)
          have c2 := hwd (m + 14) (by omega)
          have c16 := hwd m (by omega)
          have c7 := hwd (m + 9) (by omega)
          rw [hg (m + 1) (by omega), Nat.zero_add] at c15
          rw [hg (m + 14) (by omega), Nat.zero_add] at c2
          rw [hg m (by omega), Nat.zero_add] at c16
          rw [hg (m + 9) (by omega), Nat.zero_add] at c7
          obtain ⟨x15, hx15⟩ : ∃ x : Nat, (extW m W0).getD (m + 1) 0 = x := ⟨_, rfl⟩
          obtain ⟨x2, hx2⟩ : ∃ x : Nat, (extW m W0).getD (m + 14) 0 = x := ⟨_, rfl⟩
          obtain ⟨x16, hx16⟩ : ∃ x : Nat, (extW m W0).getD m 0 = x := ⟨_, rfl⟩
          obtain ⟨x7, hx7⟩ : ∃ x : Nat, (extW m W0).getD (m + 9) 0 = x := ⟨_, rfl⟩
          have l15 := hLt (m + 1)
          have l2 := hLt (m + 14)
          have l16 := hLt m
          have l7 := hLt (m + 9)
          rw [hx15] at c15 l15
          rw [hx2] at c2 l2
          rw [hx16] at c16 l16
          rw [hx7] at c7 l7
          obtain ⟨Y, hY⟩ : ∃ Y, (((x16 + sig0 x15) % 4294967296 + x7) % 4294967296 + sig1 x2) % 4294967296 = Y := ⟨_, rfl⟩
          have hnext : extW (m + 1) W0 = extW m W0 ++ [Y] := by
            rw [extW_succ, nextW, hLl, hq, show 16 + m - 16 = m by omega, show 16 + m - 15 = m + 1 by omega, show 16 + m - 7 = m + 9 by omega, show 16 + m - 2 = m + 14 by omega, hx15, hx2, hx16, hx7, hY]
          have hM : (extW m W0 ++ List.replicate (64 - q) 0).set q Y = extW (m + 1) W0 ++ List.replicate (64 - (q + 1)) 0 := by
            have h := set_next (extW m W0) Y (64 - q) (by omega)
            rw [hLl] at h
            rw [h, hnext, show 64 - (q + 1) = 64 - q - 1 by omega]
          have hcell : ∃ old, wr.cell? ⟨w.heap.size, q, none⟩ = some old := by
            rw [hrow.cellAt q (by omega), ucs_at _ q (by omega)]; exact ⟨_, rfl⟩
          obtain ⟨old, hcell⟩ := hcell
          have hfr := hrow.frozenAt q
          have HM := Lib.hid hM
          have HY := Lib.hid hY
          have HROW := Lib.hid hrow
          clear hnext hx15 hx2 hx16 hx7 hwd hLt hLl hg hlen hM hY hrow
          have w15 : IntKind.i64.wrap ((q : Int) - 15) = (q : Int) - 15 := by rw [IntKind.wrap_i64]; omega
          have p15 : (0 : Int) ≤ (q : Int) - 15 := by omega
          have r15 : (q : Int) - 15 < 64 := by omega
          have t15 : ((q : Int) - 15).toNat = m + 1 := by omega
          have w2 : IntKind.i64.wrap ((q : Int) - 2) = (q : Int) - 2 := by rw [IntKind.wrap_i64]; omega
          have p2 : (0 : Int) ≤ (q : Int) - 2 := by omega
          have r2 : (q : Int) - 2 < 64 := by omega
          have t2 : ((q : Int) - 2).toNat = m + 14 := by omega
          have w16 : IntKind.i64.wrap ((q : Int) - 16) = (q : Int) - 16 := by rw [IntKind.wrap_i64]; omega
          have p16 : (0 : Int) ≤ (q : Int) - 16 := by omega
          have r16 : (q : Int) - 16 < 64 := by omega
          have t16 : ((q : Int) - 16).toNat = m := by omega
          have w7 : IntKind.i64.wrap ((q : Int) - 7) = (q : Int) - 7 := by rw [IntKind.wrap_i64]; omega
          have p7 : (0 : Int) ≤ (q : Int) - 7 := by omega
          have r7 : (q : Int) - 7 < 64 := by omega
          have t7 : ((q : Int) - 7).toNat = m + 9 := by omega
          have hq64 : q < 64 := by omega
          have hq64' : (q : Int) < 64 := by omega
          have hq0 : (0 : Int) ≤ (q : Int) := by omega
          have u15 : (15 : Int) ≤ (q : Int) := by omega
          have u2 : (2 : Int) ≤ (q : Int) := by omega
          have u16 : (16 : Int) ≤ (q : Int) := by omega
          have u7 : (7 : Int) ≤ (q : Int) := by omega
          have HQ := Lib.hid hq
          clear hq hlt hm
          go_upto_region 9 with fail
          go_quiet (fail)
          obtain ⟨wd, hwd⟩ : ∃ wd, wr.drewN nq = wd := ⟨_, rfl⟩
          have d16 : wd.cell? ⟨w.heap.size, m, none⟩ = some (.int .u32 (x16 : Int)) := by rw [← hwd]; simpa using c16
          have d7 : wd.cell? ⟨w.heap.size, m + 9, none⟩ = some (.int .u32 (x7 : Int)) := by rw [← hwd]; simpa using c7
          have dc : wd.cell? ⟨w.heap.size, q, none⟩ = some old := by rw [← hwd]; simpa using hcell
          have df : wd.frozen? ⟨w.heap.size, q, none⟩ = false := by rw [← hwd]; simpa using hfr
          have hbd : Below w.heap.size w wd := by rw [← hwd]; exact below_drewN hbw nq
          have hrd : wd.ownsRow w.heap.size 127 1 (.slice (some ⟨w.heap.size, 0, none⟩) 64 64) 64 (ucs (extW m W0 ++ List.replicate (64 - q) 0)) := by rw [← hwd]; exact HROW.out
          have hsd := hbd.size
          have hnd : w.heap.size < wd.heap.size := World.block_lt_of_cell? _ _ dc
          have hk1 : ∀ z, (wd.setCell ⟨w.heap.size, q, none⟩ z).cell? ⟨w.heap.size, m, none⟩ = some (.int .u32 (x16 : Int)) := fun z => (World.cell?_setCell_other _ _ _ _ (by have := HQ.out; simp only [ne_eq, Addr.mk.injEq, true_and, and_true]; omega)).trans d16
          have hk2 : ∀ z, (wd.setCell ⟨w.heap.size, q, none⟩ z).cell? ⟨w.heap.size, m + 9, none⟩ = some (.int .u32 (x7 : Int)) := fun z => (World.cell?_setCell_other _ _ _ _ (by have := HQ.out; simp only [ne_eq, Addr.mk.injEq, true_and, and_true]; omega)).trans d7
          rw [hwd]
          have HRD := Lib.hid hrd
          clear hwd c15 c2 c16 c7 hcell hfr hbw hbs HROW hrd
          go_wp2_with fail
          go_region_held3 (fun w' => w'.cell? ⟨w.heap.size, m, none⟩ = some (.int .u32 (x16 : Int)) ∧ w'.cell? ⟨w.heap.size, m + 9, none⟩ = some (.int .u32 (x7 : Int)))
            (first | go_keep | exact ⟨keep2 (hk1 _), keep2 (hk2 _)⟩)
            (first
              | (go_at_call_of 76 (x15); go_must (refine (mixed2 x15 7 18 _ _ _ (by assumption) (by omega) (by omega) (by simp) (by simp)).mono ?_); rintro e w' ⟨rfl, rfl⟩)
              | (go_at_call 76; go_must (refine (mixed2 x2 17 19 _ _ _ (by assumption) (by omega) (by omega) (by simp) (by simp)).mono ?_); rintro e w' ⟨rfl, rfl⟩))
          all_goals
            go_wp2_with fail
            have hq := HQ.out
            have hst := row_store HRD.out q Y ((sched_bits x16 x15 x7 x2 l15 l2).trans (congrArg Nat.cast HY.out))
            rw [HM.out] at hst
            exact ⟨⟨m + 1, q + 1, by omega, by omega, by push_cast; rfl, ((hst.alloc _).alloc _).drew, (((hbd.setCell (p := ⟨w.heap.size, q, none⟩) (Nat.le_refl _) _).alloc (by simpa using hsd) _).alloc (by simp; omega) _).drew⟩, by simp [intOf]; omega⟩
        · obtain rfl : m = 48 := by omega
          obtain rfl : q = 64 := by omega
          rw [show 64 - 64 = 0 from rfl, List.replicate_zero, List.append_nil] at hrow
          rw [← HS0.out] at hrow
          have hwh := ownsRow_whole hrow
          have hlen : (ucs (sched B)).toArray.size = 64 := by rw [HS0.out]; simp [ucs, hLl]
          have hi := sizeOf127
          rw [← hlen] at hi
          have h1 : (ucs (sched B)).toArray.all (·.oneCell') = true := by simp [ucs, Value.oneCell']
          obtain ⟨C, hC⟩ : ∃ C, (ucs (sched B)).toArray = C := ⟨_, rfl⟩
          rw [hC] at hwh hi h1 hlen
          have HC := Lib.hid hC
          have HI := Lib.hid hi
          have H1 := Lib.hid h1
          have HL := Lib.hid hlen
          clear hwd hLt hLl hrow hlt hi h1 hlen hq hC
          go_wp2_with (first
            | (refine wpList_load_row (by rfl) 127 (.tmp 2) (by rfl) w.heap.size (by rfl) _ C (0, 0) _ hwh Tryd.underlying127 rfl HI.out ?_)
            | (refine wpList_store_row (by rfl) 127 (.tmp 2) (.tmp 83) (by rfl) w.heap.size C (by rfl) (by rfl) _ C hwh HI.out rfl H1.out ?_))
          exact bodyPost_ret (v := .agg C) (results_cell_row (p := 2) (ty := 127) rfl _ _ w.heap.size _ C (0, 0) _ (by rfl) (setRow_heap _ _ _ _ _ _ hwh) Tryd.underlying127 rfl HI.out) rfl ⟨by rw [HC.out], below_setRow hbw (Nat.le_refl _) _⟩
end Go.Proofs.YtkihcigojhcmgaaDoor
