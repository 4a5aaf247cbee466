/- The reference's digest of a string is SHA-256 of its bytes. Package digest: rotations, and words combined with rotations. -/
import Derived.Test.YtkihcigojhcmgaaDoorG03
namespace Go.Proofs.YtkihcigojhcmgaaDoor
open Go.RowKit

def wordBytes (x : Nat) : List UInt8 := [UInt8.ofNat (x / 256 ^ 3 % 256), UInt8.ofNat (x / 256 ^ 2 % 256), UInt8.ofNat (x / 256 ^ 1 % 256), UInt8.ofNat (x / 256 ^ 0 % 256)]
theorem outW_words (h : List Nat) : outW h = (List.range 8).flatMap fun i => wordBytes (h.getD i 0) := rfl
theorem byte_of (x m : Nat) (z : Int) (hz : z = ((x / m % 256 : Nat) : Int)) : Value.int .u8 z = Value.int .u8 ((UInt8.ofNat (x / m % 256)).toNat : Int) := by
  rw [hz, UInt8.toNat_ofNat']
  have : x / m % 256 % 2 ^ 8 = x / m % 256 := by omega
  rw [this]
theorem bcs_word (x : Nat) : bcs (wordBytes x) = [Value.int .u8 (IntKind.u8.wrap ((x : Int) / 16777216)), .int .u8 (IntKind.u8.wrap ((x : Int) / 65536)), .int .u8 (IntKind.u8.wrap ((x : Int) / 256)), .int .u8 (IntKind.u8.wrap (x : Int))] := by
  have e0 : ∀ z : Int, IntKind.u8.wrap z = z % 256 := fun z => by simp [IntKind.wrap, IntKind.bits, IntKind.signed]
  rw [e0, e0, e0, e0, byte_of x (256 ^ 3) ((x : Int) / 16777216 % 256) (by omega), byte_of x (256 ^ 2) ((x : Int) / 65536 % 256) (by omega), byte_of x (256 ^ 1) ((x : Int) / 256 % 256) (by omega), byte_of x (256 ^ 0) ((x : Int) % 256) (by omega)]
  rfl
theorem addW_length (h v : List Nat) : (addW h v).length = 8 := by simp [addW]
theorem addW_lt (h v : List Nat) (i : Nat) : (addW h v).getD i 0 < 4294967296 := map_lt (by omega) (fun k => Nat.mod_lt _ (by omega)) _ i
theorem block_length (h : List Nat) (b : List UInt8) : (block h b).length = 8 := addW_length _ _
theorem block_lt (h : List Nat) (b : List UInt8) (i : Nat) : (block h b).getD i 0 < 4294967296 := addW_lt _ _ i
theorem shaH_lt (i : Nat) : shaH.getD i 0 < 4294967296 := getD_all (by omega) (by decide) i
theorem pad_le (s : List UInt8) : (pad s).length ≤ s.length + 72 + 64 := by
  simp [pad, be8_length]; omega

set_option maxRecDepth 100000 in
set_option maxHeartbeats 2000000 in
theorem refSum2_any (s : ByteArray) (w : World) (hs : s.size ≤ 1000000) :
    Calls Tryd.prog 28 #[.string s] w fun e w' => e = .returned (.string ⟨(sha s.data.toList).toArray⟩) ∧ Below w.heap.size w w' := by
  have hsh : sha s.data.toList = outW (blocks ((pad s.data.toList).length / 64) shaH (pad s.data.toList)) := rfl
  have HSH := Lib.hid hsh
  clear hsh
  have hS0 : s.data.toList.length = s.size := by simp
  go_enter Tryd.func28, Tryd.ntmps28
  go_wp2_with fail
  refine (extended_any s _ hs).mono ?_
  rintro e w1 ⟨g, cap, rfl, hrow, hb1⟩
  have hP1 := pad_length s.data.toList
  have hP2 := pad_le s.data.toList
  rw [hS0] at hP2
  generalize pad s.data.toList = P at *
  obtain ⟨N, hN⟩ : ∃ N, P.length / 64 = N := ⟨_, rfl⟩
  rw [hN] at HSH
  obtain ⟨pl, hpl⟩ : ∃ pl, P.length = pl := ⟨_, rfl⟩
  rw [hpl] at hrow hP1 hP2 hN ⊢
  have hcap := ownsRow_cap hrow
  have hoct := octets_own hrow hpl
  have hgl := (hrow.lt g rfl).2
  have HOCT := Lib.hid hoct
  have HPL := Lib.hid hpl
  have hH0 : Words w1 w.heap.size 0 shaH := (words_alloc w shaH _ rfl).below hb1 (by simp)
  have hbw1 : Below w.heap.size w w1 := ((Below.refl _ _).alloc (Nat.le_refl _) _).trans (hb1.mono (by simp))
  have hhl : w.heap.size < w1.heap.size := by have := hb1.size; simp at this; omega
  have HH0 := Lib.hid hH0
  have hNb : pl = 64 * N := by omega
  have HNB := Lib.hid hNb
  have hcap1 := hcap.1
  have hcap2 := hcap.2
  unfold maxLen at hcap2
  have hplb : pl ≤ 1000200 := by omega
  clear hoct hpl hH0 hb1 hrow hP1 hP2 hN hcap hNb
  go_wp2_with fail
  go_loopw [3, 5] (fun v i wx => ∃ (k q gx cx : Nat) (H : List Nat), k ≤ N ∧ q = 64 * k ∧ i = .int .i64 (q : Int) ∧ v = .slice (some ⟨gx, 0, none⟩) 8 cx ∧ blocks (N - k) H (P.drop q) = blocks N shaH P ∧ H.length = 8 ∧ (∀ i, H.getD i 0 < 4294967296) ∧ Words wx gx 0 H ∧ gx < wx.heap.size ∧ Below w1.heap.size w1 wx) (fun _ i _ => pl - (intOf i).toNat)
  case atStart => exact ⟨0, 0, w.heap.size, 8, shaH, by omega, by omega, rfl, rfl, by simp, rfl, shaH_lt, HH0.out, hhl, Below.refl _ _⟩
  case round =>
    obtain ⟨k, q, gx, cx, H, hk, hq, rfl, rfl, hbl, hHl, hHt, hwH, hgx, hbx⟩ := hrel
    have HB := Lib.hid hbl
    clear hbl
    by_cases hlt : k < N
    · have hpn := HNB.out
      have hq2 : q < pl := by omega
      have hq3 : q + 64 ≤ pl := by omega
      have hq4 : (q : Int) + 64 ≤ (cap : Int) := by omega
      have hblk : blocks (N - (k + 1)) (block H ((P.drop q).take 64)) (P.drop (q + 64)) = blocks N shaH P := by
        rw [← HB.out, show N - k = N - (k + 1) + 1 by omega, blocks, List.drop_drop]
      have HBK := Lib.hid hblk
      have hpart := ((HOCT.out).below hbx hgl).part q 64
      rw [Nat.zero_add] at hpart
      have hplen : ((P.drop q).take 64).length = 64 := by rw [List.length_take, List.length_drop, HPL.out]; omega
      have HPT := Lib.hid hpart
      have HPN := Lib.hid hplen
      have HQ := Lib.hid hq
      have hgl2 : g < wr.heap.size := Nat.lt_of_lt_of_le hgl hbx.size
      have HHT := Lib.hid hHt
      have HHL := Lib.hid hHl
      have HWH := Lib.hid hwH
      have hbsx := hbx.size
      clear hblk hpart hplen hq hpn hHt hHl hwH
      go_wp2_with fail
      refine (refBlock_any H _ gx cx g q _ _ HHL.out HPN.out HHT.out HWH.out HPT.out hgx hgl2).mono ?_
      rintro e w2 ⟨gy, cy, rfl, hwy, hb2, hgy1, hgy2⟩
      have HWY := Lib.hid hwy
      clear hwy
      go_wp2_with fail
      have hq' := HQ.out
      exact ⟨⟨k + 1, q + 64, gy, cy, _, by omega, by omega, by push_cast; rfl, rfl, HBK.out, block_length _ _, block_lt _ _, HWY.out, hgy2, hbx.trans (hb2.mono hbsx)⟩, by simp [intOf]; omega⟩
    · obtain rfl : k = N := by omega
      have hpn := HNB.out
      obtain rfl : q = pl := by omega
      have hfin : sha s.data.toList = (List.range 8).flatMap fun i => wordBytes (H.getD i 0) := by
        rw [HSH.out, ← HB.out, Nat.sub_self, blocks, outW_words]
      have HF := Lib.hid hfin
      obtain ⟨wo, rfl⟩ : ∃ wo : World, wo = wr := ⟨_, rfl⟩
      have HHL := Lib.hid hHl
      have HWH := Lib.hid hwH
      have hbwx := hbw1.trans (hbx.mono hbw1.size)
      clear hfin hHl hwH hHt hpn hq hlt hk
      go_wp2_with fail
      go_loopw [6, 7] (fun v i wx => ∃ (j n : Nat), j ≤ 8 ∧ n = 4 * j ∧ i = .int .i64 j ∧ wx.ownsRow wo.heap.size 5 1 v n (bcs ((List.range j).flatMap fun i => wordBytes (H.getD i 0))) ∧ Below wo.heap.size wo wx) (fun _ i _ => 8 - (intOf i).toNat)
      case atStart => exact ⟨0, 0, by omega, by omega, rfl, World.ownsRow_nil _ _ _ _, Below.refl _ _⟩
      case round =>
        obtain ⟨j, n, hj, hn, rfl, hrow, hby⟩ := hrel
        have hbsy := hby.size
        by_cases hlt : j < 8
        · have ch := (HWH.out.below hby hgx) j (by rw [HHL.out]; exact hlt)
          rw [Nat.zero_add] at ch
          have hM : (List.range (j + 1)).flatMap (fun i => wordBytes (H.getD i 0)) = (List.range j).flatMap (fun i => wordBytes (H.getD i 0)) ++ wordBytes (H.getD j 0) := by
            rw [List.range_succ, List.flatMap_append]; simp
          have HM := Lib.hid hM
          clear hM
          generalize H.getD j 0 = x at *
          have hbw := bcs_word x
          have HBW := Lib.hid hbw
          have n0 : (0 : Int) ≤ (j : Int) := by omega
          have n1 : (j : Int) < 8 := by omega
          have HN := Lib.hid hn
          have hn32 : n ≤ 32 := by omega
          clear hbw hn
          go_wp2_with fail
          go_region_held3 (fun w' => w'.cell? ⟨gx, j, none⟩ = some (.int .u32 (x : Int)))
            (first | go_keep | ((rw [hb1.cell (p := ⟨gx, _, none⟩) hgx]; assumption)))
            ((refine step_append_octets (by rfl) _ _ (by rfl) (by rfl) ((hrow.alloc _).drew) (by simp; omega) (by omega) (by rfl) (octets_alloc wr (wordBytes x) _ (by rw [HBW.out])) (show (wordBytes x).length = 4 from rfl) (by omega) (by omega) HM.out ?_; intro g' cap' w1 hrow1 hb1))
          go_wp2_with fail
          have hn := HN.out
          exact ⟨⟨j + 1, n + 4, by omega, by omega, by push_cast; rfl, hrow1, hby.trans (((Below.refl _ _).alloc hbsy _).drew.trans hb1)⟩, by simp [intOf]; omega⟩
        · obtain rfl : j = 8 := by omega
          have hcv : (convert 52 9 u6).run Tryd.prog wr = .ok (.string ⟨(sha s.data.toList).toArray⟩) wr := by
            rw [HF.out]
            refine convert_owned Tryd.underlying52 Tryd.underlying5 Tryd.underlying9 (base := wo.heap.size) ?_
            have e : ((List.range 8).flatMap fun i => wordBytes (H.getD i 0)).length = n := by rw [hn]; rfl
            rw [e]; exact hrow
          have hend := hbwx.trans (hby.mono hbwx.size)
          clear hrow hn HF HHL HWH
          go_wp2_with fail
          go_ret
          exact ⟨rfl, hend⟩
end Go.Proofs.YtkihcigojhcmgaaDoor

namespace Go.Proofs.YtkihcigojhcmgaaDoor
open Go.RowKit

theorem rotl_bits (x n : Nat) (hx : x < 4294967296) (h2 : n ≤ 31) : bits .or .u32 ((x : Int) * 2 ^ (32 - n) % 4294967296) ((x : Int) / 2 ^ (32 - (32 - n))) = ((rotr x n : Nat) : Int) := by
  have h0 : ∀ y : Nat, (y : Int) % 4294967296 = ((y % 4294967296 : Nat) : Int) := fun y => by omega
  rw [show 32 - (32 - n) = n by omega, show (x : Int) * 2 ^ (32 - n) = ((x * 2 ^ (32 - n) : Nat) : Int) by push_cast; rfl, h0, u32_shr_cast, u32_or_nat' _ _ (Nat.mod_lt _ (by decide)) (Nat.lt_of_le_of_lt (Nat.div_le_self _ _) hx)]
  rfl
theorem neg_and' : ∀ n, n < 32 → 1 ≤ n → bits .and .u64 ((18446744073709551616 - n : Nat) : Int) 31 = ((32 - n : Nat) : Int) := by decide +kernel
theorem neg_and (n : Nat) (h1 : 1 ≤ n) (h2 : n ≤ 31) : bits .and .u64 (IntKind.u64.wrap (-(n : Int))) 31 = ((32 - n : Nat) : Int) := by
  have e : IntKind.u64.wrap (-(n : Int)) = ((18446744073709551616 - n : Nat) : Int) := by rw [IntKind.wrap_u64]; omega
  rw [e]
  exact neg_and' n (by omega) h1

set_option maxHeartbeats 1000000 in
theorem rotl_any (x n : Nat) (w : World) (hx : x < 4294967296) (h1 : 1 ≤ n) (h2 : n ≤ 31) :
    Calls Tryd.prog 80 #[.int .u32 (x : Int), .int .i64 (-(n : Int))] w fun e w' => e = .returned (.int .u32 ((rotr x n : Nat) : Int)) ∧ w = w' := by
  have hb := rotl_bits x n hx h2
  have hn := neg_and n h1 h2
  have r1 : ∀ w : World, (Op.shift .shl .u32 (x : Int) .u64 ((32 - n : Nat) : Int)).run Tryd.prog w = .ok (.int .u32 (IntKind.u32.wrap ((x : Int) * 2 ^ (32 - n)))) w := by
    intro w
    rw [shift_shl_any .u32 .u64 (x : Int) ((32 - n : Nat) : Int) (by omega), show IntKind.bits .u32 = 32 from rfl, Int.toNat_natCast, Nat.min_eq_left (by omega)]; rfl
  have HB := Lib.hid hb
  clear hb
  go_enter Tryd.func80, Tryd.ntmps80
  go_wp2_with fail
  go_ret
  exact ⟨ret_intS HB.out, rfl⟩

/-- What mixed comes to. -/
def mix (x : Nat) : List Nat → Nat → Nat
  | [], out => out
  | n :: l, out => mix x l (out ^^^ rotr x n)
theorem mix_lt {x : Nat} (hx : x < 4294967296) : ∀ (l : List Nat) (out : Nat), out < 4294967296 → mix x l out < 4294967296
  | [], _, h => h
  | n :: l, _, h => mix_lt hx l _ (xor_lt32 h (rotr_lt x n hx))
/-- Integers that lie in a block, from an offset on. -/
def Ints (W : World) (b o : Nat) (L : List Nat) : Prop := ∀ i, i < L.length → W.cell? ⟨b, o + i, none⟩ = some (.int .i64 ((L.getD i 0 : Nat) : Int))

set_option maxHeartbeats 1000000 in
theorem mixed_any (x : Nat) (L : List Nat) (b c : Nat) (w : World) (hx : x < 4294967296) (hL : Ints w b 0 L) (hr : ∀ i, i < L.length → 1 ≤ L.getD i 0 ∧ L.getD i 0 ≤ 31) (hlen : L.length ≤ 10) :
    Calls Tryd.prog 76 #[.int .u32 (x : Int), .slice (some ⟨b, 0, none⟩) L.length c] w fun e w' => e = .returned (.int .u32 ((mix x L 0 : Nat) : Int)) ∧ w = w' := by
  obtain ⟨m, hm⟩ : ∃ m, L.length = m := ⟨_, rfl⟩
  rw [hm] at hr hlen ⊢
  have HM := Lib.hid hm
  have HL := Lib.hid hL
  have HR := Lib.hid hr
  clear hm hL hr
  go_enter Tryd.func76, Tryd.ntmps76
  go_wp2_with fail
  go_loop [5, 10] (fun v i => ∃ (j y : Nat), j ≤ m ∧ i = .int .i64 j ∧ v = .int .u32 (y : Int) ∧ y < 4294967296 ∧ mix x (L.drop j) y = mix x L 0) (fun _ i => m - (intOf i).toNat)
  case atStart => exact ⟨0, 0, by omega, rfl, rfl, by omega, rfl⟩
  case round =>
    obtain ⟨j, y, hj, rfl, rfl, hy, hmx⟩ := hrel
    by_cases hlt : j < m
    · have hc := HL.out j (by rw [HM.out]; exact hlt)
      rw [Nat.zero_add] at hc
      have hrj := HR.out j hlt
      have hd : L.drop j = L.getD j 0 :: L.drop (j + 1) := by
        rw [List.drop_eq_getElem_cons (by rw [HM.out]; exact hlt), List.getD_eq_getElem?_getD, List.getElem?_eq_getElem (by rw [HM.out]; exact hlt)]; rfl
      rw [hd, mix] at hmx
      have HX := Lib.hid hmx
      clear hmx hd
      generalize L.getD j 0 = n at *
      have hx1 := u32_xor_nat' y (rotr x n) hy (rotr_lt x n hx)
      have hxl := xor_lt32 hy (rotr_lt x n hx)
      have n0 : (0 : Int) ≤ (j : Int) := by omega
      have n1 : (j : Int) < (m : Int) := by omega
      obtain ⟨hr1, hr2⟩ := hrj
      go_wp2_with fail
      refine (rotl_any x n _ hx hr1 hr2).mono ?_
      rintro e w' ⟨rfl, rfl⟩
      go_wp2_with fail
      exact ⟨⟨j + 1, _, by omega, by push_cast; rfl, rfl, hxl, HX.out⟩, by simp [intOf]; omega⟩
    · obtain rfl : j = m := by omega
      have hfin : mix x L 0 = y := by rw [← hmx, List.drop_of_length_le (by rw [HM.out]; exact Nat.le_refl _), mix]
      have HF := Lib.hid hfin
      clear hfin hmx
      go_wp2_with fail
      go_ret
      exact ⟨ret_intS (by rw [HF.out]), rfl⟩
end Go.Proofs.YtkihcigojhcmgaaDoor
