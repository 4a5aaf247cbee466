/- Small facts on worlds: rows of bytes that the call owns, variables of one cell. No program in sight. The reference's digest is SHA-256 of the string's bytes. Appending one byte to a row of bytes that the call owns. The reference's padding. Appending one word to a row of words that the call owns. -/
import Derived.Laws.IdiomStrings
import Derived.Laws.BytesArg
import Derived.RangeFuncBox
import Derived.RangeFuncNested
import Derived.Test.YtkihcigojhcmgaaDoorRows
import Derived.Test.YtkihcigojhcmgaaDoorG01
import Derived.OwnWalk
import Derived.Laws.BitsAllLaws
import Derived.Lib.Hide
import Derived.Laws.Shifts
import Derived.RegionTactic
import Derived.BigRegion
import Derived.Deep.QuietTactic
import Derived.BigQuiet
import Derived.WalkKit
import Derived.Maps.AppendAt
import Derived.Deep.AppendLies
namespace Go.Proofs.YtkihcigojhcmgaaDoor
open Go.RowKit

/-- Bytes as cells. -/
def bcs (l : List UInt8) : List Value := l.map fun b => Value.int .u8 (b.toNat : Int)
theorem bcs_append (a b : List UInt8) : bcs (a ++ b) = bcs a ++ bcs b := by simp [bcs]
theorem bcs_length (l : List UInt8) : (bcs l).length = l.length := by simp [bcs]
theorem bcs_snoc (l : List UInt8) (b : UInt8) : bcs (l ++ [b]) = bcs l ++ [Value.int .u8 (b.toNat : Int)] := by simp [bcs]

/-- The string of an owned row of bytes. -/
theorem convert_owned {P : Program} {src dst e : TypeId} (hs : P.underlying src = some (.slice e)) (he : P.underlying e = some (.int .u8)) (hd : P.underlying dst = some .string)
    {W : World} {base : Nat} {v : Value} {l : List UInt8} (h : W.ownsRow base e 1 v l.length (bcs l)) : (convert src dst v).run P W = .ok (.string ⟨l.toArray⟩) W := by
  rcases h.2 with ⟨rfl, h0⟩ | ⟨g, cap, cur, rfl, hg, hh, r⟩
  · have : l = [] := List.eq_nil_of_length_eq_zero h0
    subst this
    exact run_convert_bytes_nil W src e hs he 0 0 dst hd
  · refine run_convert_bytes_back W src dst e _ cap l hs he hd fun j hj => h.cells (by simp [Value.ownBlock]) j _ ?_
    simp [bcs, hj]

/-- A row stays owned while a variable of another type is stored into. -/
theorem ownsRow_setBox {W : World} {B base size n : Nat} {t e : TypeId} {u v : Value} {xs : List Value} (h : W.ownsRow base e size v n xs) (hb : Boxed W B t u) (hte : t ≠ e) (u' : Value) : (W.setCell ⟨B, 0, none⟩ u').ownsRow base e size v n xs :=
  h.kept (grownBy_setCell' W B u') (.inr (hb.not_row hte h).symm)
theorem below_setBox {B n₀ : Nat} {w W : World} (h : Below n₀ w W) (hB : n₀ ≤ B) (u : Value) : Below n₀ w (W.setCell ⟨B, 0, none⟩ u) := h.setCell (p := ⟨B, 0, none⟩) hB u
/-- That a variable lies in its block abides the turn of blocks that are no cells. -/
theorem ownFrom_box {β : Type} (B0 B : Nat) (t : TypeId) : OwnFrom B0 (fun (_ : β) W => ∃ u, Boxed W B t u) := by
  rintro s X Y row ⟨u, hu⟩ hg hrow
  refine ⟨u, hu.kept hg fun e' => ?_⟩
  obtain ⟨_, o, ho, hc⟩ := hrow B e'.symm
  rw [show X.heap[B]? = _ from hu] at ho; cases ho; cases hc
end Go.Proofs.YtkihcigojhcmgaaDoor

namespace Go.Proofs.YtkihcigojhcmgaaDoor
open Go.RowKit

theorem ret_intS {k : IntKind} {a b : Int} (h : a = b) : Ending.returned (.int k a) = .returned (.int k b) := by rw [h]
theorem u32_shl_wrap (x m : Nat) : IntKind.u32.wrap ((x : Int) * 2 ^ m) = ((x * 2 ^ m % 4294967296 : Nat) : Int) := by
  have : (x : Int) * 2 ^ m = ((x * 2 ^ m : Nat) : Int) := by push_cast; rfl
  rw [this]
  generalize x * 2 ^ m = y
  simp [IntKind.wrap, IntKind.bits, IntKind.signed]
theorem u32_shr_cast (x n : Nat) : (x : Int) / 2 ^ n = ((x / 2 ^ n : Nat) : Int) := by push_cast; rfl
theorem rotr_lt (x n : Nat) (hx : x < 4294967296) : rotr x n < 4294967296 := by
  unfold rotr
  have h1 : x * 2 ^ (32 - n) % 4294967296 < 2 ^ 32 := Nat.mod_lt _ (by decide)
  have h2 : x / 2 ^ n < 2 ^ 32 := Nat.lt_of_le_of_lt (Nat.div_le_self _ _) hx
  exact Nat.or_lt_two_pow h1 h2

theorem u32_or_nat' (a b : Nat) (ha : a < 4294967296) (hb : b < 4294967296) : bits .or .u32 (a : Int) (b : Int) = ((a ||| b : Nat) : Int) := u32_or_nat a b ha hb
theorem rotr_bits (x n : Nat) (hx : x < 4294967296) : bits .or .u32 ((x : Int) / 2 ^ n) ((x : Int) * 2 ^ (32 - n) % 4294967296) = ((rotr x n : Nat) : Int) := by
  have h0 : ∀ y : Nat, (y : Int) % 4294967296 = ((y % 4294967296 : Nat) : Int) := fun y => by omega
  rw [show (x : Int) * 2 ^ (32 - n) = ((x * 2 ^ (32 - n) : Nat) : Int) by push_cast; rfl, h0, u32_shr_cast, u32_or_nat' _ _ (Nat.lt_of_le_of_lt (Nat.div_le_self _ _) hx) (Nat.mod_lt _ (by decide)), Nat.or_comm]
  rfl

set_option maxHeartbeats 1000000 in
theorem rotated_any (x n : Nat) (w : World) (hx : x < 4294967296) (h1 : 1 ≤ n) (h2 : n ≤ 31) :
    Calls Tryd.prog 68 #[.int .u32 (x : Int), .int .i64 (n : Int)] w fun e w' => e = .returned (.int .u32 ((rotr x n : Nat) : Int)) ∧ ∃ q, w' = w.drewN q := by
  have hb := rotr_bits x n hx
  have hm : min n 32 = n := by omega
  have r1 : (Op.shift .shr .u32 (x : Int) .i64 (n : Int)).run Tryd.prog w.drew = .ok (.int .u32 ((x : Int) / 2 ^ n)) w.drew := by
    rw [shift_shr_any .u32 .i64 (x : Int) (n : Int) (by omega), Int.toNat_natCast, show IntKind.bits .u32 = 32 from rfl, Nat.min_eq_left (by omega)]; rfl
  have r2 : (Op.shift .shl .u32 (x : Int) .i64 (32 - (n : Int))).run Tryd.prog w.drew = .ok (.int .u32 (IntKind.u32.wrap ((x : Int) * 2 ^ (32 - n)))) w.drew := by
    rw [shift_shl_any .u32 .i64 (x : Int) (32 - (n : Int)) (by omega), show IntKind.bits .u32 = 32 from rfl, show (32 - (n : Int)).toNat = 32 - n by omega, Nat.min_eq_left (by omega)]; rfl
  go_enter Tryd.func68, Tryd.ntmps68
  go_wp2
  go_region
  all_goals
    go_wp2
    go_ret
    exact ⟨rfl, 1, rfl⟩

/-- The words k(0) to k(63), laid in memory of the call's own. -/
def kvs : List Value := shaK.map fun k => .int .u32 ((k : Nat) : Int)
theorem kvs_at (i : Nat) (hi : i < 64) : kvs.toArray[i]? = some (Value.int .u32 ((shaK.getD i 0 : Nat) : Int)) := by
  have hl : i < shaK.length := hi
  rw [List.getElem?_toArray, kvs, List.getElem?_map, List.getElem?_eq_getElem hl, List.getD_eq_getElem?_getD, List.getElem?_eq_getElem hl]
  rfl
set_option maxRecDepth 10000 in
set_option maxHeartbeats 1000000 in
theorem constants_any (w : World) :
    Calls Tryd.prog 69 #[] w fun e w' => ∃ c, e = .returned (.slice (some ⟨w.heap.size, 0, none⟩) 64 c) ∧ (∀ i, i < 64 → w'.cell? ⟨w.heap.size, i, none⟩ = some (.int .u32 ((shaK.getD i 0 : Nat) : Int))) ∧ Below w.heap.size w w' := by
  go_enter Tryd.func69, Tryd.ntmps69
  go_wp2
  go_ret
  refine ⟨64, rfl, ?_, (Below.refl _ _).alloc (Nat.le_refl _) _⟩
  intro i hi
  rw [← kvs_at i hi]
  exact World.cell?_alloc_mark w kvs.toArray 83 (0, 0) i
end Go.Proofs.YtkihcigojhcmgaaDoor

namespace Go.Proofs.YtkihcigojhcmgaaDoor
open Go.RowKit

theorem Tryd.infoU8 : (Tryd.prog.info? 5).map (fun i => (i.zero, i.size, i.bytes)) = some (some (.int .u8 0), 1, 1) := by kernel_rfl

/-- The rule. -/
theorem append_byte {ops : Array Oper} {rest : List Oper} {o : Oper} {a : Act} {Q : Exit → Act → World → Prop} {w0 : World} (hgd : o.guard = none) (s x : Operand)
    (ho : o.op = .call { callee := .builtin .append, args := #[s, x], argTypes := #[52, 52] })
    {base : Nat} {v : Value} {n : Nat} {L : List UInt8} (hs : a.eval s = v) (hown : w0.ownsRow base 5 1 v n (bcs L)) (hbase : base ≤ w0.heap.size) (hlen : n ≤ 70368744177664)
    (hx : a.eval x = .slice (some ⟨w0.heap.size, 0, none⟩) 1 1) (y : UInt8) {z : Int} (hz : z = (y.toNat : Int)) {M : List UInt8} (hM : M = L ++ [y])
    (h : ∀ g cap w', w'.ownsRow base 5 1 (.slice (some ⟨g, 0, none⟩) (n + 1) cap) (n + 1) (bcs M) → Below base w0 w' →
      wpList Tryd.prog ops Q rest (a.put o.dst (.slice (some ⟨g, 0, none⟩) (n + 1) cap)) w') :
    wpList Tryd.prog ops Q (o :: rest) a (w0.alloc (.cells #[.int .u8 z] 5)) := by
  obtain ⟨i0, hi, hz0, hz1, hz2⟩ := info_parts Tryd.infoU8
  refine wpList_append_own _ hgd s x 52 ho base 5 i0 (.int .u8 0) 1 1 Tryd.underlying52 hi hz0 hz1 hz2 rfl (by decide) v n (bcs L) hs (hown.alloc _) ⟨w0.heap.size, 0, none⟩ 1 1 [.int .u8 z] hx rfl (cell_one_new _ _ _) (by simp [Value.oneCell']) (by unfold maxLen; omega) (by omega) (by simp; omega) ?_
  intro v' w1 hown' hgrow _
  obtain ⟨g', cap', rfl⟩ := ownsRow_succ hown'
  refine h g' cap' w1 ?_ (((Below.refl _ _).alloc hbase _).grown hgrow (by simp; omega) (fun k hk => (hown.lt k hk).1))
  rw [hM, bcs_snoc, ← hz]
  exact hown'
end Go.Proofs.YtkihcigojhcmgaaDoor

namespace Go.Proofs.YtkihcigojhcmgaaDoor
open Go.RowKit

theorem be8_cast (N k : Nat) : (N : Int) / 2 ^ (8 * k) % 256 = ((UInt8.ofNat (N / 256 ^ k % 256)).toNat : Int) := by
  have hp : (2 : Nat) ^ (8 * k) = 256 ^ k := by rw [Nat.pow_mul]
  have h1 : (N : Int) / 2 ^ (8 * k) % 256 = ((N / 256 ^ k % 256 : Nat) : Int) := by rw [← hp, u32_shr_cast]; omega
  rw [h1, UInt8.toNat_ofNat']
  omega
def sliceLen : Value → Nat
  | .slice _ n _ => n
  | _ => 0

set_option maxRecDepth 100000 in
set_option maxHeartbeats 2000000 in
theorem extended_any (s : ByteArray) (w : World) (hs : s.size ≤ 1000000) :
    Calls Tryd.prog 52 #[.string s] w fun e w' => ∃ g cap, e = .returned (.slice (some ⟨g, 0, none⟩) (pad s.data.toList).length cap) ∧ w'.ownsRow w.heap.size 5 1 (.slice (some ⟨g, 0, none⟩) (pad s.data.toList).length cap) (pad s.data.toList).length (bcs (pad s.data.toList)) ∧ Below w.heap.size w w' := by
  have hpad : pad s.data.toList = s.data.toList ++ 128 :: (List.replicate ((119 - s.size % 64) % 64) 0 ++ be8 (8 * s.size)) := rfl
  have HPAD := Lib.hid hpad
  clear hpad
  go_enter Tryd.func52, Tryd.ntmps52
  go_wp2
  go_loopw [3, 4] (fun v i wr => ∃ j : Nat, j ≤ s.size ∧ i = .int .i64 j ∧ wr.ownsRow w.heap.size 5 1 v j (bcs (s.data.toList.take j)) ∧ Below w.heap.size w wr) (fun _ i _ => s.size - (intOf i).toNat)
  case atStart => exact ⟨0, by omega, rfl, World.ownsRow_nil _ _ _ _, Below.refl _ _⟩
  case round =>
    obtain ⟨j, hj, rfl, hrow, hb⟩ := hrel
    have hbs := hb.size
    by_cases hlt : j < s.size
    · have htake : s.data.toList.take (j + 1) = s.data.toList.take j ++ [s[j]] := by
        rw [List.take_succ_eq_append_getElem (by simpa using hlt)]; rfl
      obtain ⟨y, hy⟩ : ∃ y, s[j] = y := ⟨_, rfl⟩
      rw [hy] at htake
      have HT := Lib.hid htake
      clear htake
      go_wp2_with (at_builtin; refine append_byte rfl _ _ rfl rfl hrow hbs (by omega) rfl y rfl HT.out ?_; intro g cap w1 hrow1 hb1)
      go_roundw
      case rel => exact ⟨j + 1, by omega, by go_num, hrow1, hb.trans hb1⟩
      case measure => simp [intOf]; omega
    · obtain rfl : j = s.size := by omega
      have htl : s.data.toList.take s.size = s.data.toList := List.take_of_length_le (by simp)
      rw [htl] at hrow
      obtain ⟨S, hS⟩ : ∃ S, s.data.toList = S := ⟨_, rfl⟩
      rw [hS] at hrow
      rw [hS] at HPAD
      have hSl : S.length = s.size := by rw [← hS]; simp
      have HSl := Lib.hid hSl
      have HS := Lib.hid hS
      clear htl hS hSl
      obtain ⟨M, hM⟩ : ∃ M, M = S ++ [(128 : UInt8)] := ⟨_, rfl⟩
      go_wp2_with (at_builtin; refine append_byte rfl _ _ rfl rfl hrow hbs (by omega) rfl 128 rfl hM ?_; intro g cap w1 hrow1 hb1)
      have hb2 := hb.trans hb1
      clear hrow hbs hb1
      obtain ⟨Z, hZ⟩ : ∃ Z, Z = (119 - s.size % 64) % 64 := ⟨_, rfl⟩
      rw [← hZ] at HPAD
      go_loopw [3] (fun v wr => ∃ (m g cap : Nat), m ≤ Z ∧ v = .slice (some ⟨g, 0, none⟩) (s.size + 1 + m) cap ∧ wr.ownsRow w.heap.size 5 1 v (s.size + 1 + m) (bcs (S ++ 128 :: List.replicate m 0)) ∧ Below w.heap.size w wr) (fun v _ => Z - (sliceLen v - s.size - 1))
      case atStart => exact ⟨0, g, cap, by omega, rfl, by rw [hM] at hrow1; exact hrow1, hb2⟩
      case round =>
        clear hrow1 hb2
        obtain ⟨m, g, cap, hm, rfl, hrow, hb⟩ := hrel
        have hbs := hb.size
        by_cases hlt : m < Z
        · have hrep : S ++ 128 :: List.replicate (m + 1) 0 = (S ++ 128 :: List.replicate m 0) ++ [0] := by
            rw [List.append_assoc, List.cons_append, ← List.replicate_succ']
          have HREP := Lib.hid hrep
          clear hrep
          have ht : (((s.size : Int) + 1 + (m : Int)) % 64 != 56) = true := by
            rw [bne_iff_ne]; omega
          go_wp2_with (at_builtin; refine append_byte rfl _ _ rfl rfl hrow hbs (by omega) rfl 0 rfl HREP.out ?_; intro g' cap' w1 hrow1 hb1)
          exact ⟨⟨m + 1, g', cap', by omega, rfl, hrow1, hb.trans hb1⟩, by simp only [sliceLen]; omega⟩
        · have hmz : m = Z := by omega
          have ht : (((s.size : Int) + 1 + (m : Int)) % 64 != 56) = false := by
            rw [bne_eq_false_iff_eq]; omega
          rw [← hmz] at HPAD
          have hmz64 : m < 64 := by omega
          clear hlt hmz hm hZ
          obtain ⟨N, hN⟩ : ∃ N, N = 8 * s.size := ⟨_, rfl⟩
          rw [← hN] at HPAD
          have hNi : 8 * (s.size : Int) = (N : Int) := by omega
          have hNb : N ≤ 8000000 := by omega
          clear hN
          go_wp2
          go_loopw [3, 5] (fun v i wr => ∃ (r g cap : Nat) (z : Int), r ≤ 8 ∧ z = (r : Int) - 1 ∧ i = .int .i64 z ∧ v = .slice (some ⟨g, 0, none⟩) (s.size + 1 + m + (8 - r)) cap ∧ wr.ownsRow w.heap.size 5 1 v (s.size + 1 + m + (8 - r)) (bcs (S ++ 128 :: (List.replicate m 0 ++ (be8 N).take (8 - r)))) ∧ Below w.heap.size w wr) (fun _ i _ => (intOf i + 1).toNat)
          case atStart => exact ⟨8, g, cap, 7, by omega, by omega, rfl, rfl, by simpa using hrow, hb⟩
          case round =>
            clear hrow hb hbs
            obtain ⟨r, g, cap, z, hr, hz, rfl, rfl, hrow, hb⟩ := hrel
            have hbs := hb.size
            rcases r with _ | k
            · have hd : decide (0 ≤ z) = false := by rw [decide_eq_false_iff_not]; omega
              have hfin : S ++ 128 :: (List.replicate m 0 ++ (be8 N).take (8 - 0)) = pad S := by
                rw [HPAD.out, Nat.sub_zero, List.take_of_length_le (by rw [be8_length]; omega)]
              rw [hfin] at hrow
              have hpl : (pad S).length = s.size + 1 + m + (8 - 0) := by rw [← hfin]; simp [be8_length, HSl.out]; omega
              rw [← hpl] at hrow ⊢
              obtain ⟨PL, hPL⟩ : ∃ PL, (pad S).length = PL := ⟨_, rfl⟩
              rw [hPL] at hrow ⊢
              have HPL := Lib.hid hPL
              clear hz hNi hfin hpl hPL
              go_wp2
              go_ret
              rw [HS.out, HPL.out]
              exact ⟨g, cap, rfl, hrow, hb⟩
            · obtain rfl : z = (k : Int) := by omega
              have hd : decide (0 ≤ (k : Int)) = true := by rw [decide_eq_true_iff]; omega
              have htake := be8_take N k (by omega)
              have HTK : S ++ 128 :: (List.replicate m 0 ++ (be8 N).take (8 - k)) = (S ++ 128 :: (List.replicate m 0 ++ (be8 N).take (8 - (k + 1)))) ++ [UInt8.ofNat (N / 256 ^ k % 256)] := by
                rw [htake]; simp
              obtain ⟨q, hq⟩ : ∃ q, s.size + 1 + m + (8 - (k + 1)) = q := ⟨_, rfl⟩
              rw [hq] at hrow ⊢
              have HT := Lib.hid HTK
              have HQ := Lib.hid hq
              clear htake HTK hq hz
              have hzz := be8_cast N k
              have HZZ := Lib.hid hzz
              clear hzz
              go_wp2_with (at_builtin; refine append_byte rfl _ _ rfl rfl hrow hbs (by have := HQ.out; omega) rfl _ HZZ.out HT.out ?_; intro g' cap' w1 hrow1 hb1)
              go_roundw
              case rel => exact ⟨k, g', cap', _, by omega, rfl, rfl, by rw [← HQ.out, show 8 - k = 8 - (k + 1) + 1 by omega]; rfl, by rw [← HQ.out] at hrow1; rw [← HQ.out, show s.size + 1 + m + (8 - k) = s.size + 1 + m + (8 - (k + 1)) + 1 by omega]; exact hrow1, hb.trans hb1⟩
              case measure => simp [intOf]
end Go.Proofs.YtkihcigojhcmgaaDoor

namespace Go.Proofs.YtkihcigojhcmgaaDoor
open Go.RowKit

theorem Tryd.infoU32 : (Tryd.prog.info? 83).map (fun i => (i.zero, i.size, i.bytes)) = some (some (.int .u32 0), 1, 4) := by kernel_rfl
/-- Words as cells. -/
def ucs (l : List Nat) : List Value := l.map fun (x : Nat) => Value.int .u32 (x : Int)
theorem ucs_snoc (l : List Nat) (x : Nat) : ucs (l ++ [x]) = ucs l ++ [Value.int .u32 (x : Int)] := by simp [ucs]
theorem ucs_at (l : List Nat) (i : Nat) (h : i < l.length) : (ucs l)[i]? = some (Value.int .u32 ((l.getD i 0 : Nat) : Int)) := by
  rw [ucs, List.getElem?_map, List.getD_eq_getElem?_getD, List.getElem?_eq_getElem h]; rfl

/-- The rule. -/
theorem append_word {ops : Array Oper} {rest : List Oper} {o : Oper} {a : Act} {Q : Exit → Act → World → Prop} {w0 : World} (hgd : o.guard = none) (s x : Operand)
    (ho : o.op = .call { callee := .builtin .append, args := #[s, x], argTypes := #[84, 84] })
    {base : Nat} {v : Value} {n : Nat} {L : List Nat} (hs : a.eval s = v) (hown : w0.ownsRow base 83 1 v n (ucs L)) (hbase : base ≤ w0.heap.size) (hlen : n ≤ 17592186044416)
    (hx : a.eval x = .slice (some ⟨w0.heap.size, 0, none⟩) 1 1) (y : Nat) {z : Int} (hz : z = (y : Int)) {M : List Nat} (hM : M = L ++ [y])
    (h : ∀ g cap w', w'.ownsRow base 83 1 (.slice (some ⟨g, 0, none⟩) (n + 1) cap) (n + 1) (ucs M) → Below base w0 w' →
      wpList Tryd.prog ops Q rest (a.put o.dst (.slice (some ⟨g, 0, none⟩) (n + 1) cap)) w') :
    wpList Tryd.prog ops Q (o :: rest) a (w0.alloc (.cells #[.int .u32 z] 83)) := by
  obtain ⟨i0, hi, hz0, hz1, hz2⟩ := info_parts Tryd.infoU32
  refine wpList_append_own _ hgd s x 84 ho base 83 i0 (.int .u32 0) 1 4 Tryd.underlying84 hi hz0 hz1 hz2 rfl (by decide) v n (ucs L) hs (hown.alloc _) ⟨w0.heap.size, 0, none⟩ 1 1 [.int .u32 z] hx rfl (cell_one_new _ _ _) (by simp [Value.oneCell']) (by unfold maxLen; omega) (by omega) (by simp; omega) ?_
  intro v' w1 hown' hgrow _
  obtain ⟨g', cap', rfl⟩ := ownsRow_succ hown'
  refine h g' cap' w1 ?_ (((Below.refl _ _).alloc hbase _).grown hgrow (by simp; omega) (fun k hk => (hown.lt k hk).1))
  rw [hM, ucs_snoc, ← hz]
  exact hown'

/-- Words that lie in a block, from an offset on. -/
def Words (W : World) (b o : Nat) (L : List Nat) : Prop := ∀ i, i < L.length → W.cell? ⟨b, o + i, none⟩ = some (.int .u32 ((L.getD i 0 : Nat) : Int))
/-- Bytes that lie in a block, from an offset on. -/
def Octets (W : World) (b o : Nat) (L : List UInt8) : Prop := ∀ i, i < L.length → W.cell? ⟨b, o + i, none⟩ = some (.int .u8 (((L.getD i 0).toNat : Nat) : Int))
theorem Words.below {W V : World} {B b o : Nat} {L : List Nat} (h : Words W b o L) (hb : Below B W V) (hlt : b < B) : Words V b o L := fun i hi => (hb.cell (p := ⟨b, o + i, none⟩) hlt).trans (h i hi)
theorem Octets.below {W V : World} {B b o : Nat} {L : List UInt8} (h : Octets W b o L) (hb : Below B W V) (hlt : b < B) : Octets V b o L := fun i hi => (hb.cell (p := ⟨b, o + i, none⟩) hlt).trans (h i hi)
theorem words_own {W : World} {base g n cap : Nat} {L : List Nat} (h : W.ownsRow base 83 1 (.slice (some ⟨g, 0, none⟩) n cap) n (ucs L)) (hl : L.length = n) : Words W g 0 L := by
  intro i hi
  rw [Nat.zero_add, h.cellAt i (by omega), ucs_at L i hi]
/-- The rule at a step of a region that draws its order. -/
theorem step_append_word {ops : Array Oper} {o : Oper} {a : Act} {K : Act → World → Prop} {Q : Exit → Act → World → Prop} {E : Prop} {w : World} (hgd : o.guard = none) (s x : Operand)
    (ho : o.op = .call { callee := .builtin .append, args := #[s, x], argTypes := #[84, 84] })
    {base : Nat} {v : Value} {n : Nat} {L : List Nat} (hs : a.eval s = v) (hown : w.ownsRow base 83 1 v n (ucs L)) (hbase : base ≤ w.heap.size) (hlen : n ≤ 17592186044416)
    (b : Nat) (hx : a.eval x = .slice (some ⟨b, 0, none⟩) 1 1) (y : Nat) {z : Int} (hc : w.cell? ⟨b, 0, none⟩ = some (.int .u32 z)) (hz : z = (y : Int)) {M : List Nat} (hM : M = L ++ [y])
    (h : ∀ g cap w', w'.ownsRow base 83 1 (.slice (some ⟨g, 0, none⟩) (n + 1) cap) (n + 1) (ucs M) → Below base w w' → K (a.put o.dst (.slice (some ⟨g, 0, none⟩) (n + 1) cap)) w') :
    if Region.wanted o (yielded ops a.tmps) = true then Oper.wp Tryd.prog o a w K Q else E := by
  obtain ⟨i0, hi, hz0, hz1, hz2⟩ := info_parts Tryd.infoU32
  refine step_append_lies w hgd s x 84 ho base 83 i0 (.int .u32 0) 1 4 Tryd.underlying84 hi hz0 hz1 hz2 rfl (by decide) v n (ucs L) hs hown ⟨b, 0, none⟩ 1 1 [.int .u32 z] hx rfl ?_ (by simp [Value.oneCell']) (by decide) (by unfold maxLen; omega) (by omega) hbase _ rfl ?_
  · intro j u hj
    match j, hj with
    | 0, hj => cases hj; exact hc
  intro g cap w1 hown' hgrow _ _
  refine h g cap w1 ?_ ((Below.refl _ _).grown hgrow hbase (fun k hk => (hown.lt k hk).1))
  rw [hM, ucs_snoc, ← hz]
  exact hown'
theorem words_news {W : World} {b o : Nat} {L : List Nat} (h : Words W b o L) (j : Nat) (u : Value) (hj : (ucs L)[j]? = some u) : W.cell? (Addr.add ⟨b, o, none⟩ j) = some u := by
  have hl : j < L.length := by
    rcases Nat.lt_or_ge j L.length with h | h
    · exact h
    · rw [List.getElem?_eq_none (by simp [ucs]; omega)] at hj; cases hj
  rw [← hj, ucs_at L j hl, Go.WideShapes.add_plain]
  exact h j hl
/-- The rule for several words that lie in memory. -/
theorem append_words {ops : Array Oper} {rest : List Oper} {o : Oper} {a : Act} {Q : Exit → Act → World → Prop} {w0 : World} (hgd : o.guard = none) (s x : Operand)
    (ho : o.op = .call { callee := .builtin .append, args := #[s, x], argTypes := #[84, 84] })
    {base : Nat} {v : Value} {n : Nat} {L : List Nat} (hs : a.eval s = v) (hown : w0.ownsRow base 83 1 v n (ucs L)) (hbase : base ≤ w0.heap.size) (hlen : n ≤ 17592186044416)
    {xb xo m xc : Nat} (hx : a.eval x = .slice (some ⟨xb, xo, none⟩) m xc) {X : List Nat} (hX : Words w0 xb xo X) (hXl : X.length = m) (hm : 0 < m) (hm2 : m ≤ 17592186000000) {M : List Nat} (hM : M = L ++ X)
    (h : ∀ g cap w', w'.ownsRow base 83 1 (.slice (some ⟨g, 0, none⟩) (n + m) cap) (n + m) (ucs M) → Below base w0 w' → base ≤ g → g < w'.heap.size →
      wpList Tryd.prog ops Q rest (a.put o.dst (.slice (some ⟨g, 0, none⟩) (n + m) cap)) w') :
    wpList Tryd.prog ops Q (o :: rest) a w0 := by
  obtain ⟨i0, hi, hz0, hz1, hz2⟩ := info_parts Tryd.infoU32
  refine wpList_append_lies _ hgd s x 84 ho base 83 i0 (.int .u32 0) 1 4 Tryd.underlying84 hi hz0 hz1 hz2 rfl (by decide) v n (ucs L) hs hown ⟨xb, xo, none⟩ m xc (ucs X) hx (by simp [ucs, hXl]) (words_news hX) (by simp [ucs, Value.oneCell']) hm (by unfold maxLen; omega) (by omega) hbase _ rfl ?_
  intro g cap w1 hown' hgrow hat hlt
  refine h g cap w1 ?_ ((Below.refl _ _).grown hgrow hbase (fun k hk => (hown.lt k hk).1)) ?_ hlt
  · rw [hM, ucs, List.map_append]; exact hown'
  · rcases hat with hat | hat
    · exact (hown.lt _ hat).1
    · omega
theorem ownsRow_cap {W : World} {base e size g n cap : Nat} {xs : List Value} (h : W.ownsRow base e size (.slice (some ⟨g, 0, none⟩) n cap) n xs) : n ≤ cap ∧ cap ≤ maxLen := by
  rcases h.2 with ⟨h', _⟩ | ⟨g', cap', cur, h', _, _, h1, h2, _⟩
  · simp at h'
  · simp only [Value.slice.injEq, Option.some.injEq, Addr.mk.injEq, and_true, true_and] at h'
    obtain ⟨rfl, rfl⟩ := h'
    exact ⟨h1, h2⟩
theorem bcs_at (l : List UInt8) (i : Nat) (h : i < l.length) : (bcs l)[i]? = some (Value.int .u8 (((l.getD i 0).toNat : Nat) : Int)) := by
  rw [bcs, List.getElem?_map, List.getD_eq_getElem?_getD, List.getElem?_eq_getElem h]; rfl
theorem octets_own {W : World} {base g n cap : Nat} {L : List UInt8} (h : W.ownsRow base 5 1 (.slice (some ⟨g, 0, none⟩) n cap) n (bcs L)) (hl : L.length = n) : Octets W g 0 L := by
  intro i hi
  rw [Nat.zero_add, h.cellAt i (by omega), bcs_at L i hi]
theorem octets_alloc (w : World) (L : List UInt8) (cs : Array Value) (h : cs = (bcs L).toArray) : Octets (w.alloc (.cells cs 5)) w.heap.size 0 L := by
  intro i hi
  rw [Nat.zero_add, ← bcs_at L i hi, h]
  have := World.cell?_alloc_mark w (bcs L).toArray 5 (0, 0) i
  rw [List.getElem?_toArray] at this
  exact this
theorem Octets.drew {w : World} {b o : Nat} {L : List UInt8} (h : Octets w b o L) : Octets w.drew b o L := h
theorem Octets.part {W : World} {b o : Nat} {L : List UInt8} (h : Octets W b o L) (k n : Nat) : Octets W b (o + k) ((L.drop k).take n) := by
  intro i hi
  simp only [List.length_take, List.length_drop] at hi
  have := h (k + i) (by omega)
  rw [Nat.add_assoc, this, List.getD_eq_getElem?_getD, List.getD_eq_getElem?_getD, List.getElem?_take_of_lt (by omega), List.getElem?_drop]
theorem octets_news {W : World} {b o : Nat} {L : List UInt8} (h : Octets W b o L) (j : Nat) (u : Value) (hj : (bcs L)[j]? = some u) : W.cell? (Addr.add ⟨b, o, none⟩ j) = some u := by
  have hl : j < L.length := by
    rcases Nat.lt_or_ge j L.length with h | h
    · exact h
    · rw [List.getElem?_eq_none (by simp [bcs]; omega)] at hj; cases hj
  rw [← hj, bcs_at L j hl, Go.WideShapes.add_plain]
  exact h j hl
/-- The rule at a step of a region, for several bytes that lie in memory. -/
theorem step_append_octets {ops : Array Oper} {o : Oper} {a : Act} {K : Act → World → Prop} {Q : Exit → Act → World → Prop} {E : Prop} {w : World} (hgd : o.guard = none) (s x : Operand)
    (ho : o.op = .call { callee := .builtin .append, args := #[s, x], argTypes := #[52, 52] })
    {base : Nat} {v : Value} {n : Nat} {L : List UInt8} (hs : a.eval s = v) (hown : w.ownsRow base 5 1 v n (bcs L)) (hbase : base ≤ w.heap.size) (hlen : n ≤ 70368744177664)
    {xb xo m xc : Nat} (hx : a.eval x = .slice (some ⟨xb, xo, none⟩) m xc) {X : List UInt8} (hX : Octets w xb xo X) (hXl : X.length = m) (hm : 0 < m) (hm2 : m ≤ 70368744177000) {M : List UInt8} (hM : M = L ++ X)
    (h : ∀ g cap w', w'.ownsRow base 5 1 (.slice (some ⟨g, 0, none⟩) (n + m) cap) (n + m) (bcs M) → Below base w w' → K (a.put o.dst (.slice (some ⟨g, 0, none⟩) (n + m) cap)) w') :
    if Region.wanted o (yielded ops a.tmps) = true then Oper.wp Tryd.prog o a w K Q else E := by
  obtain ⟨i0, hi, hz0, hz1, hz2⟩ := info_parts Tryd.infoU8
  refine step_append_lies w hgd s x 52 ho base 5 i0 (.int .u8 0) 1 1 Tryd.underlying52 hi hz0 hz1 hz2 rfl (by decide) v n (bcs L) hs hown ⟨xb, xo, none⟩ m xc (bcs X) hx (by simp [bcs, hXl]) (octets_news hX) (by simp [bcs, Value.oneCell']) hm (by unfold maxLen; omega) (by omega) hbase _ rfl ?_
  intro g cap w1 hown' hgrow _ _
  refine h g cap w1 ?_ ((Below.refl _ _).grown hgrow hbase (fun k hk => (hown.lt k hk).1))
  rw [hM, bcs_append]; exact hown'
/-- The rule for several bytes that lie in memory. -/
theorem append_octets {ops : Array Oper} {rest : List Oper} {o : Oper} {a : Act} {Q : Exit → Act → World → Prop} {w0 : World} (hgd : o.guard = none) (s x : Operand)
    (ho : o.op = .call { callee := .builtin .append, args := #[s, x], argTypes := #[52, 52] })
    {base : Nat} {v : Value} {n : Nat} {L : List UInt8} (hs : a.eval s = v) (hown : w0.ownsRow base 5 1 v n (bcs L)) (hbase : base ≤ w0.heap.size) (hlen : n ≤ 70368744177664)
    {xb xo m xc : Nat} (hx : a.eval x = .slice (some ⟨xb, xo, none⟩) m xc) {X : List UInt8} (hX : Octets w0 xb xo X) (hXl : X.length = m) (hm : 0 < m) (hm2 : m ≤ 70368744177000) {M : List UInt8} (hM : M = L ++ X)
    (h : ∀ g cap w', w'.ownsRow base 5 1 (.slice (some ⟨g, 0, none⟩) (n + m) cap) (n + m) (bcs M) → Below base w0 w' →
      wpList Tryd.prog ops Q rest (a.put o.dst (.slice (some ⟨g, 0, none⟩) (n + m) cap)) w') :
    wpList Tryd.prog ops Q (o :: rest) a w0 := by
  obtain ⟨i0, hi, hz0, hz1, hz2⟩ := info_parts Tryd.infoU8
  refine wpList_append_lies _ hgd s x 52 ho base 5 i0 (.int .u8 0) 1 1 Tryd.underlying52 hi hz0 hz1 hz2 rfl (by decide) v n (bcs L) hs hown ⟨xb, xo, none⟩ m xc (bcs X) hx (by simp [bcs, hXl]) (octets_news hX) (by simp [bcs, Value.oneCell']) hm (by unfold maxLen; omega) (by omega) hbase _ rfl ?_
  intro g cap w1 hown' hgrow _ _
  refine h g cap w1 ?_ ((Below.refl _ _).grown hgrow hbase (fun k hk => (hown.lt k hk).1))
  rw [hM, bcs_append]; exact hown'
/-! ### Arrays of words: a block that is known whole -/
theorem ownsRow_whole {W : World} {base g n : Nat} {e : TypeId} {xs : List Value} (h : W.ownsRow base e 1 (.slice (some ⟨g, 0, none⟩) n n) n xs) : W.heap[g]? = some (.cells xs.toArray e (0, 0)) := by
  rcases h.2 with ⟨h', _⟩ | ⟨g', cap, cur, h', _, hh, _, _, hs, ht⟩
  · simp at h'
  · simp only [Value.slice.injEq, Option.some.injEq, Addr.mk.injEq, and_true, true_and] at h'
    obtain ⟨rfl, rfl⟩ := h'
    rw [hh, ← ht, List.take_of_length_le (by simp [hs])]
theorem ownsRow_of_block {W : World} {base g n : Nat} {e : TypeId} {cs : Array Value} (h : W.heap[g]? = some (.cells cs e (0, 0))) (hb : base ≤ g) (hn : cs.size = n) (hm : n ≤ maxLen) : W.ownsRow base e 1 (.slice (some ⟨g, 0, none⟩) n n) n cs.toList :=
  ⟨by simp [hn], .inr ⟨g, n, cs, rfl, hb, h, Nat.le_refl _, hm, by simp [hn], List.take_of_length_le (by simp [hn])⟩⟩
theorem words_ownE {W : World} {base g n cap : Nat} {e : TypeId} {L : List Nat} (h : W.ownsRow base e 1 (.slice (some ⟨g, 0, none⟩) n cap) n (ucs L)) (hl : L.length = n) : Words W g 0 L := by
  intro i hi
  rw [Nat.zero_add, h.cellAt i (by omega), ucs_at L i hi]
theorem ucs_set (L : List Nat) (j x : Nat) : (ucs L).set j (.int .u32 (x : Int)) = ucs (L.set j x) := by simp [ucs, List.map_set]
theorem row_store {W : World} {base g n cap : Nat} {e : TypeId} {L : List Nat} (h : W.ownsRow base e 1 (.slice (some ⟨g, 0, none⟩) n cap) n (ucs L)) (j x : Nat) {z : Int} (hz : z = (x : Int)) : (W.setCell ⟨g, j, none⟩ (.int .u32 z)).ownsRow base e 1 (.slice (some ⟨g, 0, none⟩) n cap) n (ucs (L.set j x)) := by
  rw [hz, ← ucs_set]; exact (h.stored j _).1
theorem set_next (A : List Nat) (x m : Nat) (hm : 0 < m) : (A ++ List.replicate m 0).set A.length x = (A ++ [x]) ++ List.replicate (m - 1) 0 := by
  obtain ⟨m, rfl⟩ : ∃ k, m = k + 1 := ⟨m - 1, by omega⟩
  rw [List.set_append_right _ _ (Nat.le_refl _), Nat.sub_self, List.replicate_succ, List.set_cons_zero]; simp
theorem words_allocE (w : World) (e : TypeId) (L : List Nat) (cs : Array Value) (h : cs = (ucs L).toArray) : Words (w.alloc (.cells cs e)) w.heap.size 0 L := by
  intro i hi
  rw [Nat.zero_add, ← ucs_at L i hi, h]
  have := World.cell?_alloc_mark w (ucs L).toArray e (0, 0) i
  rw [List.getElem?_toArray] at this
  exact this
end Go.Proofs.YtkihcigojhcmgaaDoor
