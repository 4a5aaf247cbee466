/- What PutInt of package wire comes to: for every integer that has an encoding its bytes, else the error; nothing that lay before the call is turned. Small facts on worlds: rows of bytes that the call owns, variables of one cell. No program in sight. What PutInt of package wire comes to: for every integer that has an encoding its bytes, else the error; nothing that lay before the call is turned. What Int and String of package wire come to, and their counterparts of the reference: plain functions of the string and the offset; the world is left alone. What String, PutString of package wire come to, for every string and offset; and the helper that picks an index. -/
import Derived.Test.YtinknenfhohamaaGreatDoorRows
import Derived.Test.YtinknenfhohamaaGreatDoorG30
import Derived.Test.YtinknenfhohamaaGreatDoorG22
import Derived.Shelf.Abstract
import Derived.WalkKit
import Derived.OwnWalkIn
import Derived.TacticsInMore
import Derived.LoopNIn
import Derived.LoopIn
import Derived.Maps.AppendAt
import Derived.Outline
import Derived.Lib.Hide
import Derived.Laws.BitsAllLaws
import Derived.Laws.IdiomStrings
import Derived.Laws.BytesArg
import Derived.RangeFuncBox
import Derived.RangeFuncNested
import Derived.WalkSpells
import Derived.WalkLawsBesides
import Derived.Lib.Strings
namespace Go.Proofs.YtinknenfhohamaaGreatDoor
open Go.RowKit Go.Shelf

attribute [local go_sem] Oper.semAt_some

/-- The numbers that the iterator has, one by one. -/
def chain : Nat → Nat → List Nat
  | 0, _ => []
  | f + 1, z => if z < 128 then [z] else z :: chain f (z / 128)
/-- The byte that is written for one. -/
def grp (x : Nat) : UInt8 := UInt8.ofNat (if x < 128 then x else x % 128 + 128)
theorem chain_leb (f : Nat) : ∀ z : Nat, (chain f z).map grp = leb f z := by
  induction f with
  | zero => intro z; rfl
  | succ f ih =>
    intro z
    rw [chain, leb]
    by_cases h : z < 128
    · rw [if_pos h, if_pos h]; simp [grp, h]
    · rw [if_neg h, if_neg h]; simp [grp, h, ih]

/-- What the iterator asks of a round: its own counter lies as it lay. -/
def KeepsBox (b : Nat) (A B : World) : Prop := B.cell? ⟨b, 0, none⟩ = A.cell? ⟨b, 0, none⟩ ∧ B.frozen? ⟨b, 0, none⟩ = A.frozen? ⟨b, 0, none⟩
/-- What it turns: its own counter. -/
def SetsBox (b : Nat) (A B : World) : Prop := ∃ v, B = A.setCell ⟨b, 0, none⟩ v
theorem SetsBox.cells (b : Nat) : CellsAlone (SetsBox b) := by
  rintro A B k o ⟨v, rfl⟩ hk ho
  exact (KeepsOthers.setCell A ⟨b, 0, none⟩ v).same k o hk ho

/-- The counter, read off the world. -/
def boxOf (b : Nat) (W : World) : Nat := match W.cell? ⟨b, 0, none⟩ with | some v => (intOf v).toNat | none => 0

set_option maxRecDepth 100000 in
set_option maxHeartbeats 1000000 in
theorem groups1_in (n : Nat) (hn : 1 ≤ n) (b z0 : Nat) (hz0 : z0 < 18446744073709551616) :
    Iter Fence.wide n Tryz.prog 170 #[.pointer (some ⟨b, 0, none⟩)] (fun x : Nat => #[Value.int .u8 ((x : Int) % 128), Value.bool (decide (x < 128))]) (SetsBox b) (KeepsBox b)
      (fun xs => xs = chain 10 z0) (fun _ => True) 10 (fun W => W.cell? ⟨b, 0, none⟩ = some (.int .u64 z0) ∧ W.frozen? ⟨b, 0, none⟩ = false) := by
  rintro l J Jx W ⟨hc, hf⟩ hJ hJx hY h0
  refine callsIn_of_wp Tryz.func170 rfl trivial ?_ rfl
  simp only [Tryz.ntmps170, List.size_toArray, List.length_cons, List.length_nil, Nat.reduceAdd, Nat.reduceSub, Array.replicate_succ, Array.replicate_zero, List.push_toArray, List.append_toArray, List.nil_append, List.cons_append]
  gi_wp2
  gi_loopw [3] (fun _ wr => ∃ (pre : List Nat) (z f : Nat), pre ++ chain f z = chain 10 z0 ∧ pre.length + f = 10 ∧ 1 ≤ f ∧ z < 128 ^ f ∧ z < 18446744073709551616 ∧ wr.cell? ⟨b, 0, none⟩ = some (.int .u64 z) ∧ wr.frozen? ⟨b, 0, none⟩ = false ∧ J pre wr)
    (fun _ wr => boxOf b wr)
  case atStart => exact ⟨[], z0, 10, rfl, rfl, by omega, by omega, hz0, hc, hf, h0⟩
  case round =>
    obtain ⟨pre, z, f, hch, hlen, hf0, hzf, hz, hc1, hf1, hJ1⟩ := hrel
    obtain ⟨g, rfl⟩ : ∃ g, f = g + 1 := ⟨f - 1, by omega⟩
    have hY1 := hY pre z wr hJ1 (by omega)
    have hand : bits .and .u64 (z : Int) 127 = (z : Int) % 128 := by
      have := u64_and_nat z 127 hz (by omega)
      rw [show ((127 : Nat) : Int) = 127 from rfl] at this
      rw [this, nat_mask7]; omega
    by_cases hlt : z < 128
    · rw [show (decide (z < 128)) = true by simp [hlt]] at hY1
      have hd : decide ((z : Int) < 128) = true := by simp; omega
      have hfin : pre ++ [z] = chain 10 z0 := by rw [← hch, chain, if_pos hlt]
      obtain ⟨fn, tmps, assign, body, hy, hR⟩ := hY1
      have HF := Lib.hid hfin
      clear hfin hch hzf hJ hJx hY h0 hJ1 hlen
      gi_wp2
      refine hR.mono ?_
      rintro e W3 (⟨rfl, hJ3, hk3⟩ | ⟨rfl, hJx3⟩)
      · gi_wp2
        refine bodyPost_ret (results_none rfl _ _ _) rfl ?_
        exact ⟨⟨_, rfl⟩, .inl ⟨_, HF.out, hJ3⟩⟩
      · gi_wp2
        refine bodyPost_ret (results_none rfl _ _ _) rfl ?_
        exact ⟨⟨_, rfl⟩, .inr ⟨_, trivial, hJx3⟩⟩
    · rw [show (decide (z < 128)) = false by simp [hlt]] at hY1
      have hd : decide ((z : Int) < 128) = false := by simp; omega
      have hfin : (pre ++ [z]) ++ chain g (z / 128) = chain 10 z0 := by rw [← hch, chain, if_neg hlt]; simp
      have hzf' : z / 128 < 128 ^ g := by rw [Nat.pow_succ] at hzf; omega
      have hg1 : 1 ≤ g := by
        rcases Nat.eq_zero_or_pos g with rfl | h
        · simp at hzf; omega
        · exact h
      obtain ⟨fn, tmps, assign, body, hy, hR⟩ := hY1
      have HF := Lib.hid hfin
      have HZ := Lib.hid hzf'
      have HL := Lib.hid hlen
      have HJ := Lib.hid hJ
      clear hfin hch hzf hzf' hJ hJx hY h0 hJ1 hlen
      gi_wp2
      refine hR.mono ?_
      rintro e W3 (⟨rfl, hJ3, hk3⟩ | ⟨rfl, hJx3⟩)
      · have hc3 : W3.cell? ⟨b, 0, none⟩ = some (.int .u64 z) := hk3.1.trans hc1
        have hf3 : W3.frozen? ⟨b, 0, none⟩ = false := hk3.2.trans hf1
        clear hk3
        gi_wp2
        go_roundw
        case rel =>
          refine ⟨pre ++ [z], z / 128, g, HF.out, by have := HL.out; simp; omega, hg1, HZ.out, by omega, ?_, ?_, HJ.out _ _ _ hJ3 ⟨_, rfl⟩⟩
          · rw [World.cell?_setCell_same' _ _ _ (by rw [hc3]; rfl)]; rfl
          · rw [World.frozen?_setCell]; exact hf3
        case measure =>
          have e1 : boxOf b wr = z := by simp [boxOf, hc1, intOf]
          have e2 : boxOf b (W3.setCell ⟨b, 0, none⟩ (.int .u64 ((z : Int) / 128))) = z / 128 := by
            simp only [boxOf]; rw [World.cell?_setCell_same' _ _ _ (by rw [hc3]; rfl)]; simp [intOf]; omega
          rw [e1, e2]; omega
      · gi_wp2
        refine bodyPost_ret (results_none rfl _ _ _) rfl ?_
        exact ⟨⟨_, rfl⟩, .inr ⟨_, trivial, hJx3⟩⟩
end Go.Proofs.YtinknenfhohamaaGreatDoor

namespace Go.Proofs.YtinknenfhohamaaGreatDoor
open Go.RowKit

/-- Bytes as cells. -/
def bcs (l : List UInt8) : List Value := l.map fun b => Value.int .u8 (b.toNat : Int)
theorem bcs_append (a b : List UInt8) : bcs (a ++ b) = bcs a ++ bcs b := by simp [bcs]
theorem bcs_length (l : List UInt8) : (bcs l).length = l.length := by simp [bcs]
theorem bcs_snoc (l : List UInt8) (b : UInt8) : bcs (l ++ [b]) = bcs l ++ [Value.int .u8 (b.toNat : Int)] := by simp [bcs]

/-- The string of an owned row of bytes. -/
theorem convert_owned {P : Program} {src dst e : TypeId} (hs : P.underlying src = some (.slice e)) (he : P.underlying e = some (.int .u8)) (hd : P.underlying dst = some .string)
    {W : World} {base : Nat} {v : Value} {l : List UInt8} (h : W.ownsRow base e 1 v l.length (bcs l)) : (convert src dst v).run P W = .ok (.string ⟨l.toArray⟩) W := by
  rcases h.2 with ⟨rfl, h0⟩ | ⟨g, cap, cur, rfl, hg, hh, r⟩
  · have : l = [] := List.eq_nil_of_length_eq_zero h0
    subst this
    exact run_convert_bytes_nil W src e hs he 0 0 dst hd
  · refine run_convert_bytes_back W src dst e _ cap l hs he hd fun j hj => h.cells (by simp [Value.ownBlock]) j _ ?_
    simp [bcs, hj]

/-- A row stays owned while a variable of another type is stored into. -/
theorem ownsRow_setBox {W : World} {B base size n : Nat} {t e : TypeId} {u v : Value} {xs : List Value} (h : W.ownsRow base e size v n xs) (hb : Boxed W B t u) (hte : t ≠ e) (u' : Value) : (W.setCell ⟨B, 0, none⟩ u').ownsRow base e size v n xs :=
  h.kept (grownBy_setCell' W B u') (.inr (hb.not_row hte h).symm)
theorem below_setBox {B n₀ : Nat} {w W : World} (h : Below n₀ w W) (hB : n₀ ≤ B) (u : Value) : Below n₀ w (W.setCell ⟨B, 0, none⟩ u) := h.setCell (p := ⟨B, 0, none⟩) hB u
/-- That a variable lies in its block abides the turn of blocks that are no cells. -/
theorem ownFrom_box {β : Type} (B0 B : Nat) (t : TypeId) : OwnFrom B0 (fun (_ : β) W => ∃ u, Boxed W B t u) := by
  rintro s X Y row ⟨u, hu⟩ hg hrow
  refine ⟨u, hu.kept hg fun e' => ?_⟩
  obtain ⟨_, o, ho, hc⟩ := hrow B e'.symm
  rw [show X.heap[B]? = _ from hu] at ho; cases ho; cases hc
end Go.Proofs.YtinknenfhohamaaGreatDoor

namespace Go.Proofs.YtinknenfhohamaaGreatDoor
open Go.RowKit Go.Shelf

attribute [local go_sem] Oper.semAt_some

theorem groups_in (n : Nat) (z : Int) (w : World) :
    CallsIn Fence.wide n Tryz.prog 148 #[.int .u64 z] w fun e w' => e = .returned (.func (.func 170) #[] #[.pointer (some ⟨w.heap.size, 0, none⟩)]) ∧ w' = w.alloc (.cells #[.int .u64 z] 128) := by
  refine callsIn_of_wp Tryz.func148 rfl trivial ?_ rfl
  simp only [Tryz.ntmps148, List.size_toArray, List.length_cons, List.length_nil, Nat.reduceAdd, Nat.reduceSub, Array.replicate_succ, Array.replicate_zero, List.push_toArray, List.append_toArray, List.nil_append, List.cons_append]
  gi_wp2
  go_ret
  exact ⟨rfl, rfl⟩

theorem wrap64u_id {n : Int} (h0 : 0 ≤ n) (h1 : n < 18446744073709551616) : IntKind.u64.wrap n = n := by rw [IntKind.wrap_u64]; omega
theorem xor_ones (a : Nat) (h : a < 18446744073709551616) : (a ^^^ 18446744073709551615 : Nat) = 18446744073709551615 - a := by
  have e : (BitVec.ofNat 64 a ^^^ BitVec.allOnes 64).toNat = (~~~ (BitVec.ofNat 64 a)).toNat := by rw [BitVec.xor_allOnes]
  rw [BitVec.toNat_xor, BitVec.toNat_not, BitVec.toNat_allOnes, BitVec.toNat_ofNat] at e
  have : a % 2 ^ 64 = a := Nat.mod_eq_of_lt (by omega)
  rw [this] at e
  omega
/-- The number that PutInt makes of n by a shift and an exclusive or. -/
theorem zig_bits (c : Int) (h0 : -4611686018427387903 ≤ c) (h1 : c ≤ 4611686018427387903) :
    bits BinOp.xor IntKind.u64 (IntKind.u64.wrap (IntKind.u64.wrap c * 2)) (IntKind.u64.wrap (c / 9223372036854775808)) = ((zig c : Nat) : Int) := by
  by_cases h : c < 0
  · have e1 : IntKind.u64.wrap (IntKind.u64.wrap c * 2) = ((2 * c + 18446744073709551616).toNat : Nat) := by rw [IntKind.wrap_u64, IntKind.wrap_u64]; omega
    have e2 : IntKind.u64.wrap (c / 9223372036854775808) = ((18446744073709551615 : Nat) : Int) := by rw [IntKind.wrap_u64]; omega
    rw [e1, e2, bits_xor_u64_nat _ _ (by omega) (by omega), xor_ones _ (by omega)]
    unfold zig; rw [if_pos h]; omega
  · have e1 : IntKind.u64.wrap (IntKind.u64.wrap c * 2) = ((2 * c).toNat : Nat) := by rw [IntKind.wrap_u64, IntKind.wrap_u64]; omega
    have e2 : IntKind.u64.wrap (c / 9223372036854775808) = ((0 : Nat) : Int) := by rw [IntKind.wrap_u64]; omega
    rw [e1, e2, bits_xor_u64_nat _ _ (by omega) (by omega), Nat.xor_zero]
    unfold zig; rw [if_neg h]

theorem nat_or_128 {r : Nat} (h : r < 128) : r ||| 128 = r + 128 := by
  have := nat_join 7 128 r (by decide) (by omega)
  rw [Nat.or_comm, this]; omega
theorem grp_or (x : Nat) (h : ¬ x < 128) : bits .or .u8 ((x : Int) % 128) 128 = ((grp x).toNat : Int) := by
  have e : ((x : Int) % 128) = ((x % 128 : Nat) : Int) := by omega
  rw [e, show (128 : Int) = ((128 : Nat) : Int) from rfl, u8_or_nat _ _ (by omega) (by omega), nat_or_128 (by omega)]
  have : (grp x).toNat = x % 128 + 128 := by simp only [grp, if_neg h]; exact ofNat_toNat8 (by omega)
  rw [this]

theorem Tryz.infoU8 : (Tryz.prog.info? 5).map (fun i => (i.zero, i.size, i.bytes)) = some (some (.int .u8 0), 1, 1) := by kernel_rfl

set_option maxRecDepth 100000 in
set_option maxHeartbeats 2000000 in
theorem putInt_in (c : Int) (w : World) (h0 : -4611686018427387903 ≤ c) (h1 : c ≤ 4611686018427387903) :
    CallsIn Fence.wide 5 Tryz.prog 91 #[.int .i64 c] w fun e w' => e = .returned (.tuple #[.string ⟨(enc c).toArray⟩, .int .i64 0]) ∧ Below w.heap.size w w' := by
  obtain ⟨i0, hi, hz0, hz1, hz2⟩ := info_parts Tryz.infoU8
  refine callsIn_of_wp_marks Tryz.func91 rfl trivial ?_ rfl
  simp only [Tryz.ntmps91, List.size_toArray, List.length_cons, List.length_nil, Nat.reduceAdd, Nat.reduceSub, Array.replicate_succ, Array.replicate_zero, List.push_toArray, List.append_toArray, List.nil_append, List.cons_append]
  gi_wp2_with fail
  rw [zig_bits c h0 h1]
  have hz := zig_lt h0 h1
  generalize hzc : zig c = z at *
  refine ⟨trivial, ?_⟩
  refine (groups_in 4 _ _).mono ?_
  rintro e w1 ⟨rfl, rfl⟩
  gi_wp2_with fail
  have bO := (Boxed.new w 62 (.slice none 0 0)).alloc (.cells #[.int .u64 z] 128)
  have bN := Boxed.new (w.alloc (.cells #[.slice none 0 0] 62)) 128 (.int .u64 z)
  rw [World.size_alloc] at bN
  have hB0 : Below w.heap.size w ((w.alloc (.cells #[.slice none 0 0] 62)).alloc (.cells #[.int .u64 z] 128)) := ((Below.refl _ w).alloc (Nat.le_refl _) _).alloc (by simp) _
  have hsz : ((w.alloc (.cells #[.slice none 0 0] 62)).alloc (.cells #[.int .u64 z] 128)).heap.size = w.heap.size + 2 := by simp
  obtain ⟨W0, hW0⟩ : ∃ W0, (w.alloc (.cells #[.slice none 0 0] 62)).alloc (.cells #[.int .u64 z] 128) = W0 := ⟨_, rfl⟩
  rw [hW0] at bO bN hB0 hsz ⊢
  clear hW0
  refine wpIn_range (F := Fence.wide) (n := 5) rfl (by omega) (gf := 170) (lb := #[.pointer (some ⟨w.heap.size + 1, 0, none⟩)]) rfl trivial (enters_of Tryz.func170 (by kernel_rfl) rfl)
    (groups1_in 4 (by omega) (w.heap.size + 1) z (by omega)) (SetsBox.cells _) ?pre ?kt ?kb (fun _ => rfl)
    (fun pre W => (∃ v, Boxed W w.heap.size 62 v ∧ W.ownsRow w.heap.size 5 1 v pre.length (bcs (pre.map grp)) ∧ True) ∧ (∃ u, Boxed W (w.heap.size + 1) 128 u) ∧ Below w.heap.size w W)
    (fun _ _ _ => False) ?own ?ownx ?wr ?wrx ?start ?round ?done ?stop
  case pre =>
    intro W hb
    exact ⟨(hb.cell (p := ⟨w.heap.size + 1, 0, none⟩) (by simp; omega)).trans bN.cell, (hb.frozen (p := ⟨w.heap.size + 1, 0, none⟩) (by simp; omega)).trans bN.frozen⟩
  case kt =>
    intro X Y Z h k
    exact ⟨k.1.trans h.1, k.2.trans h.2⟩
  case kb =>
    intro W l o o' hl ho hc
    have hne : (w.heap.size + 1 : Nat) ≠ l := by omega
    exact ⟨World.cell?_of_block (World.putObj_heap_other hne), World.frozen?_of_block (World.putObj_heap_other hne)⟩
  case own =>
    exact OwnFrom.and (Own.from (holdsRow_own w.heap.size w.heap.size 62 5 1 (fun pre : List Nat => pre.length) (fun pre => bcs (pre.map grp)) (fun _ _ => True)) _) (OwnFrom.and (ownFrom_box _ _ _) (ownFrom_below (Nat.le_refl _) (by omega)))
  case ownx => exact fun _ _ _ _ _ hs _ _ => hs
  case wr =>
    rintro s X Y ⟨⟨v, hv, hrow, _⟩, ⟨u, hu⟩, hB⟩ ⟨u', rfl⟩
    exact ⟨⟨v, hv.other (by omega) _, ownsRow_setBox hrow hu (by decide) _, trivial⟩, ⟨_, hu.set u'⟩, below_setBox hB (by omega) _⟩
  case wrx => exact fun _ _ _ _ hs _ => hs
  case start => exact ⟨⟨_, bO, World.ownsRow_nil _ _ _ _, trivial⟩, ⟨_, bN⟩, hB0⟩
  case round =>
    rintro l pre x W hI hlen
    gi_wp2
    refine ⟨KeepsFrom.refl _ _, ⟨rfl, rfl⟩, hI, ?_⟩
    clear hI
    rintro V hvc hvf hvs ⟨⟨v, hv, hrow, _⟩, ⟨u, hu⟩, hB⟩
    clear hvc hvf hvs
    have hc := hv.cell
    have hN : pre.length < 10 := hlen
    by_cases hx : x < 128
    · have hd : decide (x < 128) = true := by simp [hx]
      have hg : (x : Int) % 128 = ((grp x).toNat : Int) := by simp [grp, hx]; omega
      gi_wp2_with (gi_at_builtin; refine wpListIn_append_own _ rfl _ _ 62 rfl w.heap.size 5 i0 (.int .u8 0) 1 1 Tryz.underlying62 hi hz0 hz1 hz2 rfl (by decide) _ _ _ rfl (hrow.alloc _) ⟨V.heap.size, 0, none⟩ 1 1 [.int .u8 ((grp x).toNat : Int)] rfl rfl (cell_one_new _ _ _) (by simp [Value.oneCell']) (by unfold maxLen; omega) (by omega) (by have := hB.size; simp; omega) ?_; intro v' w1 hown' hgrow _; obtain ⟨g', cap', rfl⟩ := ownsRow_succ hown'; obtain ⟨hv1, hv2, hr2, hk2, hb2⟩ := hv.appended (by decide) hrow hB.size (Nat.le_refl _) hown' hgrow; have hc1 := hv1.cell; have hf1 := hv1.frozen)
      have hu2 : Boxed (w1.setCell ⟨w.heap.size, 0, none⟩ (.slice (some ⟨g', 0, none⟩) (pre.length + 1) cap')) (w.heap.size + 1) 128 u := ((hu.alloc _).kept hgrow (hu.not_row (by decide) hrow)).other (by omega) _
      exact ⟨hk2.from _, ⟨hu2.cell.trans hu.cell.symm, hu2.frozen.trans hu.frozen.symm⟩, ⟨_, hv2, by simpa [bcs] using hr2, trivial⟩, ⟨_, hu2⟩, hB.trans hb2⟩
    · have hd : decide (x < 128) = false := by simp [hx]
      have hg : bits .or .u8 ((x : Int) % 128) 128 = ((grp x).toNat : Int) := grp_or x hx
      gi_wp2_with (gi_at_builtin; refine wpListIn_append_own _ rfl _ _ 62 rfl w.heap.size 5 i0 (.int .u8 0) 1 1 Tryz.underlying62 hi hz0 hz1 hz2 rfl (by decide) _ _ _ rfl (hrow.alloc _) ⟨V.heap.size, 0, none⟩ 1 1 [.int .u8 ((grp x).toNat : Int)] rfl rfl (cell_one_new _ _ _) (by simp [Value.oneCell']) (by unfold maxLen; omega) (by omega) (by have := hB.size; simp; omega) ?_; intro v' w1 hown' hgrow _; obtain ⟨g', cap', rfl⟩ := ownsRow_succ hown'; obtain ⟨hv1, hv2, hr2, hk2, hb2⟩ := hv.appended (by decide) hrow hB.size (Nat.le_refl _) hown' hgrow; have hc1 := hv1.cell; have hf1 := hv1.frozen)
      have hu2 : Boxed (w1.setCell ⟨w.heap.size, 0, none⟩ (.slice (some ⟨g', 0, none⟩) (pre.length + 1) cap')) (w.heap.size + 1) 128 u := ((hu.alloc _).kept hgrow (hu.not_row (by decide) hrow)).other (by omega) _
      exact ⟨hk2.from _, ⟨hu2.cell.trans hu.cell.symm, hu2.frozen.trans hu.frozen.symm⟩, ⟨_, hv2, by simpa [bcs] using hr2, trivial⟩, ⟨_, hu2⟩, hB.trans hb2⟩
  case done =>
    rintro D ys W hD rfl ⟨⟨v, hv, hrow, _⟩, _, hB⟩ hK
    have hc := hv.cell
    have hrow' : W.ownsRow w.heap.size 5 1 v ((chain 10 z).map grp).length (bcs ((chain 10 z).map grp)) := by simpa using hrow
    have hcv := convert_owned (P := Tryz.prog) (src := 62) (dst := 9) Tryz.underlying62 Tryz.underlying5 Tryz.underlying9 hrow'
    have hout : (chain 10 z).map grp = enc c := by
      rw [chain_leb, enc, hzc]; exact leb_fuel 9 10 z (by omega) (by omega) (by omega)
    gi_wp2
    refine ⟨by simp, .inl ⟨_, _, rfl, run_takeDeferred hK, ?_⟩⟩
    refine ⟨_, results_tmp2 rfl _ _ _, ?_, hB.trans (belowK_b (w := w) (Nat.le_refl _) W D _ _ (by omega) hK rfl rfl)⟩
    rw [← hout]; rfl
  case stop =>
    rintro D c pre W _ _ h _
    exact h.elim

/-- PutInt of an integer that has an encoding. -/
theorem putInt_any (c : Int) (w : World) (h0 : -4611686018427387903 ≤ c) (h1 : c ≤ 4611686018427387903) :
    Calls Tryz.prog 91 #[.int .i64 c] w fun e w' => e = .returned (.tuple #[.string ⟨(enc c).toArray⟩, .int .i64 0]) ∧ Below w.heap.size w w' :=
  callsIn_wide.1 (putInt_in c w h0 h1)

set_option maxHeartbeats 1000000 in
/-- PutInt of another one. -/
theorem putInt_no (c : Int) (w : World) (h : c < -4611686018427387903 ∨ 4611686018427387903 < c) :
    Calls Tryz.prog 91 #[.int .i64 c] w fun e w' => e = .returned (.tuple #[.string ⟨#[]⟩, .int .i64 10]) ∧ w = w' := by
  by_cases h1 : c < -4611686018427387903
  · go_enter Tryz.func91, Tryz.ntmps91
    go_wp2_with fail
    go_ret2
    exact ⟨rfl, rfl⟩
  · have h2 : 4611686018427387903 < c := by omega
    go_enter Tryz.func91, Tryz.ntmps91
    go_wp2_with fail
    go_ret2
    exact ⟨rfl, rfl⟩
end Go.Proofs.YtinknenfhohamaaGreatDoor

namespace Go.Proofs.YtinknenfhohamaaGreatDoor
open Go.RowKit

/-- What Int returns. -/
def intOut (s : List UInt8) (k : Int) : Int × Int × Int :=
  if k < 0 ∨ (s.length : Int) < k then (0, 0, 2) else
    match readInt s k.toNat with
    | none => (0, 0, 10)
    | some (n, next) => (n, (next : Int), 0)
def intV (r : Int × Int × Int) : Value := .tuple #[.int .i64 r.1, .int .i64 r.2.1, .int .i64 r.2.2]
theorem intOut_arg {s : List UInt8} {k : Int} (h : k < 0 ∨ (s.length : Int) < k) : intOut s k = (0, 0, 2) := by rw [intOut, if_pos h]
theorem intOut_none {s : List UInt8} {k : Nat} (hk : k ≤ s.length) (h : readInt s k = none) : intOut s k = (0, 0, 10) := by
  rw [intOut, if_neg (by omega), Int.toNat_natCast, h]
theorem intOut_some {s : List UInt8} {k next : Nat} {n : Int} (hk : k ≤ s.length) (h : readInt s k = some (n, next)) : intOut s k = (n, (next : Int), 0) := by
  rw [intOut, if_neg (by omega), Int.toNat_natCast, h]
theorem ret_intV {r : Int × Int × Int} {a b c : Int} (h : r = (a, b, c)) : Ending.returned (.tuple #[.int .i64 a, .int .i64 b, .int .i64 c]) = Ending.returned (intV r) := by rw [h]; rfl

set_option maxHeartbeats 1000000 in
theorem int_arg (s : ByteArray) (k : Int) (w : World) (_hs : s.size ≤ 4611686018427387903) (h : k < 0 ∨ (s.size : Int) < k) :
    Calls Tryz.prog 129 #[.string s, .int .i64 k] w fun e w' => e = .returned (intV (intOut s.data.toList k)) ∧ w = w' := by
  have hr := ret_intV (intOut_arg (s := s.data.toList) (k := k) (by simpa using h))
  have HR := Lib.hid hr
  clear hr
  by_cases h1 : k < 0
  · go_enter Tryz.func129, Tryz.ntmps129
    go_wp2
    go_ret3
    exact ⟨HR.out, rfl⟩
  · have h2 : (s.size : Int) < k := by omega
    clear h
    go_enter Tryz.func129, Tryz.ntmps129
    go_wp2
    go_ret3
    exact ⟨HR.out, rfl⟩

/-! ### The words' bits, as the walk spells them -/
theorem or_join (y x j : Nat) (hy : y < 128 ^ j) (hj : j < 9) (hx : x < 128) :
    bits BinOp.or IntKind.u64 (y : Int) (IntKind.u64.wrap (IntKind.u64.wrap (x : Int) * 2 ^ (7 * j))) = ((y + x * 128 ^ j : Nat) : Int) := by
  have hp : (128 : Nat) ^ j = 2 ^ (7 * j) := by rw [show (128 : Nat) = 2 ^ 7 from rfl, ← Nat.pow_mul]
  have hlt : x * 128 ^ j < 9223372036854775808 := by
    have h1 : x * 128 ^ j < 128 * 128 ^ j := Nat.mul_lt_mul_of_pos_right hx (Nat.pow_pos (by omega))
    have h2 : 128 * 128 ^ j = 128 ^ (j + 1) := by rw [Nat.pow_succ, Nat.mul_comm]
    have h3 : 128 ^ (j + 1) ≤ 128 ^ 9 := Nat.pow_le_pow_right (by omega) (by omega)
    have h4 : (128 : Nat) ^ 9 = 9223372036854775808 := by decide
    omega
  have hyl : y < 9223372036854775808 := by
    have h3 : 128 ^ j ≤ 128 ^ 9 := Nat.pow_le_pow_right (by omega) (by omega)
    have h4 : (128 : Nat) ^ 9 = 9223372036854775808 := by decide
    omega
  have e1 : IntKind.u64.wrap (IntKind.u64.wrap (x : Int) * 2 ^ (7 * j)) = ((x * 128 ^ j : Nat) : Int) := by
    have e0 : IntKind.u64.wrap (x : Int) = (x : Int) := by rw [IntKind.wrap_u64]; omega
    have e2 : (x : Int) * 2 ^ (7 * j) = ((x * 128 ^ j : Nat) : Int) := by rw [hp]; push_cast; rfl
    rw [e0, e2, IntKind.wrap_u64]; omega
  rw [e1, u64_or_nat _ _ (by omega) (by omega), Nat.or_comm, nat_join (7 * j) (x * 128 ^ j) y (by rw [hp]; exact Nat.mul_mod_left _ _) (by rw [← hp]; exact hy)]
  rw [Nat.add_comm]
theorem u8_and127 (c : Nat) (h : c < 256) : bits BinOp.and IntKind.u8 (c : Int) 127 = ((c % 128 : Nat) : Int) := by
  have := u8_and_nat c 127 h (by omega)
  rw [show ((127 : Nat) : Int) = 127 from rfl] at this
  rw [this, nat_mask7]
theorem u64_and1 (z : Nat) (h : z < 18446744073709551616) : bits BinOp.and IntKind.u64 (z : Int) 1 = ((z % 2 : Nat) : Int) := by
  have := u64_and_nat z 1 h (by omega)
  rw [show ((1 : Nat) : Int) = 1 from rfl] at this
  rw [this, nat_mask1]
theorem i64_xor_ones (x : Nat) (h : x < 9223372036854775808) : bits BinOp.xor IntKind.i64 (x : Int) (-1) = -(x : Int) - 1 := by
  show IntKind.i64.wrap ((BitVec.ofInt 64 (x : Int) ^^^ BitVec.ofInt 64 (-1)).toNat : Int) = _
  have e1 : BitVec.ofInt 64 (-1) = BitVec.allOnes 64 := by decide
  rw [e1, BitVec.xor_allOnes, BitVec.toNat_not, BitVec.ofInt_natCast, BitVec.toNat_ofNat, Nat.mod_eq_of_lt (by omega : x < 2 ^ 64)]
  simp [IntKind.wrap, IntKind.bits, IntKind.signed]
  omega
theorem i64_xor_zero (x : Nat) (h : x < 9223372036854775808) : bits BinOp.xor IntKind.i64 (x : Int) 0 = (x : Int) := by
  show IntKind.i64.wrap ((BitVec.ofInt 64 (x : Int) ^^^ BitVec.ofInt 64 0).toNat : Int) = _
  have e1 : BitVec.ofInt 64 0 = 0#64 := by decide
  rw [e1, BitVec.xor_zero, BitVec.ofInt_natCast, BitVec.toNat_ofNat, Nat.mod_eq_of_lt (by omega : x < 2 ^ 64)]
  simp [IntKind.wrap, IntKind.bits, IntKind.signed]
  omega
theorem unzig_bits (z : Nat) (h : z < 9223372036854775808) :
    bits BinOp.xor IntKind.i64 (wrap64 ((z : Int) / 2)) (wrap64 (-wrap64 (bits BinOp.and IntKind.u64 (z : Int) 1))) = unzig z := by
  have e0 : wrap64 ((z : Int) / 2) = ((z / 2 : Nat) : Int) := by unfold wrap64; omega
  rw [u64_and1 z (by omega), e0]
  unfold unzig
  by_cases hz : z % 2 = 1
  · rw [if_pos hz, hz, show wrap64 (-wrap64 ((1 : Nat) : Int)) = -1 by unfold wrap64; omega, i64_xor_ones _ (by omega)]
  · rw [if_neg hz, show z % 2 = 0 by omega, show wrap64 (-wrap64 ((0 : Nat) : Int)) = 0 by unfold wrap64; omega, i64_xor_zero _ (by omega)]

theorem pow_step {c y j : Nat} (hy : y < 128 ^ j) : y + c % 128 * 128 ^ j < 128 ^ (j + 1) := by
  have : c % 128 ≤ 127 := by omega
  have h1 : c % 128 * 128 ^ j ≤ 127 * 128 ^ j := Nat.mul_le_mul_right _ this
  rw [Nat.pow_succ]; omega
theorem pow9 {y j : Nat} (hy : y < 128 ^ j) (hj : j ≤ 9) : y < 9223372036854775808 := by
  have h3 : 128 ^ j ≤ 128 ^ 9 := Nat.pow_le_pow_right (by omega) hj
  have h4 : (128 : Nat) ^ 9 = 9223372036854775808 := by decide
  omega

set_option maxRecDepth 100000 in
set_option maxHeartbeats 2000000 in
theorem int_at (s : ByteArray) (k : Nat) (w : World) (hs : s.size ≤ 4611686018427387903) (hk : k ≤ s.size) :
    Calls Tryz.prog 129 #[.string s, .int .i64 k] w fun e w' => e = .returned (intV (intOut s.data.toList k)) ∧ w = w' := by
  have d1 : decide ((k : Int) < 0) = false := by simp
  have d2 : decide (s.size < k) = false := by simp; omega
  go_enter Tryz.func129, Tryz.ntmps129
  go_wp2
  go_loop [7, 19] (fun z i => ∃ j y : Nat, j ≤ 9 ∧ z = .int .u64 y ∧ i = .int .i64 j ∧ y < 128 ^ j ∧ scan s.data.toList k (9 - j) j y = readInt s.data.toList k)
    (fun _ i => 9 - (intOf i).toNat)
  case atStart => exact ⟨0, 0, by omega, rfl, rfl, by omega, rfl⟩
  case round =>
    obtain ⟨j, y, hj, rfl, rfl, hy, hsc⟩ := hrel
    by_cases hj9 : j < 9
    · obtain ⟨f, hf⟩ : ∃ f, 9 - j = f + 1 := ⟨8 - j, by omega⟩
      have hf2 : 9 - (j + 1) = f := by omega
      rw [hf] at hsc
      by_cases hlt : k + j < s.size
      · have hget : s.data.toList[k + j]? = some s[k + j] := by
          rw [List.getElem?_eq_getElem (by simpa using hlt)]; rfl
        have hc256 := s[k + j].toNat_lt
        obtain ⟨c, hc⟩ : ∃ c, s[k + j].toNat = c := ⟨_, rfl⟩
        have hc2 : c < 256 := by omega
        obtain ⟨y', hy'⟩ : ∃ y' : Nat, y' = y + c % 128 * 128 ^ j := ⟨_, rfl⟩
        have hyl : y' < 128 ^ (j + 1) := by rw [hy']; exact pow_step hy
        have hy9 : y' < 9223372036854775808 := pow9 hyl (by omega)
        have hor : bits BinOp.or IntKind.u64 (y : Int) (IntKind.u64.wrap (IntKind.u64.wrap (bits BinOp.and IntKind.u8 (c : Int) 127) * 2 ^ (7 * j))) = (y' : Int) := by
          rw [u8_and127 c hc2, or_join y (c % 128) j hy hj9 (by omega), hy']
        obtain ⟨n, hn⟩ : ∃ n, n = unzig y' := ⟨_, rfl⟩
        have hx : bits BinOp.xor IntKind.i64 (wrap64 ((y' : Int) / 2)) (wrap64 (-wrap64 (bits BinOp.and IntKind.u64 (y' : Int) 1))) = n := by rw [hn]; exact unzig_bits y' hy9
        have hx2 : bits BinOp.xor IntKind.i64 ((y' : Int) / 2) (wrap64 (-wrap64 (bits BinOp.and IntKind.u64 (y' : Int) 1))) = n := by
          have e0 : wrap64 ((y' : Int) / 2) = (y' : Int) / 2 := by unfold wrap64; omega
          rw [← e0]; exact hx
        have hnb := unzig_hi hy9
        rw [← hn] at hnb
        obtain ⟨hn0, hn1⟩ := hnb
        by_cases hb : 128 ≤ c
        · have hnext : scan s.data.toList k f (j + 1) y' = readInt s.data.toList k := by
            rw [← hsc, scan_more f hget (by omega), hc, hy']
          have HN := Lib.hid hnext
          have HY := Lib.hid hyl
          have HF := Lib.hid hf2
          have hd : decide ((c : Int) < 128) = false := by simp; omega
          have hd2 : decide (128 ≤ (c : Int)) = true := by simp; omega
          clear hnext hyl hsc hy hf hf2 hget hc256 hy' hn hx hx2 hn0 hn1
          go_wp2
          go_round
          case rel => exact ⟨j + 1, y', by omega, rfl, by go_num, HY.out, by rw [HF.out]; exact HN.out⟩
          case measure => simp [intOf]; omega
        · have hlen : k ≤ s.data.toList.length := by simpa using hk
          by_cases hz : c = 0 ∧ 0 < j
          · have hend : readInt s.data.toList k = none := by rw [← hsc, scan_bad f hget (by omega) (.inl (by rw [hc]; exact hz))]
            have HR := Lib.hid (ret_intV (intOut_none hlen hend))
            have b0 : ((c : Int) == 0) = true := by simp; omega
            have b1 : decide (0 < (j : Int)) = true := by simp; omega
            have hd : decide ((c : Int) < 128) = true := by simp; omega
            clear hend hsc hy hf hf2 hget hc256 hy' hyl hn hn0 hn1
            obtain ⟨rfl, hj0⟩ := hz
            go_wp2
            go_ret3
            exact ⟨HR.out, rfl⟩
          · by_cases hlo : n < -4611686018427387903
            · have hend : readInt s.data.toList k = none := by rw [← hsc, scan_bad f hget (by omega) (.inr (by rw [hc, ← hy', ← hn]; exact hlo))]
              have HR := Lib.hid (ret_intV (intOut_none hlen hend))
              have HU := Lib.hid hn
              have HV := Lib.hid hy'
              have HY := Lib.hid hy
              clear hend hsc hy hf hf2 hget hc256 hy' hyl hn
              have hd : decide ((c : Int) < 128) = true := by simp; omega
              by_cases h0 : c = 0
              · exfalso
                have hj0 : j = 0 := by omega
                have hy0 := HY.out
                rw [hj0] at hy0
                have := HU.out
                rw [HV.out, h0, show y = 0 by omega] at this
                simp [unzig] at this
                omega
              · have b0 : ((c : Int) == 0) = false := by simp; omega
                clear hz
                go_wp2
                go_ret3
                exact ⟨HR.out, rfl⟩
            · have hend : readInt s.data.toList k = some (n, k + j + 1) := by
                rw [← hsc, scan_end f hget (by omega) (by rw [hc, ← hy', ← hn]; rintro (h | h); exact hz h; exact hlo h), hc, ← hy', ← hn]
              have HR := Lib.hid (ret_intV (intOut_some hlen hend))
              have HU := Lib.hid hn
              have HV := Lib.hid hy'
              have HY := Lib.hid hy
              clear hend hsc hy hf hf2 hget hc256 hy' hyl hn
              have hd : decide ((c : Int) < 128) = true := by simp; omega
              by_cases h0 : c = 0
              · have hj0 : j = 0 := by omega
                have hy0 : y = 0 := by have := HY.out; rw [hj0] at this; omega
                have hn0 : n = 0 := by have := HU.out; rw [HV.out, h0, hy0] at this; simpa [unzig] using this
                clear hor hx hx2 hy9 hlo hb hd hz
                subst hj0; subst hy0; subst hn0; subst h0
                have hc0 : s[k].toNat = 0 := hc
                have a1 : bits BinOp.and IntKind.u8 0 127 = 0 := by decide
                have a2 : IntKind.u64.wrap 0 = 0 := by decide
                have a3 : bits BinOp.or IntKind.u64 0 0 = 0 := by decide
                have a4 : wrap64 0 = 0 := by unfold wrap64; decide
                have a5 : bits BinOp.and IntKind.u64 0 1 = 0 := by decide
                have a6 : bits BinOp.xor IntKind.i64 0 0 = 0 := by decide
                clear hc
                go_wp2
                go_ret3
                exact ⟨HR.out, rfl⟩
              · have b0 : ((c : Int) == 0) = false := by simp; omega
                clear hz
                go_wp2
                go_ret3
                exact ⟨HR.out, rfl⟩
      · have hend : readInt s.data.toList k = none := by rw [← hsc, scan_out f (by simp; omega)]
        have HR := Lib.hid (ret_intV (intOut_none (s := s.data.toList) (by simpa using hk) hend))
        clear hend hsc hy hf hf2
        have hge : (s.size : Int) ≤ (k : Int) + (j : Int) := by omega
        go_wp2
        go_ret3
        exact ⟨HR.out, rfl⟩
    · obtain rfl : j = 9 := by omega
      have hend : readInt s.data.toList k = none := by rw [← hsc]; rfl
      have HR := Lib.hid (ret_intV (intOut_none (s := s.data.toList) (by simpa using hk) hend))
      clear hend hsc hy
      go_wp2
      go_ret3
      exact ⟨HR.out, rfl⟩
end Go.Proofs.YtinknenfhohamaaGreatDoor

namespace Go.Proofs.YtinknenfhohamaaGreatDoor
open Go.RowKit

theorem int_any (s : ByteArray) (k : Int) (w : World) (hs : s.size ≤ 4611686018427387903) :
    Calls Tryz.prog 129 #[.string s, .int .i64 k] w fun e w' => e = .returned (intV (intOut s.data.toList k)) ∧ w = w' := by
  by_cases h : k < 0 ∨ (s.size : Int) < k
  · exact int_arg s k w hs h
  · obtain ⟨j, rfl⟩ := Int.eq_ofNat_of_zero_le (show 0 ≤ k by omega)
    exact int_at s j w hs (by omega)

/-- What String returns. -/
def strOut (s : List UInt8) (k : Int) : List UInt8 × Int × Int :=
  if k < 0 ∨ (s.length : Int) < k then ([], 0, 2) else
    match readStr s k.toNat with
    | none => ([], 0, 10)
    | some (t, next) => (t, (next : Int), 0)
def strV (r : List UInt8 × Int × Int) : Value := .tuple #[.string ⟨r.1.toArray⟩, .int .i64 r.2.1, .int .i64 r.2.2]
theorem strOut_arg {s : List UInt8} {k : Int} (h : k < 0 ∨ (s.length : Int) < k) : strOut s k = ([], 0, 2) := by rw [strOut, if_pos h]
theorem strOut_none {s : List UInt8} {k : Nat} (hk : k ≤ s.length) (h : readStr s k = none) : strOut s k = ([], 0, 10) := by
  rw [strOut, if_neg (by omega), Int.toNat_natCast, h]
theorem strOut_some {s t : List UInt8} {k next : Nat} (hk : k ≤ s.length) (h : readStr s k = some (t, next)) : strOut s k = (t, (next : Int), 0) := by
  rw [strOut, if_neg (by omega), Int.toNat_natCast, h]
theorem ret_strV {r : List UInt8 × Int × Int} {t : ByteArray} {b c : Int} (h : r = (t.data.toList, b, c)) : Ending.returned (.tuple #[.string t, .int .i64 b, .int .i64 c]) = Ending.returned (strV r) := by rw [h]; rfl

set_option maxHeartbeats 1000000 in
theorem str_any (s : ByteArray) (k : Int) (w : World) (hs : s.size ≤ 4611686018427387903) :
    Calls Tryz.prog 130 #[.string s, .int .i64 k] w fun e w' => e = .returned (strV (strOut s.data.toList k)) ∧ w = w' := by
  by_cases h : k < 0 ∨ (s.size : Int) < k
  · have hi := intOut_arg (s := s.data.toList) (k := k) (by simpa using h)
    have HR := Lib.hid (ret_strV (t := ⟨#[]⟩) (strOut_arg (s := s.data.toList) (k := k) (by simpa using h)))
    have hc := int_any s k w hs
    rw [hi] at hc
    have HC := Lib.hid hc
    clear hi hc
    go_enter Tryz.func130, Tryz.ntmps130
    go_wp2_with fail
    refine HC.out.mono ?_
    rintro e w' ⟨rfl, rfl⟩
    simp only [intV]
    go_wp2_with fail
    go_ret3
    exact ⟨HR.out, rfl⟩
  · obtain ⟨j, rfl⟩ := Int.eq_ofNat_of_zero_le (show 0 ≤ k by omega)
    have hj : j ≤ s.data.toList.length := by simp; omega
    have hc := int_any s j w hs
    cases hr : readInt s.data.toList j with
    | none =>
      have HR := Lib.hid (ret_strV (t := ⟨#[]⟩) (strOut_none hj (by rw [readStr, hr])))
      rw [intOut_none hj hr] at hc
      have HC := Lib.hid hc
      clear hc hr h
      go_enter Tryz.func130, Tryz.ntmps130
      go_wp2_with fail
      refine HC.out.mono ?_
      rintro e w' ⟨rfl, rfl⟩
      simp only [intV]
      go_wp2_with fail
      go_ret3
      exact ⟨HR.out, rfl⟩
    | some p =>
      obtain ⟨n, nx⟩ := p
      obtain ⟨hn0, hn1, -, -⟩ := readInt_some hr
      obtain ⟨hx1, hx2, hx3⟩ := readInt_bounds hr hj
      rw [intOut_some hj hr] at hc
      have hx2 : nx ≤ s.size := by simpa using hx2
      by_cases hb : n < 0 ∨ 65536 < n ∨ (s.data.toList.length : Int) - nx < n
      · have HR := Lib.hid (ret_strV (t := ⟨#[]⟩) (strOut_none hj (by rw [readStr, hr]; simp only; rw [if_pos hb])))
        have HC := Lib.hid hc
        have hl : s.data.toList.length = s.size := by simp
        rw [hl] at hb
        clear hc hr h hl hj
        rcases (show n < 0 ∨ (0 ≤ n ∧ 65536 < n) ∨ (0 ≤ n ∧ n ≤ 65536 ∧ (s.size : Int) - nx < n) by omega) with h1 | ⟨h1, h2⟩ | ⟨h1, h2, h3⟩
        all_goals
          clear hb
          go_enter Tryz.func130, Tryz.ntmps130
          go_wp2_with fail
          refine HC.out.mono ?_
          rintro e w' ⟨rfl, rfl⟩
          simp only [intV]
          go_wp2_with fail
          go_ret3
          exact ⟨HR.out, rfl⟩
      · have hl : s.data.toList.length = s.size := by simp
        obtain ⟨m, rfl⟩ := Int.eq_ofNat_of_zero_le (show 0 ≤ n by omega)
        have hm1 : m ≤ 65536 := by omega
        have hm2 : nx + m ≤ s.size := by omega
        have hst : strOut s.data.toList j = ((s.extract nx (nx + m)).data.toList, (nx : Int) + (m : Int), 0) := by
          rw [strOut_some hj (t := (s.data.toList.drop nx).take m) (next := nx + m) (by rw [readStr, hr]; simp only; rw [if_neg hb, Int.toNat_natCast]), Lib.extract_data]
          simp
        have HR := Lib.hid (ret_strV hst)
        have HC := Lib.hid hc
        have h3 : (m : Int) ≤ (s.size : Int) - nx := by omega
        clear hc hr h hl hj hst hb
        go_enter Tryz.func130, Tryz.ntmps130
        go_wp2_with fail
        refine HC.out.mono ?_
        rintro e w' ⟨rfl, rfl⟩
        simp only [intV]
        go_wp2_with fail
        go_ret3
        exact ⟨HR.out, rfl⟩
end Go.Proofs.YtinknenfhohamaaGreatDoor
