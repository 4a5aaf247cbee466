/- What PutInt of package wire comes to: for every integer that has an encoding its bytes, else the error; nothing that lay before the call is turned. What PutInt of package wire comes to: for every integer that has an encoding its bytes, else the error; nothing that lay before the call is turned. The reference's PutInt: for every integer that has an encoding its bytes, else the error. -/
import Derived.Test.YtkihcigojhcmgaaDoorRows
import Derived.Test.YtkihcigojhcmgaaDoorG07
import Derived.Test.YtkihcigojhcmgaaDoorG01
import Derived.Shelf.Abstract
import Derived.WalkKit
import Derived.OwnWalkIn
import Derived.TacticsInMore
import Derived.LoopNIn
import Derived.LoopIn
import Derived.Maps.AppendAt
import Derived.Outline
import Derived.Lib.Hide
import Derived.Laws.BitsAllLaws
import Derived.Test.YtkihcigojhcmgaaDoorG02
import Derived.OwnWalk
namespace Go.Proofs.YtkihcigojhcmgaaDoor
open Go.RowKit Go.Shelf

attribute [local go_sem] Oper.semAt_some

/-- The numbers that the iterator has, one by one. -/
def chain : Nat → Nat → List Nat
  | 0, _ => []
  | f + 1, z => if z < 128 then [z] else z :: chain f (z / 128)
/-- The byte that is written for one. -/
def grp (x : Nat) : UInt8 := UInt8.ofNat (if x < 128 then x else x % 128 + 128)
theorem chain_leb (f : Nat) : ∀ z : Nat, (chain f z).map grp = leb f z := by
  induction f with
  | zero => intro z; rfl
  | succ f ih =>
    intro z
    rw [chain, leb]
    by_cases h : z < 128
    · rw [if_pos h, if_pos h]; simp [grp, h]
    · rw [if_neg h, if_neg h]; simp [grp, h, ih]

/-- What the iterator asks of a round: its own counter lies as it lay. -/
def KeepsBox (b : Nat) (A B : World) : Prop := B.cell? ⟨b, 0, none⟩ = A.cell? ⟨b, 0, none⟩ ∧ B.frozen? ⟨b, 0, none⟩ = A.frozen? ⟨b, 0, none⟩
/-- What it turns: its own counter. -/
def SetsBox (b : Nat) (A B : World) : Prop := ∃ v, B = A.setCell ⟨b, 0, none⟩ v
theorem SetsBox.cells (b : Nat) : CellsAlone (SetsBox b) := by
  rintro A B k o ⟨v, rfl⟩ hk ho
  exact (KeepsOthers.setCell A ⟨b, 0, none⟩ v).same k o hk ho

/-- The counter, read off the world. -/
def boxOf (b : Nat) (W : World) : Nat := match W.cell? ⟨b, 0, none⟩ with | some v => (intOf v).toNat | none => 0

set_option maxRecDepth 100000 in
set_option maxHeartbeats 1000000 in
theorem groups1_in (n : Nat) (hn : 1 ≤ n) (b z0 : Nat) (hz0 : z0 < 18446744073709551616) :
    Iter Fence.wide n Tryd.prog 78 #[.pointer (some ⟨b, 0, none⟩)] (fun x : Nat => #[Value.int .u8 ((x : Int) % 128), Value.bool (decide (x < 128))]) (SetsBox b) (KeepsBox b)
      (fun xs => xs = chain 10 z0) (fun _ => True) 10 (fun W => W.cell? ⟨b, 0, none⟩ = some (.int .u64 z0) ∧ W.frozen? ⟨b, 0, none⟩ = false) := by
  rintro l J Jx W ⟨hc, hf⟩ hJ hJx hY h0
  refine callsIn_of_wp Tryd.func78 rfl trivial ?_ rfl
  simp only [Tryd.ntmps78, List.size_toArray, List.length_cons, List.length_nil, Nat.reduceAdd, Nat.reduceSub, Array.replicate_succ, Array.replicate_zero, List.push_toArray, List.append_toArray, List.nil_append, List.cons_append]
  gi_wp2
  gi_loopw [3] (fun _ wr => ∃ (pre : List Nat) (z f : Nat), pre ++ chain f z = chain 10 z0 ∧ pre.length + f = 10 ∧ 1 ≤ f ∧ z < 128 ^ f ∧ z < 18446744073709551616 ∧ wr.cell? ⟨b, 0, none⟩ = some (.int .u64 z) ∧ wr.frozen? ⟨b, 0, none⟩ = false ∧ J pre wr)
    (fun _ wr => boxOf b wr)
  case atStart => exact ⟨[], z0, 10, rfl, rfl, by omega, by omega, hz0, hc, hf, h0⟩
  case round =>
    obtain ⟨pre, z, f, hch, hlen, hf0, hzf, hz, hc1, hf1, hJ1⟩ := hrel
    obtain ⟨g, rfl⟩ : ∃ g, f = g + 1 := ⟨f - 1, by omega⟩
    have hY1 := hY pre z wr hJ1 (by omega)
    have hand : bits .and .u64 (z : Int) 127 = (z : Int) % 128 := by
      have := u64_and_nat z 127 hz (by omega)
      rw [show ((127 : Nat) : Int) = 127 from rfl] at this
      rw [this, nat_mask7]; omega
    by_cases hlt : z < 128
    · rw [show (decide (z < 128)) = true by simp [hlt]] at hY1
      have hd : decide ((z : Int) < 128) = true := by simp; omega
      have hfin : pre ++ [z] = chain 10 z0 := by rw [← hch, chain, if_pos hlt]
      obtain ⟨fn, tmps, assign, body, hy, hR⟩ := hY1
      have HF := Lib.hid hfin
      clear hfin hch hzf hJ hJx hY h0 hJ1 hlen
      gi_wp2
      refine hR.mono ?_
      rintro e W3 (⟨rfl, hJ3, hk3⟩ | ⟨rfl, hJx3⟩)
      · gi_wp2
        refine bodyPost_ret (results_none rfl _ _ _) rfl ?_
        exact ⟨⟨_, rfl⟩, .inl ⟨_, HF.out, hJ3⟩⟩
      · gi_wp2
        refine bodyPost_ret (results_none rfl _ _ _) rfl ?_
        exact ⟨⟨_, rfl⟩, .inr ⟨_, trivial, hJx3⟩⟩
    · rw [show (decide (z < 128)) = false by simp [hlt]] at hY1
      have hd : decide ((z : Int) < 128) = false := by simp; omega
      have hfin : (pre ++ [z]) ++ chain g (z / 128) = chain 10 z0 := by rw [← hch, chain, if_neg hlt]; simp
      have hzf' : z / 128 < 128 ^ g := by rw [Nat.pow_succ] at hzf; omega
      have hg1 : 1 ≤ g := by
        rcases Nat.eq_zero_or_pos g with rfl | h
        · simp at hzf; omega
        · exact h
      obtain ⟨fn, tmps, assign, body, hy, hR⟩ := hY1
      have HF := Lib.hid hfin
      have HZ := Lib.hid hzf'
      have HL := Lib.hid hlen
      have HJ := Lib.hid hJ
      clear hfin hch hzf hzf' hJ hJx hY h0 hJ1 hlen
      gi_wp2
      refine hR.mono ?_
      rintro e W3 (⟨rfl, hJ3, hk3⟩ | ⟨rfl, hJx3⟩)
      · have hc3 : W3.cell? ⟨b, 0, none⟩ = some (.int .u64 z) := hk3.1.trans hc1
        have hf3 : W3.frozen? ⟨b, 0, none⟩ = false := hk3.2.trans hf1
        clear hk3
        gi_wp2
        go_roundw
        case rel =>
          refine ⟨pre ++ [z], z / 128, g, HF.out, by have := HL.out; simp; omega, hg1, HZ.out, by omega, ?_, ?_, HJ.out _ _ _ hJ3 ⟨_, rfl⟩⟩
          · rw [World.cell?_setCell_same' _ _ _ (by rw [hc3]; rfl)]; rfl
          · rw [World.frozen?_setCell]; exact hf3
        case measure =>
          have e1 : boxOf b wr = z := by simp [boxOf, hc1, intOf]
          have e2 : boxOf b (W3.setCell ⟨b, 0, none⟩ (.int .u64 ((z : Int) / 128))) = z / 128 := by
            simp only [boxOf]; rw [World.cell?_setCell_same' _ _ _ (by rw [hc3]; rfl)]; simp [intOf]; omega
          rw [e1, e2]; omega
      · gi_wp2
        refine bodyPost_ret (results_none rfl _ _ _) rfl ?_
        exact ⟨⟨_, rfl⟩, .inr ⟨_, trivial, hJx3⟩⟩
end Go.Proofs.YtkihcigojhcmgaaDoor

namespace Go.Proofs.YtkihcigojhcmgaaDoor
open Go.RowKit Go.Shelf

attribute [local go_sem] Oper.semAt_some

theorem groups_in (n : Nat) (z : Int) (w : World) :
    CallsIn Fence.wide n Tryd.prog 72 #[.int .u64 z] w fun e w' => e = .returned (.func (.func 78) #[] #[.pointer (some ⟨w.heap.size, 0, none⟩)]) ∧ w' = w.alloc (.cells #[.int .u64 z] 120) := by
  refine callsIn_of_wp Tryd.func72 rfl trivial ?_ rfl
  simp only [Tryd.ntmps72, List.size_toArray, List.length_cons, List.length_nil, Nat.reduceAdd, Nat.reduceSub, Array.replicate_succ, Array.replicate_zero, List.push_toArray, List.append_toArray, List.nil_append, List.cons_append]
  gi_wp2
  go_ret
  exact ⟨rfl, rfl⟩

theorem wrap64u_id {n : Int} (h0 : 0 ≤ n) (h1 : n < 18446744073709551616) : IntKind.u64.wrap n = n := by rw [IntKind.wrap_u64]; omega
theorem xor_ones (a : Nat) (h : a < 18446744073709551616) : (a ^^^ 18446744073709551615 : Nat) = 18446744073709551615 - a := by
  have e : (BitVec.ofNat 64 a ^^^ BitVec.allOnes 64).toNat = (~~~ (BitVec.ofNat 64 a)).toNat := by rw [BitVec.xor_allOnes]
  rw [BitVec.toNat_xor, BitVec.toNat_not, BitVec.toNat_allOnes, BitVec.toNat_ofNat] at e
  have : a % 2 ^ 64 = a := Nat.mod_eq_of_lt (by omega)
  rw [this] at e
  omega
/-- The number that PutInt makes of n by a shift and an exclusive or. -/
theorem zig_bits (c : Int) (h0 : -4611686018427387903 ≤ c) (h1 : c ≤ 4611686018427387903) :
    bits BinOp.xor IntKind.u64 (IntKind.u64.wrap (IntKind.u64.wrap c * 2)) (IntKind.u64.wrap (c / 9223372036854775808)) = ((zig c : Nat) : Int) := by
  by_cases h : c < 0
  · have e1 : IntKind.u64.wrap (IntKind.u64.wrap c * 2) = ((2 * c + 18446744073709551616).toNat : Nat) := by rw [IntKind.wrap_u64, IntKind.wrap_u64]; omega
    have e2 : IntKind.u64.wrap (c / 9223372036854775808) = ((18446744073709551615 : Nat) : Int) := by rw [IntKind.wrap_u64]; omega
    rw [e1, e2, bits_xor_u64_nat _ _ (by omega) (by omega), xor_ones _ (by omega)]
    unfold zig; rw [if_pos h]; omega
  · have e1 : IntKind.u64.wrap (IntKind.u64.wrap c * 2) = ((2 * c).toNat : Nat) := by rw [IntKind.wrap_u64, IntKind.wrap_u64]; omega
    have e2 : IntKind.u64.wrap (c / 9223372036854775808) = ((0 : Nat) : Int) := by rw [IntKind.wrap_u64]; omega
    rw [e1, e2, bits_xor_u64_nat _ _ (by omega) (by omega), Nat.xor_zero]
    unfold zig; rw [if_neg h]

theorem nat_or_128 {r : Nat} (h : r < 128) : r ||| 128 = r + 128 := by
  have := nat_join 7 128 r (by decide) (by omega)
  rw [Nat.or_comm, this]; omega
theorem grp_or (x : Nat) (h : ¬ x < 128) : bits .or .u8 ((x : Int) % 128) 128 = ((grp x).toNat : Int) := by
  have e : ((x : Int) % 128) = ((x % 128 : Nat) : Int) := by omega
  rw [e, show (128 : Int) = ((128 : Nat) : Int) from rfl, u8_or_nat _ _ (by omega) (by omega), nat_or_128 (by omega)]
  have : (grp x).toNat = x % 128 + 128 := by simp only [grp, if_neg h]; exact ofNat_toNat8 (by omega)
  rw [this]


set_option maxRecDepth 100000 in
set_option maxHeartbeats 2000000 in
theorem putInt_in (c : Int) (w : World) (h0 : -4611686018427387903 ≤ c) (h1 : c ≤ 4611686018427387903) :
    CallsIn Fence.wide 5 Tryd.prog 60 #[.int .i64 c] w fun e w' => e = .returned (.tuple #[.string ⟨(enc c).toArray⟩, .int .i64 0]) ∧ Below w.heap.size w w' := by
  obtain ⟨i0, hi, hz0, hz1, hz2⟩ := info_parts Tryd.infoU8
  refine callsIn_of_wp_marks Tryd.func60 rfl trivial ?_ rfl
  simp only [Tryd.ntmps60, List.size_toArray, List.length_cons, List.length_nil, Nat.reduceAdd, Nat.reduceSub, Array.replicate_succ, Array.replicate_zero, List.push_toArray, List.append_toArray, List.nil_append, List.cons_append]
  gi_wp2_with fail
  rw [zig_bits c h0 h1]
  have hz := zig_lt h0 h1
  generalize hzc : zig c = z at *
  refine ⟨trivial, ?_⟩
  refine (groups_in 4 _ _).mono ?_
  rintro e w1 ⟨rfl, rfl⟩
  gi_wp2_with fail
  have bO := (Boxed.new w 52 (.slice none 0 0)).alloc (.cells #[.int .u64 z] 120)
  have bN := Boxed.new (w.alloc (.cells #[.slice none 0 0] 52)) 120 (.int .u64 z)
  rw [World.size_alloc] at bN
  have hB0 : Below w.heap.size w ((w.alloc (.cells #[.slice none 0 0] 52)).alloc (.cells #[.int .u64 z] 120)) := ((Below.refl _ w).alloc (Nat.le_refl _) _).alloc (by simp) _
  have hsz : ((w.alloc (.cells #[.slice none 0 0] 52)).alloc (.cells #[.int .u64 z] 120)).heap.size = w.heap.size + 2 := by simp
  obtain ⟨W0, hW0⟩ : ∃ W0, (w.alloc (.cells #[.slice none 0 0] 52)).alloc (.cells #[.int .u64 z] 120) = W0 := ⟨_, rfl⟩
  rw [hW0] at bO bN hB0 hsz ⊢
  clear hW0
  refine wpIn_range (F := Fence.wide) (n := 5) rfl (by omega) (gf := 78) (lb := #[.pointer (some ⟨w.heap.size + 1, 0, none⟩)]) rfl trivial (enters_of Tryd.func78 (by kernel_rfl) rfl)
    (groups1_in 4 (by omega) (w.heap.size + 1) z (by omega)) (SetsBox.cells _) ?pre ?kt ?kb (fun _ => rfl)
    (fun pre W => (∃ v, Boxed W w.heap.size 52 v ∧ W.ownsRow w.heap.size 5 1 v pre.length (bcs (pre.map grp)) ∧ True) ∧ (∃ u, Boxed W (w.heap.size + 1) 120 u) ∧ Below w.heap.size w W)
    (fun _ _ _ => False) ?own ?ownx ?wr ?wrx ?start ?round ?done ?stop
  case pre =>
    intro W hb
    exact ⟨(hb.cell (p := ⟨w.heap.size + 1, 0, none⟩) (by simp; omega)).trans bN.cell, (hb.frozen (p := ⟨w.heap.size + 1, 0, none⟩) (by simp; omega)).trans bN.frozen⟩
  case kt =>
    intro X Y Z h k
    exact ⟨k.1.trans h.1, k.2.trans h.2⟩
  case kb =>
    intro W l o o' hl ho hc
    have hne : (w.heap.size + 1 : Nat) ≠ l := by omega
    exact ⟨World.cell?_of_block (World.putObj_heap_other hne), World.frozen?_of_block (World.putObj_heap_other hne)⟩
  case own =>
    exact OwnFrom.and (Own.from (holdsRow_own w.heap.size w.heap.size 52 5 1 (fun pre : List Nat => pre.length) (fun pre => bcs (pre.map grp)) (fun _ _ => True)) _) (OwnFrom.and (ownFrom_box _ _ _) (ownFrom_below (Nat.le_refl _) (by omega)))
  case ownx => exact fun _ _ _ _ _ hs _ _ => hs
  case wr =>
    rintro s X Y ⟨⟨v, hv, hrow, _⟩, ⟨u, hu⟩, hB⟩ ⟨u', rfl⟩
    exact ⟨⟨v, hv.other (by omega) _, ownsRow_setBox hrow hu (by decide) _, trivial⟩, ⟨_, hu.set u'⟩, below_setBox hB (by omega) _⟩
  case wrx => exact fun _ _ _ _ hs _ => hs
  case start => exact ⟨⟨_, bO, World.ownsRow_nil _ _ _ _, trivial⟩, ⟨_, bN⟩, hB0⟩
  case round =>
    rintro l pre x W hI hlen
    gi_wp2
    refine ⟨KeepsFrom.refl _ _, ⟨rfl, rfl⟩, hI, ?_⟩
    clear hI
    rintro V hvc hvf hvs ⟨⟨v, hv, hrow, _⟩, ⟨u, hu⟩, hB⟩
    clear hvc hvf hvs
    have hc := hv.cell
    have hN : pre.length < 10 := hlen
    by_cases hx : x < 128
    · have hd : decide (x < 128) = true := by simp [hx]
      have hg : (x : Int) % 128 = ((grp x).toNat : Int) := by simp [grp, hx]; omega
      gi_wp2_with (gi_at_builtin; refine wpListIn_append_own _ rfl _ _ 52 rfl w.heap.size 5 i0 (.int .u8 0) 1 1 Tryd.underlying52 hi hz0 hz1 hz2 rfl (by decide) _ _ _ rfl (hrow.alloc _) ⟨V.heap.size, 0, none⟩ 1 1 [.int .u8 ((grp x).toNat : Int)] rfl rfl (cell_one_new _ _ _) (by simp [Value.oneCell']) (by unfold maxLen; omega) (by omega) (by have := hB.size; simp; omega) ?_; intro v' w1 hown' hgrow _; obtain ⟨g', cap', rfl⟩ := ownsRow_succ hown'; obtain ⟨hv1, hv2, hr2, hk2, hb2⟩ := hv.appended (by decide) hrow hB.size (Nat.le_refl _) hown' hgrow; have hc1 := hv1.cell; have hf1 := hv1.frozen)
      have hu2 : Boxed (w1.setCell ⟨w.heap.size, 0, none⟩ (.slice (some ⟨g', 0, none⟩) (pre.length + 1) cap')) (w.heap.size + 1) 120 u := ((hu.alloc _).kept hgrow (hu.not_row (by decide) hrow)).other (by omega) _
      exact ⟨hk2.from _, ⟨hu2.cell.trans hu.cell.symm, hu2.frozen.trans hu.frozen.symm⟩, ⟨_, hv2, by simpa [bcs] using hr2, trivial⟩, ⟨_, hu2⟩, hB.trans hb2⟩
    · have hd : decide (x < 128) = false := by simp [hx]
      have hg : bits .or .u8 ((x : Int) % 128) 128 = ((grp x).toNat : Int) := grp_or x hx
      gi_wp2_with (gi_at_builtin; refine wpListIn_append_own _ rfl _ _ 52 rfl w.heap.size 5 i0 (.int .u8 0) 1 1 Tryd.underlying52 hi hz0 hz1 hz2 rfl (by decide) _ _ _ rfl (hrow.alloc _) ⟨V.heap.size, 0, none⟩ 1 1 [.int .u8 ((grp x).toNat : Int)] rfl rfl (cell_one_new _ _ _) (by simp [Value.oneCell']) (by unfold maxLen; omega) (by omega) (by have := hB.size; simp; omega) ?_; intro v' w1 hown' hgrow _; obtain ⟨g', cap', rfl⟩ := ownsRow_succ hown'; obtain ⟨hv1, hv2, hr2, hk2, hb2⟩ := hv.appended (by decide) hrow hB.size (Nat.le_refl _) hown' hgrow; have hc1 := hv1.cell; have hf1 := hv1.frozen)
      have hu2 : Boxed (w1.setCell ⟨w.heap.size, 0, none⟩ (.slice (some ⟨g', 0, none⟩) (pre.length + 1) cap')) (w.heap.size + 1) 120 u := ((hu.alloc _).kept hgrow (hu.not_row (by decide) hrow)).other (by omega) _
      exact ⟨hk2.from _, ⟨hu2.cell.trans hu.cell.symm, hu2.frozen.trans hu.frozen.symm⟩, ⟨_, hv2, by simpa [bcs] using hr2, trivial⟩, ⟨_, hu2⟩, hB.trans hb2⟩
  case done =>
    rintro D ys W hD rfl ⟨⟨v, hv, hrow, _⟩, _, hB⟩ hK
    have hc := hv.cell
    have hrow' : W.ownsRow w.heap.size 5 1 v ((chain 10 z).map grp).length (bcs ((chain 10 z).map grp)) := by simpa using hrow
    have hcv := convert_owned (P := Tryd.prog) (src := 52) (dst := 9) Tryd.underlying52 Tryd.underlying5 Tryd.underlying9 hrow'
    have hout : (chain 10 z).map grp = enc c := by
      rw [chain_leb, enc, hzc]; exact leb_fuel 9 10 z (by omega) (by omega) (by omega)
    gi_wp2
    refine ⟨by simp, .inl ⟨_, _, rfl, run_takeDeferred hK, ?_⟩⟩
    refine ⟨_, results_tmp2 rfl _ _ _, ?_, hB.trans (belowK_b (w := w) (Nat.le_refl _) W D _ _ (by omega) hK rfl rfl)⟩
    rw [← hout]; rfl
  case stop =>
    rintro D c pre W _ _ h _
    exact h.elim

/-- PutInt of an integer that has an encoding. -/
theorem putInt_any (c : Int) (w : World) (h0 : -4611686018427387903 ≤ c) (h1 : c ≤ 4611686018427387903) :
    Calls Tryd.prog 60 #[.int .i64 c] w fun e w' => e = .returned (.tuple #[.string ⟨(enc c).toArray⟩, .int .i64 0]) ∧ Below w.heap.size w w' :=
  callsIn_wide.1 (putInt_in c w h0 h1)

set_option maxHeartbeats 1000000 in
/-- PutInt of another one. -/
theorem putInt_no (c : Int) (w : World) (h : c < -4611686018427387903 ∨ 4611686018427387903 < c) :
    Calls Tryd.prog 60 #[.int .i64 c] w fun e w' => e = .returned (.tuple #[.string ⟨#[]⟩, .int .i64 10]) ∧ w = w' := by
  by_cases h1 : c < -4611686018427387903
  · go_enter Tryd.func60, Tryd.ntmps60
    go_wp2_with fail
    go_ret2
    exact ⟨rfl, rfl⟩
  · have h2 : 4611686018427387903 < c := by omega
    go_enter Tryd.func60, Tryd.ntmps60
    go_wp2_with fail
    go_ret2
    exact ⟨rfl, rfl⟩
end Go.Proofs.YtkihcigojhcmgaaDoor

namespace Go.Proofs.YtkihcigojhcmgaaDoor
open Go.RowKit

theorem ret_int' {k : IntKind} {a b : Int} (h : a = b) : Ending.returned (.int k a) = .returned (.int k b) := by rw [h]

set_option maxHeartbeats 1000000 in
theorem refZig_any (n : Int) (w : World) (h0 : -4611686018427387903 ≤ n) (h1 : n ≤ 4611686018427387903) :
    Calls Tryd.prog 77 #[.int .i64 n] w fun e w' => e = .returned (.int .u64 ((zig n : Nat) : Int)) ∧ w = w' := by
  by_cases h : n < 0
  · have e : -n * 2 - 1 = ((zig n : Nat) : Int) := by
      unfold zig; rw [if_pos h]; omega
    have E := Lib.hid e
    clear e
    go_enter Tryd.func77, Tryd.ntmps77
    go_wp2
    go_ret
    exact ⟨ret_int' E.out, rfl⟩
  · have e : n * 2 = ((zig n : Nat) : Int) := by
      unfold zig; rw [if_neg h]; omega
    have E := Lib.hid e
    clear e
    go_enter Tryd.func77, Tryd.ntmps77
    go_wp2
    go_ret
    exact ⟨ret_int' E.out, rfl⟩

theorem pow9' {y f : Nat} (hy : y < 128 ^ (f + 1)) (hf : f ≤ 8) : y < 9223372036854775808 := by
  have h1 : 128 ^ (f + 1) ≤ 128 ^ 9 := Nat.pow_le_pow_right (by omega) (by omega)
  have h2 : (128 : Nat) ^ 9 = 9223372036854775808 := by decide
  omega

set_option maxRecDepth 100000 in
set_option maxHeartbeats 2000000 in
theorem refPut_any (c : Int) (w : World) (h0 : -4611686018427387903 ≤ c) (h1 : c ≤ 4611686018427387903) :
    Calls Tryd.prog 67 #[.int .i64 c] w fun e w' => e = .returned (.tuple #[.string ⟨(enc c).toArray⟩, .int .i64 0]) ∧ Below w.heap.size w w' := by
  obtain ⟨i0, hi, hz0, hz1, hz2⟩ := info_parts Tryd.infoU8
  go_enter Tryd.func67, Tryd.ntmps67
  go_wp2_with fail
  refine (refZig_any c _ h0 h1).mono ?_
  rintro e w' ⟨rfl, rfl⟩
  have hz := zig_lt h0 h1
  have hE : enc c = leb 9 (zig c) := rfl
  have HE := Lib.hid hE
  clear hE
  generalize hzc : zig c = z at *
  clear hzc
  have d1 : decide (c < -4611686018427387903) = false := by simp; omega
  have d2 : decide (4611686018427387903 < c) = false := by simp; omega
  go_wp2_with fail
  go_loopw [4, 5] (fun u v wr => ∃ (y f : Nat) (pre : List UInt8), u = .int .u64 y ∧ pre ++ leb (f + 1) y = leb 9 z ∧ pre.length + f = 8 ∧ y < 128 ^ (f + 1) ∧ wr.ownsRow w.heap.size 5 1 v pre.length (bcs pre) ∧ Below w.heap.size w wr) (fun u _ _ => (intOf u).toNat)
  case atStart => exact ⟨z, 8, [], rfl, by simp, by simp, by omega, World.ownsRow_nil _ _ _ _, Below.refl _ _⟩
  case round =>
    obtain ⟨y, f, pre, rfl, hpre, hlen, hy, hrow, hb⟩ := hrel
    have hbs := hb.size
    have hy9 : y < 9223372036854775808 := pow9' hy (by omega)
    by_cases hlt : y < 128
    · have d3 : decide (128 ≤ (y : Int)) = false := by simp; omega
      have hE2 : enc c = pre ++ [UInt8.ofNat y] := by rw [HE.out, ← hpre, leb_lo _ _ hlt]
      have hbc : bcs pre ++ [Value.int .u8 (y : Int)] = bcs (enc c) := by
        rw [hE2]; simp [bcs]; omega
      have hln : pre.length + 1 = (enc c).length := by rw [hE2]; simp
      have HBC := Lib.hid hbc
      have HL := Lib.hid hln
      clear hE2 hpre hy hbc hln
      go_wp2_with (at_builtin; refine wpList_append_own _ rfl _ _ 52 rfl w.heap.size 5 i0 (.int .u8 0) 1 1 Tryd.underlying52 hi hz0 hz1 hz2 rfl (by decide) _ _ _ rfl (hrow.alloc _) ⟨wr.heap.size, 0, none⟩ 1 1 [.int .u8 (y : Int)] rfl rfl (cell_one_new _ _ _) (by simp [Value.oneCell']) (by unfold maxLen; omega) (by omega) (by simp; omega) ?_; intro v' w1 hown' hgrow _; rw [HBC.out, HL.out] at hown'; have hcv := convert_owned (P := Tryd.prog) (src := 52) (dst := 9) Tryd.underlying52 Tryd.underlying5 Tryd.underlying9 hown'; clear hown')
      go_ret2
      exact ⟨rfl, (hb.alloc hbs _).grown hgrow (by simp; omega) (fun k hk => (hrow.lt k hk).1)⟩
    · have d3 : decide (128 ≤ (y : Int)) = true := by simp; omega
      obtain ⟨g, rfl⟩ : ∃ g, f = g + 1 := by
        refine ⟨f - 1, ?_⟩
        rcases Nat.eq_zero_or_pos f with rfl | h
        · omega
        · omega
      have hpre2 : (pre ++ [UInt8.ofNat (y % 128 + 128)]) ++ leb (g + 1) (y / 128) = leb 9 z := by rw [← hpre, leb_hi (g + 1) y (by omega), List.append_assoc]; rfl
      have hy2 : y / 128 < 128 ^ (g + 1) := by rw [Nat.pow_succ] at hy; omega
      have hbc : bcs pre ++ [Value.int .u8 ((y : Int) % 128 + 128)] = bcs (pre ++ [UInt8.ofNat (y % 128 + 128)]) := by
        simp [bcs]; omega
      have HBC := Lib.hid hbc
      have HP := Lib.hid hpre2
      have HY := Lib.hid hy2
      clear hpre hy hbc hpre2 hy2
      go_wp2_with (at_builtin; refine wpList_append_own _ rfl _ _ 52 rfl w.heap.size 5 i0 (.int .u8 0) 1 1 Tryd.underlying52 hi hz0 hz1 hz2 rfl (by decide) _ _ _ rfl (hrow.alloc _) ⟨wr.heap.size, 0, none⟩ 1 1 [.int .u8 ((y : Int) % 128 + 128)] rfl rfl (cell_one_new _ _ _) (by simp [Value.oneCell']) (by unfold maxLen; omega) (by omega) (by simp; omega) ?_; intro v' w1 hown' hgrow _; rw [HBC.out] at hown')
      go_roundw
      case rel => exact ⟨y / 128, g, _, by go_num, HP.out, by simp; omega, HY.out, by simpa using hown', (hb.alloc hbs _).grown hgrow (by simp; omega) (fun k hk => (hrow.lt k hk).1)⟩
      case measure => simp [intOf]; omega

set_option maxHeartbeats 1000000 in
theorem refPut_no (c : Int) (w : World) (h : c < -4611686018427387903 ∨ 4611686018427387903 < c) :
    Calls Tryd.prog 67 #[.int .i64 c] w fun e w' => e = .returned (.tuple #[.string ⟨#[]⟩, .int .i64 10]) ∧ w = w' := by
  by_cases h1 : c < -4611686018427387903
  · go_enter Tryd.func67, Tryd.ntmps67
    go_wp2_with fail
    go_ret2
    exact ⟨rfl, rfl⟩
  · have h2 : 4611686018427387903 < c := by omega
    go_enter Tryd.func67, Tryd.ntmps67
    go_wp2_with fail
    go_ret2
    exact ⟨rfl, rfl⟩
end Go.Proofs.YtkihcigojhcmgaaDoor
