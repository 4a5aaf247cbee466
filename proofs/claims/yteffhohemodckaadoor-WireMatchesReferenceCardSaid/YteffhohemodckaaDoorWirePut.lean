/- What PutInt of package wire comes to: for every integer that has an encoding its bytes, else the error; nothing that lay before the call is turned. -/
import Derived.Test.YteffhohemodckaaDoorRows
import Derived.Test.YteffhohemodckaaDoorRange
import Derived.Test.YteffhohemodckaaDoorWireMath
import Derived.Shelf.Abstract
import Derived.WalkKit
import Derived.OwnWalkIn
import Derived.TacticsInMore
import Derived.LoopNIn
import Derived.LoopIn
import Derived.Maps.AppendAt
import Derived.Outline
import Derived.Lib.Hide
import Derived.Laws.BitsAllLaws
namespace Go.Proofs.YteffhohemodckaaDoor
open Go.RowKit Go.Shelf

attribute [local go_sem] Oper.semAt_some

/-- The numbers that the iterator has, one by one. -/
def chain : Nat → Nat → List Nat
  | 0, _ => []
  | f + 1, z => if z < 128 then [z] else z :: chain f (z / 128)
/-- The byte that is written for one. -/
def grp (x : Nat) : UInt8 := UInt8.ofNat (if x < 128 then x else x % 128 + 128)
theorem chain_leb (f : Nat) : ∀ z : Nat, (chain f z).map grp = leb f z := by
  induction f with
  | zero => intro z; rfl
  | succ f ih =>
    intro z
    rw [chain, leb]
    by_cases h : z < 128
    · rw [if_pos h, if_pos h]; simp [grp, h]
    · rw [if_neg h, if_neg h]; simp [grp, h, ih]

/-- What the iterator asks of a round: its own counter lies as it lay. -/
def KeepsBox (b : Nat) (A B : World) : Prop := B.cell? ⟨b, 0, none⟩ = A.cell? ⟨b, 0, none⟩ ∧ B.frozen? ⟨b, 0, none⟩ = A.frozen? ⟨b, 0, none⟩
/-- What it turns: its own counter. -/
def SetsBox (b : Nat) (A B : World) : Prop := ∃ v, B = A.setCell ⟨b, 0, none⟩ v
theorem SetsBox.cells (b : Nat) : CellsAlone (SetsBox b) := by
  rintro A B k o ⟨v, rfl⟩ hk ho
  exact (KeepsOthers.setCell A ⟨b, 0, none⟩ v).same k o hk ho

/-- The counter, read off the world. -/
def boxOf (b : Nat) (W : World) : Nat := match W.cell? ⟨b, 0, none⟩ with | some v => (intOf v).toNat | none => 0

set_option maxRecDepth 100000 in
set_option maxHeartbeats 1000000 in
theorem groups1_in (n : Nat) (hn : 1 ≤ n) (b z0 : Nat) (hz0 : z0 < 18446744073709551616) :
    Iter Fence.wide n Tryd.prog 25 #[.pointer (some ⟨b, 0, none⟩)] (fun x : Nat => #[Value.int .u8 ((x : Int) % 128), Value.bool (decide (x < 128))]) (SetsBox b) (KeepsBox b)
      (fun xs => xs = chain 10 z0) (fun _ => True) 10 (fun W => W.cell? ⟨b, 0, none⟩ = some (.int .u64 z0) ∧ W.frozen? ⟨b, 0, none⟩ = false) := by
  rintro l J Jx W ⟨hc, hf⟩ hJ hJx hY h0
  refine callsIn_of_wp Tryd.func25 rfl trivial ?_ rfl
  simp only [Tryd.ntmps25, List.size_toArray, List.length_cons, List.length_nil, Nat.reduceAdd, Nat.reduceSub, Array.replicate_succ, Array.replicate_zero, List.push_toArray, List.append_toArray, List.nil_append, List.cons_append]
  gi_wp2
  gi_loopw [3] (fun _ wr => ∃ (pre : List Nat) (z f : Nat), pre ++ chain f z = chain 10 z0 ∧ pre.length + f = 10 ∧ 1 ≤ f ∧ z < 128 ^ f ∧ z < 18446744073709551616 ∧ wr.cell? ⟨b, 0, none⟩ = some (.int .u64 z) ∧ wr.frozen? ⟨b, 0, none⟩ = false ∧ J pre wr)
    (fun _ wr => boxOf b wr)
  case atStart => exact ⟨[], z0, 10, rfl, rfl, by omega, by omega, hz0, hc, hf, h0⟩
  case round =>
    obtain ⟨pre, z, f, hch, hlen, hf0, hzf, hz, hc1, hf1, hJ1⟩ := hrel
    obtain ⟨g, rfl⟩ : ∃ g, f = g + 1 := ⟨f - 1, by omega⟩
    have hY1 := hY pre z wr hJ1 (by omega)
    have hand : bits .and .u64 (z : Int) 127 = (z : Int) % 128 := by
      have := u64_and_nat z 127 hz (by omega)
      rw [show ((127 : Nat) : Int) = 127 from rfl] at this
      rw [this, nat_mask7]; omega
    by_cases hlt : z < 128
    · rw [show (decide (z < 128)) = true by simp [hlt]] at hY1
      have hd : decide ((z : Int) < 128) = true := by simp; omega
      have hfin : pre ++ [z] = chain 10 z0 := by rw [← hch, chain, if_pos hlt]
      obtain ⟨fn, tmps, assign, body, hy, hR⟩ := hY1
      have HF := Lib.hid hfin
      clear hfin hch hzf hJ hJx hY h0 hJ1 hlen
      gi_wp2
      refine hR.mono ?_
      rintro e W3 (⟨rfl, hJ3, hk3⟩ | ⟨rfl, hJx3⟩)
      · gi_wp2
        refine bodyPost_ret (results_none rfl _ _ _) rfl ?_
        exact ⟨⟨_, rfl⟩, .inl ⟨_, HF.out, hJ3⟩⟩
      · gi_wp2
        refine bodyPost_ret (results_none rfl _ _ _) rfl ?_
        exact ⟨⟨_, rfl⟩, .inr ⟨_, trivial, hJx3⟩⟩
    · rw [show (decide (z < 128)) = false by simp [hlt]] at hY1
      have hd : decide ((z : Int) < 128) = false := by simp; omega
      have hfin : (pre ++ [z]) ++ chain g (z / 128) = chain 10 z0 := by rw [← hch, chain, if_neg hlt]; simp
      have hzf' : z / 128 < 128 ^ g := by rw [Nat.pow_succ] at hzf; omega
      have hg1 : 1 ≤ g := by
        rcases Nat.eq_zero_or_pos g with rfl | h
        · simp at hzf; omega
        · exact h
      obtain ⟨fn, tmps, assign, body, hy, hR⟩ := hY1
      have HF := Lib.hid hfin
      have HZ := Lib.hid hzf'
      have HL := Lib.hid hlen
      have HJ := Lib.hid hJ
      clear hfin hch hzf hzf' hJ hJx hY h0 hJ1 hlen
      gi_wp2
      refine hR.mono ?_
      rintro e W3 (⟨rfl, hJ3, hk3⟩ | ⟨rfl, hJx3⟩)
      · have hc3 : W3.cell? ⟨b, 0, none⟩ = some (.int .u64 z) := hk3.1.trans hc1
        have hf3 : W3.frozen? ⟨b, 0, none⟩ = false := hk3.2.trans hf1
        clear hk3
        gi_wp2
        go_roundw
        case rel =>
          refine ⟨pre ++ [z], z / 128, g, HF.out, by have := HL.out; simp; omega, hg1, HZ.out, by omega, ?_, ?_, HJ.out _ _ _ hJ3 ⟨_, rfl⟩⟩
          · rw [World.cell?_setCell_same' _ _ _ (by rw [hc3]; rfl)]; rfl
          · rw [World.frozen?_setCell]; exact hf3
        case measure =>
          have e1 : boxOf b wr = z := by simp [boxOf, hc1, intOf]
          have e2 : boxOf b (W3.setCell ⟨b, 0, none⟩ (.int .u64 ((z : Int) / 128))) = z / 128 := by
            simp only [boxOf]; rw [World.cell?_setCell_same' _ _ _ (by rw [hc3]; rfl)]; simp [intOf]; omega
          rw [e1, e2]; omega
      · gi_wp2
        refine bodyPost_ret (results_none rfl _ _ _) rfl ?_
        exact ⟨⟨_, rfl⟩, .inr ⟨_, trivial, hJx3⟩⟩
end Go.Proofs.YteffhohemodckaaDoor
