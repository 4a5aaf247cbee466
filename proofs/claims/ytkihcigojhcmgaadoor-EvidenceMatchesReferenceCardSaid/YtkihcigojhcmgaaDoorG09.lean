/- PutString of both packages of wire, and the reference's texts of numbers and strings, in the statements on evidence. The scroll (a strings.Builder in a block of its own) in the statements on evidence: copyCheck, WriteString, String, scroll.text, scroll.numbers. scroll.numbers, Hash of both packages, in the statements on evidence. OnesCount on a set of eight witnesses, Count, Hash of the reference, in the statements on evidence. Whether a stamp is valid, in both packages. -/
import Derived.Test.YtkihcigojhcmgaaDoorG07
import Derived.Test.YtkihcigojhcmgaaDoorG01
import Derived.Test.YtkihcigojhcmgaaDoorG08
import Derived.Lib.Strings
import Derived.Lib.Builder
import Derived.Lib.AppendStr
import Derived.Lib.AppendIntMem
import Derived.Lib.UnsafeStr
import Derived.Lib.FrozenHead2
import Derived.Lib.OthersKept
import Derived.Laws.Externs
import Derived.Laws.IdiomCopy
import Derived.Test.YtkihcigojhcmgaaDoorG04
namespace Go.Proofs.YtkihcigojhcmgaaDoor
open Go.RowKit

theorem bcell {W w1 : World} (hb : Below W.heap.size W w1) : (∀ b o, b < W.heap.size → w1.cell? ⟨b, o, none⟩ = W.cell? ⟨b, o, none⟩) ∧ (∀ b o, b < W.heap.size → w1.frozen? ⟨b, o, none⟩ = W.frozen? ⟨b, o, none⟩) :=
  ⟨fun b o h => hb.cell (p := ⟨b, o, none⟩) h, fun b o h => hb.frozen (p := ⟨b, o, none⟩) h⟩

/-- What PutString returns. -/
def putSV (t : List UInt8) : Value := .tuple #[.string ⟨(encS t).toArray⟩, .int .i64 0]

set_option maxHeartbeats 1000000 in
theorem putStr_any (s : ByteArray) (w : World) (hs : s.size ≤ 65536) :
    Calls Tryd.prog 62 #[.string s] w fun e w' => e = .returned (putSV s.data.toList) ∧ Below w.heap.size w w' := by
  have hp := putInt_any (s.size : Int) w (by omega) (by omega)
  have HP := Lib.hid hp
  clear hp
  have hfin : (⟨(enc (s.size : Int)).toArray⟩ : ByteArray) ++ s = ⟨(encS s.data.toList).toArray⟩ := by
    apply ByteArray.ext
    simp [encS, ByteArray.data_append]
  have HF := Lib.hid hfin
  clear hfin
  have hle := enc_len (s.size : Int)
  have hle2 : (enc (s.size : Int)).length + s.size ≤ 9223372036854775807 := by omega
  clear hle
  go_enter Tryd.func62, Tryd.ntmps62
  go_wp2_with fail
  refine HP.out.mono ?_
  rintro e w' ⟨rfl, hb⟩
  go_wp2_with fail
  go_ret2
  exact ⟨by rw [HF.out]; rfl, hb⟩

set_option maxHeartbeats 1000000 in
theorem refPutStr_any (s : ByteArray) (w : World) (hs : s.size ≤ 65536) :
    Calls Tryd.prog 66 #[.string s] w fun e w' => e = .returned (putSV s.data.toList) ∧ Below w.heap.size w w' := by
  have hp := refPut_any (s.size : Int) w (by omega) (by omega)
  have HP := Lib.hid hp
  clear hp
  have hfin : (⟨(enc (s.size : Int)).toArray⟩ : ByteArray) ++ s = ⟨(encS s.data.toList).toArray⟩ := by
    apply ByteArray.ext
    simp [encS, ByteArray.data_append]
  have HF := Lib.hid hfin
  clear hfin
  have hle := enc_len (s.size : Int)
  have hle2 : (enc (s.size : Int)).length + s.size ≤ 9223372036854775807 := by omega
  clear hle
  go_enter Tryd.func66, Tryd.ntmps66
  go_wp2_with fail
  refine HP.out.mono ?_
  rintro e w' ⟨rfl, hb⟩
  go_wp2_with fail
  go_ret2
  exact ⟨by rw [HF.out]; rfl, hb⟩


/-- Integers that lie in a block, from an offset on. -/
def IntsZ (W : World) (b o : Nat) (L : List Int) : Prop := ∀ i, i < L.length → W.cell? ⟨b, o + i, none⟩ = some (.int .i64 (L.getD i 0))
def encs (L : List Int) : List UInt8 := (L.map enc).flatten
theorem encs_take (L : List Int) (k : Nat) (h : k < L.length) : encs (L.take (k + 1)) = encs (L.take k) ++ enc (L.getD k 0) := by
  rw [encs, List.take_succ_eq_append_getElem h, List.map_append, List.flatten_append, List.getD_eq_getElem?_getD, List.getElem?_eq_getElem h]; simp [encs]
theorem encs_len (L : List Int) : (encs L).length ≤ 9 * L.length := by
  induction L with
  | nil => simp [encs]
  | cons a L ih =>
    have := enc_len a
    have h : encs (a :: L) = enc a ++ encs L := rfl
    rw [h, List.length_append, List.length_cons]; omega
theorem str_append (a b : List UInt8) : (⟨a.toArray⟩ : ByteArray) ++ ⟨b.toArray⟩ = ⟨(a ++ b).toArray⟩ := by
  apply ByteArray.ext
  simp [ByteArray.data_append]

set_option maxHeartbeats 1000000 in
theorem refText_any (s : ByteArray) (w : World) (hs : s.size ≤ 65536) :
    Calls Tryd.prog 50 #[.string s] w fun e w' => e = .returned (.string ⟨(encS s.data.toList).toArray⟩) ∧ Below w.heap.size w w' := by
  go_enter Tryd.func50, Tryd.ntmps50
  go_wp2_with fail
  refine (refPutStr_any s w hs).mono ?_
  rintro e w' ⟨rfl, hb⟩
  simp only [putSV]
  go_wp2_with fail
  go_ret
  exact ⟨rfl, hb⟩

set_option maxHeartbeats 1000000 in
theorem refNumbers_any (L : List Int) (b c : Nat) (w : World) (hL : IntsZ w b 0 L) (hr : ∀ i, i < L.length → -4611686018427387903 ≤ L.getD i 0 ∧ L.getD i 0 ≤ 4611686018427387903) (hlen : L.length ≤ 10) (hbl : b < w.heap.size) :
    Calls Tryd.prog 51 #[.slice (some ⟨b, 0, none⟩) L.length c] w fun e w' => e = .returned (.string ⟨(encs L).toArray⟩) ∧ Below w.heap.size w w' := by
  obtain ⟨m, hm⟩ : ∃ m, L.length = m := ⟨_, rfl⟩
  rw [hm] at hr hlen ⊢
  have HM := Lib.hid hm
  have HL := Lib.hid hL
  have HR := Lib.hid hr
  clear hm hL hr
  go_enter Tryd.func51, Tryd.ntmps51
  go_wp2_with fail
  go_loopw [3, 4] (fun v i wx => ∃ j : Nat, j ≤ m ∧ i = .int .i64 j ∧ v = .string ⟨(encs (L.take j)).toArray⟩ ∧ Below w.heap.size w wx) (fun _ i _ => m - (intOf i).toNat)
  case atStart => exact ⟨0, by omega, rfl, rfl, Below.refl _ _⟩
  case round =>
    obtain ⟨j, hj, rfl, rfl, hb⟩ := hrel
    have hbs := hb.size
    by_cases hlt : j < m
    · have hc := HL.out j (by rw [HM.out]; exact hlt)
      rw [Nat.zero_add] at hc
      have hcw : wr.cell? ⟨b, j, none⟩ = some (.int .i64 (L.getD j 0)) := (hb.cell (p := ⟨b, j, none⟩) hbl).trans hc
      have hrj := HR.out j hlt
      have htk := encs_take L j (by rw [HM.out]; exact hlt)
      have hln := encs_len (L.take j)
      have HTK := Lib.hid htk
      clear hc htk
      generalize L.getD j 0 = z at *
      have hle : (encs (L.take j)).length + (enc z).length ≤ 9223372036854775807 := by
        have := enc_len z
        simp only [List.length_take] at hln
        omega
      obtain ⟨hr1, hr2⟩ := hrj
      have n0 : (0 : Int) ≤ (j : Int) := by omega
      have n1 : (j : Int) < (m : Int) := by omega
      have hd : decide ((j : Int) < (m : Int)) = true := by rw [decide_eq_true_iff]; omega
      have hd2 : decide (j < m) = true := by rw [decide_eq_true_iff]; omega
      have HTK2 : Hid (encs (L.take (j + 1)) = encs (L.take j) ++ enc z) := HTK
      clear hln HTK
      generalize encs (L.take j) = E at *
      go_wp2_with fail
      refine (refPut_any z _ hr1 hr2).mono ?_
      rintro e w' ⟨rfl, hb2⟩
      go_wp2_with fail
      exact ⟨⟨j + 1, by omega, by push_cast; rfl, by rw [HTK2.out, ← str_append], hb.trans (hb2.mono hbs)⟩, by simp [intOf]; omega⟩
    · obtain rfl : j = m := by omega
      have htl : L.take j = L := List.take_of_length_le (by rw [HM.out]; exact Nat.le_refl _)
      rw [htl]
      have hd : decide ((j : Int) < (j : Int)) = false := by simp
      have hd2 : decide (j < j) = false := by simp
      go_wp2_with fail
      go_ret
      exact ⟨rfl, hb⟩
end Go.Proofs.YtkihcigojhcmgaaDoor

namespace Go.Proofs.YtkihcigojhcmgaaDoor
open Go.RowKit
set_option maxRecDepth 100000

/-- A scroll in block b, from B on, that holds the text l. -/
def Scr (B b : Nat) (l : List UInt8) (w : World) : Prop := Lib.IsBuilderF 101 5 B b (Lib.byteCells l) w
/-- What a call on the scroll b keeps. -/
def Kpt (B b : Nat) (w w' : World) : Prop := Below B w w' ∧ Lib.OthersKept 5 (some b) w w'

theorem Kpt.refl (B b : Nat) (w : World) : Kpt B b w w := ⟨Below.refl B w, Lib.OthersKept.refl _ _ w⟩
theorem Kpt.trans {B b : Nat} {x y z : World} (h : Kpt B b x y) (k : Kpt B b y z) : Kpt B b x z := ⟨h.1.trans k.1, h.2.trans k.2⟩
theorem Kpt.mono {B B' b : Nat} {x y : World} (h : Kpt B b x y) (hB : B' ≤ B) : Kpt B' b x y := ⟨h.1.mono hB, h.2⟩
theorem Kpt.of_below {b : Nat} {w w' : World} (h : Below w.heap.size w w') : Kpt w.heap.size b w w' := by
  refine ⟨h, ?_⟩
  intro k x hk hb hx
  rw [h.block k (Array.getElem?_eq_some_iff.1 hk).1]
  exact hk

theorem Scr.lt {B b : Nat} {l : List UInt8} {w : World} (h : Scr B b l w) : b < w.heap.size := h.elim (·.lt) (·.lt)
theorem Scr.ge {B b : Nat} {l : List UInt8} {w : World} (h : Scr B b l w) : B ≤ b := h.elim (·.1) (·.1)
theorem BuilderAtF_below {T e : TypeId} {B b : Nat} {p : Value} {bs : List Value} {w w' : World} (h : Lib.BuilderAtF T e B b p bs w) (hw : Below w.heap.size w w') : Lib.BuilderAtF T e B b p bs w' := by
  obtain ⟨hB, v, hb, hown, hne⟩ := h
  refine ⟨hB, v, by rw [hw.block b (Array.getElem?_eq_some_iff.1 hb).1]; exact hb, ?_, hne⟩
  obtain ⟨h1, h2⟩ := hown
  refine ⟨h1, ?_⟩
  rcases h2 with h2 | ⟨g, cap, cur, fz, hv, hg, hh, rest⟩
  · exact .inl h2
  · exact .inr ⟨g, cap, cur, fz, hv, hg, by rw [hw.block g (Array.getElem?_eq_some_iff.1 hh).1]; exact hh, rest⟩
theorem Scr.below {B b : Nat} {l : List UInt8} {w w' : World} (h : Scr B b l w) (hw : Below w.heap.size w w') : Scr B b l w' :=
  h.elim (fun x => .inl (BuilderAtF_below x hw)) (fun x => .inr (BuilderAtF_below x hw))
theorem Scr.alloc {B b : Nat} {l : List UInt8} {w : World} (h : Scr B b l w) (o : Obj) : Scr B b l (w.alloc o) := Lib.IsBuilderF.alloc h o

theorem infoU8_e : (Tryd.prog.info? 5).map (fun i => (i.zero, i.size, i.bytes)) = some (some (.int .u8 0), 1, 1) := by kernel_rfl
theorem size97 : (Tryd.prog.info? 99).map (·.size) = some 2 := by kernel_rfl
theorem liesB : liesAt Tryd.prog Tryd.prog.depth 101 (2 / Tryd.prog.cellsOf 101) 0 99 1 = true := by kernel_rfl
theorem u_ptrB : Tryd.prog.underlying 97 = some (.pointer 99) := by kernel_rfl
theorem u_unsafe : Tryd.prog.underlying 133 = some .unsafePointer := by kernel_rfl
theorem u_bytes : Tryd.prog.underlying 52 = some (.slice 5) := by kernel_rfl
theorem u_string : Tryd.prog.underlying 9 = some .string := by kernel_rfl
theorem u_ptr8 : Tryd.prog.underlying 121 = some (.pointer 5) := by kernel_rfl
theorem cells8 : Tryd.prog.cellsOf 5 = 1 := by kernel_rfl

set_option maxHeartbeats 1000000 in
theorem copyCheck_used (b : Nat) (w : World) (h0 : w.cell? ⟨b, 0, none⟩ = some (.pointer (some ⟨b, 0, none⟩))) :
    Calls Tryd.prog 73 #[.pointer (some ⟨b, 0, none⟩)] w fun e w' => e = .returned (.tuple #[]) ∧ w' = w := by
  obtain ⟨j, hj, _⟩ := Option.map_eq_some_iff.1 size97
  go_enter Tryd.func73, Tryd.ntmps73
  go_wp2_with fail
  rw [Lib.run_neq_ptr_same w _ u_ptrB hj]
  go_wp2_with fail
  go_end0
  exact ⟨rfl, rfl⟩

set_option maxHeartbeats 1000000 in
theorem copyCheck_fresh (b : Nat) (w : World) (h0 : w.cell? ⟨b, 0, none⟩ = some (.pointer none)) (hsh : w.shape? b = some (101, 2)) (hfz : w.frozen? ⟨b, 0, none⟩ = false) :
    Calls Tryd.prog 73 #[.pointer (some ⟨b, 0, none⟩)] w fun e w' => e = .returned (.tuple #[]) ∧ w' = w.setCell ⟨b, 0, none⟩ (.pointer (some ⟨b, 0, none⟩)) := by
  obtain ⟨j, hj, hjs⟩ := Option.map_eq_some_iff.1 size97
  go_enter Tryd.func73, Tryd.ntmps73
  go_wp2_with fail
  rw [Lib.run_to_unsafe w ⟨b, 0, none⟩ u_ptrB u_unsafe hj (by rw [hjs]; decide) hsh (Nat.zero_lt_succ 1)]
  simp only [Result.andThen]
  rw [Oper.upon_value]
  go_wp2_with fail
  rw [run_callFunc_extern Tryd.func79 (by kernel_rfl) (by kernel_rfl) (by kernel_rfl) (e := Extern.AbiNoEscape.same) (by kernel_rfl)]
  rw [Lib.run_noEscape]
  simp only [Result.andThen]
  rw [Oper.upon_value]
  go_wp2_with fail
  rw [Lib.run_from_unsafe w ⟨b, 0, none⟩ u_unsafe u_ptrB hj hsh liesB]
  simp only [Result.andThen]
  rw [Oper.upon_value]
  go_wp2_with fail
  go_end0
  exact ⟨rfl, rfl⟩

theorem copyCheck_k (B b : Nat) (bs : List Value) (w : World) (h : Lib.IsBuilderF 101 5 B b bs w) :
    Calls Tryd.prog 73 #[.pointer (some ⟨b, 0, none⟩)] w fun e w' => e = .returned (.tuple #[]) ∧ (Lib.BuilderAtF 101 5 B b (.pointer (some ⟨b, 0, none⟩)) bs w' ∧ Kpt B b w w') := by
  rcases h with h | h
  · refine (copyCheck_fresh b w h.cell0 h.shape h.frozen0).mono ?_
    rintro e w' ⟨rfl, rfl⟩
    exact ⟨rfl, h.used _, (Below.refl B w).setCell (p := ⟨b, 0, none⟩) h.1 _, (Lib.OthersKept.refl _ _ w).setCell ⟨b, 0, none⟩ rfl _⟩
  · refine (copyCheck_used b w h.cell0).mono ?_
    rintro e w' ⟨rfl, rfl⟩
    exact ⟨rfl, h, Kpt.refl B b _⟩

set_option maxHeartbeats 2000000 in
theorem write_k (B b : Nat) (bs : List Value) (s : ByteArray) (w : World) (h : Lib.IsBuilderF 101 5 B b bs w) (hlen : bs.length + s.size ≤ 140737488355328) (hBw : B ≤ w.heap.size) :
    Calls Tryd.prog 61 #[.pointer (some ⟨b, 0, none⟩), .string s] w fun e w' => e = .returned (.tuple #[.int .i64 s.size, .nilIface]) ∧ (Lib.BuilderAtF 101 5 B b (.pointer (some ⟨b, 0, none⟩)) (bs ++ Lib.strCells s) w' ∧ Kpt B b w w') := by
  obtain ⟨i0, hi, hz0, hz1, hz2⟩ := info_parts infoU8_e
  have HC := Lib.hid (copyCheck_k B b bs w h)
  clear h
  go_enter Tryd.func61, Tryd.ntmps61
  go_wp2_with fail
  refine HC.out.mono ?_
  rintro e w1 ⟨rfl, h1, hb1, hk1⟩
  obtain ⟨hB, v, hbk, hown, hne⟩ := h1
  have c0 : w1.cell? ⟨b, 0, none⟩ = some (.pointer (some ⟨b, 0, none⟩)) := by rw [Lib.cell_of_heap hbk]; rfl
  have c1 : w1.cell? ⟨b, 1, none⟩ = some v := by rw [Lib.cell_of_heap hbk]; rfl
  go_wp2_with (at_builtin; refine Lib.wpList_append_own_stringF _ rfl _ _ 52 9 rfl B 5 i0 u_bytes u_string hi hz0 hz1 hz2 _ _ _ rfl hown s rfl ?c3 ?c4 ?c5 ?_)
  case c3 => unfold maxLen; omega
  case c4 => omega
  case c5 => have := hb1.size; omega
  intro v' w2 hown' hgrow _
  have hlt : b < w1.heap.size := by
    rcases Nat.lt_or_ge b w1.heap.size with h' | h'
    · exact h'
    · simp [Array.getElem?_eq_none h'] at hbk
  have hb2 : w2.heap[b]? = some (.cells #[.pointer (some ⟨b, 0, none⟩), v] 101 (0, 0)) := by
    rw [hgrow.block b hlt (fun e => hne e.symm)]
    exact hbk
  have d0 : w2.cell? ⟨b, 0, none⟩ = some (.pointer (some ⟨b, 0, none⟩)) := by rw [Lib.cell_of_heap hb2]; rfl
  have d1 : w2.cell? ⟨b, 1, none⟩ = some v := by rw [Lib.cell_of_heap hb2]; rfl
  have f1 : w2.frozen? ⟨b, 1, none⟩ = false := Lib.frozen_of_heap hb2 1
  obtain ⟨ao, n', cap, rfl⟩ : ∃ ao n' cap, v' = .slice ao n' cap := by
    rcases hown'.2 with ⟨hv, _⟩ | ⟨g, cap, cur, fz, hv, _⟩
    · exact ⟨_, _, _, hv⟩
    · exact ⟨_, _, _, hv⟩
  go_wp2_with fail
  go_ret2
  refine ⟨rfl, ?_, ?_, (hk1.grown hgrow (Lib.ownsRowF_kind hown)).setCell ⟨b, 1, none⟩ rfl _⟩
  · exact Lib.BuilderAtF.put (T := 101) (e := 5) hB hb2 (bs' := bs ++ Lib.strCells s) (by simpa [Lib.strCells_length] using hown') (by decide)
  · exact (hb1.grown hgrow (by have := hb1.size; omega) (fun k hk => (hown.lt k hk).1)).setCell (p := ⟨b, 1, none⟩) hB _

theorem write_any (B b : Nat) (l t : List UInt8) (w : World) (h : Scr B b l w) (hlen : l.length + t.length ≤ 140737488355328) (hBw : B ≤ w.heap.size) :
    Calls Tryd.prog 61 #[.pointer (some ⟨b, 0, none⟩), .string ⟨t.toArray⟩] w fun e w' => e = .returned (.tuple #[.int .i64 t.length, .nilIface]) ∧ (Scr B b (l ++ t) w' ∧ Kpt B b w w') := by
  refine (write_k B b (Lib.byteCells l) ⟨t.toArray⟩ w h (by rw [Lib.byteCells_length]; exact hlen) hBw).mono ?_
  rintro e w' ⟨rfl, h1, h2⟩
  refine ⟨by simp [ByteArray.size], .inr ?_, h2⟩
  have : Lib.byteCells (l ++ t) = Lib.byteCells l ++ Lib.strCells ⟨t.toArray⟩ := by rw [Lib.strCells_toArray]; simp [Lib.byteCells]
  rw [this]
  exact h1

/-- What String does to the world: one draw; the bytes in the buffer are frozen. -/
def Frz (b n : Nat) (w w' : World) : Prop := ∃ g cap, w.cell? ⟨b, 1, none⟩ = some (.slice (some ⟨g, 0, none⟩) n cap) ∧ w' = w.drew.freeze ⟨g, 0, none⟩ n
theorem freeze_heap (w : World) (p : Addr) (n k : Nat) (h : k ≠ p.block) : (w.freeze p n).heap[k]? = w.heap[k]? := by
  unfold World.freeze
  split
  · rfl
  · simp only [Array.getElem?_modify]
    rw [if_neg (fun e => h e.symm)]
theorem Scr.freeze {B b : Nat} {l : List UInt8} {w : World} (h : Scr B b l w) (p : Addr) (n : Nat) (hp : p.block < B) : Scr B b l (w.freeze p n) := by
  have key : ∀ q, Lib.BuilderAtF 101 5 B b q (Lib.byteCells l) w → Lib.BuilderAtF 101 5 B b q (Lib.byteCells l) (w.freeze p n) := by
    rintro q ⟨hB, v, hb, ⟨o1, o2⟩, hne⟩
    refine ⟨hB, v, by rw [freeze_heap _ _ _ _ (by omega)]; exact hb, ⟨o1, ?_⟩, hne⟩
    rcases o2 with o2 | ⟨g, cap, cur, fz, hv, hg, hh, rest⟩
    · exact .inl o2
    · exact .inr ⟨g, cap, cur, fz, hv, hg, by rw [freeze_heap _ _ _ _ (by omega)]; exact hh, rest⟩
  exact h.elim (fun x => .inl (key _ x)) (fun x => .inr (key _ x))
theorem Scr.belowN {B b n g m cap : Nat} {l : List UInt8} {w w' : World} (h : Scr B b l w) (hb : b < n) (hrow : w.cell? ⟨b, 1, none⟩ = some (.slice (some ⟨g, 0, none⟩) m cap)) (hg : g < n) (hw : Below n w w') : Scr B b l w' := by
  have key : ∀ q, Lib.BuilderAtF 101 5 B b q (Lib.byteCells l) w → Lib.BuilderAtF 101 5 B b q (Lib.byteCells l) w' := by
    rintro q ⟨hB, v, hbk, ⟨o1, o2⟩, hne⟩
    have hv : v = .slice (some ⟨g, 0, none⟩) m cap := by
      rw [Lib.cell_of_heap hbk] at hrow
      exact Option.some.inj hrow
    refine ⟨hB, v, by rw [hw.block b hb]; exact hbk, ⟨o1, ?_⟩, hne⟩
    rcases o2 with o2 | ⟨g2, cap2, cur, fz, hv2, hg2, hh, rest⟩
    · exact .inl o2
    · have hgg : g2 = g := by rw [hv] at hv2; injection hv2 with e1 _ _; injection e1 with e1; injection e1 with e1 _ _; exact e1.symm
      exact .inr ⟨g2, cap2, cur, fz, hv2, hg2, by rw [hw.block g2 (by omega)]; exact hh, rest⟩
  exact h.elim (fun x => .inl (key _ x)) (fun x => .inr (key _ x))
theorem Kpt.step {B b n : Nat} {w w2 w3 : World} (h : Kpt B b w w2) (hb : Below n w2 w3) (h1 : B ≤ w.heap.size) (h2 : w.heap.size ≤ n) : Kpt B b w w3 := by
  refine ⟨h.1.trans (hb.mono (by omega)), ?_⟩
  intro k x hk hne hx
  have hlt : k < w.heap.size := (Array.getElem?_eq_some_iff.1 hk).1
  rw [hb.block k (by omega)]
  exact h.2 k x hk hne hx
/-- Where the buffer of a scroll that holds text lies. -/
theorem Scr.row {B b : Nat} {l : List UInt8} {w : World} (h : Scr B b l w) (h0 : l ≠ []) : ∃ g cap, w.cell? ⟨b, 1, none⟩ = some (.slice (some ⟨g, 0, none⟩) l.length cap) ∧ g < w.heap.size ∧ g ≠ b := by
  have key : ∀ q, Lib.BuilderAtF 101 5 B b q (Lib.byteCells l) w → ∃ g cap, w.cell? ⟨b, 1, none⟩ = some (.slice (some ⟨g, 0, none⟩) l.length cap) ∧ g < w.heap.size ∧ g ≠ b := by
    rintro q ⟨hB, v, hb, hown, hne⟩
    have hl0 : l.length ≠ 0 := by simpa using h0
    rw [Lib.byteCells_length] at hown
    rcases hown.2 with ⟨_, hz⟩ | ⟨g, cap, cur, fz, rfl, hg, hh, rest⟩
    · exact absurd hz hl0
    · exact ⟨g, cap, by rw [Lib.cell_of_heap hb]; rfl, (Array.getElem?_eq_some_iff.1 hh).1, fun e => hne (by rw [← e]; rfl)⟩
  exact h.elim (fun x => key _ x) (fun x => key _ x)

set_option maxHeartbeats 2000000 in
theorem str_k (B b : Nat) (l : List UInt8) (w : World) (h : Scr B b l w) (h0 : l ≠ []) :
    Calls Tryd.prog 59 #[.pointer (some ⟨b, 0, none⟩)] w fun e w' => e = .returned (.string ⟨l.toArray⟩) ∧ (Scr B b l w' ∧ Kpt B b w w' ∧ Frz b l.length w w') := by
  obtain ⟨p, hp, hAt⟩ : ∃ p, (p = .pointer none ∨ p = .pointer (some ⟨b, 0, none⟩)) ∧ Lib.BuilderAtF 101 5 B b p (Lib.byteCells l) w := by
    rcases h with h | h
    · exact ⟨_, .inl rfl, h⟩
    · exact ⟨_, .inr rfl, h⟩
  obtain ⟨hB, v, hbk, hown, hne⟩ := hAt
  have hl0 : l.length ≠ 0 := by simpa using h0
  rw [Lib.byteCells_length] at hown
  obtain ⟨g, cap, cur, fz, rfl, hbg, hg, hfz, hnc, hcm, hcs, htake⟩ : ∃ g cap cur fz, v = .slice (some ⟨g, 0, none⟩) l.length cap ∧ B ≤ g ∧ w.heap[g]? = some (.cells cur 5 fz) ∧ fz.2 ≤ l.length * 1 ∧ l.length ≤ cap ∧ cap ≤ maxLen ∧ cur.size = cap * 1 ∧ cur.toList.take (l.length * 1) = Lib.byteCells l := by
    rcases hown.2 with ⟨_, hz⟩ | ⟨g, cap, cur, fz, hv, r⟩
    · exact absurd hz hl0
    · exact ⟨g, cap, cur, fz, hv, r⟩
  have c1 : w.drew.cell? ⟨b, 1, none⟩ = some (.slice (some ⟨g, 0, none⟩) l.length cap) := by
    have : w.drew.heap[b]? = some (.cells #[p, .slice (some ⟨g, 0, none⟩) l.length cap] 101 (0, 0)) := hbk
    rw [Lib.cell_of_heap this]; rfl
  have hSD : (Builtin.unsafeSliceData_ #[52] 121 #[.slice (some ⟨g, 0, none⟩) l.length cap]).run Tryd.prog w.drew = .ok (.pointer (some ⟨g, 0, none⟩)) w.drew :=
    Lib.run_unsafeSliceData_row _ _ _ _ _ _ (by omega)
  have hUS : (Builtin.unsafeString_ #[121, 3] 9 #[.pointer (some ⟨g, 0, none⟩), .int .i64 l.length]).run Tryd.prog w.drew = .ok (.string ⟨l.toArray⟩) (w.drew.freeze ⟨g, 0, none⟩ l.length) := by
    refine Lib.run_unsafeString_row w.drew 121 3 9 5 u_ptr8 cells8 g cur.size (by have hg' : w.drew.heap[g]? = some (.cells cur 5 fz) := hg; simp [World.shape?, hg']) l h0 (by omega) (by unfold maxLen at hcm; omega) ?_
    intro j x hx
    have := hown.cells (g := g) rfl j (.int .u8 x.toNat) (by simp [Lib.byteCells, hx])
    exact this
  have hkeep : Scr B b l (w.drew.freeze ⟨g, 0, none⟩ l.length) := by
    have hA : Lib.BuilderAtF 101 5 B b p (Lib.byteCells l) w.drew := ⟨hB, _, hbk, by rw [Lib.byteCells_length]; exact hown, hne⟩
    have hF := hA.froze (g := g) (cap := cap) (by rw [Lib.byteCells_length]; exact c1)
    rw [Lib.byteCells_length] at hF
    rcases hp with rfl | rfl
    · exact .inl hF
    · exact .inr hF
  go_enter Tryd.func59, Tryd.ntmps59
  go_wp2
  go_region
  all_goals (go_wp2; go_ret; exact ⟨rfl, hkeep, ⟨Lib.below_freeze (Below.drew (Below.refl B w)) (p := ⟨g, 0, none⟩) hbg _, ((Lib.OthersKept.refl _ _ w).drew).freeze ⟨g, 0, none⟩ _ ⟨cur, fz, hg⟩⟩, g, cap, c1, rfl⟩)

theorem putStrL (l : List UInt8) : putSV l = .tuple #[.string ⟨(encS l).toArray⟩, .int .i64 0] := rfl

set_option maxHeartbeats 1000000 in
theorem text_any (B b : Nat) (l : List UInt8) (s : ByteArray) (w : World) (h : Scr B b l w) (hs : s.size ≤ 65536) (hlen : l.length ≤ 1000000) (hBw : B ≤ w.heap.size) :
    Calls Tryd.prog 47 #[.pointer (some ⟨b, 0, none⟩), .string s] w fun e w' => e = .returned (.tuple #[]) ∧ (Scr B b (l ++ encS s.data.toList) w' ∧ Kpt B b w w') := by
  have hel : (encS s.data.toList).length ≤ 9 + 65536 := by
    have := enc_len (s.size : Int)
    have h2 : (encS s.data.toList).length = (enc (s.size : Int)).length + s.size := by simp [encS]
    omega
  have HS := Lib.hid h
  clear h
  go_enter Tryd.func47, Tryd.ntmps47
  go_wp2_with fail
  refine (putStr_any s w hs).mono ?_
  rintro e w1 ⟨rfl, hb1⟩
  simp only [putSV]
  go_wp2_with fail
  refine (write_any B b l (encS s.data.toList) w1 (HS.out.below hb1) (by omega) (Nat.le_trans hBw hb1.size)).mono ?_
  rintro e w2 ⟨rfl, h2, hk2⟩
  go_wp2_with fail
  go_end0
  exact ⟨rfl, h2, ((Kpt.of_below hb1).mono hBw).trans hk2⟩
end Go.Proofs.YtkihcigojhcmgaaDoor

namespace Go.Proofs.YtkihcigojhcmgaaDoor
open Go.RowKit
set_option maxRecDepth 100000

/-- A stamp by value. -/
def stv (s : Stp) : Value := .agg #[.int .i64 s.day, .int .i64 s.hash, .int .i64 s.wit, .string ⟨s.val.toArray⟩]
/-- A number that wire writes. -/
def Enc (n : Int) : Prop := -4611686018427387903 ≤ n ∧ n ≤ 4611686018427387903

theorem enc_len9 (n : Int) : (enc n).length ≤ 9 := enc_len n

theorem run_index3 (a b c : Int) (w : World) :
    (Instr.index 49 (.agg #[.int .i64 a, .int .i64 b, .int .i64 c]) (.int .i64 0)).run Tryd.prog w = .ok (.int .i64 a) w ∧
    (Instr.index 49 (.agg #[.int .i64 a, .int .i64 b, .int .i64 c]) (.int .i64 1)).run Tryd.prog w = .ok (.int .i64 b) w ∧
    (Instr.index 49 (.agg #[.int .i64 a, .int .i64 b, .int .i64 c]) (.int .i64 2)).run Tryd.prog w = .ok (.int .i64 c) w := by
  refine ⟨?_, ?_, ?_⟩ <;> simp [Instr.index, run_underlying Tryd.underlying49, asIntOf, go_sem]

set_option maxHeartbeats 1000000 in
theorem numbers_any (B b : Nat) (l : List UInt8) (s : Stp) (w : World) (h : Scr B b l w) (h1 : Enc s.day) (h2 : Enc s.hash) (h3 : Enc s.wit) (hlen : l.length ≤ 1000000) (hBw : B ≤ w.heap.size) :
    Calls Tryd.prog 46 #[.pointer (some ⟨b, 0, none⟩), stv s] w fun e w' => e = .returned (.tuple #[]) ∧ (Scr B b (l ++ nums s) w' ∧ Kpt B b w w') := by
  obtain ⟨d, k, t, v⟩ := s
  simp only [stv, nums] at *
  have HS := Lib.hid h
  have e1 := enc_len9 d
  have e2 := enc_len9 k
  have e3 := enc_len9 t
  have H1 := Lib.hid h1
  have H2 := Lib.hid h2
  have H3 := Lib.hid h3
  clear h h1 h2 h3
  have hS : ∀ j : Nat, j < 3 → ∀ (l' : List UInt8) (n : Int) (w1 : World), Scr B b l' w1 → l'.length ≤ 1000100 → Enc n → B ≤ w1.heap.size → Scr B b l' w1 := fun _ _ _ _ _ h _ _ _ => h
  clear hS
  go_enter Tryd.func46, Tryd.ntmps46
  go_wp2_with fail
  go_loopw [15] (fun i wx => ∃ j : Nat, j ≤ 3 ∧ i = .int .i64 j ∧ Scr B b (l ++ encs ([d, k, t].take j)) wx ∧ Kpt B b w wx) (fun i _ => 3 - (intOf i).toNat)
  case atStart => exact ⟨0, by omega, rfl, by simpa [encs] using HS.out.alloc _, (Below.refl B w).alloc hBw _, (Lib.OthersKept.refl _ _ w).alloc _⟩
  case round =>
    obtain ⟨j, hj, rfl, hs, hk⟩ := hrel
    have hle := Nat.le_trans hBw hk.1.size
    have hln : (l ++ encs ([d, k, t].take j)).length ≤ 1000027 := by
      have h := encs_len ([d, k, t].take j)
      rw [List.length_take] at h
      rw [List.length_append]
      simp only [List.length_cons, List.length_nil] at h
      omega
    have hS := Lib.hid hs
    have hK := Lib.hid hk
    clear hs hk
    rcases (by omega : j = 0 ∨ j = 1 ∨ j = 2 ∨ j = 3) with rfl | rfl | rfl | rfl
    · rw [show ((0 : Nat) : Int) = 0 from rfl]
      go_wp2_with fail
      rw [(run_index3 d k t wr).1]
      simp only [Result.andThen]
      rw [Oper.upon_value]
      go_wp2_with fail
      refine (putInt_any d wr H1.out.1 H1.out.2).mono ?_
      rintro e w1 ⟨rfl, hb1⟩
      go_wp2_with fail
      refine (write_any B b _ (enc d) w1 (hS.out.below hb1) (by omega) (Nat.le_trans hle hb1.size)).mono ?_
      rintro e w2 ⟨rfl, h2, hk2⟩
      go_wp2_with fail
      refine ⟨⟨1, by omega, rfl, by simpa [encs] using h2, (hK.out.trans ((Kpt.of_below hb1).mono hle)).trans hk2⟩, by simp [intOf]⟩
    · rw [show ((1 : Nat) : Int) = 1 from rfl]
      go_wp2_with fail
      rw [(run_index3 d k t wr).2.1]
      simp only [Result.andThen]
      rw [Oper.upon_value]
      go_wp2_with fail
      refine (putInt_any k wr H2.out.1 H2.out.2).mono ?_
      rintro e w1 ⟨rfl, hb1⟩
      go_wp2_with fail
      refine (write_any B b _ (enc k) w1 (hS.out.below hb1) (by omega) (Nat.le_trans hle hb1.size)).mono ?_
      rintro e w2 ⟨rfl, h2, hk2⟩
      go_wp2_with fail
      refine ⟨⟨2, by omega, rfl, by simpa [encs] using h2, (hK.out.trans ((Kpt.of_below hb1).mono hle)).trans hk2⟩, by simp [intOf]⟩
    · rw [show ((2 : Nat) : Int) = 2 from rfl]
      go_wp2_with fail
      rw [(run_index3 d k t wr).2.2]
      simp only [Result.andThen]
      rw [Oper.upon_value]
      go_wp2_with fail
      refine (putInt_any t wr H3.out.1 H3.out.2).mono ?_
      rintro e w1 ⟨rfl, hb1⟩
      go_wp2_with fail
      refine (write_any B b _ (enc t) w1 (hS.out.below hb1) (by omega) (Nat.le_trans hle hb1.size)).mono ?_
      rintro e w2 ⟨rfl, h2, hk2⟩
      go_wp2_with fail
      refine ⟨⟨3, by omega, rfl, by simpa [encs] using h2, (hK.out.trans ((Kpt.of_below hb1).mono hle)).trans hk2⟩, by simp [intOf]⟩
    · rw [show ((3 : Nat) : Int) = 3 from rfl]
      go_wp2_with fail
      go_end0
      exact ⟨rfl, by simpa [encs] using hS.out, hK.out⟩

/-! ### Hash -/
set_option maxHeartbeats 1000000 in
theorem within_any (n a b : Int) (w : World) :
    Calls Tryd.prog 41 #[.int .i64 n, .int .i64 a, .int .i64 b] w fun e w' => e = .returned (.bool (decide (a ≤ n) && decide (n ≤ b))) ∧ w' = w := by
  go_enter Tryd.func41, Tryd.ntmps41
  by_cases h1 : a ≤ n
  · go_wp2_with fail
    go_ret
    exact ⟨by simp [h1], rfl⟩
  · go_wp2_with fail
    go_ret
    have h2 : decide (a ≤ n) = false := by simp [h1]
    exact ⟨by rw [h2]; rfl, rfl⟩

theorem RoundAt.below {w w' : World} (h : RoundAt w) (hg : 0 < w.heap.size) (hb : Below w.heap.size w w') : RoundAt w' :=
  fun i hi => (hb.cell (p := ⟨0, i, none⟩) hg).trans (h i hi)
theorem hashByte (k : Nat) (h : k < 256) : ∃ x : UInt8, x = UInt8.ofNat k ∧ (x.toNat : Int) = (k : Int) := ⟨_, rfl, by simp; omega⟩
theorem str_size (l : List UInt8) : (⟨l.toArray⟩ : ByteArray).size = l.length := by simp [ByteArray.size]

set_option maxHeartbeats 1000000 in
theorem hash_any (n : Int) (s : List UInt8) (w : World) (hw : RoundAt w) (hglt : 0 < w.heap.size) (hs : s.length ≤ 900000) :
    Calls Tryd.prog 25 #[.int .i64 n, .string ⟨s.toArray⟩] w fun e w' => e = .returned (.string ⟨(hashV n s).toArray⟩) ∧ Below w.heap.size w w' := by
  by_cases hn : 0 ≤ n ∧ n ≤ 7
  · have hb : (decide (0 ≤ n) && decide (n ≤ 7)) = true := by simp [hn]
    obtain ⟨k, rfl⟩ : ∃ k : Nat, n = k := ⟨n.toNat, by omega⟩
    have hk : k ≤ 7 := by omega
    obtain ⟨x, hx, hxk⟩ := hashByte k (by omega)
    have hv : hashV (k : Int) s = sha (x :: s) := by rw [hashV, if_pos hn, hx]; rfl
    rw [hv]
    have hD : ∀ w1 : World, Below w.heap.size w w1 → Calls Tryd.prog 49 #[.string ⟨([x] ++ s).toArray⟩] w1 fun e w' => e = .returned (.string ⟨(sha (x :: s)).toArray⟩) ∧ Below w1.heap.size w1 w' := fun w1 hb1 =>
      digSum_any ⟨([x] ++ s).toArray⟩ w1 (by rw [str_size, List.length_append, List.length_singleton]; omega) (hw.below hglt hb1) (Nat.lt_of_lt_of_le hglt hb1.size)
    have HD := Lib.hid hD
    have hln : (⟨[x].toArray⟩ : ByteArray).size + (⟨s.toArray⟩ : ByteArray).size ≤ 9223372036854775807 := by rw [str_size, str_size, List.length_singleton]; omega
    have HAP := Lib.hid (str_append [x] s)
    have hcv : (convert 52 9 (.slice (some ⟨w.heap.size, 0, none⟩) 1 1)).run Tryd.prog (w.alloc (Obj.cells #[.int .u8 (k : Int)] 5)) = .ok (.string ⟨[x].toArray⟩) (w.alloc (Obj.cells #[.int .u8 (k : Int)] 5)) := by
      rw [← hxk]
      refine run_convert_bytes_back _ 52 9 5 ⟨w.heap.size, 0, none⟩ 1 [x] Tryd.underlying52 Tryd.underlying5 Tryd.underlying9 ?_
      intro j hj
      match j, hj with
      | 0, _ => simp [go_sem, Addr.add]
    have HCV := Lib.hid hcv
    have HBA := Lib.hid ((Below.refl w.heap.size w).alloc (Nat.le_refl _) (Obj.cells #[.int .u8 (k : Int)] 5))
    clear hD hcv hv hx hxk hw
    generalize sha (x :: s) = H at *
    go_enter Tryd.func25, Tryd.ntmps25
    go_wp2_with fail
    refine (within_any (k : Int) 0 7 _).mono ?_
    rintro e w1 ⟨rfl, rfl⟩
    rw [hb]
    go_wp2_with fail
    rw [HCV.out]
    simp only [Result.andThen]
    rw [Oper.upon_value]
    go_wp2_with fail
    rw [HAP.out]
    refine (HD.out _ HBA.out).mono ?_
    rintro e w2 ⟨rfl, hb2⟩
    go_wp2_with fail
    go_ret
    exact ⟨rfl, HBA.out.trans (hb2.mono (HBA.out.size))⟩
  · have hb : (decide (0 ≤ n) && decide (n ≤ 7)) = false := by
      rcases Classical.em (0 ≤ n) with h | h
      · have : ¬ n ≤ 7 := fun h2 => hn ⟨h, h2⟩
        simp [this]
      · simp [h]
    have hv : hashV n s = [] := by rw [hashV, if_neg hn]
    rw [hv]
    go_enter Tryd.func25, Tryd.ntmps25
    go_wp2_with fail
    refine (within_any n 0 7 _).mono ?_
    rintro e w1 ⟨rfl, rfl⟩
    rw [hb]
    go_wp2_with fail
    go_ret
    exact ⟨rfl, Below.refl _ _⟩
end Go.Proofs.YtkihcigojhcmgaaDoor

namespace Go.Proofs.YtkihcigojhcmgaaDoor
open Go.RowKit
set_option maxRecDepth 100000

theorem wrap_small (n : Int) (h : -9223372036854775808 ≤ n) (h2 : n ≤ 9223372036854775807) : wrap64 n = n := by unfold wrap64; omega

/-- What OnesCount64 computes. -/
def onesE (x : Int) : Int :=
  let a := IntKind.u64.wrap (bits .and .u64 (x / 2) 6148914691236517205 + bits .and .u64 x 6148914691236517205)
  let b := IntKind.u64.wrap (bits .and .u64 (a / 4) 3689348814741910323 + bits .and .u64 a 3689348814741910323)
  let c := bits .and .u64 (IntKind.u64.wrap (b / 16 + b)) 1085102592571150095
  let d := IntKind.u64.wrap (c + c / 256)
  let e := IntKind.u64.wrap (d + d / 65536)
  let f := IntKind.u64.wrap (e + e / 4294967296)
  bits .and .i64 (wrap64 f) 127
theorem ones_key : ∀ k : Nat, k < 256 → onesE (k : Int) = (popc k : Int) := by decide +kernel

theorem ones_key' (k : Nat) (hk : k < 256) (a b c d e f : Int)
    (ha : IntKind.u64.wrap (bits .and .u64 ((k : Int) / 2) 6148914691236517205 + bits .and .u64 (k : Int) 6148914691236517205) = a)
    (hb : IntKind.u64.wrap (bits .and .u64 (a / 4) 3689348814741910323 + bits .and .u64 a 3689348814741910323) = b)
    (hc : bits .and .u64 (IntKind.u64.wrap (b / 16 + b)) 1085102592571150095 = c)
    (hd : IntKind.u64.wrap (c + c / 256) = d) (he : IntKind.u64.wrap (d + d / 65536) = e) (hf : IntKind.u64.wrap (e + e / 4294967296) = f) :
    bits .and .i64 (wrap64 f) 127 = (popc k : Int) := by
  have h := ones_key k hk
  simp only [onesE] at h
  subst ha hb hc hd he hf
  exact h

set_option maxHeartbeats 1000000 in
theorem ones64_any (k : Nat) (w : World) (hk : k < 256) :
    Calls Tryd.prog 71 #[.int .u64 (k : Int)] w fun e w' => e = .returned (.int .i64 (popc k : Int)) ∧ w' = w := by
  go_enter Tryd.func71, Tryd.ntmps71
  go_wp2_with fail
  go_ret
  generalize ha : IntKind.u64.wrap (bits .and .u64 ((k : Int) / 2) 6148914691236517205 + bits .and .u64 (k : Int) 6148914691236517205) = a
  generalize hb : IntKind.u64.wrap (bits .and .u64 (a / 4) 3689348814741910323 + bits .and .u64 a 3689348814741910323) = b
  generalize hc : bits .and .u64 (IntKind.u64.wrap (b / 16 + b)) 1085102592571150095 = c
  generalize hd : IntKind.u64.wrap (c + c / 256) = d
  generalize he : IntKind.u64.wrap (d + d / 65536) = e
  generalize hf : IntKind.u64.wrap (e + e / 4294967296) = f
  refine ⟨congrArg (fun x => Ending.returned (Value.int .i64 x)) ?_, rfl⟩
  exact ones_key' k hk a b c d e f ha hb hc hd he hf

set_option maxHeartbeats 1000000 in
theorem ones_any (k : Nat) (w : World) (hk : k < 256) :
    Calls Tryd.prog 58 #[.int .u64 (k : Int)] w fun e w' => e = .returned (.int .i64 (popc k : Int)) ∧ w' = w := by
  go_enter Tryd.func58, Tryd.ntmps58
  go_wp2_with fail
  refine (ones64_any k w hk).mono ?_
  rintro e w' ⟨rfl, rfl⟩
  go_wp2_with fail
  go_ret
  exact ⟨rfl, rfl⟩

/-- How many of the first j witnesses a set has. -/
def popTo (t : Nat) : Nat → Nat
  | 0 => 0
  | j + 1 => popTo t j + t / 2 ^ j % 2
theorem popTo_8 (t : Nat) : popTo t 8 = popc t := by
  simp [popTo, popc]
theorem popTo_le (t : Nat) : ∀ j, popTo t j ≤ j
  | 0 => Nat.le_refl 0
  | j + 1 => by have := popTo_le t j; simp only [popTo]; omega
/-- Whether an integer is a set of witnesses. -/
def cnt (t : Int) : Int := if 0 ≤ t ∧ t < 256 then (popc t.toNat : Int) else -1

set_option maxHeartbeats 1000000 in
theorem count_any (t : Int) (w : World) :
    Calls Tryd.prog 56 #[.int .i64 t] w fun e w' => e = .returned (.int .i64 (cnt t)) ∧ w' = w := by
  by_cases ht : 0 ≤ t ∧ t < 256
  · rw [cnt, if_pos ht]
    obtain ⟨k, rfl⟩ : ∃ k : Nat, t = k := ⟨t.toNat, by omega⟩
    rw [Int.toNat_natCast, ← popTo_8]
    have h1 : ¬ ((k : Int) < 0) := by omega
    have h2 : ¬ ((256 : Int) ≤ (k : Int)) := by omega
    have h3 : k < 256 := by omega
    clear ht
    go_enter Tryd.func56, Tryd.ntmps56
    go_wp2_with fail
    go_loopw [3, 4] (fun n i wx => ∃ j : Nat, j ≤ 8 ∧ i = .int .i64 j ∧ n = .int .i64 (popTo k j : Int) ∧ wx = w) (fun _ i _ => 8 - (intOf i).toNat)
    case atStart => exact ⟨0, by omega, rfl, rfl, rfl⟩
    case round =>
      obtain ⟨j, hj, rfl, rfl, rfl⟩ := hrel
      by_cases hlt : j < 8
      · have hd : decide ((j : Int) < 8) = true := by rw [decide_eq_true_iff]; omega
        have hd2 : decide (j < 8) = true := by rw [decide_eq_true_iff]; omega
        have hle := popTo_le k j
        have hn0 : (0 : Int) ≤ (j : Int) := by omega
        go_wp2_with fail
        refine ⟨⟨j + 1, by omega, by push_cast; rfl, ?_, trivial⟩, by simp [intOf]; omega⟩
        have hm : ((k : Int) / 2 ^ j).tmod 2 = ((k / 2 ^ j % 2 : Nat) : Int) := by
          rw [Int.tmod_eq_emod_of_nonneg (Int.ediv_nonneg (by omega) (Int.le_of_lt (Int.pow_pos (by omega))))]
          push_cast; rfl
        rw [hm]
        simp only [popTo]
        rw [wrap_small _ (by omega) (by omega)]
        push_cast; rfl
      · obtain rfl : j = 8 := by omega
        rw [show ((8 : Nat) : Int) = 8 from rfl]
        go_wp2_with fail
        go_ret
        exact ⟨rfl, rfl⟩
  · rw [cnt, if_neg ht]
    by_cases h1 : t < 0
    · go_enter Tryd.func56, Tryd.ntmps56
      go_wp2_with fail
      go_ret
      exact ⟨rfl, rfl⟩
    · have h2 : (256 : Int) ≤ t := by omega
      go_enter Tryd.func56, Tryd.ntmps56
      go_wp2_with fail
      go_ret
      exact ⟨rfl, rfl⟩

set_option maxHeartbeats 1000000 in
theorem refHash_any (n : Int) (s : List UInt8) (w : World) (hs : s.length ≤ 900000) :
    Calls Tryd.prog 26 #[.int .i64 n, .string ⟨s.toArray⟩] w fun e w' => e = .returned (.string ⟨(hashV n s).toArray⟩) ∧ Below w.heap.size w w' := by
  by_cases hn : 0 ≤ n ∧ n ≤ 7
  · obtain ⟨k, rfl⟩ : ∃ k : Nat, n = k := ⟨n.toNat, by omega⟩
    have hk : k ≤ 7 := by omega
    have hn1 : ¬ ((k : Int) < 0) := by omega
    have hn2 : ¬ (7 < (k : Int)) := by omega
    obtain ⟨x, hx, hxk⟩ := hashByte k (by omega)
    have hv : hashV (k : Int) s = sha (x :: s) := by rw [hashV, if_pos hn, hx]; rfl
    rw [hv]
    have hD : ∀ w1 : World, Calls Tryd.prog 28 #[.string ⟨([x] ++ s).toArray⟩] w1 fun e w' => e = .returned (.string ⟨(sha (x :: s)).toArray⟩) ∧ Below w1.heap.size w1 w' := fun w1 =>
      refSum2_any ⟨([x] ++ s).toArray⟩ w1 (by rw [str_size, List.length_append, List.length_singleton]; omega)
    have HD := Lib.hid hD
    have hln : (⟨[x].toArray⟩ : ByteArray).size + (⟨s.toArray⟩ : ByteArray).size ≤ 9223372036854775807 := by rw [str_size, str_size, List.length_singleton]; omega
    have HAP := Lib.hid (str_append [x] s)
    have hcv : (convert 52 9 (.slice (some ⟨w.heap.size, 0, none⟩) 1 1)).run Tryd.prog (w.alloc (Obj.cells #[.int .u8 (k : Int)] 5)) = .ok (.string ⟨[x].toArray⟩) (w.alloc (Obj.cells #[.int .u8 (k : Int)] 5)) := by
      rw [← hxk]
      refine run_convert_bytes_back _ 52 9 5 ⟨w.heap.size, 0, none⟩ 1 [x] Tryd.underlying52 Tryd.underlying5 Tryd.underlying9 ?_
      intro j hj
      match j, hj with
      | 0, _ => simp [go_sem, Addr.add]
    have HCV := Lib.hid hcv
    have HBA := Lib.hid ((Below.refl w.heap.size w).alloc (Nat.le_refl _) (Obj.cells #[.int .u8 (k : Int)] 5))
    clear hD hcv hv hx hxk hn
    generalize sha (x :: s) = H at *
    go_enter Tryd.func26, Tryd.ntmps26
    go_wp2_with fail
    rw [HCV.out]
    simp only [Result.andThen]
    rw [Oper.upon_value]
    go_wp2_with fail
    rw [HAP.out]
    refine (HD.out _).mono ?_
    rintro e w2 ⟨rfl, hb2⟩
    go_wp2_with fail
    go_ret
    exact ⟨rfl, HBA.out.trans (hb2.mono (HBA.out.size))⟩
  · have hv : hashV n s = [] := by rw [hashV, if_neg hn]
    rw [hv]
    by_cases h1 : n < 0
    · go_enter Tryd.func26, Tryd.ntmps26
      go_wp2_with fail
      go_ret
      exact ⟨rfl, Below.refl _ _⟩
    · have h2 : 7 < n := by omega
      clear hn
      go_enter Tryd.func26, Tryd.ntmps26
      go_wp2_with fail
      go_ret
      exact ⟨rfl, Below.refl _ _⟩
end Go.Proofs.YtkihcigojhcmgaaDoor

namespace Go.Proofs.YtkihcigojhcmgaaDoor
open Go.RowKit
set_option maxRecDepth 100000

theorem valid_eq (d k t : Int) (v : List UInt8) (b : Bool) (h : (0 ≤ d ∧ d ≤ 100000 ∧ 0 ≤ k ∧ k ≤ 7 ∧ 0 ≤ t ∧ t < 256 ∧ 2 ≤ popc t.toNat) ↔ b = true) : valid ⟨d, k, t, v⟩ = b := by
  rw [valid]
  cases b
  · exact decide_eq_false (fun hc => Bool.noConfusion (h.1 hc))
  · exact decide_eq_true (h.2 rfl)
theorem within_eq {a b n : Int} : (decide (a ≤ n) && decide (n ≤ b)) = true ↔ a ≤ n ∧ n ≤ b := by simp
theorem within_ne {a b n : Int} (h : ¬ (a ≤ n ∧ n ≤ b)) : (decide (a ≤ n) && decide (n ≤ b)) = false := by
  cases hd : (decide (a ≤ n) && decide (n ≤ b)) with
  | false => rfl
  | true => exact absurd (within_eq.1 hd) h

set_option maxHeartbeats 1000000 in
theorem isValid_any (s : Stp) (w : World) :
    Calls Tryd.prog 40 #[stv s] w fun e w' => e = .returned (.bool (valid s)) ∧ Below w.heap.size w w' := by
  obtain ⟨d, k, t, v⟩ := s
  simp only [stv]
  by_cases h1 : 0 ≤ d ∧ d ≤ 100000
  · have b1 := within_eq.2 h1
    by_cases h2 : 0 ≤ k ∧ k ≤ 7
    · have b2 := within_eq.2 h2
      by_cases h3 : 0 ≤ t ∧ t ≤ 255
      · have b3 := within_eq.2 h3
        obtain ⟨n, rfl⟩ : ∃ n : Nat, t = n := ⟨t.toNat, by omega⟩
        have hv := Lib.hid (valid_eq d k n v (decide (2 ≤ (popc n : Int))) (by rw [decide_eq_true_iff, Int.toNat_natCast]; omega))
        have h3' : n < 256 := by omega
        go_enter Tryd.func40, Tryd.ntmps40
        go_wp2_with fail
        refine (within_any d 0 100000 _).mono ?_
        rintro e w1 ⟨rfl, rfl⟩
        rw [b1]
        go_wp2_with fail
        refine (within_any k 0 7 _).mono ?_
        rintro e w1 ⟨rfl, rfl⟩
        rw [b2]
        go_wp2_with fail
        refine (within_any n 0 255 _).mono ?_
        rintro e w1 ⟨rfl, rfl⟩
        rw [b3]
        go_wp2_with fail
        refine (ones_any n _ h3').mono ?_
        rintro e w1 ⟨rfl, rfl⟩
        go_wp2_with fail
        go_ret
        exact ⟨by rw [hv.out]; rfl, (Below.refl _ w).alloc (Nat.le_refl _) _⟩
      · have b3 := within_ne h3
        have hv := Lib.hid (valid_eq d k t v false (by constructor <;> intro h <;> first | omega | cases h))
        go_enter Tryd.func40, Tryd.ntmps40
        go_wp2_with fail
        refine (within_any d 0 100000 _).mono ?_
        rintro e w1 ⟨rfl, rfl⟩
        rw [b1]
        go_wp2_with fail
        refine (within_any k 0 7 _).mono ?_
        rintro e w1 ⟨rfl, rfl⟩
        rw [b2]
        go_wp2_with fail
        refine (within_any t 0 255 _).mono ?_
        rintro e w1 ⟨rfl, rfl⟩
        rw [b3]
        go_wp2_with fail
        go_ret
        exact ⟨by rw [hv.out]; rfl, (Below.refl _ w).alloc (Nat.le_refl _) _⟩
    · have b2 := within_ne h2
      have hv := Lib.hid (valid_eq d k t v false (by constructor <;> intro h <;> first | omega | cases h))
      go_enter Tryd.func40, Tryd.ntmps40
      go_wp2_with fail
      refine (within_any d 0 100000 _).mono ?_
      rintro e w1 ⟨rfl, rfl⟩
      rw [b1]
      go_wp2_with fail
      refine (within_any k 0 7 _).mono ?_
      rintro e w1 ⟨rfl, rfl⟩
      rw [b2]
      go_wp2_with fail
      go_ret
      exact ⟨by rw [hv.out]; rfl, (Below.refl _ w).alloc (Nat.le_refl _) _⟩
  · have b1 := within_ne h1
    have hv := Lib.hid (valid_eq d k t v false (by constructor <;> intro h <;> first | omega | cases h))
    go_enter Tryd.func40, Tryd.ntmps40
    go_wp2_with fail
    refine (within_any d 0 100000 _).mono ?_
    rintro e w1 ⟨rfl, rfl⟩
    rw [b1]
    go_wp2_with fail
    go_ret
    exact ⟨by rw [hv.out]; rfl, (Below.refl _ w).alloc (Nat.le_refl _) _⟩

theorem cnt_valid (d k t : Int) (v : List UInt8) (h1 : 0 ≤ d ∧ d ≤ 100000) (h2 : 0 ≤ k ∧ k ≤ 7) : valid ⟨d, k, t, v⟩ = decide (2 ≤ cnt t) := by
  apply valid_eq
  rw [decide_eq_true_iff, cnt]
  split
  · omega
  · omega

set_option maxHeartbeats 1000000 in
theorem refValid_any (s : Stp) (w : World) :
    Calls Tryd.prog 48 #[stv s] w fun e w' => e = .returned (.bool (valid s)) ∧ Below w.heap.size w w' := by
  obtain ⟨d, k, t, v⟩ := s
  simp only [stv]
  by_cases h1 : 0 ≤ d ∧ d ≤ 100000
  · by_cases h2 : 0 ≤ k ∧ k ≤ 7
    · have hv := Lib.hid (cnt_valid d k t v h1 h2)
      obtain ⟨h11, h12⟩ := h1
      obtain ⟨h21, h22⟩ := h2
      go_enter Tryd.func48, Tryd.ntmps48
      go_wp2_with fail
      refine (count_any t _).mono ?_
      rintro e w1 ⟨rfl, rfl⟩
      go_wp2_with fail
      go_ret
      exact ⟨by rw [hv.out]; rfl, (Below.refl _ w).alloc (Nat.le_refl _) _⟩
    · have hv := Lib.hid (valid_eq d k t v false (by constructor <;> intro h <;> first | omega | cases h))
      obtain ⟨h11, h12⟩ := h1
      by_cases h21 : 0 ≤ k
      · have h22 : ¬ k ≤ 7 := by omega
        clear h2
        go_enter Tryd.func48, Tryd.ntmps48
        go_wp2_with fail
        go_ret
        exact ⟨by rw [hv.out]; rfl, (Below.refl _ w).alloc (Nat.le_refl _) _⟩
      · clear h2
        go_enter Tryd.func48, Tryd.ntmps48
        go_wp2_with fail
        go_ret
        exact ⟨by rw [hv.out]; rfl, (Below.refl _ w).alloc (Nat.le_refl _) _⟩
  · have hv := Lib.hid (valid_eq d k t v false (by constructor <;> intro h <;> first | omega | cases h))
    by_cases h11 : 0 ≤ d
    · have h12 : ¬ d ≤ 100000 := by omega
      clear h1
      go_enter Tryd.func48, Tryd.ntmps48
      go_wp2_with fail
      go_ret
      exact ⟨by rw [hv.out]; rfl, (Below.refl _ w).alloc (Nat.le_refl _) _⟩
    · clear h1
      go_enter Tryd.func48, Tryd.ntmps48
      go_wp2_with fail
      go_ret
      exact ⟨by rw [hv.out]; rfl, (Below.refl _ w).alloc (Nat.le_refl _) _⟩
end Go.Proofs.YtkihcigojhcmgaaDoor
