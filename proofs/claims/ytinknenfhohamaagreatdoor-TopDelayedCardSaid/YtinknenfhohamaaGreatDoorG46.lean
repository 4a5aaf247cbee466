/- The writer (a strings.Builder in a block of its own): copyCheck, WriteString, String, writer.text, writer.numbers. The text property of the fixed document: the property's function and content.Property. -/
import Derived.Test.YtinknenfhohamaaGreatDoorG38
import Derived.Test.YtinknenfhohamaaGreatDoorG43
import Derived.Lib.Builder
import Derived.Lib.AppendStr
import Derived.Lib.AppendIntMem
import Derived.Lib.UnsafeStr
import Derived.Lib.FrozenHead2
import Derived.Lib.OthersKept
import Derived.Laws.Externs
import Derived.Laws.IdiomCopy
import Derived.Lib.Strings
import Derived.Test.YtinknenfhohamaaGreatDoorG44
import Derived.Test.YtinknenfhohamaaGreatDoorG45
namespace Go.Proofs.YtinknenfhohamaaGreatDoor
open Go.RowKit
set_option maxRecDepth 100000

/-- What PutString returns. -/
def putSV (t : List UInt8) : Value := .tuple #[.string ⟨(encS t).toArray⟩, .int .i64 0]

set_option maxHeartbeats 1000000 in
theorem putStr_any (s : ByteArray) (w : World) (hs : s.size ≤ 65536) :
    Calls Tryz.prog 93 #[.string s] w fun e w' => e = .returned (putSV s.data.toList) ∧ Below w.heap.size w w' := by
  have hp := putInt_any (s.size : Int) w (by omega) (by omega)
  have HP := Lib.hid hp
  clear hp
  have hfin : (⟨(enc (s.size : Int)).toArray⟩ : ByteArray) ++ s = ⟨(encS s.data.toList).toArray⟩ := by
    apply ByteArray.ext
    simp [encS, ByteArray.data_append]
  have HF := Lib.hid hfin
  clear hfin
  have hle := enc_len (s.size : Int)
  have hle2 : (enc (s.size : Int)).length + s.size ≤ 9223372036854775807 := by omega
  clear hle
  go_enter Tryz.func93, Tryz.ntmps93
  go_wp2_with fail
  refine HP.out.mono ?_
  rintro e w' ⟨rfl, hb⟩
  go_wp2_with fail
  go_ret2
  exact ⟨by rw [HF.out]; rfl, hb⟩

/-- A writer in block b, from B on, that holds the text l. -/
def Scr (B b : Nat) (l : List UInt8) (w : World) : Prop := Lib.IsBuilderF 95 5 B b (Lib.byteCells l) w
/-- What a call on the scroll b keeps. -/
def Kpt (B b : Nat) (w w' : World) : Prop := Below B w w' ∧ Lib.OthersKept 5 (some b) w w'

theorem Kpt.refl (B b : Nat) (w : World) : Kpt B b w w := ⟨Below.refl B w, Lib.OthersKept.refl _ _ w⟩
theorem Kpt.trans {B b : Nat} {x y z : World} (h : Kpt B b x y) (k : Kpt B b y z) : Kpt B b x z := ⟨h.1.trans k.1, h.2.trans k.2⟩
theorem Kpt.mono {B B' b : Nat} {x y : World} (h : Kpt B b x y) (hB : B' ≤ B) : Kpt B' b x y := ⟨h.1.mono hB, h.2⟩
theorem Kpt.of_below {b : Nat} {w w' : World} (h : Below w.heap.size w w') : Kpt w.heap.size b w w' := by
  refine ⟨h, ?_⟩
  intro k x hk hb hx
  rw [h.block k (Array.getElem?_eq_some_iff.1 hk).1]
  exact hk

theorem Scr.lt {B b : Nat} {l : List UInt8} {w : World} (h : Scr B b l w) : b < w.heap.size := h.elim (·.lt) (·.lt)
theorem Scr.ge {B b : Nat} {l : List UInt8} {w : World} (h : Scr B b l w) : B ≤ b := h.elim (·.1) (·.1)
theorem BuilderAtF_below {T e : TypeId} {B b : Nat} {p : Value} {bs : List Value} {w w' : World} (h : Lib.BuilderAtF T e B b p bs w) (hw : Below w.heap.size w w') : Lib.BuilderAtF T e B b p bs w' := by
  obtain ⟨hB, v, hb, hown, hne⟩ := h
  refine ⟨hB, v, by rw [hw.block b (Array.getElem?_eq_some_iff.1 hb).1]; exact hb, ?_, hne⟩
  obtain ⟨h1, h2⟩ := hown
  refine ⟨h1, ?_⟩
  rcases h2 with h2 | ⟨g, cap, cur, fz, hv, hg, hh, rest⟩
  · exact .inl h2
  · exact .inr ⟨g, cap, cur, fz, hv, hg, by rw [hw.block g (Array.getElem?_eq_some_iff.1 hh).1]; exact hh, rest⟩
theorem Scr.below {B b : Nat} {l : List UInt8} {w w' : World} (h : Scr B b l w) (hw : Below w.heap.size w w') : Scr B b l w' :=
  h.elim (fun x => .inl (BuilderAtF_below x hw)) (fun x => .inr (BuilderAtF_below x hw))
theorem Scr.alloc {B b : Nat} {l : List UInt8} {w : World} (h : Scr B b l w) (o : Obj) : Scr B b l (w.alloc o) := Lib.IsBuilderF.alloc h o

theorem infoU8_e : (Tryz.prog.info? 5).map (fun i => (i.zero, i.size, i.bytes)) = some (some (.int .u8 0), 1, 1) := by kernel_rfl
theorem size97 : (Tryz.prog.info? 93).map (·.size) = some 2 := by kernel_rfl
theorem liesB : liesAt Tryz.prog Tryz.prog.depth 95 (2 / Tryz.prog.cellsOf 95) 0 93 1 = true := by kernel_rfl
theorem u_ptrB : Tryz.prog.underlying 91 = some (.pointer 93) := by kernel_rfl
theorem u_unsafe : Tryz.prog.underlying 216 = some .unsafePointer := by kernel_rfl
theorem u_bytes : Tryz.prog.underlying 62 = some (.slice 5) := by kernel_rfl
theorem u_string : Tryz.prog.underlying 9 = some .string := by kernel_rfl
theorem u_ptr8 : Tryz.prog.underlying 138 = some (.pointer 5) := by kernel_rfl
theorem cells8 : Tryz.prog.cellsOf 5 = 1 := by kernel_rfl

set_option maxHeartbeats 1000000 in
theorem copyCheck_used (b : Nat) (w : World) (h0 : w.cell? ⟨b, 0, none⟩ = some (.pointer (some ⟨b, 0, none⟩))) :
    Calls Tryz.prog 157 #[.pointer (some ⟨b, 0, none⟩)] w fun e w' => e = .returned (.tuple #[]) ∧ w' = w := by
  obtain ⟨j, hj, _⟩ := Option.map_eq_some_iff.1 size97
  go_enter Tryz.func157, Tryz.ntmps157
  go_wp2_with fail
  rw [Lib.run_neq_ptr_same w _ u_ptrB hj]
  go_wp2_with fail
  go_end0
  exact ⟨rfl, rfl⟩

set_option maxHeartbeats 1000000 in
theorem copyCheck_fresh (b : Nat) (w : World) (h0 : w.cell? ⟨b, 0, none⟩ = some (.pointer none)) (hsh : w.shape? b = some (95, 2)) (hfz : w.frozen? ⟨b, 0, none⟩ = false) :
    Calls Tryz.prog 157 #[.pointer (some ⟨b, 0, none⟩)] w fun e w' => e = .returned (.tuple #[]) ∧ w' = w.setCell ⟨b, 0, none⟩ (.pointer (some ⟨b, 0, none⟩)) := by
  obtain ⟨j, hj, hjs⟩ := Option.map_eq_some_iff.1 size97
  go_enter Tryz.func157, Tryz.ntmps157
  go_wp2_with fail
  rw [Lib.run_to_unsafe w ⟨b, 0, none⟩ u_ptrB u_unsafe hj (by rw [hjs]; decide) hsh (Nat.zero_lt_succ 1)]
  simp only [Result.andThen]
  rw [Oper.upon_value]
  go_wp2_with fail
  rw [run_callFunc_extern Tryz.func172 (by kernel_rfl) (by kernel_rfl) (by kernel_rfl) (e := Extern.AbiNoEscape.same) (by kernel_rfl)]
  rw [Lib.run_noEscape]
  simp only [Result.andThen]
  rw [Oper.upon_value]
  go_wp2_with fail
  rw [Lib.run_from_unsafe w ⟨b, 0, none⟩ u_unsafe u_ptrB hj hsh liesB]
  simp only [Result.andThen]
  rw [Oper.upon_value]
  go_wp2_with fail
  go_end0
  exact ⟨rfl, rfl⟩

theorem copyCheck_k (B b : Nat) (bs : List Value) (w : World) (h : Lib.IsBuilderF 95 5 B b bs w) :
    Calls Tryz.prog 157 #[.pointer (some ⟨b, 0, none⟩)] w fun e w' => e = .returned (.tuple #[]) ∧ (Lib.BuilderAtF 95 5 B b (.pointer (some ⟨b, 0, none⟩)) bs w' ∧ Kpt B b w w') := by
  rcases h with h | h
  · refine (copyCheck_fresh b w h.cell0 h.shape h.frozen0).mono ?_
    rintro e w' ⟨rfl, rfl⟩
    exact ⟨rfl, h.used _, (Below.refl B w).setCell (p := ⟨b, 0, none⟩) h.1 _, (Lib.OthersKept.refl _ _ w).setCell ⟨b, 0, none⟩ rfl _⟩
  · refine (copyCheck_used b w h.cell0).mono ?_
    rintro e w' ⟨rfl, rfl⟩
    exact ⟨rfl, h, Kpt.refl B b _⟩

set_option maxHeartbeats 2000000 in
theorem write_k (B b : Nat) (bs : List Value) (s : ByteArray) (w : World) (h : Lib.IsBuilderF 95 5 B b bs w) (hlen : bs.length + s.size ≤ 140737488355328) (hBw : B ≤ w.heap.size) :
    Calls Tryz.prog 123 #[.pointer (some ⟨b, 0, none⟩), .string s] w fun e w' => e = .returned (.tuple #[.int .i64 s.size, .nilIface]) ∧ (Lib.BuilderAtF 95 5 B b (.pointer (some ⟨b, 0, none⟩)) (bs ++ Lib.strCells s) w' ∧ Kpt B b w w') := by
  obtain ⟨i0, hi, hz0, hz1, hz2⟩ := info_parts infoU8_e
  have HC := Lib.hid (copyCheck_k B b bs w h)
  clear h
  go_enter Tryz.func123, Tryz.ntmps123
  go_wp2_with fail
  refine HC.out.mono ?_
  rintro e w1 ⟨rfl, h1, hb1, hk1⟩
  obtain ⟨hB, v, hbk, hown, hne⟩ := h1
  have c0 : w1.cell? ⟨b, 0, none⟩ = some (.pointer (some ⟨b, 0, none⟩)) := by rw [Lib.cell_of_heap hbk]; rfl
  have c1 : w1.cell? ⟨b, 1, none⟩ = some v := by rw [Lib.cell_of_heap hbk]; rfl
  go_wp2_with (at_builtin; refine Lib.wpList_append_own_stringF _ rfl _ _ 62 9 rfl B 5 i0 u_bytes u_string hi hz0 hz1 hz2 _ _ _ rfl hown s rfl ?c3 ?c4 ?c5 ?_)
  case c3 => unfold maxLen; omega
  case c4 => omega
  case c5 => have := hb1.size; omega
  intro v' w2 hown' hgrow _
  have hlt : b < w1.heap.size := by
    rcases Nat.lt_or_ge b w1.heap.size with h' | h'
    · exact h'
    · simp [Array.getElem?_eq_none h'] at hbk
  have hb2 : w2.heap[b]? = some (.cells #[.pointer (some ⟨b, 0, none⟩), v] 95 (0, 0)) := by
    rw [hgrow.block b hlt (fun e => hne e.symm)]
    exact hbk
  have d0 : w2.cell? ⟨b, 0, none⟩ = some (.pointer (some ⟨b, 0, none⟩)) := by rw [Lib.cell_of_heap hb2]; rfl
  have d1 : w2.cell? ⟨b, 1, none⟩ = some v := by rw [Lib.cell_of_heap hb2]; rfl
  have f1 : w2.frozen? ⟨b, 1, none⟩ = false := Lib.frozen_of_heap hb2 1
  obtain ⟨ao, n', cap, rfl⟩ : ∃ ao n' cap, v' = .slice ao n' cap := by
    rcases hown'.2 with ⟨hv, _⟩ | ⟨g, cap, cur, fz, hv, _⟩
    · exact ⟨_, _, _, hv⟩
    · exact ⟨_, _, _, hv⟩
  go_wp2_with fail
  go_ret2
  refine ⟨rfl, ?_, ?_, (hk1.grown hgrow (Lib.ownsRowF_kind hown)).setCell ⟨b, 1, none⟩ rfl _⟩
  · exact Lib.BuilderAtF.put (T := 95) (e := 5) hB hb2 (bs' := bs ++ Lib.strCells s) (by simpa [Lib.strCells_length] using hown') (by decide)
  · exact (hb1.grown hgrow (by have := hb1.size; omega) (fun k hk => (hown.lt k hk).1)).setCell (p := ⟨b, 1, none⟩) hB _

theorem write_any (B b : Nat) (l t : List UInt8) (w : World) (h : Scr B b l w) (hlen : l.length + t.length ≤ 140737488355328) (hBw : B ≤ w.heap.size) :
    Calls Tryz.prog 123 #[.pointer (some ⟨b, 0, none⟩), .string ⟨t.toArray⟩] w fun e w' => e = .returned (.tuple #[.int .i64 t.length, .nilIface]) ∧ (Scr B b (l ++ t) w' ∧ Kpt B b w w') := by
  refine (write_k B b (Lib.byteCells l) ⟨t.toArray⟩ w h (by rw [Lib.byteCells_length]; exact hlen) hBw).mono ?_
  rintro e w' ⟨rfl, h1, h2⟩
  refine ⟨by simp [ByteArray.size], .inr ?_, h2⟩
  have : Lib.byteCells (l ++ t) = Lib.byteCells l ++ Lib.strCells ⟨t.toArray⟩ := by rw [Lib.strCells_toArray]; simp [Lib.byteCells]
  rw [this]
  exact h1

/-- What String does to the world: one draw; the bytes in the buffer are frozen. -/
def Frz (b n : Nat) (w w' : World) : Prop := ∃ g cap, w.cell? ⟨b, 1, none⟩ = some (.slice (some ⟨g, 0, none⟩) n cap) ∧ w' = w.drew.freeze ⟨g, 0, none⟩ n
theorem freeze_heap (w : World) (p : Addr) (n k : Nat) (h : k ≠ p.block) : (w.freeze p n).heap[k]? = w.heap[k]? := by
  unfold World.freeze
  split
  · rfl
  · simp only [Array.getElem?_modify]
    rw [if_neg (fun e => h e.symm)]
theorem Scr.freeze {B b : Nat} {l : List UInt8} {w : World} (h : Scr B b l w) (p : Addr) (n : Nat) (hp : p.block < B) : Scr B b l (w.freeze p n) := by
  have key : ∀ q, Lib.BuilderAtF 95 5 B b q (Lib.byteCells l) w → Lib.BuilderAtF 95 5 B b q (Lib.byteCells l) (w.freeze p n) := by
    rintro q ⟨hB, v, hb, ⟨o1, o2⟩, hne⟩
    refine ⟨hB, v, by rw [freeze_heap _ _ _ _ (by omega)]; exact hb, ⟨o1, ?_⟩, hne⟩
    rcases o2 with o2 | ⟨g, cap, cur, fz, hv, hg, hh, rest⟩
    · exact .inl o2
    · exact .inr ⟨g, cap, cur, fz, hv, hg, by rw [freeze_heap _ _ _ _ (by omega)]; exact hh, rest⟩
  exact h.elim (fun x => .inl (key _ x)) (fun x => .inr (key _ x))
theorem Scr.belowN {B b n g m cap : Nat} {l : List UInt8} {w w' : World} (h : Scr B b l w) (hb : b < n) (hrow : w.cell? ⟨b, 1, none⟩ = some (.slice (some ⟨g, 0, none⟩) m cap)) (hg : g < n) (hw : Below n w w') : Scr B b l w' := by
  have key : ∀ q, Lib.BuilderAtF 95 5 B b q (Lib.byteCells l) w → Lib.BuilderAtF 95 5 B b q (Lib.byteCells l) w' := by
    rintro q ⟨hB, v, hbk, ⟨o1, o2⟩, hne⟩
    have hv : v = .slice (some ⟨g, 0, none⟩) m cap := by
      rw [Lib.cell_of_heap hbk] at hrow
      exact Option.some.inj hrow
    refine ⟨hB, v, by rw [hw.block b hb]; exact hbk, ⟨o1, ?_⟩, hne⟩
    rcases o2 with o2 | ⟨g2, cap2, cur, fz, hv2, hg2, hh, rest⟩
    · exact .inl o2
    · have hgg : g2 = g := by rw [hv] at hv2; injection hv2 with e1 _ _; injection e1 with e1; injection e1 with e1 _ _; exact e1.symm
      exact .inr ⟨g2, cap2, cur, fz, hv2, hg2, by rw [hw.block g2 (by omega)]; exact hh, rest⟩
  exact h.elim (fun x => .inl (key _ x)) (fun x => .inr (key _ x))
theorem Kpt.step {B b n : Nat} {w w2 w3 : World} (h : Kpt B b w w2) (hb : Below n w2 w3) (h1 : B ≤ w.heap.size) (h2 : w.heap.size ≤ n) : Kpt B b w w3 := by
  refine ⟨h.1.trans (hb.mono (by omega)), ?_⟩
  intro k x hk hne hx
  have hlt : k < w.heap.size := (Array.getElem?_eq_some_iff.1 hk).1
  rw [hb.block k (by omega)]
  exact h.2 k x hk hne hx
/-- Where the buffer of a scroll that holds text lies. -/
theorem Scr.row {B b : Nat} {l : List UInt8} {w : World} (h : Scr B b l w) (h0 : l ≠ []) : ∃ g cap, w.cell? ⟨b, 1, none⟩ = some (.slice (some ⟨g, 0, none⟩) l.length cap) ∧ g < w.heap.size ∧ g ≠ b := by
  have key : ∀ q, Lib.BuilderAtF 95 5 B b q (Lib.byteCells l) w → ∃ g cap, w.cell? ⟨b, 1, none⟩ = some (.slice (some ⟨g, 0, none⟩) l.length cap) ∧ g < w.heap.size ∧ g ≠ b := by
    rintro q ⟨hB, v, hb, hown, hne⟩
    have hl0 : l.length ≠ 0 := by simpa using h0
    rw [Lib.byteCells_length] at hown
    rcases hown.2 with ⟨_, hz⟩ | ⟨g, cap, cur, fz, rfl, hg, hh, rest⟩
    · exact absurd hz hl0
    · exact ⟨g, cap, by rw [Lib.cell_of_heap hb]; rfl, (Array.getElem?_eq_some_iff.1 hh).1, fun e => hne (by rw [← e]; rfl)⟩
  exact h.elim (fun x => key _ x) (fun x => key _ x)

set_option maxHeartbeats 2000000 in
theorem str_k (B b : Nat) (l : List UInt8) (w : World) (h : Scr B b l w) (h0 : l ≠ []) :
    Calls Tryz.prog 32 #[.pointer (some ⟨b, 0, none⟩)] w fun e w' => e = .returned (.string ⟨l.toArray⟩) ∧ (Scr B b l w' ∧ Kpt B b w w' ∧ Frz b l.length w w') := by
  obtain ⟨p, hp, hAt⟩ : ∃ p, (p = .pointer none ∨ p = .pointer (some ⟨b, 0, none⟩)) ∧ Lib.BuilderAtF 95 5 B b p (Lib.byteCells l) w := by
    rcases h with h | h
    · exact ⟨_, .inl rfl, h⟩
    · exact ⟨_, .inr rfl, h⟩
  obtain ⟨hB, v, hbk, hown, hne⟩ := hAt
  have hl0 : l.length ≠ 0 := by simpa using h0
  rw [Lib.byteCells_length] at hown
  obtain ⟨g, cap, cur, fz, rfl, hbg, hg, hfz, hnc, hcm, hcs, htake⟩ : ∃ g cap cur fz, v = .slice (some ⟨g, 0, none⟩) l.length cap ∧ B ≤ g ∧ w.heap[g]? = some (.cells cur 5 fz) ∧ fz.2 ≤ l.length * 1 ∧ l.length ≤ cap ∧ cap ≤ maxLen ∧ cur.size = cap * 1 ∧ cur.toList.take (l.length * 1) = Lib.byteCells l := by
    rcases hown.2 with ⟨_, hz⟩ | ⟨g, cap, cur, fz, hv, r⟩
    · exact absurd hz hl0
    · exact ⟨g, cap, cur, fz, hv, r⟩
  have c1 : w.drew.cell? ⟨b, 1, none⟩ = some (.slice (some ⟨g, 0, none⟩) l.length cap) := by
    have : w.drew.heap[b]? = some (.cells #[p, .slice (some ⟨g, 0, none⟩) l.length cap] 95 (0, 0)) := hbk
    rw [Lib.cell_of_heap this]; rfl
  have hSD : (Builtin.unsafeSliceData_ #[62] 138 #[.slice (some ⟨g, 0, none⟩) l.length cap]).run Tryz.prog w.drew = .ok (.pointer (some ⟨g, 0, none⟩)) w.drew :=
    Lib.run_unsafeSliceData_row _ _ _ _ _ _ (by omega)
  have hUS : (Builtin.unsafeString_ #[138, 3] 9 #[.pointer (some ⟨g, 0, none⟩), .int .i64 l.length]).run Tryz.prog w.drew = .ok (.string ⟨l.toArray⟩) (w.drew.freeze ⟨g, 0, none⟩ l.length) := by
    refine Lib.run_unsafeString_row w.drew 138 3 9 5 u_ptr8 cells8 g cur.size (by have hg' : w.drew.heap[g]? = some (.cells cur 5 fz) := hg; simp [World.shape?, hg']) l h0 (by omega) (by unfold maxLen at hcm; omega) ?_
    intro j x hx
    have := hown.cells (g := g) rfl j (.int .u8 x.toNat) (by simp [Lib.byteCells, hx])
    exact this
  have hkeep : Scr B b l (w.drew.freeze ⟨g, 0, none⟩ l.length) := by
    have hA : Lib.BuilderAtF 95 5 B b p (Lib.byteCells l) w.drew := ⟨hB, _, hbk, by rw [Lib.byteCells_length]; exact hown, hne⟩
    have hF := hA.froze (g := g) (cap := cap) (by rw [Lib.byteCells_length]; exact c1)
    rw [Lib.byteCells_length] at hF
    rcases hp with rfl | rfl
    · exact .inl hF
    · exact .inr hF
  go_enter Tryz.func32, Tryz.ntmps32
  go_wp2
  go_region
  all_goals (go_wp2; go_ret; exact ⟨rfl, hkeep, ⟨Lib.below_freeze (Below.drew (Below.refl B w)) (p := ⟨g, 0, none⟩) hbg _, ((Lib.OthersKept.refl _ _ w).drew).freeze ⟨g, 0, none⟩ _ ⟨cur, fz, hg⟩⟩, g, cap, c1, rfl⟩)

theorem putStrL (l : List UInt8) : putSV l = .tuple #[.string ⟨(encS l).toArray⟩, .int .i64 0] := rfl

set_option maxHeartbeats 1000000 in
theorem wtext_any (B b : Nat) (l : List UInt8) (s : ByteArray) (w : World) (h : Scr B b l w) (hs : s.size ≤ 65536) (hlen : l.length ≤ 1000000) (hBw : B ≤ w.heap.size) :
    Calls Tryz.prog 62 #[.pointer (some ⟨b, 0, none⟩), .string s] w fun e w' => e = .returned (.tuple #[]) ∧ (Scr B b (l ++ encS s.data.toList) w' ∧ Kpt B b w w') := by
  have hel : (encS s.data.toList).length ≤ 9 + 65536 := by
    have := enc_len (s.size : Int)
    have h2 : (encS s.data.toList).length = (enc (s.size : Int)).length + s.size := by simp [encS]
    omega
  have HS := Lib.hid h
  clear h
  go_enter Tryz.func62, Tryz.ntmps62
  go_wp2_with fail
  refine (putStr_any s w hs).mono ?_
  rintro e w1 ⟨rfl, hb1⟩
  simp only [putSV]
  go_wp2_with fail
  refine (write_any B b l (encS s.data.toList) w1 (HS.out.below hb1) (by omega) (Nat.le_trans hBw hb1.size)).mono ?_
  rintro e w2 ⟨rfl, h2, hk2⟩
  go_wp2_with fail
  go_end0
  exact ⟨rfl, h2, ((Kpt.of_below hb1).mono hBw).trans hk2⟩

set_option maxHeartbeats 1000000 in
/-- numbers, of one number. -/
theorem numbers_any (B b g : Nat) (l : List UInt8) (n : Int) (w : World) (h : Scr B b l w) (hg : w.heap[g]? = some (.cells #[.int .i64 n] 3 (0, 0))) (h0 : -4611686018427387903 ≤ n) (h1 : n ≤ 4611686018427387903) (hlen : l.length ≤ 1000000) (hBw : B ≤ w.heap.size) :
    Calls Tryz.prog 61 #[.pointer (some ⟨b, 0, none⟩), .slice (some ⟨g, 0, none⟩) 1 1] w fun e w' => e = .returned (.tuple #[]) ∧ (Scr B b (l ++ enc n) w' ∧ Kpt B b w w') := by
  have hel := enc_len n
  have HS := Lib.hid h
  have hcell : w.cell? ⟨g, 0, none⟩ = some (.int .i64 n) := cell_of_one hg
  clear h
  go_enter Tryz.func61, Tryz.ntmps61
  go_wp2_with fail
  refine wp_loop_rounds 2 ?_
  rw [rounds_succ]
  go_wp2_with fail
  refine (putInt_any n w h0 h1).mono ?_
  rintro e w1 ⟨rfl, hb1⟩
  go_wp2_with fail
  refine (write_any B b l (enc n) w1 (HS.out.below hb1) (by omega) (Nat.le_trans hBw hb1.size)).mono ?_
  rintro e w2 ⟨rfl, h2, hk2⟩
  go_wp2_with fail
  rw [rounds_succ]
  go_wp2_with fail
  go_end0
  exact ⟨rfl, h2, ((Kpt.of_below hb1).mono hBw).trans hk2⟩
end Go.Proofs.YtinknenfhohamaaGreatDoor

namespace Go.Proofs.YtinknenfhohamaaGreatDoor
open Go.RowKit Go.Shelf
set_option maxRecDepth 100000

theorem Kpt.at_ {B b k : Nat} {w w' : World} {cs : Array Value} {T : TypeId} (h : Kpt B b w w') (hk : w.heap[k]? = some (.cells cs T (0, 0))) (hb : k ≠ b) (hT : T ≠ 5) : w'.heap[k]? = some (.cells cs T (0, 0)) :=
  h.2 k _ hk (by simpa using hb) (by intro c fz e; injection e with _ e _; exact hT e)

set_option maxHeartbeats 1000000 in
theorem prop1_any (B b gl gc : Nat) (w : World) (h : Scr B b [] w) (hl : w.heap[gl]? = some (.cells #[.string { data := #[65, 98] }, .int .i64 2] 39 (0, 0))) (hgb : gl ≠ b) (hBw : B ≤ w.heap.size) :
    Calls Tryz.prog 60 #[.agg #[.slice (some ⟨gl, 0, none⟩) 1 1, .slice (some ⟨gc, 0, none⟩) 3 3, .int .i64 0, .string { data := #[] }], .pointer (some ⟨b, 0, none⟩)] w fun e w' => e = .returned (.tuple #[]) ∧ (Scr B b [2, 4, 65, 98] w' ∧ Below B w w') := by
  obtain ⟨w1, hw1⟩ : ∃ w1, (w.alloc (.cells #[.slice (some ⟨gl, 0, none⟩) 1 1, .slice (some ⟨gc, 0, none⟩) 3 3, .int .i64 0, .string { data := #[] }] 84)).alloc (.cells #[.int .i64 1] 3) = w1 := ⟨_, rfl⟩
  have hs1 : w1.heap.size = w.heap.size + 1 + 1 := by rw [← hw1, size_alloc, size_alloc]
  have hb1 : Below w.heap.size w w1 := by rw [← hw1]; exact ((Below.refl _ _).alloc (Nat.le_refl _) _).alloc (by rw [size_alloc]; omega) _
  have hx1 : w1.heap[w.heap.size]? = some (.cells #[.slice (some ⟨gl, 0, none⟩) 1 1, .slice (some ⟨gc, 0, none⟩) 3 3, .int .i64 0, .string { data := #[] }] 84 (0, 0)) := by rw [← hw1]; exact allocs_heap [_, _] w 0 _ rfl
  have hn1 : w1.heap[w.heap.size + 1]? = some (.cells #[.int .i64 1] 3 (0, 0)) := by rw [← hw1]; exact allocs_heap [_, _] w 1 _ rfl
  have hlt := h.lt
  have hglt : gl < w.heap.size := (Array.getElem?_eq_some_iff.1 hl).1
  have hl1 : w1.heap[gl]? = some (.cells #[.string { data := #[65, 98] }, .int .i64 2] 39 (0, 0)) := (hb1.block gl hglt).trans hl
  have HX1 := Lib.hid hx1
  have HL1 := Lib.hid hl1
  have HB1 := Lib.hid (hb1.mono hBw)
  have HN := Lib.hid (numbers_any B b (w.heap.size + 1) [] 1 w1 (h.below hb1) hn1 (by decide) (by decide) (by decide) (by omega))
  have b1 : w1.cell? ⟨w.heap.size, 0, none⟩ = some (.slice (some ⟨gl, 0, none⟩) 1 1) := by rw [Lib.cell_of_heap hx1]; rfl
  clear hl hb1 hx1 hl1 h
  go_enter Tryz.func60, Tryz.ntmps60
  go_wp2_with fail
  refine HN.out.mono ?_
  rintro e w2 ⟨rfl, hs2, hk2⟩
  have HS2 := Lib.hid hs2
  have HX2 := Lib.hid (hk2.at_ HX1.out (by omega) (by decide))
  have HL2 := Lib.hid (hk2.at_ HL1.out hgb (by decide))
  have HB2 := Lib.hid (HB1.out.trans hk2.1)
  have c1 : w2.cell? ⟨w.heap.size, 0, none⟩ = some (.slice (some ⟨gl, 0, none⟩) 1 1) := by rw [Lib.cell_of_heap HX2.out]; rfl
  have c2 : w2.cell? ⟨gl, 0, none⟩ = some (.string { data := #[65, 98] }) := by rw [Lib.cell_of_heap HL2.out]; rfl
  have c3 : w2.cell? ⟨gl, 1, none⟩ = some (.int .i64 2) := by rw [Lib.cell_of_heap HL2.out]; rfl
  clear hs2 hk2 b1
  go_wp2_with fail
  refine wp_loop_rounds 2 ?_
  rw [rounds_succ]
  go_wp2_with fail
  obtain ⟨w3, hw3⟩ : ∃ w3, w2.alloc (.cells #[.string { data := #[65, 98] }, .int .i64 2] 39) = w3 := ⟨_, rfl⟩
  rw [hw3]
  have hs3 : Scr B b ([] ++ enc 1) w3 := by rw [← hw3]; exact HS2.out.alloc _
  have HB3 := Lib.hid (show Below B w w3 by rw [← hw3]; exact HB2.out.alloc (by have := HB2.out.size; omega) _)
  refine (wtext_any B b ([] ++ enc 1) ⟨#[65, 98]⟩ w3 hs3 (by decide) (by have := enc_len 1; simp; omega) (by have := HB3.out.size; omega)).mono ?_
  rintro e w4 ⟨rfl, hs4, hk4⟩
  have HS4 := Lib.hid hs4
  have HB4 := Lib.hid (HB3.out.trans hk4.1)
  clear hs4 hk4 hs3
  go_wp2_with fail
  rw [rounds_succ]
  go_wp2_with fail
  go_end0
  refine ⟨rfl, ?_, HB4.out⟩
  have he : ([] ++ enc 1 ++ encS [65, 98] : List UInt8) = [2, 4, 65, 98] := by decide
  have hh := HS4.out
  rw [he] at hh
  exact hh

set_option maxHeartbeats 1000000 in
theorem property_any (gl gc : Nat) (w : World) (hd : DocAt w gl gc) :
    Calls Tryz.prog 11 #[.agg #[.slice (some ⟨gl, 0, none⟩) 1 1, .slice (some ⟨gc, 0, none⟩) 3 3, .int .i64 0, .string { data := #[] }], .int .i64 1] w fun e w' => e = .returned (.tuple #[.string ⟨#[2, 4, 65, 98]⟩, .int .i64 0]) ∧ Below w.heap.size w w' := by
  obtain ⟨w1, hw1⟩ : ∃ w1, w.alloc (.cells #[.slice (some ⟨gl, 0, none⟩) 1 1, .slice (some ⟨gc, 0, none⟩) 3 3, .int .i64 0, .string { data := #[] }] 45) = w1 := ⟨_, rfl⟩
  obtain ⟨bx, hbx⟩ : ∃ bx, w.heap.size = bx := ⟨_, rfl⟩
  have hb1 : Below w.heap.size w w1 := by rw [← hw1]; exact (Below.refl _ _).alloc (Nat.le_refl _) _
  have hd1 : DocAt w1 gl gc := by rw [← hw1]; exact hd.alloc _
  have hx1 : w1.heap[bx]? = some (.cells #[.slice (some ⟨gl, 0, none⟩) 1 1, .slice (some ⟨gc, 0, none⟩) 3 3, .int .i64 0, .string { data := #[] }] 45 (0, 0)) := by rw [← hw1]; exact heap_last' _ _ hbx
  have HB1 := Lib.hid hb1
  have HX1 := Lib.hid hx1
  have HD1 := Lib.hid hd1
  clear hd hb1 hx1 hd1
  go_enter Tryz.func11, Tryz.ntmps11
  go_wp2_with fail
  refine (properties_any w1).mono ?_
  rintro e w2 ⟨m, rfl, hm, hb2⟩
  have HB2 := Lib.hid (HB1.out.trans (hb2.mono HB1.out.size))
  have HX2 := Lib.hid ((hb2.block bx (Array.getElem?_eq_some_iff.1 HX1.out).1).trans HX1.out)
  have HD2 := Lib.hid (HD1.out.below hb2)
  have hlk := lookup_fn w2 m propsA 8 0 1 (.func (.func 60) #[] #[]) hm rfl
  have b0 : w2.cell? ⟨bx, 0, none⟩ = some (.slice (some ⟨gl, 0, none⟩) 1 1) := by rw [Lib.cell_of_heap HX2.out]; rfl
  have b1 : w2.cell? ⟨bx, 1, none⟩ = some (.slice (some ⟨gc, 0, none⟩) 3 3) := by rw [Lib.cell_of_heap HX2.out]; rfl
  have b2 : w2.cell? ⟨bx, 2, none⟩ = some (.int .i64 0) := by rw [Lib.cell_of_heap HX2.out]; rfl
  have b3 : w2.cell? ⟨bx, 3, none⟩ = some (.string { data := #[] }) := by rw [Lib.cell_of_heap HX2.out]; rfl
  clear hm hb2
  go_wp2_with fail
  refine (validDoc_any gl gc w2 HD2.out).mono ?_
  rintro e w3 ⟨rfl, hb3⟩
  have HB3 := Lib.hid (HB2.out.trans (hb3.mono HB2.out.size))
  have HX3 := Lib.hid ((hb3.block bx (Array.getElem?_eq_some_iff.1 HX2.out).1).trans HX2.out)
  have HD3 := Lib.hid (HD2.out.below hb3)
  clear b0 b1 b2 b3 hb3 hlk
  obtain ⟨b, hb⟩ : ∃ b, w3.heap.size = b := ⟨_, rfl⟩
  obtain ⟨w4, hw4⟩ : ∃ w4, w3.alloc (.cells #[.pointer none, .slice none 0 0] 95) = w4 := ⟨_, rfl⟩
  have HB4 := Lib.hid (show Below w.heap.size w w4 by rw [← hw4]; exact HB3.out.alloc HB3.out.size _)
  have hs4 : w4.heap.size = b + 1 := by rw [← hw4, size_alloc, hb]
  have hB4 : Below w3.heap.size w3 w4 := by rw [← hw4]; exact (Below.refl _ _).alloc (Nat.le_refl _) _
  have HX4 := Lib.hid ((hB4.block bx (Array.getElem?_eq_some_iff.1 HX3.out).1).trans HX3.out)
  have HD4 := Lib.hid (HD3.out.below hB4)
  have HS4 := Lib.hid (show Scr b b [] w4 by rw [← hw4, ← hb]; exact Lib.IsBuilderF.of (Lib.fresh_isBuilder _ _ _))
  have b0 : w4.cell? ⟨bx, 0, none⟩ = some (.slice (some ⟨gl, 0, none⟩) 1 1) := by rw [Lib.cell_of_heap HX4.out]; rfl
  have b1 : w4.cell? ⟨bx, 1, none⟩ = some (.slice (some ⟨gc, 0, none⟩) 3 3) := by rw [Lib.cell_of_heap HX4.out]; rfl
  have b2 : w4.cell? ⟨bx, 2, none⟩ = some (.int .i64 0) := by rw [Lib.cell_of_heap HX4.out]; rfl
  have b3 : w4.cell? ⟨bx, 3, none⟩ = some (.string { data := #[] }) := by rw [Lib.cell_of_heap HX4.out]; rfl
  have HG := Lib.hid (show gl ≠ b by have := (Array.getElem?_eq_some_iff.1 HD3.out.l).1; omega)
  clear hB4
  go_wp2_with fail
  refine (prop1_any b b gl gc w4 HS4.out HD4.out.l HG.out (by omega)).mono ?_
  rintro e w5 ⟨rfl, hs5, hb5⟩
  have HS5 := Lib.hid hs5
  have HB5 := Lib.hid (HB4.out.trans (hb5.mono (by have := HB3.out.size; omega)))
  clear hs5 hb5 b0 b1 b2 b3
  go_wp2_with fail
  refine (str_k b b [2, 4, 65, 98] w5 HS5.out (by simp)).mono ?_
  rintro e w6 ⟨rfl, _, hk6, _⟩
  have HB6 := Lib.hid (HB5.out.trans (hk6.1.mono (by have := HB3.out.size; omega)))
  clear hk6
  go_wp2_with fail
  go_ret2
  exact ⟨rfl, HB6.out⟩
end Go.Proofs.YtinknenfhohamaaGreatDoor
