/- How a slice of stamps, and a slice of breaks, read as arguments. EvidenceMatchesReference: all functions agree with the reference implementation. -/
import Derived.Test.YtkihcigojhcmgaaDoorG18
import Derived.Test.YtkihcigojhcmgaaDoorG20
import Derived.Test.YtkihcigojhcmgaaDoorG19
import Derived.Deep.CutBlock
namespace Go.Proofs.YtkihcigojhcmgaaDoor
set_option maxRecDepth 100000
open Go.ChangeShapes Go.WideShapes Go.ChangeAt Go.RowKit

theorem four {α : Type} {l : List α} (h : l.length = 4) : ∃ a b c d, l = [a, b, c, d] := by
  match l, h with
  | [a, b, c, d], _ => exact ⟨a, b, c, d, rfl⟩
theorem trod_break {H : Type} {enc : TypeId × Value → H} {w : World} {base fuel : Nat} {sp : Nat → Bool} {held : Bool} {cs : List Value} {x : DataW H × List MemPlace} (h : DataW.trod enc Tryd.prog w base sp held fuel 48 cs = some x) :
    ∃ b : Brk, cs = [.int .i64 b.hash, .int .i64 b.wit, .int .i64 b.frm, .int .i64 b.known] := by
  obtain ⟨xs, n, -, -, hl, hx, hf⟩ := DataW.trod_struct Tryd.underlying48 h
  have hc : Tryd.prog.cellsOf 3 = 1 := by kernel_rfl
  obtain ⟨c0, c1, c2, c3, rfl⟩ := four (hl.trans (by kernel_rfl))
  obtain ⟨x0, x1, x2, x3, rfl⟩ := four (hx.trans (by rfl))
  have k0 := hf 0 _ rfl
  have k1 := hf 1 _ rfl
  have k2 := hf 2 _ rfl
  have k3 := hf 3 _ rfl
  obtain ⟨n0, e0, -, -⟩ := DataW.trod_int Tryd.underlying3 k0
  obtain ⟨n1, e1, -, -⟩ := DataW.trod_int Tryd.underlying3 k1
  obtain ⟨n2, e2, -, -⟩ := DataW.trod_int Tryd.underlying3 k2
  obtain ⟨n3, e3, -, -⟩ := DataW.trod_int Tryd.underlying3 k3
  simp [hc] at e0 e1 e2 e3
  exact ⟨⟨n0, n1, n2, n3⟩, by rw [e0, e1, e2, e3]⟩
theorem trod_stamp {H : Type} {enc : TypeId × Value → H} {w : World} {base fuel : Nat} {sp : Nat → Bool} {held : Bool} {cs : List Value} {x : DataW H × List MemPlace} (h : DataW.trod enc Tryd.prog w base sp held fuel 28 cs = some x) :
    ∃ s : Stp, cs = [.int .i64 s.day, .int .i64 s.hash, .int .i64 s.wit, .string ⟨s.val.toArray⟩] ∧ s.val.length ≤ maxLen := by
  obtain ⟨xs, n, -, -, hl, hx, hf⟩ := DataW.trod_struct Tryd.underlying28 h
  have hc : Tryd.prog.cellsOf 3 = 1 := by kernel_rfl
  have hc9 : Tryd.prog.cellsOf 9 = 1 := by kernel_rfl
  obtain ⟨c0, c1, c2, c3, rfl⟩ := four (hl.trans (by kernel_rfl))
  obtain ⟨x0, x1, x2, x3, rfl⟩ := four (hx.trans (by rfl))
  have k0 := hf 0 _ rfl
  have k1 := hf 1 _ rfl
  have k2 := hf 2 _ rfl
  have k3 := hf 3 _ rfl
  obtain ⟨n0, e0, -, -⟩ := DataW.trod_int Tryd.underlying3 k0
  obtain ⟨n1, e1, -, -⟩ := DataW.trod_int Tryd.underlying3 k1
  obtain ⟨n2, e2, -, -⟩ := DataW.trod_int Tryd.underlying3 k2
  obtain ⟨s3, e3, -, hs⟩ := DataW.trod_string Tryd.underlying9 k3
  simp [hc] at e0 e1 e2
  simp [hc9] at e3
  refine ⟨⟨n0, n1, n2, s3.data.toList⟩, ?_, by simpa using hs⟩
  rw [e0, e1, e2, e3]
/-- Four cells in a row, for each element of a slice. -/
theorem open_four {H : Type} {enc : TypeId × Value → H} {P : Program} {w : World} {base fuel : Nat} {sp : Nat → Bool} {held : Bool} {t e : TypeId} {cs : List Value} {x : DataW H × List MemPlace} {α : Type} {f : α → List Value} {q : α → Prop} (ht : P.underlying t = some (.slice e)) (hc : P.cellsOf e = 4)
    (he : ∀ n cs x, DataW.trod enc P w base sp held n e cs = some x → ∃ b : α, cs = f b ∧ q b)
    (h : DataW.trod enc P w base sp held fuel t cs = some x) : cs = [.slice none 0 0] ∨ ∃ (a : Addr) (len cap : Nat), cs = [.slice (some a) len cap] ∧ len ≤ cap ∧ cap ≤ maxLen ∧
      ∀ j, j < len → ∃ b : α, q b ∧ ∀ i, i < 4 → w.cell? ((a.add (j * 4)).add i) = (f b)[i]? := by
  rcases DataW.trod_slice ht h with h0 | ⟨a, len, cap, elems, rest, m, -, rfl, -, -, hl, hm, hlen, hel, -, -⟩
  · exact .inl h0.1
  refine .inr ⟨a, len, cap, rfl, hl, hm, ?_⟩
  intro j hj
  have h1 := hel j hj
  rw [List.getElem?_eq_getElem (by omega), Option.bind_eq_some_iff] at h1
  obtain ⟨ds, h2, h3⟩ := h1
  rw [hc] at h2
  obtain ⟨b, rfl, hq⟩ := he _ _ _ h3
  exact ⟨b, hq, fun i hi => (cells?_get h2).2 i hi⟩
/-- A slice of breaks as an argument. -/
theorem arg_breaks {H : Type} {enc : TypeId × Value → H} {W : World} {base : Nat} {sp : Nat → Bool} {held : Bool} {pa : Option Addr} {la ca : Nat} {d : DataW H} {p : List MemPlace} (h : DataW.Trod enc Tryd.prog W base sp held 23 (.slice pa la ca) d p) :
    ∃ Y : List Brk, Y.length = la ∧ BrS W pa Y ∧ la ≤ ca ∧ ca ≤ maxLen ∧ (pa = none → ca = 0) := by
  obtain ⟨f, g⟩ := h
  rcases open_four (α := Brk) (f := fun b => [.int .i64 b.hash, .int .i64 b.wit, .int .i64 b.frm, .int .i64 b.known]) (q := fun _ => True) Tryd.underlying23 (by kernel_rfl) (fun n cs x hx => by obtain ⟨b, hb⟩ := trod_break hx; exact ⟨b, hb, trivial⟩) g with h0 | ⟨a, len, cap, h0, h1, h2, h3⟩
  · have h0' : Value.slice pa la ca = .slice none 0 0 := by simpa [Value.cells] using h0
    cases h0'
    exact ⟨[], rfl, BrS.nil _ _, Nat.le_refl _, Nat.zero_le _, fun _ => rfl⟩
  · have h0' : Value.slice pa la ca = .slice (some a) len cap := by simpa [Value.cells] using h0
    cases h0'
    obtain ⟨Y, k1, k2⟩ := choose_rows (fun j hj => h3 j hj)
    refine ⟨Y, k1, ?_, h1, h2, fun h => by cases h⟩
    intro i b hi
    obtain ⟨-, k3⟩ := k2 i b hi
    obtain ⟨b0, hb0⟩ : ∃ b0, Y[0]? = some b0 := ⟨_, List.getElem?_eq_getElem (by have := (List.getElem?_eq_some_iff.1 hi).1; omega)⟩
    obtain ⟨-, k5⟩ := k2 0 b0 hb0
    have k4 := k5 0 (by omega)
    rw [show (a.add (0 * 4)).add 0 = a by simp [Addr.add]] at k4
    obtain ⟨bl, o, s⟩ := a
    have hsp : s = none := by simpa using World.cell?_spot (k4.trans rfl)
    subst hsp
    simp only [Go.WideShapes.add_plain] at k3
    exact ⟨bl, o, rfl, World.block_lt_of_cell? _ ⟨bl, o + i * 4 + 0, none⟩ (k3 0 (by omega)), k3 0 (by omega), k3 1 (by omega), k3 2 (by omega), k3 3 (by omega)⟩
/-- A slice of stamps as an argument. -/
theorem arg_stamps {H : Type} {enc : TypeId × Value → H} {W : World} {base : Nat} {sp : Nat → Bool} {held : Bool} {pa : Option Addr} {la ca : Nat} {d : DataW H} {p : List MemPlace} (h : DataW.Trod enc Tryd.prog W base sp held 22 (.slice pa la ca) d p) :
    ∃ Y : List Stp, Y.length = la ∧ StS W pa Y ∧ la ≤ maxLen ∧ ∀ s ∈ Y, s.val.length ≤ maxLen := by
  obtain ⟨f, g⟩ := h
  rcases open_four (α := Stp) (f := fun s => [.int .i64 s.day, .int .i64 s.hash, .int .i64 s.wit, .string ⟨s.val.toArray⟩]) (q := fun s => s.val.length ≤ maxLen) Tryd.underlying22 (by kernel_rfl) (fun n cs x hx => trod_stamp hx) g with h0 | ⟨a, len, cap, h0, h1, h2, h3⟩
  · have h0' : Value.slice pa la ca = .slice none 0 0 := by simpa [Value.cells] using h0
    cases h0'
    exact ⟨[], rfl, StS.nil _ _, Nat.zero_le _, by simp⟩
  · have h0' : Value.slice pa la ca = .slice (some a) len cap := by simpa [Value.cells] using h0
    cases h0'
    obtain ⟨Y, k1, k2⟩ := choose_rows (fun j hj => h3 j hj)
    refine ⟨Y, k1, ?_, Nat.le_trans h1 h2, ?_⟩
    · intro i b hi
      obtain ⟨-, k3⟩ := k2 i b hi
      obtain ⟨b0, hb0⟩ : ∃ b0, Y[0]? = some b0 := ⟨_, List.getElem?_eq_getElem (by have := (List.getElem?_eq_some_iff.1 hi).1; omega)⟩
      obtain ⟨-, k5⟩ := k2 0 b0 hb0
      have k4 := k5 0 (by omega)
      rw [show (a.add (0 * 4)).add 0 = a by simp [Addr.add]] at k4
      obtain ⟨bl, o, s⟩ := a
      have hsp : s = none := by simpa using World.cell?_spot (k4.trans rfl)
      subst hsp
      simp only [Go.WideShapes.add_plain] at k3
      exact ⟨bl, o, rfl, World.block_lt_of_cell? _ ⟨bl, o + i * 4 + 0, none⟩ (k3 0 (by omega)), k3 0 (by omega), k3 1 (by omega), k3 2 (by omega), k3 3 (by omega)⟩
    · intro s hs
      obtain ⟨i, hi⟩ := List.getElem?_of_mem hs
      exact (k2 i s hi).1
end Go.Proofs.YtkihcigojhcmgaaDoor

namespace Go.Proofs.YtkihcigojhcmgaaDoor
open Go.RowKit
set_option maxRecDepth 100000

theorem BrS.take {W : World} {a : Option Addr} {L : List Brk} (h : BrS W a L) (j : Nat) : BrS W a (L.take j) := by
  intro i s hi
  refine h i s ?_
  rw [List.getElem?_take] at hi
  split at hi
  · exact hi
  · cases hi
/-- The stamp whose value is cut to forty bytes. -/
def cutS (s : Stp) : Stp := { s with val := s.val.take 40 }
theorem cut40 (s : Stp) : ∃ (k : Nat) (tb : ByteArray), (⟨s.val.toArray⟩ : ByteArray) = tb ∧ min (tb.size : Int) 40 = (k : Int) ∧ k ≤ tb.size ∧ tb.extract 0 k = ⟨(cutS s).val.toArray⟩ ∧ tb.size = s.val.length := by
  have hsz : (⟨s.val.toArray⟩ : ByteArray).size = s.val.length := str_size _
  refine ⟨min s.val.length 40, ⟨s.val.toArray⟩, rfl, by rw [hsz]; omega, by rw [hsz]; omega, ?_, hsz⟩
  rw [← bytes_eq ((⟨s.val.toArray⟩ : ByteArray).extract 0 (min s.val.length 40)), Lib.extract_data]
  simp only [cutS]
  congr 2
  simp
  omega
theorem cutS_len (s : Stp) : (cutS s).val.length ≤ 1000 := by
  show (s.val.take 40).length ≤ 1000
  rw [List.length_take]; omega
/-- What Start and Renew give, in one form. -/
def errOf (r : Option (List Stp)) : Int := match r with | none => 150 | some _ => 0
theorem Gave.open {w w' : World} {r : Option (List Stp)} {e : Ending} (h : Gave w r e w') : ∃ a c, e = .returned (.tuple #[.slice a (r.getD []).length c, .int .i64 (errOf r)]) ∧ StS w' a (r.getD []) ∧ Below w.heap.size w w' := by
  cases r with
  | none => exact ⟨none, 0, h.2, StS.nil _ _, h.1⟩
  | some M =>
    obtain ⟨g, c, h3, h4⟩ := h.2
    exact ⟨_, c, h3, h4.sts, h.1⟩
theorem next_len (L : List Stp) (v : List UInt8) (s : Stp) : ((next L v s).getD []).length ≤ L.length + 1 := by
  unfold next
  split
  · simp
  · simp
theorem renew_len (L : List Stp) (v : List UInt8) (s : Stp) : ((renew L v s).getD []).length ≤ L.length + 1 := by
  unfold renew
  split
  · exact next_len L v s
  · simp
/-- One of two rows of stamps. -/
def Rows2 (W : World) (g : Nat) : Prop := ∀ j, j < 2 → ∃ a c L, W.cell? ⟨g, j, none⟩ = some (.slice a L.length c) ∧ StS W a L ∧ L.length ≤ 8 ∧ L.length ≤ c ∧ ∀ s ∈ L, s.val.length ≤ 1000
def Breaks2 (W : World) (g : Nat) : Prop := ∀ j, j < 2 → ∃ a c bs, W.cell? ⟨g, j, none⟩ = some (.slice a bs.length c) ∧ BrS W a bs ∧ bs.length ≤ 8
def Days2 (W : World) (g : Nat) : Prop := ∀ j, j < 2 → ∃ d, W.cell? ⟨g, j, none⟩ = some (.int .i64 d) ∧ I64 d
theorem Rows2.below {W W' : World} {g : Nat} (h : Rows2 W g) (hg : g < W.heap.size) (hb : Below W.heap.size W W') : Rows2 W' g := by
  intro j hj
  obtain ⟨a, c, L, h1, h2, h3⟩ := h j hj
  exact ⟨a, c, L, (hb.cell (p := ⟨g, j, none⟩) hg).trans h1, h2.below hb, h3⟩
theorem Breaks2.below {W W' : World} {g : Nat} (h : Breaks2 W g) (hg : g < W.heap.size) (hb : Below W.heap.size W W') : Breaks2 W' g := by
  intro j hj
  obtain ⟨a, c, L, h1, h2, h3⟩ := h j hj
  exact ⟨a, c, L, (hb.cell (p := ⟨g, j, none⟩) hg).trans h1, h2.below hb, h3⟩
theorem Days2.below {W W' : World} {g : Nat} (h : Days2 W g) (hg : g < W.heap.size) (hb : Below W.heap.size W W') : Days2 W' g := by
  intro j hj
  obtain ⟨d, h1, h2⟩ := h j hj
  exact ⟨d, (hb.cell (p := ⟨g, j, none⟩) hg).trans h1, h2⟩

set_option maxHeartbeats 4000000 in
theorem evMatch_any (ar : Option Addr) (cr : Nat) (R : List Stp) (t : ByteArray) (ab : Option Addr) (cb : Nat) (Bs : List Brk) (ax : Option Addr) (cx : Nat) (X : List Tri) (ay : Option Addr) (cy : Nat) (Y : List Qud) (day hash wit : Int) (w : World)
    (hR : StS w ar R) (hrl : R.length ≤ 9223372036854775807) (hrv : ∀ s ∈ R, s.val.length ≤ 9223372036854775807) (hB : BrS w ab Bs) (hbc : Bs.length ≤ cb) (hbm : cb ≤ 9223372036854775807) (hbn : ab = none → cb = 0)
    (hX : TrS w ax X) (hk : TriOk X) (hxl : X.length ≤ 9223372036854775807) (hY : QdS w ay Y) (hky : QudOk Y) (hyl : Y.length ≤ 9223372036854775807) (hda : I64 day) (hha : I64 hash) (_ht : t.size ≤ 9223372036854775807)
    (hw : RoundAt w) (hg : 0 < w.heap.size) :
    Calls Tryd.prog 3 #[.slice ar R.length cr, .string t, .slice ab Bs.length cb, .slice ax X.length cx, .slice ay Y.length cy, .int .i64 day, .int .i64 hash, .int .i64 wit] w fun e w' => e = .returned (.bool true) ∧ Below w.heap.size w w' := by
  have HRA : Hid (∀ W, Below w.heap.size w W → RoundAt W ∧ 0 < W.heap.size) := Lib.hid (fun W hb => ⟨hw.below hg hb, Nat.lt_of_lt_of_le hg hb.size⟩)
  obtain ⟨k, V, hmin, hkt, hext, hV, -⟩ := cut60 t
  have hmm : ∀ wx, (Builtin.min_ #[3, 3] 3 #[.int .i64 (t.size : Int), .int .i64 60]).run Tryd.prog wx = .ok (.int .i64 (k : Int)) wx := fun wx => by rw [run_min2, hmin]
  have HX := Lib.hid hX
  have HK := Lib.hid hk
  have HY := Lib.hid hY
  have HKY := Lib.hid hky
  have HR := Lib.hid hR
  have HRV := Lib.hid hrv
  have HDA := Lib.hid hda
  have HHA := Lib.hid hha
  obtain ⟨m, hm⟩ : ∃ m, X.length = m := ⟨_, rfl⟩
  obtain ⟨my, hmy⟩ : ∃ my, Y.length = my := ⟨_, rfl⟩
  obtain ⟨mr, hmr⟩ : ∃ mr, R.length = mr := ⟨_, rfl⟩
  obtain ⟨mb, hmb⟩ : ∃ mb, Bs.length = mb := ⟨_, rfl⟩
  rw [hm] at hxl ⊢
  rw [hmy] at hyl ⊢
  rw [hmr] at hrl ⊢
  rw [hmb] at hbc ⊢
  have HM := Lib.hid hm
  have HMY := Lib.hid hmy
  have HMR := Lib.hid hmr
  obtain ⟨l, hl⟩ : ∃ l, min mb 8 = l := ⟨_, rfl⟩
  have hl8 : l ≤ 8 := by omega
  have hlb : l ≤ mb := by omega
  have HBS := Lib.hid (hB.take l)
  have HBL := Lib.hid (show (Bs.take l).length = l by rw [List.length_take]; omega)
  have hmm3 : ∀ wx, (Builtin.min_ #[3, 3] 3 #[.int .i64 (mb : Int), .int .i64 8]).run Tryd.prog wx = .ok (.int .i64 (l : Int)) wx := fun wx => by rw [run_min2, show min (mb : Int) 8 = (l : Int) by omega]
  generalize Bs.take l = bs at *
  have k0 : (0 : Int) ≤ (k : Int) := by omega
  have k1 : (k : Int) ≤ (t.size : Int) := by omega
  have l0 : (0 : Int) ≤ (l : Int) := by omega
  have l1 : (l : Int) ≤ (cb : Int) := by omega
  have l2 : ¬ ((cb : Int) < (l : Int)) := by omega
  have HSA := Lib.hid (sane_any w (HRA.out w (Below.refl _ _)).1 (HRA.out w (Below.refl _ _)).2)
  clear hmin hm hmy hmr hmb hX hk hY hky hR hrv hda hha hB hw hg hl
  go_enter Tryd.func3, Tryd.ntmps3
  go_wp2_with fail
  refine HSA.out.mono ?_
  rintro e w1 ⟨rfl, hb1⟩
  have HB1 := Lib.hid hb1
  have hsz1 := hb1.size
  have hnot : ¬ ((t.size : Int) < (k : Int)) := by omega
  clear hb1 HSA
  go_upto_region 3 with fail
  go_cut [2] (fun v wx => v = .slice ab l cb ∧ wx = w1)
  case first =>
    cases ab with
    | none =>
      obtain rfl : cb = 0 := hbn rfl
      obtain rfl : mb = 0 := by omega
      obtain rfl : l = 0 := by omega
      go_wp2_with fail
      go_meet
      exact ⟨rfl, rfl⟩
    | some a =>
      obtain ⟨q1, q2, q3⟩ := a
      clear hbn
      go_wp2_with fail
      go_meet
      exact ⟨rfl, rfl⟩
  case rest =>
  obtain ⟨rfl, rfl⟩ := hcut
  obtain ⟨w1, hw1⟩ : ∃ w1, wc = w1 := ⟨_, rfl⟩
  rw [hw1] at HB1 hsz1 ⊢
  clear hw1
  have HBS1 := Lib.hid (HBS.out.below HB1.out)
  have HR1 := Lib.hid (HR.out.below HB1.out)
  clear hmm3 hbn
  go_upto_block 0 with fail
  go_cut [18] (fun v wx => ∃ a c L, v = .slice a L.length c ∧ L.length ≤ 6 ∧ L.length ≤ c ∧ StS wx a L ∧ (∀ s ∈ L, s.val.length ≤ 1000) ∧ Below w1.heap.size w1 wx)
  case first =>
    go_wp2_with fail
    go_loopw [18, 19] (fun v i wx => ∃ n : Nat, n ≤ mr ∧ n ≤ 6 ∧ i = .int .i64 n ∧ SRow wx w1.heap.size v ((R.take n).map cutS) ∧ Below w1.heap.size w1 wx) (fun _ i _ => 6 - (intOf i).toNat)
    case atStart => exact ⟨0, by omega, by omega, rfl, SRow.nil _ _, Below.refl _ _⟩
    case round =>
      obtain ⟨n, hn, hn6, rfl, hrow, hb⟩ := hrel
      have hn0 : (0 : Int) ≤ (n : Int) := by omega
      have hsz := hb.size
      by_cases hlt : n < mr ∧ n < 6
      · obtain ⟨hlt, hlt6⟩ := hlt
        obtain ⟨s, hs⟩ : ∃ s, R[n]? = some s := ⟨_, List.getElem?_eq_getElem (by rw [HMR.out]; exact hlt)⟩
        obtain ⟨xb, xo, rfl, hxb, x0, x1, x2, x3⟩ := (HR1.out.below hb) n s hs
        have hsv := HRV.out s (List.mem_of_getElem? hs)
        obtain ⟨q, tb, htb, hq1, hq2, hq3, hq4⟩ := cut40 s
        rw [htb] at x3
        have hmm4 : ∀ wx, (Builtin.min_ #[3, 3] 3 #[.int .i64 (tb.size : Int), .int .i64 40]).run Tryd.prog wx = .ok (.int .i64 (q : Int)) wx := fun wx => by rw [run_min2, hq1]
        have HQ3 := Lib.hid hq3
        have q0 : (0 : Int) ≤ (q : Int) := by omega
        have q1 : (q : Int) ≤ (tb.size : Int) := by omega
        have q2 : ¬ ((tb.size : Int) < (q : Int)) := by omega
        have q4 : tb.size ≤ 9223372036854775807 := by omega
        have HTK := Lib.hid (show (R.take (n + 1)).map cutS = (R.take n).map cutS ++ [cutS s] by rw [take_more hs, List.map_append]; rfl)
        have HLN := Lib.hid (show ((R.take n).map cutS).length = n by rw [List.length_map, List.length_take, HMR.out]; omega)
        have n1 : (n : Int) < (mr : Int) := by omega
        have n2 : (n : Int) < 6 := by omega
        have e1 : decide ((n : Int) < (mr : Int)) = true := by rw [decide_eq_true_iff]; omega
        have e2 : decide (n < mr) = true := by rw [decide_eq_true_iff]; omega
        have e3 : decide ((n : Int) < 6) = true := by rw [decide_eq_true_iff]; omega
        have HRW := Lib.hid hrow
        have HBB := Lib.hid hb
        generalize (R.take n).map cutS = L at *
        clear hs hrow hb htb hq1 hq3 hq4
        go_upto_region 9 with fail
        obtain ⟨P, hP⟩ : ∃ P, wr.heap.size = P := ⟨_, rfl⟩
        obtain ⟨wa, hwa⟩ : ∃ wa, wr.alloc (.cells #[.int .i64 s.day, .int .i64 s.hash, .int .i64 s.wit, .string tb] 28) = wa := ⟨_, rfl⟩
        have hba : wa.heap[P]? = some (.cells #[.int .i64 s.day, .int .i64 s.hash, .int .i64 s.wit, .string tb] 28 (0, 0)) := by rw [← hwa]; exact heap_last' _ _ hP
        have HRWa : Hid (SRow wa w1.heap.size u18 L) := Lib.hid (by rw [← hwa]; exact HRW.out.alloc _)
        have HBA : Hid (Below w1.heap.size w1 wa) := Lib.hid (by rw [← hwa]; exact HBB.out.alloc hsz _)
        have z3 : wa.cell? ⟨P, 3, none⟩ = some (.string tb) := by rw [Lib.cell_of_heap hba]; rfl
        have zf : wa.frozen? ⟨P, 3, none⟩ = false := by simp [World.frozen?, hba]
        have HBAK := Lib.hid hba
        have HOWN := Lib.hid (fun g (h : u18.ownBlock = some g) => (World.ownsRow.lt HRW.out g h).2)
        rw [hP] at hsz HOWN
        rw [hwa, hP]
        clear hwa hba x0 x1 x2 x3
        go_upto_region 10 with fail
        rw [HQ3.out]
        have hbk9 := Go.heap_setCell_same wa P 3 _ _ (.string ⟨(cutS s).val.toArray⟩) HBAK.out
        have HBK9 : Hid ((wa.setCell ⟨P, 3, none⟩ (.string ⟨(cutS s).val.toArray⟩)).heap[P]? = some (.cells #[.int .i64 (cutS s).day, .int .i64 (cutS s).hash, .int .i64 (cutS s).wit, .string ⟨(cutS s).val.toArray⟩] 28 (0, 0))) := Lib.hid hbk9
        have HB9 := Lib.hid (HBA.out.setCell (p := ⟨P, 3, none⟩) hsz (.string ⟨(cutS s).val.toArray⟩))
        have HRW9 : Hid (SRow (wa.setCell ⟨P, 3, none⟩ (.string ⟨(cutS s).val.toArray⟩)) w1.heap.size u18 L) := Lib.hid (HRWa.out.heap_of fun g hg => Go.heap_setCell_other wa ⟨P, 3, none⟩ g _ (by have := HOWN.out g hg; show g ≠ P; omega))
        generalize wa.setCell ⟨P, 3, none⟩ (.string ⟨(cutS s).val.toArray⟩) = w9 at *
        have hb9 := HBK9.out
        have v0 : w9.cell? ⟨P, 0, none⟩ = some (.int .i64 (cutS s).day) := by rw [Lib.cell_of_heap hb9]; rfl
        have v1 : w9.cell? ⟨P, 1, none⟩ = some (.int .i64 (cutS s).hash) := by rw [Lib.cell_of_heap hb9]; rfl
        have v2 : w9.cell? ⟨P, 2, none⟩ = some (.int .i64 (cutS s).wit) := by rw [Lib.cell_of_heap hb9]; rfl
        have v3 : w9.cell? ⟨P, 3, none⟩ = some (.string ⟨(cutS s).val.toArray⟩) := by rw [Lib.cell_of_heap hb9]; rfl
        have hs9 := HB9.out.size
        have hl8 : L.length ≤ 1000 := by rw [HLN.out]; omega
        clear hbk9 hb9 z3 zf hmm4
        go_wp2_with (at_builtin; refine append_stamps rfl _ _ rfl (by rfl) (base := w1.heap.size) (L := L) (X := [cutS s]) (M := L ++ [cutS s]) (HRW9.out.alloc _) (by first | omega | (simp; done) | (simp; omega)) hl8 (by rfl) (sts_block (heap_last' _ _ (by first | rfl | simp))) (by rfl) (by omega) (by omega) (by rfl) ?_; intro g' c' w5 hrow5 hb5 _ _)
        go_roundw
        case rel => exact ⟨n + 1, by omega, by omega, by push_cast; rfl, by rw [HTK.out]; rw [List.length_append] at hrow5; exact hrow5, (HB9.out.alloc hs9 _).trans hb5⟩
        case measure => simp [intOf]; omega
      · have hend : ∃ a c L, u18 = .slice a L.length c ∧ L.length ≤ 6 ∧ L.length ≤ c ∧ StS wr a L ∧ (∀ s ∈ L, s.val.length ≤ 1000) ∧ Below w1.heap.size w1 wr := by
          obtain ⟨a, c, h1, h2, h3, -⟩ := hrow.isSlice
          refine ⟨a, c, _, h1, by rw [List.length_map, List.length_take]; omega, h2, h3, ?_, hb⟩
          intro s hs
          obtain ⟨x, -, rfl⟩ := List.mem_map.1 hs
          exact cutS_len x
        have HEND := Lib.hid hend
        have hcond : (decide ((n : Int) < (mr : Int)) = false ∧ decide (n < mr) = false ∧ ¬ ((n : Int) < (mr : Int))) ∨ ((n : Int) < (mr : Int) ∧ decide (n < mr) = true ∧ decide ((n : Int) < 6) = false) := by
          by_cases h : n < mr
          · right
            exact ⟨by omega, by rw [decide_eq_true_iff]; exact h, by rw [decide_eq_false_iff_not]; omega⟩
          · left
            exact ⟨by rw [decide_eq_false_iff_not]; omega, by rw [decide_eq_false_iff_not]; exact h, by omega⟩
        clear hlt hrow hb hend
        rcases hcond with ⟨e1, e2, e3⟩ | ⟨e1, e2, e3⟩
        all_goals
          go_wp2_with fail
          go_meet
          exact HEND.out
  case rest =>
  obtain ⟨a2, c2, L, rfl, hL6, hLc, hSL, hLv, hb2⟩ := hcut
  obtain ⟨w2, hw2⟩ : ∃ w2, wc = w2 := ⟨_, rfl⟩
  rw [hw2] at hSL hb2 ⊢
  clear hw2
  have HB2 := Lib.hid (HB1.out.trans (hb2.mono hsz1))
  have HSL := Lib.hid hSL
  have HLV := Lib.hid hLv
  have HBS2 := Lib.hid (HBS1.out.below hb2)
  have HST := Lib.hid (stamps_any V ax cx X w2 (HX.out.below HB2.out) HK.out (by omega) (by rw [HM.out]; exact hxl))
  rw [HM.out] at HST
  obtain ⟨n2, hn2⟩ : ∃ n2, L.length = n2 := ⟨_, rfl⟩
  have HN2 := Lib.hid hn2
  rw [hn2] at hL6 hLc ⊢
  clear hSL hb2 hLv hn2
  go_wp2_with fail
  refine HST.out.mono ?_
  rintro e w3 ⟨xs, rfl, hrow3, hb3⟩
  obtain ⟨hl8', hck, -⟩ := stampsOf_facts V X
  generalize stampsOf V X = L3 at *
  obtain ⟨a3, c3, h3, hc3, hS3, -⟩ := hrow3.isSlice
  subst h3
  have HB3 := Lib.hid (HB2.out.trans (hb3.mono HB2.out.size))
  have HSL3 := Lib.hid (HSL.out.below hb3)
  have HS3 := Lib.hid hS3
  have HBS3 := Lib.hid (HBS2.out.below hb3)
  have HV3 : Hid (∀ s ∈ L3, s.val.length ≤ 1000) := Lib.hid (fun s hs => by
    have := ((okS_iff s).1 (chk_ok ((check_iff _ _).1 (hck (List.length_pos_of_mem hs))).2 s hs)).2
    omega)
  obtain ⟨n3, hn3⟩ : ∃ n3, L3.length = n3 := ⟨_, rfl⟩
  have HN3 := Lib.hid hn3
  rw [hn3] at hl8' hc3 ⊢
  clear hrow3 hb3 hS3 hck hn3 HST
  go_upto_region 12 with fail
  obtain ⟨gA, hgA⟩ : ∃ gA, w3.heap.size = gA := ⟨_, rfl⟩
  obtain ⟨wA, hwA⟩ : ∃ wA, w3.alloc (.cells #[.slice a2 n2 c2, .slice a3 n3 c3] 22) = wA := ⟨_, rfl⟩
  have hbA : wA.heap[gA]? = some (.cells #[.slice a2 n2 c2, .slice a3 n3 c3] 22 (0, 0)) := by rw [← hwA]; exact heap_last' _ _ hgA
  have hB3A : Below w3.heap.size w3 wA := by rw [← hwA]; exact (Below.refl _ _).alloc (Nat.le_refl _) _
  have HBA := Lib.hid (HB3.out.trans (hB3A.mono HB3.out.size))
  have HR2 : Hid (Rows2 wA gA) := Lib.hid (by
    intro j hj
    match j, hj with
    | 0, _ => exact ⟨a2, c2, L, by rw [Lib.cell_of_heap hbA, HN2.out]; rfl, HSL3.out.below hB3A, by rw [HN2.out]; omega, by rw [HN2.out]; exact hLc, HLV.out⟩
    | 1, _ => exact ⟨a3, c3, L3, by rw [Lib.cell_of_heap hbA, HN3.out]; rfl, HS3.out.below hB3A, by rw [HN3.out]; exact hl8', by rw [HN3.out]; exact hc3, HV3.out⟩)
  have hgA2 : gA < wA.heap.size := (Array.getElem?_eq_some_iff.1 hbA).1
  have HBSA := Lib.hid (HBS3.out.below hB3A)
  have hszA := HBA.out.size
  have HWA := Lib.hid hwA
  have HGA := Lib.hid hgA
  clear hbA hB3A hwA hgA
  go_wp2_with fail
  rw [HWA.out, HGA.out]
  go_loopw [88] (fun i wx => ∃ j : Nat, j ≤ 2 ∧ i = .int .i64 j ∧ Below wA.heap.size wA wx) (fun i _ => 2 - (intOf i).toNat)
  case atStart => exact ⟨0, by omega, rfl, Below.refl _ _⟩
  case round =>
    obtain ⟨j, hj, rfl, hb⟩ := hrel
    obtain ⟨wo, rfl⟩ : ∃ wo, wo = wr := ⟨_, rfl⟩
    have hj0 : (0 : Int) ≤ (j : Int) := by omega
    by_cases hlt : j < 2
    · obtain ⟨ma, mc, M, hcell, hSM, hM8, hMc, hMv⟩ := (HR2.out.below hgA2 hb) j hlt
      have j1 : (j : Int) < 2 := by omega
      have j2 : decide ((j : Int) < 2) = true := by rw [decide_eq_true_iff]; omega
      have j3 : decide (j < 2) = true := by rw [decide_eq_true_iff]; omega
      have HBo := Lib.hid (HBA.out.trans (hb.mono hszA))
      have HBoA := Lib.hid hb
      have HSM := Lib.hid hSM
      have HMV := Lib.hid hMv
      obtain ⟨nm, hnm⟩ : ∃ nm, M.length = nm := ⟨_, rfl⟩
      have HNM := Lib.hid hnm
      rw [hnm] at hcell hM8 hMc
      have HBR := Lib.hid (broken_any ay cy Y wo (HY.out.below HBo.out) HKY.out (by rw [HMY.out]; exact hyl))
      rw [HMY.out] at HBR
      have hszo := HBoA.out.size
      clear hb hSM hMv hnm
      go_wp2_with fail
      refine HBR.out.mono ?_
      rintro e w4 ⟨xb, rfl, hrow4, hb4⟩
      have hm8 := brokenOf_len Y
      generalize brokenOf Y = ys at *
      obtain ⟨b4, cp4, h4, hcp4, hBS4⟩ := hrow4.isSlice
      subst h4
      have HB4 := Lib.hid (HBo.out.trans (hb4.mono HBo.out.size))
      have HBA4 := Lib.hid (HBoA.out.trans (hb4.mono hszo))
      have HSM4 := Lib.hid (HSM.out.below hb4)
      have HBS4 := Lib.hid hBS4.1
      have HBSr4 := Lib.hid ((HBSA.out.below HBoA.out).below hb4)
      obtain ⟨m4, hm4⟩ : ∃ m4, ys.length = m4 := ⟨_, rfl⟩
      have HM4 := Lib.hid hm4
      rw [hm4] at hcp4 hm8 ⊢
      clear hrow4 hb4 hBS4 HBR hm4
      obtain ⟨gB, hgB⟩ : ∃ gB, w4.heap.size = gB := ⟨_, rfl⟩
      obtain ⟨wB, hwB⟩ : ∃ wB, w4.alloc (.cells #[.slice ab l cb, .slice b4 m4 cp4] 23) = wB := ⟨_, rfl⟩
      have hbB : wB.heap[gB]? = some (.cells #[.slice ab l cb, .slice b4 m4 cp4] 23 (0, 0)) := by rw [← hwB]; exact heap_last' _ _ hgB
      have hB4B : Below w4.heap.size w4 wB := by rw [← hwB]; exact (Below.refl _ _).alloc (Nat.le_refl _) _
      have HBB := Lib.hid (HB4.out.trans (hB4B.mono HB4.out.size))
      have HBAB := Lib.hid (HBA4.out.trans (hB4B.mono HBA4.out.size))
      have HSMB := Lib.hid (HSM4.out.below hB4B)
      have HBK2 : Hid (Breaks2 wB gB) := Lib.hid (by
        intro i hi
        match i, hi with
        | 0, _ => exact ⟨ab, cb, bs, by rw [Lib.cell_of_heap hbB, HBL.out]; rfl, HBSr4.out.below hB4B, by rw [HBL.out]; omega⟩
        | 1, _ => exact ⟨b4, cp4, ys, by rw [Lib.cell_of_heap hbB, HM4.out]; rfl, HBS4.out.below hB4B, by rw [HM4.out]; omega⟩)
      have hgB2 : gB < wB.heap.size := (Array.getElem?_eq_some_iff.1 hbB).1
      have hszB := HBB.out.size
      have HWB := Lib.hid hwB
      have HGB := Lib.hid hgB
      clear hbB hB4B hwB hgB
      go_wp2_with fail
      rw [HWB.out, HGB.out]
      go_loopw [97] (fun i wx => ∃ q : Nat, q ≤ 2 ∧ i = .int .i64 q ∧ Below wB.heap.size wB wx) (fun i _ => 2 - (intOf i).toNat)
      case atStart => exact ⟨0, by omega, rfl, Below.refl _ _⟩
      case round =>
        obtain ⟨q, hq, rfl, hb⟩ := hrel
        obtain ⟨wp, rfl⟩ : ∃ wp, wp = wr := ⟨_, rfl⟩
        have hq0 : (0 : Int) ≤ (q : Int) := by omega
        by_cases hltq : q < 2
        · obtain ⟨na, nc, N, hcelln, hSN, hN8⟩ := (HBK2.out.below hgB2 hb) q hltq
          have j4 : (q : Int) < 2 := by omega
          have j5 : decide ((q : Int) < 2) = true := by rw [decide_eq_true_iff]; omega
          have j6 : decide (q < 2) = true := by rw [decide_eq_true_iff]; omega
          have HBp := Lib.hid (HBB.out.trans (hb.mono hszB))
          have HBpB := Lib.hid hb
          have HSN := Lib.hid hSN
          have HSMp := Lib.hid (HSMB.out.below hb)
          obtain ⟨nn, hnn⟩ : ∃ nn, N.length = nn := ⟨_, rfl⟩
          have HNN := Lib.hid hnn
          rw [hnn] at hcelln hN8
          have hp1 := pick_lo (c := day) (n := 300) (by omega)
          have hp2 := pick_hi (c := day) (n := 300) (by omega)
          have HP1 := Lib.hid (fun W => pick_any day 300 W HDA.out (by omega) (by omega))
          generalize pick day 300 = pd at *
          obtain ⟨gC, hgC⟩ : ∃ gC, wp.heap.size = gC := ⟨_, rfl⟩
          obtain ⟨wC, hwC⟩ : ∃ wC, wp.alloc (.cells #[.int .i64 day, .int .i64 pd] 3) = wC := ⟨_, rfl⟩
          have hbC : wC.heap[gC]? = some (.cells #[.int .i64 day, .int .i64 pd] 3 (0, 0)) := by rw [← hwC]; exact heap_last' _ _ hgC
          have hBpC : Below wp.heap.size wp wC := by rw [← hwC]; exact (Below.refl _ _).alloc (Nat.le_refl _) _
          have HBC := Lib.hid (HBp.out.trans (hBpC.mono HBp.out.size))
          have HBBC := Lib.hid (HBpB.out.trans (hBpC.mono HBpB.out.size))
          have HSMC := Lib.hid (HSMp.out.below hBpC)
          have HSNC := Lib.hid (HSN.out.below hBpC)
          have HDY2 : Hid (Days2 wC gC) := Lib.hid (by
            intro i hi
            match i, hi with
            | 0, _ => exact ⟨day, by rw [Lib.cell_of_heap hbC]; rfl, HDA.out⟩
            | 1, _ => exact ⟨pd, by rw [Lib.cell_of_heap hbC]; rfl, ⟨by omega, by omega⟩⟩)
          have hgC2 : gC < wC.heap.size := (Array.getElem?_eq_some_iff.1 hbC).1
          have hszC := HBC.out.size
          have HWC := Lib.hid hwC
          have HGC := Lib.hid hgC
          clear hbC hBpC hwC hgC hb hSN hnn
          go_wp2_with fail
          refine (HP1.out wp).mono ?_
          rintro e w5 ⟨rfl, rfl⟩
          go_wp2_with fail
          rw [HWC.out, HGC.out]
          go_loopw [106] (fun i wx => ∃ u : Nat, u ≤ 2 ∧ i = .int .i64 u ∧ Below wC.heap.size wC wx) (fun i _ => 2 - (intOf i).toNat)
          case atStart => exact ⟨0, by omega, rfl, Below.refl _ _⟩
          case round =>
            obtain ⟨u, hu, rfl, hb⟩ := hrel
            obtain ⟨wq, rfl⟩ : ∃ wq, wq = wr := ⟨_, rfl⟩
            have hu0 : (0 : Int) ≤ (u : Int) := by omega
            by_cases hltu : u < 2
            · obtain ⟨d, hcelld, hdI⟩ := (HDY2.out.below hgC2 hb) u hltu
              have j7 : (u : Int) < 2 := by omega
              have j8 : decide ((u : Int) < 2) = true := by rw [decide_eq_true_iff]; omega
              have j9 : decide (u < 2) = true := by rw [decide_eq_true_iff]; omega
              have HBq := Lib.hid (HBC.out.trans (hb.mono hszC))
              have HBqC := Lib.hid hb
              have HSMq := Lib.hid (HSMC.out.below hb)
              have HSNq := Lib.hid (HSNC.out.below hb)
              have HDI := Lib.hid hdI
              obtain ⟨r, hr⟩ : ∃ r, since M V N d = r := ⟨_, rfl⟩
              obtain ⟨r', hr'⟩ : ∃ r', due M N d = r' := ⟨_, rfl⟩
              obtain ⟨x, ok, hx⟩ : ∃ x ok, dayV r = .tuple #[.int .i64 x, .bool ok] := by
                cases r with
                | none => exact ⟨0, false, rfl⟩
                | some x => exact ⟨x, true, rfl⟩
              obtain ⟨y, ok', hy⟩ : ∃ x ok, dayV r' = .tuple #[.int .i64 x, .bool ok] := by
                cases r' with
                | none => exact ⟨0, false, rfl⟩
                | some x => exact ⟨x, true, rfl⟩
              have H1 : Hid (∀ W, Below wq.heap.size wq W → Calls Tryd.prog 14 #[.slice ma nm mc, .string ⟨V.toArray⟩, .slice na nn nc, .int .i64 d] W fun e w' => e = .returned (.tuple #[.int .i64 x, .bool ok]) ∧ Below W.heap.size W w') := Lib.hid (by
                intro W hW
                have hb' := HBq.out.trans (hW.mono HBq.out.size)
                have h := since_any V ma mc M na nc N d W (HSMq.out.below hW) (by rw [HNM.out]; omega) (by rw [HNM.out]; exact hMc) (by omega) (HSNq.out.below hW) (by rw [HNN.out]; omega) (HRA.out W hb').1 (HRA.out W hb').2
                rw [hr, hx, HNM.out, HNN.out] at h
                exact h)
              have H2 : Hid (∀ W, Below wq.heap.size wq W → Calls Tryd.prog 15 #[.slice ma nm mc, .string ⟨V.toArray⟩, .slice na nn nc, .int .i64 d] W fun e w' => e = .returned (.tuple #[.int .i64 x, .bool ok]) ∧ Below W.heap.size W w') := Lib.hid (by
                intro W hW
                have h := refSince_any V ma mc M na nc N d W (HSMq.out.below hW) HMV.out (by rw [HNM.out]; omega) (by rw [HNM.out]; exact hMc) (by omega) (HSNq.out.below hW) (by rw [HNN.out]; omega)
                rw [hr, hx, HNM.out, HNN.out] at h
                exact h)
              have H3 : Hid (∀ W, Below wq.heap.size wq W → Calls Tryd.prog 16 #[.slice ma nm mc, .slice na nn nc, .int .i64 d] W fun e w' => e = .returned (.tuple #[.int .i64 y, .bool ok']) ∧ Below W.heap.size W w') := Lib.hid (by
                intro W hW
                have h := due_any ma mc M na nc N d W (HSMq.out.below hW) (by rw [HNM.out]; omega) (HSNq.out.below hW) (by rw [HNN.out]; omega) HDI.out.1
                rw [hr', hy, HNM.out, HNN.out] at h
                exact h)
              have H4 : Hid (∀ W, Below wq.heap.size wq W → Calls Tryd.prog 17 #[.slice ma nm mc, .slice na nn nc, .int .i64 d] W fun e w' => e = .returned (.tuple #[.int .i64 y, .bool ok']) ∧ Below W.heap.size W w') := Lib.hid (by
                intro W hW
                have h := refDue_any ma mc M na nc N d W (HSMq.out.below hW) (by rw [HNM.out]; omega) (HSNq.out.below hW) (by rw [HNN.out]; omega) HDI.out.1
                rw [hr', hy, HNM.out, HNN.out] at h
                exact h)
              clear hr hr' hx hy hb hdI
              go_wp2_with fail
              refine (H1.out wq (Below.refl _ _)).mono ?_
              rintro e w6 ⟨rfl, hb6⟩
              have HB6 := Lib.hid hb6
              clear hb6
              go_wp2_with fail
              refine (H2.out w6 HB6.out).mono ?_
              rintro e w7 ⟨rfl, hb7⟩
              have HB7 := Lib.hid (HB6.out.trans (hb7.mono HB6.out.size))
              clear hb7
              go_wp2_with fail
              refine (H3.out w7 HB7.out).mono ?_
              rintro e w8 ⟨rfl, hb8⟩
              have HB8 := Lib.hid (HB7.out.trans (hb8.mono HB7.out.size))
              clear hb8
              go_wp2_with fail
              refine (H4.out w8 HB8.out).mono ?_
              rintro e w9 ⟨rfl, hb9⟩
              have HB9 := Lib.hid (HB8.out.trans (hb9.mono HB8.out.size))
              clear hb9
              go_wp2_with fail
              go_roundw
              case rel => exact ⟨u + 1, by omega, by push_cast; rfl, HBqC.out.trans (HB9.out.mono HBqC.out.size)⟩
              case measure => simp [intOf]; omega
            · obtain rfl : u = 2 := by omega
              have HBq := Lib.hid hb
              clear hb
              go_wp2_with fail
              exact ⟨⟨q + 1, by omega, by push_cast; rfl, HBBC.out.trans (HBq.out.mono HBBC.out.size)⟩, by simp [intOf]; omega⟩
        · obtain rfl : q = 2 := by omega
          have HBp := Lib.hid (HBB.out.trans (hb.mono hszB))
          have HBAp := Lib.hid (HBAB.out.trans (hb.mono HBAB.out.size))
          have HSMp := Lib.hid (HSMB.out.below hb)
          have H1 := Lib.hid (renew_any V ma mc M day hash wit wp HSMp.out (by rw [HNM.out]; omega) (by omega) (HRA.out wp HBp.out).1 (HRA.out wp HBp.out).2)
          have H2 : Hid (∀ W, Below wp.heap.size wp W → Calls Tryd.prog 19 #[.slice ma M.length mc, .string ⟨V.toArray⟩, .int .i64 day, .int .i64 hash, .int .i64 wit] W fun e w' => Gave W (renew M V (bare day hash wit)) e w') := Lib.hid (fun W hW => refRenew_any V ma mc M day hash wit W (HSMp.out.below hW) HMV.out (by rw [HNM.out]; omega) (by rw [HNM.out]; exact hMc) (by omega))
          have H3 : Hid (∀ W, Below wp.heap.size wp W → Calls Tryd.prog 21 #[.slice ma M.length mc, .string ⟨V.toArray⟩] W fun e w' => e = .returned (.bool (check M V)) ∧ Below W.heap.size W w') := Lib.hid (by
            intro W hW
            have hb' := HBp.out.trans (hW.mono HBp.out.size)
            exact check_any V ma mc M W (HSMp.out.below hW) (by rw [HNM.out]; omega) (by omega) (HRA.out W hb').1 (HRA.out W hb').2)
          have H4 : Hid (∀ W, Below wp.heap.size wp W → Calls Tryd.prog 22 #[.slice ma M.length mc, .string ⟨V.toArray⟩] W fun e w' => e = .returned (.bool (check M V)) ∧ Below W.heap.size W w') := Lib.hid (fun W hW => refCheck_any V ma mc M W (HSMp.out.below hW) HMV.out (by rw [HNM.out]; omega) (by rw [HNM.out]; exact hMc) (by omega))
          rw [HNM.out] at H1 H2 H3 H4
          have HRLN := Lib.hid (renew_len M V (bare day hash wit))
          generalize renew M V (bare day hash wit) = r at *
          generalize check M V = ck at *
          clear hb
          go_wp2_with fail
          refine H1.out.mono ?_
          intro e w5 h5
          obtain ⟨ra, rc, rfl, hSr, hb5⟩ := h5.open
          have HB5 := Lib.hid hb5
          have HSr := Lib.hid hSr
          obtain ⟨nr, hnr⟩ : ∃ nr, (r.getD []).length = nr := ⟨_, rfl⟩
          have HNR := Lib.hid hnr
          obtain ⟨er, her⟩ : ∃ er, errOf r = er := ⟨_, rfl⟩
          have HER := Lib.hid her
          rw [hnr, her]
          clear h5 hSr hb5 hnr her H1
          go_wp2_with fail
          refine (H2.out w5 HB5.out).mono ?_
          intro e w6 h6
          obtain ⟨ra', rc', rfl, hSr', hb6⟩ := h6.open
          have HB6 := Lib.hid (HB5.out.trans (hb6.mono HB5.out.size))
          have HSr6 := Lib.hid (HSr.out.below hb6)
          have HSr' := Lib.hid hSr'
          have HSAME : Hid (Calls Tryd.prog 20 #[.slice ra nr rc, .slice ra' nr rc'] w6 fun e w' => e = .returned (.bool true) ∧ Below w6.heap.size w6 w') := Lib.hid (by
            have hl : (r.getD []).length ≤ 1000 := by have := HRLN.out; have := HNM.out; omega
            have h := same_any ra rc (r.getD []) ra' rc' (r.getD []) w6 HSr6.out HSr'.out hl hl
            rw [show decide (r.getD [] = r.getD []) = true by simp, HNR.out] at h
            exact h)
          rw [HNR.out, HER.out]
          clear h6 hSr' hb6 H2
          go_wp2_with fail
          refine HSAME.out.mono ?_
          rintro e w7 ⟨rfl, hb7⟩
          have HB7 := Lib.hid (HB6.out.trans (hb7.mono HB6.out.size))
          clear hb7 HSAME
          go_wp2_with fail
          refine (H3.out w7 HB7.out).mono ?_
          rintro e w8 ⟨rfl, hb8⟩
          have HB8 := Lib.hid (HB7.out.trans (hb8.mono HB7.out.size))
          clear hb8
          go_wp2_with fail
          refine (H4.out w8 HB8.out).mono ?_
          rintro e w9 ⟨rfl, hb9⟩
          have HB9 := Lib.hid (HB8.out.trans (hb9.mono HB8.out.size))
          clear hb9
          cases ck
          all_goals
            go_wp2_with fail
            exact ⟨⟨j + 1, by omega, by push_cast; rfl, HBAp.out.trans (HB9.out.mono HBAp.out.size)⟩, by simp [intOf]; omega⟩
    · obtain rfl : j = 2 := by omega
      have HBo := Lib.hid (HBA.out.trans (hb.mono hszA))
      have H1 := Lib.hid (start_any V day hash wit wo (by omega) (HRA.out wo HBo.out).1 (HRA.out wo HBo.out).2)
      have H2 := Lib.hid (fun W => refStart_any V day hash wit W (by omega))
      have HRLN := Lib.hid (next_len [] V (bare day hash wit))
      have HST := Lib.hid (show next [] V (bare day hash wit) = start V (bare day hash wit) from rfl)
      rw [HST.out] at HRLN
      generalize start V (bare day hash wit) = r at *
      have hp1 := pick_lo (c := hash) (n := 8) (by omega)
      have hp2 := pick_hi (c := hash) (n := 8) (by omega)
      have HP1 := Lib.hid (fun W => pick_any hash 8 W HHA.out (by omega) (by omega))
      generalize pick hash 8 = ph at *
      have H3 : Hid (∀ (h : Int) W, Below wo.heap.size wo W → Calls Tryd.prog 25 #[.int .i64 h, .string ⟨V.toArray⟩] W fun e w' => e = .returned (.string ⟨(hashV h V).toArray⟩) ∧ Below W.heap.size W w') := Lib.hid (by
        intro h W hW
        have hb' := HBo.out.trans (hW.mono HBo.out.size)
        exact hash_any h V W (HRA.out W hb').1 (HRA.out W hb').2 (by omega))
      have H4 := Lib.hid (fun (h : Int) W => refHash_any h V W (by omega))
      have H3a := Lib.hid (H3.out hash)
      have H3b := Lib.hid (H3.out ph)
      have H4a := Lib.hid (H4.out hash)
      have H4b := Lib.hid (H4.out ph)
      generalize (⟨(hashV hash V).toArray⟩ : ByteArray) = S1 at *
      generalize (⟨(hashV ph V).toArray⟩ : ByteArray) = S2 at *
      clear hb H3 H4 HST
      go_wp2_with fail
      refine H1.out.mono ?_
      intro e w5 h5
      obtain ⟨ra, rc, rfl, hSr, hb5⟩ := h5.open
      have HB5 := Lib.hid hb5
      have HSr := Lib.hid hSr
      obtain ⟨nr, hnr⟩ : ∃ nr, (r.getD []).length = nr := ⟨_, rfl⟩
      have HNR := Lib.hid hnr
      obtain ⟨er, her⟩ : ∃ er, errOf r = er := ⟨_, rfl⟩
      have HER := Lib.hid her
      rw [hnr, her]
      clear h5 hSr hb5 hnr her H1
      go_wp2_with fail
      refine (H2.out w5).mono ?_
      intro e w6 h6
      obtain ⟨ra', rc', rfl, hSr', hb6⟩ := h6.open
      have HB6 := Lib.hid (HB5.out.trans (hb6.mono HB5.out.size))
      have HSr6 := Lib.hid (HSr.out.below hb6)
      have HSr' := Lib.hid hSr'
      have HSAME : Hid (Calls Tryd.prog 20 #[.slice ra nr rc, .slice ra' nr rc'] w6 fun e w' => e = .returned (.bool true) ∧ Below w6.heap.size w6 w') := Lib.hid (by
        have hl : (r.getD []).length ≤ 1000 := by have := HRLN.out; simp at this; omega
        have h := same_any ra rc (r.getD []) ra' rc' (r.getD []) w6 HSr6.out HSr'.out hl hl
        rw [show decide (r.getD [] = r.getD []) = true by simp, HNR.out] at h
        exact h)
      rw [HNR.out, HER.out]
      clear h6 hSr' hb6 H2
      go_wp2_with fail
      refine HSAME.out.mono ?_
      rintro e w7 ⟨rfl, hb7⟩
      have HB7 := Lib.hid (HB6.out.trans (hb7.mono HB6.out.size))
      clear hb7 HSAME
      go_wp2_with fail
      refine (H3a.out w7 HB7.out).mono ?_
      rintro e w8 ⟨rfl, hb8⟩
      have HB8 := Lib.hid (HB7.out.trans (hb8.mono HB7.out.size))
      clear hb8
      go_wp2_with fail
      refine (H4a.out w8).mono ?_
      rintro e w9 ⟨rfl, hb9⟩
      have HB9 := Lib.hid (HB8.out.trans (hb9.mono HB8.out.size))
      clear hb9
      go_wp2_with fail
      refine (HP1.out w9).mono ?_
      rintro e w10 ⟨rfl, rfl⟩
      go_wp2_with fail
      refine (H3b.out w9 HB9.out).mono ?_
      rintro e w10 ⟨rfl, hb10⟩
      have HB10 := Lib.hid (HB9.out.trans (hb10.mono HB9.out.size))
      clear hb10
      go_wp2_with fail
      refine (HP1.out w10).mono ?_
      rintro e w11 ⟨rfl, rfl⟩
      go_wp2_with fail
      refine (H4b.out w10).mono ?_
      rintro e w11 ⟨rfl, hb11⟩
      have HB11 := Lib.hid (HB10.out.trans (hb11.mono HB10.out.size))
      clear hb11
      go_wp2_with fail
      go_ret
      exact ⟨rfl, HBo.out.trans (HB11.out.mono HBo.out.size)⟩
end Go.Proofs.YtkihcigojhcmgaaDoor
