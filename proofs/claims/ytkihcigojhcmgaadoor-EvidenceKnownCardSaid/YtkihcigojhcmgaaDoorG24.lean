/- EvidenceKnown: breaks that become known later make no difference; a further break never gives an earlier day; a further stamp does not change what is proved. -/
import Derived.Test.YtkihcigojhcmgaaDoorG20
import Derived.Test.YtkihcigojhcmgaaDoorG19
import Derived.Deep.CutBlock
import Derived.Laws.AppendOwnNone
import Derived.Deep.RegionHeld
namespace Go.Proofs.YtkihcigojhcmgaaDoor
open Go.RowKit
set_option maxRecDepth 100000

/-- A break that becomes known after a day. -/
def lateB (day : Int) (b : Brk) : Brk := { b with known := day + 1 + b.known }
theorem brokenOf_bd (Y : List Qud) : ∀ b ∈ brokenOf Y, 0 ≤ b.known ∧ b.known ≤ 249 ∧ I64 b.hash ∧ I64 b.wit ∧ I64 b.frm := by
  intro b hb
  unfold brokenOf at hb
  obtain ⟨q, -, rfl⟩ := List.mem_map.1 hb
  have h1 := pick_lo (c := q.2.2.2) (n := 250) (by omega)
  have h2 := pick_hi (c := q.2.2.2) (n := 250) (by omega)
  have h3 := pick_lo (c := q.1) (n := 4) (by omega)
  have h4 := pick_hi (c := q.1) (n := 4) (by omega)
  have h5 := pick_lo (c := q.2.2.1) (n := 200) (by omega)
  have h6 := pick_hi (c := q.2.2.1) (n := 200) (by omega)
  have h7 := pick_lo (c := q.2.1.tdiv 2) (n := 8) (by omega)
  have h8 := pick_hi (c := q.2.1.tdiv 2) (n := 8) (by omega)
  refine ⟨h1, by show pick q.2.2.2 250 ≤ 249; omega, ⟨by show _ ≤ pick q.1 4; omega, by show pick q.1 4 ≤ _; omega⟩, ?_, ⟨by show _ ≤ pick q.2.2.1 200; omega, by show pick q.2.2.1 200 ≤ _; omega⟩⟩
  show I64 (brOf q).wit
  simp only [brOf]
  split
  · exact ⟨by omega, by omega⟩
  · exact ⟨by omega, by omega⟩
theorem lateB_mem {day : Int} {E : List Brk} (hE : ∀ b ∈ E, 0 ≤ b.known) : ∀ b ∈ E.map (lateB day), day < b.known := by
  intro b hb
  obtain ⟨x, hx, rfl⟩ := List.mem_map.1 hb
  have := hE x hx
  show day < day + 1 + x.known
  omega
theorem broken_nil (a : Option Addr) (c : Nat) (w : World) :
    Calls Tryd.prog 12 #[.slice a 0 c] w fun e w' => e = .returned (.slice none 0 0) ∧ w = w' := by
  go_enter Tryd.func12, Tryd.ntmps12
  go_wp2_with fail
  go_loopw [3, 4] (fun l i wx => i = .int .i64 0 ∧ l = .slice none 0 0 ∧ w = wx) (fun _ _ _ => 0)
  case atStart => exact ⟨rfl, rfl, rfl⟩
  case round =>
    obtain ⟨rfl, rfl, rfl⟩ := hrel
    go_wp2_with fail
    go_ret
    exact ⟨rfl, rfl⟩
theorem broken_more (a : Option Addr) (c : Nat) (X : List Qud) (w : World) (hX : QdS w a X) (hk : QudOk X) (hb2 : X.length ≤ 9223372036854775807) :
    Calls Tryd.prog 12 #[.slice a X.length c] w fun e w' => ∃ x, e = .returned x ∧ BRow w' w.heap.size x (brokenOf X) ∧ (brokenOf X = [] → x = .slice none 0 0) ∧ Below w.heap.size w w' := by
  cases X with
  | nil =>
    refine (broken_nil a c w).mono ?_
    rintro e w' ⟨rfl, rfl⟩
    exact ⟨_, rfl, BRow.nil _ _, fun _ => rfl, Below.refl _ _⟩
  | cons q X =>
    refine (broken_any a c (q :: X) w hX hk hb2).mono ?_
    rintro e w' ⟨x, rfl, h1, h2⟩
    exact ⟨x, rfl, h1, fun h => by simp [brokenOf] at h, h2⟩
theorem append_copy {ops : Array Oper} {rest : List Oper} {o : Oper} {a : Act} {Q : Exit → Act → World → Prop} {w0 : World} (hgd : o.guard = none) (s x : Operand)
    (ho : o.op = .call { callee := .builtin .append, args := #[s, x], argTypes := #[23, 23] })
    {base ge b2 : Nat} (hs : a.eval s = .slice (some ⟨ge, 0, none⟩) 0 0) (hown : BRow w0 base (.slice (some ⟨ge, 0, none⟩) 0 0) []) (hbase : base ≤ w0.heap.size)
    {y : Value} {X : List Brk} (hx : a.eval x = y) (hX : BRow w0 b2 y X) (hnil : X = [] → y = .slice none 0 0) (hlen : X.length ≤ 1000)
    (h : ∀ g cap w', BRow w' base (.slice (some ⟨g, 0, none⟩) X.length cap) X → Below base w0 w' → w0.grownBy w' (some ge) → (g = ge ∨ g = w0.heap.size) →
      wpList Tryd.prog ops Q rest (a.put o.dst (.slice (some ⟨g, 0, none⟩) X.length cap)) w') :
    wpList Tryd.prog ops Q (o :: rest) a w0 := by
  obtain ⟨i0, hi, hz0, hz1, hz2⟩ := info_parts Tryd.infoBreak
  cases X with
  | nil =>
    rw [hnil rfl] at hx
    exact wpList_append_own_none hgd s x 23 ho base 48 i0 4 Tryd.underlying23 hi _ 0 (brl []) hs hown hx (h ge 0 w0 hown (Below.refl _ _) (World.grownBy.refl _ _) (.inl rfl))
  | cons b X =>
    obtain ⟨g, cap, hy, -, -⟩ := hX.form (by simp)
    rw [hy] at hx hX
    refine append_breaks hgd s x ho (L := []) hs hown hbase (by simp) hx hX.sts rfl (by simp) hlen (M := b :: X) rfl ?_
    intro g' c' w' h1 h2 h3 h4
    refine h g' c' w' h1 h2 h3 ?_
    rcases h4 with h4 | h4
    · left; injection h4 with h4; exact h4.symm
    · exact .inr h4
theorem BRow.kept {W W' : World} {row : Option Nat} {base : Nat} {v : Value} {L : List Brk} (h : BRow W base v L) (hg : W.grownBy W' row) (hne : v.ownBlock ≠ row) : BRow W' base v L := World.ownsRow.kept h hg (.inr hne)
theorem BRow.own {W : World} {base g o n c : Nat} {L : List Brk} (h : BRow W base (.slice (some ⟨g, o, none⟩) n c) L) : base ≤ g ∧ g < W.heap.size := World.ownsRow.lt h g rfl
/-- What holds at the head of the loop: two rows that grow, and the row of further breaks. -/
def KnAt (w : World) (bs E : List Brk) (day : Int) (m : Nat) (xe late more i : Value) (W : World) : Prop :=
  ∃ (j gl cl gm cm : Nat), j ≤ m ∧ i = .int .i64 j ∧ late = .slice (some ⟨gl, 0, none⟩) (bs.length + j) cl ∧ more = .slice (some ⟨gm, 0, none⟩) (bs.length + j) cm ∧ gl ≠ gm ∧ xe.ownBlock ≠ some gl ∧ xe.ownBlock ≠ some gm ∧
    BRow W w.heap.size late (bs ++ (E.take j).map (lateB day)) ∧ BRow W w.heap.size more (bs ++ E.take j) ∧ BRow W w.heap.size xe E ∧ Below w.heap.size w W

set_option maxHeartbeats 4000000 in
theorem evKnown_any (t : ByteArray) (ax : Option Addr) (cx : Nat) (X : List Tri) (ay : Option Addr) (cy : Nat) (Y : List Qud) (az : Option Addr) (cz : Nat) (Z : List Qud) (day c0 c1 c2 : Int) (w : World) (hX : TrS w ax X) (hk : TriOk X) (hxl : X.length ≤ 9223372036854775807)
    (hY : QdS w ay Y) (hky : QudOk Y) (hyl : Y.length ≤ 9223372036854775807) (hZ : QdS w az Z) (hkz : QudOk Z) (hzl : Z.length ≤ 9223372036854775807) (hda : I64 day) (hc0 : I64 c0) (_ht : t.size ≤ 9223372036854775807)
    (hw : RoundAt w) (hg : 0 < w.heap.size) :
    Calls Tryd.prog 7 #[.string t, .slice ax X.length cx, .slice ay Y.length cy, .slice az Z.length cz, .int .i64 day, .agg #[.int .i64 c0, .int .i64 c1, .int .i64 c2]] w fun e w' => e = .returned (.bool true) ∧ Below w.heap.size w w' := by
  have HRA : Hid (∀ W, Below w.heap.size w W → RoundAt W ∧ 0 < W.heap.size) := Lib.hid (fun W hb => ⟨hw.below hg hb, Nat.lt_of_lt_of_le hg hb.size⟩)
  obtain ⟨k, V, hmin, hkt, hext, hV, -⟩ := cut60 t
  have hmm : ∀ wx, (Builtin.min_ #[3, 3] 3 #[.int .i64 (t.size : Int), .int .i64 60]).run Tryd.prog wx = .ok (.int .i64 (k : Int)) wx := fun wx => by rw [run_min2, hmin]
  have HX := Lib.hid hX
  have HK := Lib.hid hk
  have HY := Lib.hid hY
  have HKY := Lib.hid hky
  have HZ := Lib.hid hZ
  have HKZ := Lib.hid hkz
  have HDA := Lib.hid hda
  have HC0 := Lib.hid hc0
  obtain ⟨m, hm⟩ : ∃ m, X.length = m := ⟨_, rfl⟩
  obtain ⟨my, hmy⟩ : ∃ my, Y.length = my := ⟨_, rfl⟩
  obtain ⟨mz, hmz⟩ : ∃ mz, Z.length = mz := ⟨_, rfl⟩
  rw [hm] at hxl ⊢
  rw [hmy] at hyl ⊢
  rw [hmz] at hzl ⊢
  have HM := Lib.hid hm
  have HMY := Lib.hid hmy
  have HMZ := Lib.hid hmz
  have k0 : (0 : Int) ≤ (k : Int) := by omega
  have k1 : (k : Int) ≤ (t.size : Int) := by omega
  obtain ⟨w0, hw0⟩ : ∃ w0, w.alloc (.cells #[.int .i64 c0, .int .i64 c1, .int .i64 c2] 49) = w0 := ⟨_, rfl⟩
  have hb0 : Below w.heap.size w w0 := by rw [← hw0]; exact (Below.refl _ _).alloc (Nat.le_refl _) _
  have hblk0 : w0.heap[w.heap.size]? = some (.cells #[.int .i64 c0, .int .i64 c1, .int .i64 c2] 49) := by rw [← hw0]; exact heap_last _ _
  have HB0 := Lib.hid hb0
  have HBK0 := Lib.hid hblk0
  have HSA := Lib.hid (sane_any w0 (HRA.out w0 hb0).1 (HRA.out w0 hb0).2)
  clear hmin hm hmy hmz hX hk hY hky hZ hkz hda hc0 hw hg hblk0 hb0
  go_enter Tryd.func7, Tryd.ntmps7
  go_wp2_with fail
  refine HSA.out.mono ?_
  rintro e w1 ⟨rfl, hb1⟩
  have HB1 := Lib.hid (HB0.out.trans (hb1.mono HB0.out.size))
  have hlt0 : w.heap.size < w0.heap.size := (Array.getElem?_eq_some_iff.1 HBK0.out).1
  have HBK1 := Lib.hid ((hb1.block w.heap.size hlt0).trans HBK0.out)
  have hnot : ¬ ((t.size : Int) < (k : Int)) := by omega
  have HST := Lib.hid (stamps_any V ax cx X w1 (HX.out.below HB1.out) HK.out (by omega) (by rw [HM.out]; exact hxl))
  rw [HM.out] at HST
  clear hb1 HSA HB0 HBK0 hw0
  go_wp2_with fail
  refine HST.out.mono ?_
  rintro e w2 ⟨xs, rfl, hrow2, hb2⟩
  obtain ⟨hl8, hck, hfa⟩ := stampsOf_facts V X
  generalize stampsOf V X = L at *
  obtain ⟨a2, cp2, h2, hcp2, hS2, -⟩ := hrow2.isSlice
  subst h2
  have HCK := Lib.hid hck
  have HFA := Lib.hid hfa
  have HB2 := Lib.hid (HB1.out.trans (hb2.mono HB1.out.size))
  have hlt1 : w.heap.size < w1.heap.size := (Array.getElem?_eq_some_iff.1 HBK1.out).1
  have HBK2 := Lib.hid ((hb2.block w.heap.size hlt1).trans HBK1.out)
  obtain ⟨n1, hn1⟩ : ∃ n1, L.length = n1 := ⟨_, rfl⟩
  rw [hn1] at hcp2 hl8 ⊢
  have HN := Lib.hid hn1
  have HS2 := Lib.hid hS2
  have HBR := Lib.hid (broken_more ay cy Y w2 (HY.out.below HB2.out) HKY.out (by rw [HMY.out]; exact hyl))
  rw [HMY.out] at HBR
  clear hrow2 hb2 HST hn1 hck hfa hS2 HBK1
  go_wp2_with fail
  refine HBR.out.mono ?_
  rintro e w3 ⟨xb, rfl, hrow3, hnil3, hb3⟩
  have hm8 := brokenOf_len Y
  have hbd := brokenOf_bd Y
  generalize brokenOf Y = bs at *
  obtain ⟨m3, hm3⟩ : ∃ m3, bs.length = m3 := ⟨_, rfl⟩
  obtain ⟨b3, cp3, h3, hcp3, hBS3, -⟩ := hrow3.isSlice
  subst h3
  have HR3 := Lib.hid hrow3
  have HN3 := Lib.hid hnil3
  have HB3 := Lib.hid (HB2.out.trans (hb3.mono HB2.out.size))
  have HS3 := Lib.hid (HS2.out.below hb3)
  have HBS3 := Lib.hid hBS3
  have HM3 := Lib.hid hm3
  have HBK3 := Lib.hid ((hb3.block w.heap.size (Array.getElem?_eq_some_iff.1 HBK2.out).1).trans HBK2.out)
  have hp1 := pick_lo (c := day) (n := 300) (by omega)
  have hp2 := pick_hi (c := day) (n := 300) (by omega)
  have HP1 := Lib.hid (fun W => pick_any day 300 W HDA.out (by omega) (by omega))
  generalize pick day 300 = pd at *
  have HSI := Lib.hid (since_any V a2 cp2 L b3 cp3 bs pd w3 HS3.out (by rw [HN.out]; omega) (by rw [HN.out]; exact hcp2) (by omega) HBS3.out (by omega) (HRA.out w3 HB3.out).1 (HRA.out w3 HB3.out).2)
  rw [HN.out, HM3.out] at HSI
  rw [hm3] at hcp3 hm8 HR3 HN3 ⊢
  clear hrow3 hnil3 hb3 hBS3 hm3 HBR hbd HBK2 HS2
  go_wp2_with fail
  refine (HP1.out w3).mono ?_
  rintro e w4 ⟨rfl, rfl⟩
  obtain ⟨r, hr⟩ : ∃ r, since L V bs pd = r := ⟨_, rfl⟩
  have HR := Lib.hid hr
  rw [hr] at HSI
  obtain ⟨x, ok, hx, hok⟩ : ∃ x ok, dayV r = .tuple #[.int .i64 x, .bool ok] ∧ r = (if ok = true then some x else none) := by
    cases r with
    | none => exact ⟨0, false, rfl, rfl⟩
    | some x => exact ⟨x, true, rfl, rfl⟩
  rw [hx] at HSI
  have HOK := Lib.hid hok
  have HXV := Lib.hid hx
  clear hr hx hok
  go_wp2_with fail
  refine HSI.out.mono ?_
  rintro e w4 ⟨rfl, hb4⟩
  have HB4 := Lib.hid (HB3.out.trans (hb4.mono HB3.out.size))
  have HS4 := Lib.hid (HS3.out.below hb4)
  have HBS4 := Lib.hid (HBS3.out.below hb4)
  have HR4 := Lib.hid (HR3.out.below hb4)
  have HBK4 := Lib.hid ((hb4.block w.heap.size (Array.getElem?_eq_some_iff.1 HBK3.out).1).trans HBK3.out)
  clear hb4 HSI HS3 HBS3 HBK3 HR3
  go_upto_region 8 with (at_builtin; refine append_copy rfl _ _ rfl (by rfl) (base := w4.heap.size) (ge := w4.heap.size) (y := .slice b3 m3 cp3) (X := bs) (BRow.empty (heap_last' _ _ rfl) (Nat.le_refl _)) (by simp) (by rfl) (HR4.out.alloc _) HN3.out (by rw [HM3.out]; omega) ?_; intro g5 c5 w5 hrow5 hb5 hgr5 hor5)
  have HB45 := Lib.hid (((Below.refl w4.heap.size w4).alloc (Nat.le_refl _) (.cells #[] 48)).trans hb5)
  have hs5 := HB45.out.size
  have ho5 := hrow5.own
  have HR5 := Lib.hid hrow5
  have HR45 := Lib.hid (HR4.out.below HB45.out)
  rw [HM3.out] at HR5 ⊢
  clear hrow5 hb5 hgr5 hor5
  go_upto_region 9 with (at_builtin; refine append_copy rfl _ _ rfl (by rfl) (base := w4.heap.size) (ge := w5.heap.size) (y := .slice b3 m3 cp3) (X := bs) (BRow.empty (heap_last' _ _ rfl) hs5) (by simp; omega) (by rfl) (HR45.out.alloc _) HN3.out (by rw [HM3.out]; omega) ?_; intro g6 c6 w6 hrow6 hb6 hgr6 hor6)
  have hne56 : g5 ≠ g6 := by
    rcases hor6 with h | h
    · omega
    · rw [size_alloc] at h; omega
  have hB56 : Below w4.heap.size w4 w6 := HB45.out.trans (((Below.refl w4.heap.size w5).alloc hs5 (.cells #[] 48)).trans hb6)
  have HB46 := Lib.hid hB56
  have hs6 := hB56.size
  have HR6 := Lib.hid hrow6
  have ho6 := hrow6.own
  have HR56 := Lib.hid ((HR5.out.alloc (.cells #[] 48)).kept hgr6 (by show some g5 ≠ some w5.heap.size; intro h; injection h with h; omega))
  rw [HM3.out] at HR6 ⊢
  have HB06 := Lib.hid (HB4.out.trans (hB56.mono HB4.out.size))
  have HBZ := Lib.hid (broken_any az cz Z w6 (HZ.out.below HB06.out) HKZ.out (by rw [HMZ.out]; exact hzl))
  rw [HMZ.out] at HBZ
  have ho56 := HR56.out.own
  clear hrow6 hb6 hgr6 hor6 hB56 HR45 HB45 HR5
  go_wp2_with fail
  refine HBZ.out.mono ?_
  rintro e w7 ⟨xe, rfl, hrow7, hb7⟩
  have he8 := brokenOf_len Z
  have hebd := brokenOf_bd Z
  generalize brokenOf Z = E at *
  obtain ⟨m4, hm4⟩ : ∃ m4, E.length = m4 := ⟨_, rfl⟩
  have hown7 : ∀ g, xe.ownBlock = some g → w6.heap.size ≤ g := fun g h => (World.ownsRow.lt hrow7 g h).1
  obtain ⟨a7, cp7, h7, hcp7, hBS7, -⟩ := hrow7.isSlice
  subst h7
  have HKN : Hid (KnAt w4 bs E pd m4 (.slice a7 E.length cp7) (.slice (some ⟨g5, 0, none⟩) m3 c5) (.slice (some ⟨g6, 0, none⟩) m3 c6) (.int .i64 0) w7) := Lib.hid (by
    refine ⟨0, g5, c5, g6, c6, by omega, rfl, by rw [HM3.out]; rfl, by rw [HM3.out]; rfl, hne56, ?_, ?_, ?_, ?_, hrow7.mono hs6, HB46.out.trans (hb7.mono hs6)⟩
    · intro h; have := hown7 g5 h; omega
    · intro h; have := hown7 g6 h; omega
    · simp only [List.take_zero, List.map_nil, List.append_nil]; exact HR56.out.below hb7
    · simp only [List.take_zero, List.append_nil]; exact HR6.out.below hb7)
  have HEBD := Lib.hid hebd
  have HM4 := Lib.hid hm4
  rw [hm4] at HKN hcp7 he8 ⊢
  clear hrow7 hb7 hown7 hebd hm4 hBS7 HBZ HR56 HR6 ho5 ho6 ho56 hne56 HB06 HB46 hs5 hs6
  go_wp2_with fail
  go_loopw [18, 19, 21] (fun late more i wx => KnAt w4 bs E pd m4 (.slice a7 m4 cp7) late more i wx) (fun _ _ i _ => m4 - (intOf i).toNat)
  case atStart => exact HKN.out
  case round =>
    obtain ⟨j, gl, cl, gm, cm, hj, rfl, rfl, rfl, hne, hel, hem, hrl, hrm, hre, hbw⟩ := hrel
    have hn0 : (0 : Int) ≤ (j : Int) := by omega
    have hol := hrl.own
    have hom := hrm.own
    by_cases hlt : j < m4
    · obtain ⟨b, hb⟩ : ∃ b, E[j]? = some b := ⟨_, List.getElem?_eq_getElem (by rw [HM4.out]; exact hlt)⟩
      obtain ⟨hb0, hb1, -⟩ := HEBD.out b (List.mem_of_getElem? hb)
      have hre' : BRow wr w4.heap.size (.slice a7 E.length cp7) E := by rw [HM4.out]; exact hre
      obtain ⟨av, cv, hv, -, hBSE, -⟩ := hre'.isSlice
      injection hv with e1 e2 e3
      subst e1
      clear e2 e3
      obtain ⟨ge, go, rfl, hge, y0, y1, y2, y3⟩ := hBSE j b hb
      have hoe := hre.own
      have hgle : ge ≠ gl := fun h => hel (by rw [← h]; rfl)
      have hgme : ge ≠ gm := fun h => hem (by rw [← h]; rfl)
      have n1 : (j : Int) < (m4 : Int) := by omega
      have hd : decide ((j : Int) < (m4 : Int)) = true := by rw [decide_eq_true_iff]; omega
      have hd2 : decide (j < m4) = true := by rw [decide_eq_true_iff]; omega
      have HRL := Lib.hid hrl
      have HRM := Lib.hid hrm
      have HRE := Lib.hid hre
      have HBW := Lib.hid hbw
      have HEJ := Lib.hid hb
      have hsw := hbw.size
      have hlen1 : (bs ++ (E.take j).map (lateB pd)).length = m3 + j := by rw [List.length_append, List.length_map, List.length_take, HM3.out, HM4.out]; omega
      have hlen2 : (bs ++ E.take j).length = m3 + j := by rw [List.length_append, List.length_take, HM3.out, HM4.out]; omega
      have HL1 := Lib.hid hlen1
      have HL2 := Lib.hid hlen2
      clear hb hre' hBSE hrl hrm hre hbw hel hem hlen1 hlen2
      go_upto_region 14 with fail
      obtain ⟨P, hP⟩ : ∃ P, wr.heap.size = P := ⟨_, rfl⟩
      obtain ⟨wa, hwa⟩ : ∃ wa, wr.alloc (.cells #[.int .i64 b.hash, .int .i64 b.wit, .int .i64 b.frm, .int .i64 b.known] 48) = wa := ⟨_, rfl⟩
      have hba : wa.heap[P]? = some (.cells #[.int .i64 b.hash, .int .i64 b.wit, .int .i64 b.frm, .int .i64 b.known] 48 (0, 0)) := by rw [← hwa]; exact heap_last' _ _ hP
      have HRLa : Hid (BRow wa w4.heap.size (.slice (some ⟨gl, 0, none⟩) (bs.length + j) cl) (bs ++ (E.take j).map (lateB pd))) := Lib.hid (by rw [← hwa]; exact HRL.out.alloc _)
      have HRMa : Hid (BRow wa w4.heap.size (.slice (some ⟨gm, 0, none⟩) (bs.length + j) cm) (bs ++ E.take j)) := Lib.hid (by rw [← hwa]; exact HRM.out.alloc _)
      have HREa : Hid (BRow wa w4.heap.size (.slice (some ⟨ge, go, none⟩) m4 cp7) E) := Lib.hid (by rw [← hwa]; exact HRE.out.alloc _)
      have hBa : Below w4.heap.size w4 wa := by rw [← hwa]; exact HBW.out.alloc hsw _
      have hsa : wa.heap.size = P + 1 := by rw [← hwa, size_alloc, hP]
      rw [hwa, hP]
      rw [hP] at hol hom hoe hsw
      have HBA := Lib.hid hBa
      have HBAK := Lib.hid hba
      have z0 : wa.cell? ⟨P, 0, none⟩ = some (.int .i64 b.hash) := by rw [Lib.cell_of_heap hba]; rfl
      have z1 : wa.cell? ⟨P, 1, none⟩ = some (.int .i64 b.wit) := by rw [Lib.cell_of_heap hba]; rfl
      have z2 : wa.cell? ⟨P, 2, none⟩ = some (.int .i64 b.frm) := by rw [Lib.cell_of_heap hba]; rfl
      have z3 : wa.cell? ⟨P, 3, none⟩ = some (.int .i64 b.known) := by rw [Lib.cell_of_heap hba]; rfl
      obtain ⟨M2, hM2⟩ : ∃ M2, M2 = bs ++ E.take (j + 1) := ⟨_, rfl⟩
      obtain ⟨M1, hM1⟩ : ∃ M1, M1 = bs ++ (E.take (j + 1)).map (lateB pd) := ⟨_, rfl⟩
      have HT2 := Lib.hid (show M2 = (bs ++ E.take j) ++ [b] by rw [hM2, take_more HEJ.out, List.append_assoc])
      have HT1 := Lib.hid (show M1 = (bs ++ (E.take j).map (lateB pd)) ++ [lateB pd b] by rw [hM1, take_more HEJ.out, List.map_append, ← List.append_assoc]; rfl)
      have HE2 := Lib.hid hM2
      have HE1 := Lib.hid hM1
      have HG2 := Lib.hid (show M2.length = bs.length + (j + 1) by rw [hM2, List.length_append, List.length_take, HM4.out]; omega)
      have HG1 := Lib.hid (show M1.length = bs.length + (j + 1) by rw [hM1, List.length_append, List.length_map, List.length_take, HM4.out]; omega)
      have HSA := Lib.hid hsa
      have hs4a : w4.heap.size ≤ wa.heap.size := by omega
      clear hwa hba hBa hsa y0 y1 y2 y3 hP hM1 hM2
      go_upto_region 15 with (at_builtin; refine append_breaks rfl _ _ rfl (by rfl) (base := w4.heap.size) (L := bs ++ E.take j) (X := [b]) (M := M2) (HRMa.out.alloc _) (by rw [size_alloc]; omega) (by rw [HL2.out]; omega) (by rfl) (brs_block (heap_last' _ _ rfl)) (by rfl) (by omega) (by omega) HT2.out ?_; intro g8 c8 w8 hrow8 hb8 hgr8 hor8)
      obtain ⟨wb, hwb⟩ : ∃ wb, wa.alloc (.cells #[.int .i64 b.hash, .int .i64 b.wit, .int .i64 b.frm, .int .i64 b.known] 48) = wb := ⟨_, rfl⟩
      rw [hwb] at hb8 hgr8 hor8
      have hsb : wb.heap.size = P + 2 := by rw [← hwb, size_alloc, HSA.out]
      have hbb : wb.heap[P]? = some (.cells #[.int .i64 b.hash, .int .i64 b.wit, .int .i64 b.frm, .int .i64 b.known] 48 (0, 0)) := by
        rw [← hwb, Go.heap_alloc_old wa _ P (by have := HSA.out; omega)]; exact HBAK.out
      have hg8 : g8 ≠ gl ∧ g8 ≠ ge ∧ g8 ≠ P := by
        rcases hor8 with h | h
        · have h' : gm = g8 := Option.some.inj h
          refine ⟨by omega, by omega, by omega⟩
        · rw [hsb] at h; refine ⟨by omega, by omega, by omega⟩
      have HB8 : Hid (Below w4.heap.size w4 w8) := Lib.hid (by rw [← hwb] at hb8; exact (HBA.out.alloc hs4a _).trans hb8)
      have HRL8 : Hid (BRow w8 w4.heap.size (.slice (some ⟨gl, 0, none⟩) (bs.length + j) cl) (bs ++ (E.take j).map (lateB pd))) := Lib.hid (by
        have h := HRLa.out.alloc (.cells #[.int .i64 b.hash, .int .i64 b.wit, .int .i64 b.frm, .int .i64 b.known] 48)
        rw [hwb] at h
        exact h.kept hgr8 (by show some gl ≠ some gm; intro h; injection h with h; exact hne h))
      have HRE8 : Hid (BRow w8 w4.heap.size (.slice (some ⟨ge, go, none⟩) m4 cp7) E) := Lib.hid (by
        have h := HREa.out.alloc (.cells #[.int .i64 b.hash, .int .i64 b.wit, .int .i64 b.frm, .int .i64 b.known] 48)
        rw [hwb] at h
        exact h.kept hgr8 (by show some ge ≠ some gm; intro h; injection h with h; exact hgme h))
      have hbk8 : w8.heap[P]? = some (.cells #[.int .i64 b.hash, .int .i64 b.wit, .int .i64 b.frm, .int .i64 b.known] 48 (0, 0)) := (hgr8.block P (by omega) (by show some P ≠ some gm; intro h; injection h with h; omega)).trans hbb
      have hs8 : P + 2 ≤ w8.heap.size := by have := hgr8.size; omega
      have HR8 := Lib.hid hrow8
      have HBK8 := Lib.hid hbk8
      have z3' : w8.cell? ⟨P, 3, none⟩ = some (.int .i64 b.known) := by rw [Lib.cell_of_heap hbk8]; rfl
      have zf : w8.frozen? ⟨P, 3, none⟩ = false := by simp [World.frozen?, hbk8]
      obtain ⟨hg81, hg82, hg83⟩ := hg8
      have ho8 := hrow8.own
      clear hwb hsb hbb hb8 hgr8 hor8 hrow8 hbk8 z0 z1 z2 z3
      go_upto_region 16 with fail
      have hbk9 : (w8.setCell ⟨P, 3, none⟩ (.int .i64 (pd + 1 + b.known))).heap[P]? = some (.cells #[.int .i64 b.hash, .int .i64 b.wit, .int .i64 b.frm, .int .i64 (pd + 1 + b.known)] 48 (0, 0)) := Go.heap_setCell_same w8 P 3 _ _ (.int .i64 (pd + 1 + b.known)) HBK8.out
      have HB9 := Lib.hid (HB8.out.setCell (p := ⟨P, 3, none⟩) (show w4.heap.size ≤ P by omega) (.int .i64 (pd + 1 + b.known)))
      have HRL9 := Lib.hid (HRL8.out.heap_of fun q (hq : some gl = some q) => Go.heap_setCell_other w8 ⟨P, 3, none⟩ q (.int .i64 (pd + 1 + b.known)) (by injection hq with hq; show q ≠ P; omega))
      have HRE9 := Lib.hid (HRE8.out.heap_of fun q (hq : some ge = some q) => Go.heap_setCell_other w8 ⟨P, 3, none⟩ q (.int .i64 (pd + 1 + b.known)) (by injection hq with hq; show q ≠ P; omega))
      have HR9 := Lib.hid (HR8.out.heap_of fun q (hq : some g8 = some q) => Go.heap_setCell_other w8 ⟨P, 3, none⟩ q (.int .i64 (pd + 1 + b.known)) (by injection hq with hq; show q ≠ P; omega))
      have hs9 : (w8.setCell ⟨P, 3, none⟩ (.int .i64 (pd + 1 + b.known))).heap.size = w8.heap.size := World.size_setCell _ _ _
      generalize w8.setCell ⟨P, 3, none⟩ (.int .i64 (pd + 1 + b.known)) = w9 at *
      have hs49 : w4.heap.size ≤ w9.heap.size := by omega
      have v0 : w9.cell? ⟨P, 0, none⟩ = some (.int .i64 b.hash) := by rw [Lib.cell_of_heap hbk9]; rfl
      have v1 : w9.cell? ⟨P, 1, none⟩ = some (.int .i64 b.wit) := by rw [Lib.cell_of_heap hbk9]; rfl
      have v2 : w9.cell? ⟨P, 2, none⟩ = some (.int .i64 b.frm) := by rw [Lib.cell_of_heap hbk9]; rfl
      have v3 : w9.cell? ⟨P, 3, none⟩ = some (.int .i64 (pd + 1 + b.known)) := by rw [Lib.cell_of_heap hbk9]; rfl
      clear hbk9 hs9 z3' zf
      go_wp2_with (at_builtin; refine append_breaks rfl _ _ rfl (by rfl) (base := w4.heap.size) (L := bs ++ (E.take j).map (lateB pd)) (X := [lateB pd b]) (M := M1) (HRL9.out.alloc _) (by rw [size_alloc]; omega) (by rw [HL1.out]; omega) (by rfl) (brs_block (heap_last' _ _ rfl)) (by rfl) (by omega) (by omega) HT1.out ?_; intro g10 c10 w10 hrow10 hb10 hgr10 hor10)
      have ho9 := HR9.out.own
      have hoe9 := HRE9.out.own
      have hg10 : g10 ≠ g8 ∧ g10 ≠ ge := by
        rcases hor10 with h | h
        · have h' : gl = g10 := Option.some.inj h
          exact ⟨by omega, by omega⟩
        · rw [size_alloc] at h; exact ⟨by omega, by omega⟩
      obtain ⟨hg101, hg102⟩ := hg10
      have HREL : Hid (KnAt w4 bs E pd m4 (.slice (some ⟨ge, go, none⟩) m4 cp7) (.slice (some ⟨g10, 0, none⟩) M1.length c10) (.slice (some ⟨g8, 0, none⟩) M2.length c8) (.int .i64 ((j : Int) + 1)) w10) := Lib.hid (by
        refine ⟨j + 1, g10, c10, g8, c8, by omega, by push_cast; rfl, by rw [HG1.out], by rw [HG2.out], hg101, ?_, ?_, ?_, ?_, ?_, (HB9.out.alloc hs49 _).trans hb10⟩
        · intro h; exact hg102 (Option.some.inj h).symm
        · intro h; exact hg82 (Option.some.inj h).symm
        · rw [← HE1.out]; exact hrow10
        · rw [← HE2.out]
          exact (HR9.out.alloc _).kept hgr10 (fun h => hg81 (Option.some.inj h))
        · exact (HRE9.out.alloc _).kept hgr10 (fun h => hgle (Option.some.inj h)))
      clear hor10 hgr10 hb10 hrow10
      go_roundw
      case rel => exact HREL.out
      case measure => simp [intOf]; omega
    · obtain rfl : j = m4 := by omega
      have hd : decide ((j : Int) < (j : Int)) = false := by simp
      have hd2 : decide (j < j) = false := by simp
      have htk : E.take j = E := by rw [← HM4.out, List.take_length]
      rw [htk] at hrl hrm
      have hl1 : (bs ++ E.map (lateB pd)).length = m3 + j := by rw [List.length_append, List.length_map, HM3.out, HM4.out]
      have hl2 : (bs ++ E).length = m3 + j := by rw [List.length_append, HM3.out, HM4.out]
      rw [HM3.out] at hrl hrm ⊢
      have HB11 := Lib.hid (HB4.out.trans (hbw.mono HB4.out.size))
      have HS11 := Lib.hid (HS4.out.below hbw)
      have HBS11 := Lib.hid (HBS4.out.below hbw)
      have HBK11 := Lib.hid ((hbw.block w.heap.size (Array.getElem?_eq_some_iff.1 HBK4.out).1).trans HBK4.out)
      have HBL : Hid (BrS wr (some ⟨gl, 0, none⟩) (bs ++ E.map (lateB pd))) := Lib.hid (by rw [← hl1] at hrl; exact hrl.sts)
      have HBMO : Hid (BrS wr (some ⟨gm, 0, none⟩) (bs ++ E)) := Lib.hid (by rw [← hl2] at hrm; exact hrm.sts)
      have HLATE := Lib.hid (since_late (lateB_mem (day := pd) (E := E) (fun b hb => (HEBD.out b hb).1)) L V (bs := bs))
      have HS2L := Lib.hid (since_any V a2 cp2 L (some ⟨gl, 0, none⟩) cl (bs ++ E.map (lateB pd)) pd wr HS11.out (by rw [HN.out]; omega) (by rw [HN.out]; exact hcp2) (by omega) HBL.out (by rw [hl1]; omega) (HRA.out wr HB11.out).1 (HRA.out wr HB11.out).2)
      rw [HLATE.out, HR.out, HXV.out, HN.out, hl1] at HS2L
      obtain ⟨r2, hr2⟩ : ∃ r2, since L V (bs ++ E) pd = r2 := ⟨_, rfl⟩
      obtain ⟨x2, ok2, hx2, hok2⟩ : ∃ x ok, dayV r2 = .tuple #[.int .i64 x, .bool ok] ∧ r2 = (if ok = true then some x else none) := by
        cases r2 with
        | none => exact ⟨0, false, rfl, rfl⟩
        | some x => exact ⟨x, true, rfl, rfl⟩
      have HS3M : Hid (∀ W, Below wr.heap.size wr W → Calls Tryd.prog 14 #[.slice a2 n1 cp2, .string ⟨V.toArray⟩, .slice (some ⟨gm, 0, none⟩) (m3 + j) cm, .int .i64 pd] W fun e w' => e = .returned (.tuple #[.int .i64 x2, .bool ok2]) ∧ Below W.heap.size W w') := Lib.hid (by
        intro W hW
        have hb' := HB11.out.trans (hW.mono HB11.out.size)
        have h := since_any V a2 cp2 L (some ⟨gm, 0, none⟩) cm (bs ++ E) pd W (HS11.out.below hW) (by rw [HN.out]; omega) (by rw [HN.out]; exact hcp2) (by omega) (HBMO.out.below hW) (by rw [hl2]; omega) (HRA.out W hb').1 (HRA.out W hb').2
        rw [hr2, hx2, HN.out, hl2] at h
        exact h)
      have hmore : Hid (ok2 = true → ok = true ∧ x ≤ x2) := Lib.hid (by
        intro h
        rw [hok2, if_pos h] at hr2
        obtain ⟨a, ha, hle⟩ := since_more hr2
        have := HR.out
        rw [ha, HOK.out] at this
        cases ok with
        | false => cases this
        | true => injection this with this; exact ⟨rfl, by omega⟩)
      clear hrl hrm hre hel hem hbw htk hl1 hl2 hr2 hx2 hok2 HKN
      go_wp2_with fail
      refine HS2L.out.mono ?_
      rintro e w11 ⟨rfl, hb11⟩
      have HB1' := Lib.hid hb11
      clear hb11 HS2L
      go_wp2_with fail
      refine (HS3M.out w11 HB1'.out).mono ?_
      rintro e w12 ⟨rfl, hb12⟩
      have HB12 := Lib.hid (HB1'.out.trans (hb12.mono HB1'.out.size))
      have HB012 := Lib.hid (HB11.out.trans (HB12.out.mono HB11.out.size))
      clear hb12 HS3M
      have HX12 : Hid (wr.heap.size ≤ w12.heap.size) := Lib.hid HB12.out.size
      cases ok with
      | false =>
        cases ok2 with
        | true =>
          exfalso
          have := (hmore.out rfl).1
          cases this
        | false =>
          go_wp2_with fail
          go_ret
          exact ⟨rfl, HB012.out⟩
      | true =>
        have hsx : since L V bs pd = some x := by rw [HR.out, HOK.out]; rfl
        have hchk : check L V = true := by
          cases hc : check L V with
          | true => rfl
          | false => rw [since_no hc] at hsx; cases hsx
        have hpos : 0 < n1 := by
          rw [← HN.out]
          exact List.length_pos_iff.2 ((check_iff _ _).1 hchk).1
        obtain ⟨p1, hp1'⟩ : ∃ p1, n1 = p1 + 1 := ⟨n1 - 1, by omega⟩
        obtain ⟨z, hz⟩ : ∃ s, L[p1]? = some s := ⟨_, List.getElem?_eq_getElem (by rw [HN.out]; omega)⟩
        have HS12 := Lib.hid (HS11.out.below HB12.out)
        obtain ⟨ga, oa, rfl, hga⟩ := HS12.out.some (by rw [HN.out]; exact hpos)
        obtain ⟨-, z0, -, -, -⟩ := HS12.out.get p1 z hz
        obtain ⟨zv0, zv1, -⟩ := (valid_iff z).1 (check_valid hchk hz)
        have hbk12 := (HB12.out.block w.heap.size (Array.getElem?_eq_some_iff.1 HBK11.out).1).trans HBK11.out
        have q0 : w12.cell? ⟨w.heap.size, 0, none⟩ = some (.int .i64 c0) := by rw [Lib.cell_of_heap hbk12]; rfl
        have e1 : (n1 : Int) - 1 = (p1 : Int) := by omega
        have e3 : IntKind.i64.wrap (p1 : Int) = (p1 : Int) := IntWalk.i64_in _ (by omega)
        have i1 : (p1 : Int) < (n1 : Int) := by omega
        have i3 : p1 < n1 := by omega
        have i5 : (0 : Int) ≤ (p1 : Int) := by omega
        have d2 : decide (p1 < n1) = true := by rw [decide_eq_true_iff]; omega
        have hk1 := pick_lo (c := c0) (n := 8) (by omega)
        have hk2 := pick_hi (c := c0) (n := 8) (by omega)
        have HPK := Lib.hid (fun W => pick_any c0 8 W HC0.out (by omega) (by omega))
        generalize pick c0 8 = pk at *
        have HSX := Lib.hid hsx
        have HCHK := Lib.hid hchk
        have HPP := Lib.hid hp1'
        have HZ1 := Lib.hid hz
        have HBS12 := Lib.hid (HBS11.out.below HB12.out)
        have HX21 : Hid (ok2 = true → decide (x2 < x) = false) := Lib.hid (fun h => by
          have := (hmore.out h).2
          rw [decide_eq_false_iff_not]; omega)
        clear hsx hchk hpos hp1' hz hbk12 HS11 HBS11 hga
        by_cases hzd : pd < z.day
        · have hzd2 : decide (pd < z.day) = true := decide_eq_true hzd
          cases ok2
          all_goals
            first
              | (have hx21 := HX21.out rfl
                 clear HX21 hmore hzd
                 go_wp2_with fail
                 go_ret
                 exact ⟨rfl, HB012.out⟩)
              | (clear HX21 hmore hzd
                 go_wp2_with fail
                 go_ret
                 exact ⟨rfl, HB012.out⟩)
        · have hzd2 : decide (pd < z.day) = false := decide_eq_false hzd
          have hval := valid_full pd pk (by omega) (by omega) hk1 (by omega)
          have hren : renew L V (bare pd pk 255) = some (L ++ [sealed L V (bare pd pk 255)]) := by
            have hcan : canNext L (bare pd pk 255) = true := (canNext_iff _ _).2 ⟨hval, by
              rw [lastDay_end L p1 z HZ1.out (by rw [HN.out]; exact HPP.out)]
              show z.day ≤ pd
              omega⟩
            rw [renew, if_pos HCHK.out, next, if_pos hcan]
          have HADD := Lib.hid (fun c (h : since (L ++ [sealed L V (bare pd pk 255)]) V bs pd = some c) => since_added (n := p1) (day := pd) (by rw [HN.out]; exact HPP.out) HZ1.out (show z.day ≤ pd by omega) rfl hval HSX.out h)
          have hml : (L ++ [sealed L V (bare pd pk 255)]).length = n1 + 1 := by rw [List.length_append, HN.out]; rfl
          have HRN := Lib.hid (renew_any V (some ⟨ga, oa, none⟩) cp2 L pd pk 255 w12 HS12.out (by rw [HN.out]; omega) (by omega) (HRA.out w12 HB012.out).1 (HRA.out w12 HB012.out).2)
          rw [hren, HN.out] at HRN
          generalize L ++ [sealed L V (bare pd pk 255)] = M at *
          have HML := Lib.hid hml
          clear hml hren hval hzd
          have hx21 : ok2 = false ∨ (ok2 = true ∧ decide (x2 < x) = false) := by
            cases ok2 with
            | false => exact .inl rfl
            | true => exact .inr ⟨rfl, HX21.out rfl⟩
          clear HX21 hmore
          rcases hx21 with rfl | ⟨rfl, hx21⟩
          all_goals
            go_wp2_with fail
            refine (HPK.out w12).mono ?_
            rintro e w13 ⟨rfl, rfl⟩
            go_wp2_with fail
            refine HRN.out.mono ?_
            rintro e w13 ⟨hb13, g13, c13, rfl, hrow13⟩
            have HB13 := Lib.hid (HB012.out.trans (hb13.mono HB012.out.size))
            have hc13 := hrow13.cap
            have HS13 := Lib.hid hrow13.sts
            have HBS13 := Lib.hid (HBS12.out.below hb13)
            obtain ⟨r4, hr4⟩ : ∃ r4, since M V bs pd = r4 := ⟨_, rfl⟩
            obtain ⟨x4, ok4, hx4, hok4⟩ : ∃ x ok, dayV r4 = .tuple #[.int .i64 x, .bool ok] ∧ r4 = (if ok = true then some x else none) := by
              cases r4 with
              | none => exact ⟨0, false, rfl, rfl⟩
              | some x => exact ⟨x, true, rfl, rfl⟩
            have HS4 := Lib.hid (since_any V (some ⟨g13, 0, none⟩) c13 M b3 cp3 bs pd w13 HS13.out (by rw [HML.out]; omega) hc13 (by omega) HBS13.out (by rw [HM3.out]; omega) (HRA.out w13 HB13.out).1 (HRA.out w13 HB13.out).2)
            rw [hr4, hx4, HM3.out, HML.out] at HS4
            have hfin : ok4 = false ∨ (ok4 = true ∧ x4 = x) := by
              cases ok4 with
              | false => exact .inl rfl
              | true => exact .inr ⟨rfl, HADD.out x4 (by rw [hr4, hok4, if_pos rfl])⟩
            rw [HML.out]
            clear hb13 hrow13 hr4 hx4 hok4 HRN hc13
            rcases hfin with rfl | ⟨rfl, rfl⟩
            all_goals
              go_wp2_with fail
              refine HS4.out.mono ?_
              rintro e w14 ⟨rfl, hb14⟩
              have HB14 := Lib.hid (HB13.out.trans (hb14.mono HB13.out.size))
              clear hb14
              go_wp2_with fail
              go_ret
              exact ⟨rfl, HB14.out⟩
end Go.Proofs.YtkihcigojhcmgaaDoor
