/- Stamps in memory; newScroll; the value that a stamp must have; Covered. What a stamp covers, by the reference. Check of the reference. The closures of Check, and slices' ContainsFunc, IsSortedFunc at stamps. Check of the program. -/
import Derived.Test.YtkihcigojhcmgaaDoorG09
import Derived.BigQuiet
import Derived.Deep.DrawnRows
namespace Go.Proofs.YtkihcigojhcmgaaDoor
open Go.RowKit
set_option maxRecDepth 100000

/-- A stamp in memory. -/
def stAt (W : World) (b o : Nat) (s : Stp) : Prop :=
  W.cell? ⟨b, o, none⟩ = some (.int .i64 s.day) ∧ W.cell? ⟨b, o + 1, none⟩ = some (.int .i64 s.hash) ∧ W.cell? ⟨b, o + 2, none⟩ = some (.int .i64 s.wit) ∧ W.cell? ⟨b, o + 3, none⟩ = some (.string ⟨s.val.toArray⟩)
/-- Stamps that a slice holds. -/
def StS (W : World) (a : Option Addr) (L : List Stp) : Prop := ∀ i s, L[i]? = some s → ∃ b o, a = some ⟨b, o, none⟩ ∧ b < W.heap.size ∧ stAt W b (o + i * 4) s
theorem stAt.below {W W1 : World} {b o : Nat} {s : Stp} (h : stAt W b o s) (hb : b < W.heap.size) (hw : Below W.heap.size W W1) : stAt W1 b o s :=
  ⟨((bcell hw).1 b _ hb).trans h.1, ((bcell hw).1 b _ hb).trans h.2.1, ((bcell hw).1 b _ hb).trans h.2.2.1, ((bcell hw).1 b _ hb).trans h.2.2.2⟩
theorem StS.below {W W1 : World} {a : Option Addr} {L : List Stp} (h : StS W a L) (hw : Below W.heap.size W W1) : StS W1 a L := by
  intro i s hi
  obtain ⟨b, o, ha, hb, hs⟩ := h i s hi
  exact ⟨b, o, ha, Nat.lt_of_lt_of_le hb hw.size, hs.below hb hw⟩
theorem StS.nil (W : World) (a : Option Addr) : StS W a [] := by intro i s hi; simp at hi
/-- What the walks ask of a stamp: numbers that wire writes, a short value. -/
def fine (s : Stp) : Prop := Enc s.day ∧ Enc s.hash ∧ Enc s.wit ∧ s.val.length ≤ 1000
theorem encS_le9 (v : List UInt8) : (encS v).length ≤ 9 + v.length := by
  have := enc_len (v.length : Int)
  have h2 : (encS v).length = (enc (v.length : Int)).length + v.length := by simp [encS]
  omega
theorem heap_last (w : World) (o : Obj) : (w.alloc o).heap[w.heap.size]? = some o := by
  show (w.heap.push o)[w.heap.size]? = some o
  exact Array.getElem?_push_size
theorem nums_len (s : Stp) : (nums s).length ≤ 27 := by
  have h1 := enc_len s.day
  have h2 := enc_len s.hash
  have h3 := enc_len s.wit
  simp only [nums, List.length_append]; omega
theorem part_len (s : Stp) (h : s.val.length ≤ 1000) : (part s).length ≤ 1036 := by
  have h1 := nums_len s
  have h2 := encS_le9 s.val
  simp only [part, List.length_append]; omega
theorem parts_len (L : List Stp) (h : ∀ s ∈ L, s.val.length ≤ 1000) : (L.map part).flatten.length ≤ 1036 * L.length := by
  induction L with
  | nil => simp
  | cons a L ih =>
    have h1 := part_len a (h a (by simp))
    have h2 := ih (fun s hs => h s (by simp [hs]))
    simp only [List.map_cons, List.flatten_cons, List.length_append, List.length_cons]; omega
theorem cov_take (v : List UInt8) (L : List Stp) (j : Nat) (s : Stp) (h : L[j]? = some s) : cov v (L.take (j + 1)) = (cov v (L.take j) ++ nums s) ++ encS s.val := by
  rw [List.take_add_one, h]
  simp [cov, part]
theorem cov_len (v : List UInt8) (L : List Stp) (hv : v.length ≤ 1000) (hL : L.length ≤ 64) (h : ∀ s ∈ L, s.val.length ≤ 1000) : (cov v L).length ≤ 70000 := by
  have h1 := parts_len L h
  have h2 := encS_le9 v
  simp only [cov, List.length_append]; omega

theorem scr_new (w : World) : Scr w.heap.size w.heap.size [] (w.alloc (.cells #[.pointer none, .slice none 0 0] 101)) := by
  refine .inl ⟨Nat.le_refl _, .slice none 0 0, heap_last _ _, World.ownsRowF_nil _ _ _ _, by simp [Value.ownBlock]⟩

set_option maxHeartbeats 1000000 in
theorem newScroll_any (v : List UInt8) (a : Option Addr) (c : Nat) (L : List Stp) (w : World) (hS : StS w a L) (hF : ∀ s ∈ L, fine s) (hL : L.length ≤ 64) (hv : v.length ≤ 1000) :
    Calls Tryd.prog 44 #[.string ⟨v.toArray⟩, .slice a L.length c] w fun e w' => e = .returned (.pointer (some ⟨w.heap.size, 0, none⟩)) ∧ (Scr w.heap.size w.heap.size (cov v L) w' ∧ Below w.heap.size w w') := by
  obtain ⟨m, hm⟩ : ∃ m, L.length = m := ⟨_, rfl⟩
  rw [hm] at hL ⊢
  have HM := Lib.hid hm
  have HS := Lib.hid hS
  have HF := Lib.hid hF
  clear hm hS hF
  have HN := Lib.hid (scr_new w)
  have HBA := Lib.hid ((Below.refl w.heap.size w).alloc (Nat.le_refl _) (.cells #[.pointer none, .slice none 0 0] 101))
  go_enter Tryd.func44, Tryd.ntmps44
  go_wp2_with fail
  refine (text_any w.heap.size w.heap.size [] ⟨v.toArray⟩ _ HN.out (by rw [str_size]; omega) (by simp) HBA.out.size).mono ?_
  rintro e w1 ⟨rfl, h1, hk1⟩
  have h1' : Scr w.heap.size w.heap.size (cov v (L.take 0)) w1 := by simpa [cov] using h1
  clear h1
  have H1 := Lib.hid h1'
  clear h1'
  have HB1 := Lib.hid (HBA.out.trans hk1.1)
  clear hk1
  go_wp2_with fail
  go_loopw [15] (fun i wx => ∃ j : Nat, j ≤ m ∧ i = .int .i64 j ∧ Scr w.heap.size w.heap.size (cov v (L.take j)) wx ∧ Below w.heap.size w wx) (fun i _ => m - (intOf i).toNat)
  case atStart => exact ⟨0, by omega, rfl, H1.out, HB1.out⟩
  case round =>
    obtain ⟨j, hj, rfl, hs, hb⟩ := hrel
    have hc := Lib.hid hs
    have hB := Lib.hid hb
    have hsz := hb.size
    clear hs
    by_cases hlt : j < m
    · obtain ⟨s, hsj⟩ : ∃ s, L[j]? = some s := ⟨_, List.getElem?_eq_getElem (by rw [HM.out]; exact hlt)⟩
      obtain ⟨b, o, rfl, hbl, x0, x1, x2, x3⟩ := (HS.out.below hb) j s hsj
      have hfine := HF.out s (List.mem_of_getElem? hsj)
      obtain ⟨f1, f2, f3, f4⟩ := hfine
      have HT := Lib.hid (cov_take v L j s hsj)
      have hln : (cov v (L.take j)).length ≤ 70000 := cov_len v _ hv (by rw [List.length_take]; omega) (fun s hs => (HF.out s (List.mem_of_mem_take hs)).2.2.2)
      have hnl := nums_len s
      have G1 := Lib.hid f1
      have G2 := Lib.hid f2
      have G3 := Lib.hid f3
      clear f1 f2 f3 hsj hb
      have n0 : (0 : Int) ≤ (j : Int) := by omega
      have n1 : (j : Int) < (m : Int) := by omega
      have hd : decide ((j : Int) < (m : Int)) = true := by rw [decide_eq_true_iff]; omega
      have hd2 : decide (j < m) = true := by rw [decide_eq_true_iff]; omega
      go_wp2_with fail
      have hne : some wr.heap.size ≠ some w.heap.size := by
        intro h; have := HN.out.lt; have := hc.out.lt; injection h; omega
      refine (numbers_any w.heap.size w.heap.size _ s _ (hc.out.alloc _) G1.out G2.out G3.out (by omega) (by simp; omega)).mono ?_
      rintro e w2 ⟨rfl, h2, hk2⟩
      have hblk := hk2.2 wr.heap.size _ (heap_last _ _) hne (by intro c fz h; cases h)
      have hsz2 := hk2.1.size
      have y3 : w2.cell? ⟨wr.heap.size, 3, none⟩ = some (.string ⟨s.val.toArray⟩) := by rw [Lib.cell_of_heap hblk]; rfl
      have H2 := Lib.hid h2
      have K2 := Lib.hid ((hB.out.alloc hsz _).trans hk2.1)
      have hsz3 := K2.out.size
      clear h2 hk2 hblk
      go_wp2_with fail
      refine (text_any w.heap.size w.heap.size _ ⟨s.val.toArray⟩ _ H2.out (by rw [str_size]; omega) (by rw [List.length_append]; omega) hsz3).mono ?_
      rintro e w3 ⟨rfl, h3, hk3⟩
      have H3 := Lib.hid h3
      have K3 := Lib.hid (K2.out.trans hk3.1)
      clear h3 hk3
      go_wp2_with fail
      exact ⟨⟨j + 1, by omega, by push_cast; rfl, by rw [HT.out]; exact H3.out, K3.out⟩, by simp [intOf]; omega⟩
    · obtain rfl : j = m := by omega
      have htl : L.take j = L := List.take_of_length_le (by rw [HM.out]; exact Nat.le_refl _)
      have hc' : Hid (Scr w.heap.size w.heap.size (cov v L) wr) := by rw [← htl]; exact hc
      have hd : decide ((j : Int) < (j : Int)) = false := by simp
      have hd2 : decide (j < j) = false := by simp
      go_wp2_with fail
      go_ret
      exact ⟨rfl, hc'.out, hb⟩

theorem RoundAt.belowB {B : Nat} {w w' : World} (h : RoundAt w) (hg : 0 < B) (hb : Below B w w') : RoundAt w' :=
  fun i hi => (hb.cell (p := ⟨0, i, none⟩) hg).trans (h i hi)
theorem nums_ne (s : Stp) : nums s ≠ [] := by
  intro h
  have h1 := congrArg List.length h
  have h2 := enc_pos s.day
  simp only [nums, List.length_append, List.length_nil] at h1
  omega

/-- What stands while a stamp's value is reckoned. -/
def VI (w : World) (B b : Nat) (l : List UInt8) (ob : Nat) (N : List UInt8) (k : Int) (wx : World) : Prop :=
  Scr B b l wx ∧ Scr ob ob N wx ∧ (∃ g cap, wx.cell? ⟨b, 1, none⟩ = some (.slice (some ⟨g, 0, none⟩) l.length cap) ∧ g < w.heap.size ∧ g ≠ b) ∧ wx.cell? ⟨w.heap.size, 1, none⟩ = some (.int .i64 k) ∧ Kpt B b w wx
theorem cell_block {w w' : World} {k : Nat} (h : w'.heap[k]? = w.heap[k]?) (o : Nat) : w'.cell? ⟨k, o, none⟩ = w.cell? ⟨k, o, none⟩ := World.cell?_of_block (w := w) h

theorem strA {w : World} {B b : Nat} {l : List UInt8} {N : List UInt8} {k : Int} (h0 : l ≠ []) (_hBw : B ≤ w.heap.size) (_hb : b < w.heap.size) (wx : World) (h : VI w B b l (w.heap.size + 1) N k wx) :
    Calls Tryd.prog 59 #[.pointer (some ⟨b, 0, none⟩)] wx fun e w' => e = .returned (.string ⟨l.toArray⟩) ∧ VI w B b l (w.heap.size + 1) N k w' := by
  obtain ⟨h1, h2, ⟨g, cap, hrow, hg, hgb⟩, hc, hk⟩ := h
  refine (str_k B b l wx h1 h0).mono ?_
  rintro e w' ⟨rfl, s1, s2, g', cap', hr', rfl⟩
  have hgg : g' = g := by
    rw [hrow] at hr'
    injection hr' with e1; injection e1 with e1 _ _; injection e1 with e1; injection e1 with e1 _ _; exact e1.symm
  subst hgg
  refine ⟨rfl, s1, ?_, ⟨g', cap, ?_, hg, hgb⟩, ?_, hk.trans s2⟩
  · exact Scr.freeze (w := wx.drew) h2 _ _ (by show g' < w.heap.size + 1; omega)
  · exact (cell_block (freeze_heap wx.drew _ _ _ (fun e => hgb e.symm)) 1).trans hrow
  · exact (cell_block (freeze_heap wx.drew _ _ _ (by show w.heap.size ≠ g'; omega)) 1).trans hc
theorem strB {w : World} {B b : Nat} {l : List UInt8} {N : List UInt8} {k : Int} (hN : N ≠ []) (hBw : B ≤ w.heap.size) (hb : b < w.heap.size) (wx : World) (h : VI w B b l (w.heap.size + 1) N k wx) :
    Calls Tryd.prog 59 #[.pointer (some ⟨w.heap.size + 1, 0, none⟩)] wx fun e w' => e = .returned (.string ⟨N.toArray⟩) ∧ VI w B b l (w.heap.size + 1) N k w' := by
  obtain ⟨h1, h2, ⟨g, cap, hrow, hg, hgb⟩, hc, hk⟩ := h
  refine (str_k _ _ N wx h2 hN).mono ?_
  rintro e w' ⟨rfl, s1, s2, -⟩
  refine ⟨rfl, h1.belowN (n := w.heap.size + 1) (by omega) hrow (by omega) s2.1, s1, ⟨g, cap, ?_, hg, hgb⟩, ?_, hk.step s2.1 hBw (by omega)⟩
  · exact (s2.1.cell (p := ⟨b, 1, none⟩) (by show b < w.heap.size + 1; omega)).trans hrow
  · exact (s2.1.cell (p := ⟨w.heap.size, 1, none⟩) (Nat.lt_succ_self _)).trans hc
theorem hashC {w : World} {B b : Nat} {l : List UInt8} {N : List UInt8} {k : Int} (hR : RoundAt w) (hg : 0 < B) (hln : (l ++ N).length ≤ 900000) (hBw : B ≤ w.heap.size) (hb : b < w.heap.size) (wx : World) (h : VI w B b l (w.heap.size + 1) N k wx) :
    Calls Tryd.prog 25 #[.int .i64 k, .string ⟨(l ++ N).toArray⟩] wx fun e w' => e = .returned (.string ⟨(hashV k (l ++ N)).toArray⟩) ∧ VI w B b l (w.heap.size + 1) N k w' := by
  obtain ⟨h1, h2, ⟨g, cap, hrow, hgl, hgb⟩, hc, hk⟩ := h
  have hsz := hk.1.size
  refine (hash_any k (l ++ N) wx (hR.belowB hg hk.1) (by omega) hln).mono ?_
  rintro e w' ⟨rfl, hb'⟩
  exact ⟨rfl, h1.below hb', h2.below hb', ⟨g, cap, (hb'.cell (p := ⟨b, 1, none⟩) h1.lt).trans hrow, hgl, hgb⟩, (hb'.cell (p := ⟨w.heap.size, 1, none⟩) (Nat.lt_of_succ_le (Nat.le_of_lt (Nat.lt_of_le_of_lt (Nat.le_refl _) h2.lt)))).trans hc, hk.step hb' hBw hsz⟩
theorem VI.drew {w : World} {B b : Nat} {l : List UInt8} {ob : Nat} {N : List UInt8} {k : Int} {wx : World} (h : VI w B b l ob N k wx) : VI w B b l ob N k wx.drew :=
  ⟨h.1, h.2.1, h.2.2.1, h.2.2.2.1, h.2.2.2.2.1.drew, h.2.2.2.2.2.drew⟩
/-- A region that draws its order: one walk of the text's order, in whatever world of a class. -/
theorem region_quietC {P : Program} {C : World → Prop} {id : Nat} {Q : Exit → Act → World → Prop} {a : Act} {w : World} {l : List Oper} (hm : P.follows .mixedOrders = true) (hB : Region.lexB .any l.toArray = true) (hC : C w.drew)
    (h : wpQuiet P l.toArray C (fun a' => ∀ w', C w' → Q .normal a' w') l a) : (Code.region id l.toArray true).wp P Q a w :=
  wp_region_quiet (C := C) hm hB hC (by simpa using h)
theorem size_alloc (w : World) (o : Obj) : (w.alloc o).heap.size = w.heap.size + 1 := Array.size_push _

attribute [local go_sem ↓] Go.wp_at_zero Go.wp_at_succ

set_option maxHeartbeats 400000 in
theorem value_any (s : Stp) (B b : Nat) (l : List UInt8) (w : World) (h : Scr B b l w) (h0 : l ≠ []) (hl : l.length ≤ 100000) (hf : fine s) (hw : RoundAt w) (hg : 0 < B) (hBw : B ≤ w.heap.size) :
    Calls Tryd.prog 45 #[stv s, .pointer (some ⟨b, 0, none⟩)] w fun e w' => e = .returned (.string ⟨(hashV s.hash (l ++ nums s)).toArray⟩) ∧ (Scr B b l w' ∧ Kpt B b w w') := by
  obtain ⟨g, cap, hrow, hgl, hgb⟩ := h.row h0
  have hbl := h.lt
  obtain ⟨f1, f2, f3, f4⟩ := hf
  have hnl := nums_len s
  have hnn := nums_ne s
  have F1 := Lib.hid f1
  have F2 := Lib.hid f2
  have F3 := Lib.hid f3
  clear f1 f2 f3
  have HNUM : ∀ w1, Scr (w.heap.size + 1) (w.heap.size + 1) [] w1 → w.heap.size + 1 ≤ w1.heap.size → Calls Tryd.prog 46 #[.pointer (some ⟨w.heap.size + 1, 0, none⟩), stv s] w1 fun e w' => e = .returned (.tuple #[]) ∧ (Scr (w.heap.size + 1) (w.heap.size + 1) (nums s) w' ∧ Kpt (w.heap.size + 1) (w.heap.size + 1) w1 w') := by
    intro w1 h1 h2
    refine (numbers_any _ _ [] s w1 h1 F1.out F2.out F3.out (by simp) h2).mono ?_
    rintro e w2 ⟨rfl, h3, h4⟩
    exact ⟨rfl, by simpa using h3, h4⟩
  have HA : ∀ wx, _ := strA (w := w) (B := B) (b := b) (l := l) (N := nums s) (k := s.hash) h0 hBw hbl
  have HB : ∀ wx, _ := strB (w := w) (B := B) (b := b) (l := l) (N := nums s) (k := s.hash) hnn hBw hbl
  have HC : ∀ wx, _ := hashC (w := w) (B := B) (b := b) (l := l) (N := nums s) (k := s.hash) hw hg (by rw [List.length_append]; omega) hBw hbl
  have HAP := Lib.hid (str_append l (nums s))
  have hle : (⟨l.toArray⟩ : ByteArray).size + (⟨(nums s).toArray⟩ : ByteArray).size ≤ 9223372036854775807 := by rw [str_size, str_size]; omega
  have hle2 : ¬ (9223372036854775807 < l.length + (nums s).length) := by omega
  have hVI : ∀ w1, Kpt (w.heap.size + 1) (w.heap.size + 1) ((w.alloc (.cells #[.int .i64 s.day, .int .i64 s.hash, .int .i64 s.wit, .string ⟨s.val.toArray⟩] 71)).alloc (.cells #[.pointer none, .slice none 0 0] 101)) w1 → Scr (w.heap.size + 1) (w.heap.size + 1) (nums s) w1 → VI w B b l (w.heap.size + 1) (nums s) s.hash w1 := by
    intro w1 hk hs
    have hbw : Below w.heap.size w w1 := (((Below.refl w.heap.size w).alloc (Nat.le_refl _) _).alloc (by rw [size_alloc]; omega) _).trans (hk.1.mono (by omega))
    refine ⟨h.below hbw, hs, ⟨g, cap, (hbw.cell (p := ⟨b, 1, none⟩) hbl).trans hrow, hgl, hgb⟩, ?_, (Kpt.of_below hbw).mono hBw⟩
    have h1 : w1.heap[w.heap.size]? = _ := (hk.1.block w.heap.size (by omega)).trans ((Lib.alloc_old _ _ _ (by rw [size_alloc]; omega)).trans (heap_last _ _))
    rw [Lib.cell_of_heap h1]; rfl
  have hnew := scr_new (w.alloc (.cells #[.int .i64 s.day, .int .i64 s.hash, .int .i64 s.wit, .string ⟨s.val.toArray⟩] 71))
  rw [size_alloc] at hnew
  have HNEW := Lib.hid hnew
  have HNU := Lib.hid HNUM
  have HAA := Lib.hid HA
  have HBB := Lib.hid HB
  have HCC := Lib.hid HC
  have HV := Lib.hid hVI
  clear hnew HNUM HA HB HC hVI h hw hrow
  obtain ⟨d, k, t, v⟩ := s
  simp only [stv] at *
  generalize nums ⟨d, k, t, v⟩ = N at *
  generalize hashV k (l ++ N) = H at *
  go_enter Tryd.func45, Tryd.ntmps45
  go_wp2_with fail
  refine (HNU.out _ HNEW.out (by rw [size_alloc, size_alloc]; omega)).mono ?_
  rintro e w1 ⟨rfl, h1, hk1⟩
  have hv0 := HV.out w1 hk1 h1
  clear HV HNU HNEW h1 hk1
  have hv := hv0.drew
  have hc1 : w1.drew.cell? ⟨w.heap.size, 1, none⟩ = some (.int .i64 k) := hv.2.2.2.1
  have V0 := Lib.hid hv
  clear hv hv0
  go_upto_region 3 with fail
  refine region_quietC (C := VI w B b l (w.heap.size + 1) N k) (by kernel_rfl) (by kernel_rfl) V0.out ?_
  have hVc : ∀ wx, VI w B b l (w.heap.size + 1) N k wx → wx.cell? ⟨w.heap.size, 1, none⟩ = some (.int .i64 k) := fun wx h => h.2.2.2.1
  have hVe : ∀ wx, VI w B b l (w.heap.size + 1) N k wx → Scr B b l wx ∧ Kpt B b w wx := fun wx h => ⟨h.1, h.2.2.2.2⟩
  have HVC := Lib.hid hVc
  have HVE := Lib.hid hVe
  clear hVc hVe
  generalize VI w B b l (w.heap.size + 1) N k = C at *
  repeat (
    refine wpQuiet_step (fun K hK => ?_)
    go_simp
    first
      | (refine hK _ ?_; clear hK K)
      | (apply Exists.intro
         refine ⟨fun wx hx => ?_, hK _ ?_⟩
         · first
           | (go_at_call_of 59 (Value.pointer (some (⟨b, 0, none⟩ : Addr))); exact HAA.out _ hx)
           | (go_at_call 59; exact HBB.out _ hx)
           | (go_at_call 25; rw [HAP.out]; exact HCC.out _ hx)
           | exact rfl
           | (have hc := HVC.out _ hx; go_simp; exact rfl)
         clear hK K))
  refine wpQuiet_nil ?_
  intro w' hw'
  have hfin := HVE.out _ hw'
  go_wp2_with fail
  go_ret
  exact ⟨rfl, hfin⟩
end Go.Proofs.YtkihcigojhcmgaaDoor

namespace Go.Proofs.YtkihcigojhcmgaaDoor
open Go.RowKit
set_option maxRecDepth 100000
attribute [local go_sem ↓] Go.wp_at_zero Go.wp_at_succ

theorem encs3 (d k t : Int) : encs [d, k, t] = (enc d ++ enc k) ++ enc t := by simp [encs]
theorem refNums3 (s : Stp) (b : Nat) (W : World) (h0 : W.cell? ⟨b, 0, none⟩ = some (.int .i64 s.day)) (h1 : W.cell? ⟨b, 1, none⟩ = some (.int .i64 s.hash)) (h2 : W.cell? ⟨b, 2, none⟩ = some (.int .i64 s.wit)) (hb : b < W.heap.size) (hf : fine s) :
    Calls Tryd.prog 51 #[.slice (some ⟨b, 0, none⟩) 3 3] W fun e w' => e = .returned (.string ⟨(nums s).toArray⟩) ∧ Below W.heap.size W w' := by
  have hr := refNumbers_any [s.day, s.hash, s.wit] b 3 W (by
    intro i hi
    rw [Nat.zero_add]
    match i, hi with
    | 0, _ => exact h0
    | 1, _ => exact h1
    | 2, _ => exact h2) (by
    intro i hi
    match i, hi with
    | 0, _ => exact hf.1
    | 1, _ => exact hf.2.1
    | 2, _ => exact hf.2.2.1) (by simp) hb
  rw [encs3] at hr
  exact hr

set_option maxHeartbeats 400000 in
theorem covered_any (v : List UInt8) (a : Option Addr) (c : Nat) (L : List Stp) (s0 : Stp) (w : World) (hS : StS w a L) (hF : ∀ s ∈ L, fine s) (hL : L.length ≤ 64) (hv : v.length ≤ 1000) (hf0 : fine s0) :
    Calls Tryd.prog 27 #[.slice a L.length c, .string ⟨v.toArray⟩, stv s0] w fun e w' => e = .returned (.string ⟨(cov v L ++ nums s0).toArray⟩) ∧ Below w.heap.size w w' := by
  obtain ⟨m, hm⟩ : ∃ m, L.length = m := ⟨_, rfl⟩
  rw [hm] at hL ⊢
  have HM := Lib.hid hm
  have HS := Lib.hid hS
  have HF := Lib.hid hF
  have HF0 := Lib.hid hf0
  clear hm hS hF hf0
  simp only [stv]
  go_enter Tryd.func27, Tryd.ntmps27
  go_wp2_with fail
  refine (refText_any ⟨v.toArray⟩ _ (by rw [str_size]; omega)).mono ?_
  rintro e w1 ⟨rfl, hb1⟩
  have HB1 := Lib.hid (((Below.refl w.heap.size w).alloc (Nat.le_refl _) (.cells #[.int .i64 s0.day, .int .i64 s0.hash, .int .i64 s0.wit, .string ⟨s0.val.toArray⟩] 28)).trans (hb1.mono (by rw [size_alloc]; omega)))
  have HC0 := Lib.hid (hb1.block w.heap.size (by rw [size_alloc]; omega))
  have hsz1 : w.heap.size + 1 ≤ w1.heap.size := by
    have := hb1.size
    rw [size_alloc] at this
    exact this
  clear hb1
  go_wp2_with fail
  go_loopw [7, 8] (fun t i wx => ∃ j : Nat, j ≤ m ∧ i = .int .i64 j ∧ t = .string ⟨(cov v (L.take j)).toArray⟩ ∧ Below (w.heap.size + 1) w1 wx) (fun _ i _ => m - (intOf i).toNat)
  case atStart => exact ⟨0, by omega, rfl, by simp [cov], Below.refl _ _⟩
  case round =>
    obtain ⟨j, hj, rfl, rfl, hb⟩ := hrel
    have hB := Lib.hid hb
    have hsz := hb.size
    by_cases hlt : j < m
    · obtain ⟨s, hsj⟩ : ∃ s, L[j]? = some s := ⟨_, List.getElem?_eq_getElem (by rw [HM.out]; exact hlt)⟩
      have HW := Lib.hid (HB1.out.trans (hb.mono (by omega)))
      obtain ⟨b, o, rfl, hbl, x0, x1, x2, x3⟩ := (HS.out.below HW.out) j s hsj
      have hfine := HF.out s (List.mem_of_getElem? hsj)
      have HT := Lib.hid (cov_take v L j s hsj)
      have hln : (cov v (L.take j)).length ≤ 70000 := cov_len v _ hv (by rw [List.length_take]; omega) (fun s hs => (HF.out s (List.mem_of_mem_take hs)).2.2.2)
      have hnl := nums_len s
      have hvl := hfine.2.2.2
      have hel := encS_le9 s.val
      have G := Lib.hid hfine
      clear hfine hsj hb
      have n0 : (0 : Int) ≤ (j : Int) := by omega
      have n1 : (j : Int) < (m : Int) := by omega
      have hd : decide ((j : Int) < (m : Int)) = true := by rw [decide_eq_true_iff]; omega
      have hd2 : decide (j < m) = true := by rw [decide_eq_true_iff]; omega
      have hN : Calls Tryd.prog 51 #[.slice (some ⟨wr.heap.size, 0, none⟩) 3 3] ((wr.alloc (.cells #[.int .i64 s.day, .int .i64 s.hash, .int .i64 s.wit] 3)).drew) fun e w' => e = .returned (.string ⟨(nums s).toArray⟩) ∧ Below wr.heap.size wr w' := by
        have hl : ((wr.alloc (.cells #[.int .i64 s.day, .int .i64 s.hash, .int .i64 s.wit] 3)).drew).heap[wr.heap.size]? = _ := heap_last wr _
        refine (refNums3 s wr.heap.size _ (by rw [Lib.cell_of_heap hl]; rfl) (by rw [Lib.cell_of_heap hl]; rfl) (by rw [Lib.cell_of_heap hl]; rfl) (by show wr.heap.size < (wr.alloc _).heap.size; rw [size_alloc]; omega) G.out).mono ?_
        rintro e w' ⟨rfl, hb⟩
        exact ⟨rfl, (((Below.refl wr.heap.size wr).alloc (Nat.le_refl _) _).drew).trans (hb.mono (by show wr.heap.size ≤ (wr.alloc _).heap.size; rw [size_alloc]; omega))⟩
      have HN := Lib.hid hN
      have HT2 := Lib.hid (fun W => refText_any ⟨s.val.toArray⟩ W (by rw [str_size]; omega))
      have hk2 : ∀ w2, Below wr.heap.size wr w2 → w2.cell? ⟨b, o + j * 4, none⟩ = some (.int .i64 s.day) ∧ w2.cell? ⟨b, o + j * 4 + 1, none⟩ = some (.int .i64 s.hash) ∧ w2.cell? ⟨b, o + j * 4 + 2, none⟩ = some (.int .i64 s.wit) ∧ w2.cell? ⟨b, o + j * 4 + 3, none⟩ = some (.string ⟨s.val.toArray⟩) :=
        fun w2 hb2 => ⟨(hb2.cell (p := ⟨b, _, none⟩) hbl).trans x0, (hb2.cell (p := ⟨b, _, none⟩) hbl).trans x1, (hb2.cell (p := ⟨b, _, none⟩) hbl).trans x2, (hb2.cell (p := ⟨b, _, none⟩) hbl).trans x3⟩
      have HK2 := Lib.hid hk2
      have hl1 : (⟨(cov v (L.take j)).toArray⟩ : ByteArray).size + (⟨(nums s).toArray⟩ : ByteArray).size ≤ 9223372036854775807 := by rw [str_size, str_size]; omega
      have hl2 : (⟨(cov v (L.take j)).toArray⟩ ++ ⟨(nums s).toArray⟩ : ByteArray).size + (⟨(encS s.val).toArray⟩ : ByteArray).size ≤ 9223372036854775807 := by rw [str_append, str_size, str_size, List.length_append]; omega
      have hl3 : ¬ (9223372036854775807 < (cov v (L.take j)).length + (nums s).length) := by omega
      have hl4 : ¬ (9223372036854775807 < (cov v (L.take j)).length + (nums s).length + (encS s.val).length) := by omega
      have hfin : (⟨(cov v (L.take j)).toArray⟩ ++ ⟨(nums s).toArray⟩ ++ ⟨(encS s.val).toArray⟩ : ByteArray) = ⟨(cov v (L.take (j + 1))).toArray⟩ := by rw [HT.out, str_append, str_append]
      have HFI := Lib.hid hfin
      clear hN hk2 hfin
      go_upto_region 5 with fail
      go_region_held3 (fun w' => w'.cell? ⟨b, o + j * 4, none⟩ = some (.int .i64 s.day) ∧ w'.cell? ⟨b, o + j * 4 + 1, none⟩ = some (.int .i64 s.hash) ∧ w'.cell? ⟨b, o + j * 4 + 2, none⟩ = some (.int .i64 s.wit) ∧ w'.cell? ⟨b, o + j * 4 + 3, none⟩ = some (.string ⟨s.val.toArray⟩)) (first | go_keep | exact HK2.out _ hb2 | exact HK2.out _ (hb2.trans (hb3.mono hb2.size))) (first
        | (go_at_call 51; refine HN.out.mono ?_; rintro e w2 ⟨rfl, hb2⟩)
        | (go_at_call 50; refine (HT2.out _).mono ?_; rintro e w3 ⟨rfl, hb3⟩))
      all_goals
        go_wp2_with fail
        exact ⟨⟨j + 1, by omega, by push_cast; rfl, by rw [HFI.out], hB.out.trans ((hb2.trans (hb3.mono hb2.size)).mono (Nat.le_trans hsz1 hsz))⟩, by simp [intOf]; omega⟩
    · obtain rfl : j = m := by omega
      have htl : L.take j = L := List.take_of_length_le (by rw [HM.out]; exact Nat.le_refl _)
      rw [htl]
      have hd : decide ((j : Int) < (j : Int)) = false := by simp
      have hd2 : decide (j < j) = false := by simp
      have hblk : wr.heap[w.heap.size]? = _ := (hb.block w.heap.size (by omega)).trans (HC0.out.trans (heap_last w _))
      have y0 : wr.cell? ⟨w.heap.size, 0, none⟩ = some (.int .i64 s0.day) := by rw [Lib.cell_of_heap hblk]; rfl
      have y1 : wr.cell? ⟨w.heap.size, 1, none⟩ = some (.int .i64 s0.hash) := by rw [Lib.cell_of_heap hblk]; rfl
      have y2 : wr.cell? ⟨w.heap.size, 2, none⟩ = some (.int .i64 s0.wit) := by rw [Lib.cell_of_heap hblk]; rfl
      have hN : Calls Tryd.prog 51 #[.slice (some ⟨wr.heap.size, 0, none⟩) 3 3] (wr.alloc (.cells #[.int .i64 s0.day, .int .i64 s0.hash, .int .i64 s0.wit] 3)) fun e w' => e = .returned (.string ⟨(nums s0).toArray⟩) ∧ Below wr.heap.size wr w' := by
        have hl : (wr.alloc (.cells #[.int .i64 s0.day, .int .i64 s0.hash, .int .i64 s0.wit] 3)).heap[wr.heap.size]? = _ := heap_last wr _
        refine (refNums3 s0 wr.heap.size _ (by rw [Lib.cell_of_heap hl]; rfl) (by rw [Lib.cell_of_heap hl]; rfl) (by rw [Lib.cell_of_heap hl]; rfl) (by rw [size_alloc]; omega) HF0.out).mono ?_
        rintro e w' ⟨rfl, hb⟩
        exact ⟨rfl, ((Below.refl wr.heap.size wr).alloc (Nat.le_refl _) _).trans (hb.mono (by rw [size_alloc]; omega))⟩
      have HN := Lib.hid hN
      have hln : (cov v L).length ≤ 70000 := cov_len v _ hv (by rw [HM.out]; omega) (fun s hs => (HF.out s hs).2.2.2)
      have hnl := nums_len s0
      have hl1 : (⟨(cov v L).toArray⟩ : ByteArray).size + (⟨(nums s0).toArray⟩ : ByteArray).size ≤ 9223372036854775807 := by rw [str_size, str_size]; omega
      have HFI := Lib.hid (str_append (cov v L) (nums s0))
      clear hN hblk hb
      go_wp2_with fail
      refine HN.out.mono ?_
      rintro e w2 ⟨rfl, hb2⟩
      go_wp2_with fail
      go_ret
      exact ⟨by rw [HFI.out]; rfl, HB1.out.trans ((hB.out.trans (hb2.mono (Nat.le_trans hsz1 hsz))).mono (by omega))⟩
end Go.Proofs.YtkihcigojhcmgaaDoor

namespace Go.Proofs.YtkihcigojhcmgaaDoor
open Go.RowKit
set_option maxRecDepth 100000

theorem chk_take {L : List Stp} : ∀ {pre : List UInt8} {last : Int} (j : Nat), chk pre last L = true → chk pre last (L.take j) = true := by
  induction L with
  | nil => intro _ _ j _; simp [chk]
  | cons s L ih =>
    intro pre last j h
    cases j with
    | zero => simp [chk]
    | succ j =>
      rw [List.take_succ_cons]
      rw [chk_cons] at h ⊢
      exact ⟨h.1, h.2.1, h.2.2.1, ih j h.2.2.2⟩
/-- One stamp more: what Check asks of it. -/
theorem chk_next (v : List UInt8) (L : List Stp) (j : Nat) (s : Stp) (h : L[j]? = some s) (hp : chk (encS v) 0 (L.take j) = true) :
    chk (encS v) 0 (L.take (j + 1)) = true ↔ okS s = true ∧ lastDay 0 (L.take j) ≤ s.day ∧ s.val = hashV s.hash (cov v (L.take j) ++ nums s) := by
  have ht : L.take (j + 1) = L.take j ++ [s] := by rw [List.take_add_one, h]; rfl
  rw [ht, chk_snoc]
  constructor
  · rintro ⟨_, h1, h2, h3⟩; exact ⟨h1, h2, h3⟩
  · rintro ⟨h1, h2, h3⟩; exact ⟨hp, h1, h2, h3⟩
theorem check_no (v : List UInt8) (L : List Stp) (j : Nat) (h : chk (encS v) 0 (L.take j) ≠ true) : check L v = false := by
  cases hc : check L v with
  | false => rfl
  | true => exact absurd (chk_take j ((check_iff _ _).1 hc).2) h
theorem lastDay_take (L : List Stp) (j : Nat) (p : Stp) (h : L[j]? = some p) : lastDay 0 (L.take (j + 1)) = p.day := by
  have ht : L.take (j + 1) = L.take j ++ [p] := by rw [List.take_add_one, h]; rfl
  rw [ht, lastDay_snoc]
theorem StS.take {W : World} {a : Option Addr} {L : List Stp} (h : StS W a L) (j : Nat) : StS W a (L.take j) := by
  intro i s hi
  have hi2 : L[i]? = some s := by
    rw [List.getElem?_take] at hi
    split at hi
    · exact hi
    · cases hi
  exact h i s hi2
theorem fine_of_ok {s : Stp} (h : okS s = true) : fine s := by
  obtain ⟨h1, h2⟩ := (okS_iff s).1 h
  obtain ⟨a, b, c, d, e, f, _⟩ := (valid_iff s).1 h1
  exact ⟨⟨by omega, by omega⟩, ⟨by omega, by omega⟩, ⟨by omega, by omega⟩, by omega⟩
theorem fine_of_valid {s : Stp} (h1 : valid s = true) (h : s.val.length ≤ 1000) : fine s := by
  obtain ⟨a, b, c, d, e, f, _⟩ := (valid_iff s).1 h1
  exact ⟨⟨by omega, by omega⟩, ⟨by omega, by omega⟩, ⟨by omega, by omega⟩, h⟩

theorem Below_drewN {B : Nat} {x y : World} (h : Below B x y) (n : Nat) : Below B x (y.drewN n) := ⟨h.os, h.tape, h.output, h.size, h.block⟩
/-- Is the value in the stamp the one it must have? -/
theorem valEq (a b : List UInt8) : ((⟨a.toArray⟩ : ByteArray) = ⟨b.toArray⟩) ↔ a = b := by
  constructor
  · intro h
    have h1 := congrArg (fun x => x.data.toList) h
    simpa using h1
  · rintro rfl; rfl

set_option maxHeartbeats 400000 in
theorem refCheck_any (v : List UInt8) (a : Option Addr) (c : Nat) (L : List Stp) (w : World) (hS : StS w a L) (hF : ∀ s ∈ L, s.val.length ≤ 1000) (hL : L.length ≤ 64) (hc : L.length ≤ c) (hv : v.length ≤ 1000) :
    Calls Tryd.prog 22 #[.slice a L.length c, .string ⟨v.toArray⟩] w fun e w' => e = .returned (.bool (check L v)) ∧ Below w.heap.size w w' := by
  by_cases h0 : L = []
  · subst h0
    have hck : check [] v = false := by simp [check]
    rw [hck]
    simp only [List.length_nil]
    go_enter Tryd.func22, Tryd.ntmps22
    go_wp2_with fail
    go_ret
    exact ⟨rfl, Below.refl _ _⟩
  have hm0 : 0 < L.length := List.length_pos_iff.2 h0
  obtain ⟨m, hm⟩ : ∃ m, L.length = m := ⟨_, rfl⟩
  rw [hm] at hL hc hm0 ⊢
  have HM := Lib.hid hm
  have HS := Lib.hid hS
  have HF := Lib.hid hF
  have H0 := Lib.hid h0
  clear hm hS hF h0
  have hv1 : ¬ (65536 < v.length) := by omega
  have hv2 : ¬ (65536 < (v.length : Int)) := by omega
  have hv3 : ¬ ((65536 : Int) < ((⟨v.toArray⟩ : ByteArray).size : Int)) := by rw [str_size]; omega
  have hm1 : ¬ ((m : Int) = 0) := by omega
  have hm2 : ¬ ((64 : Int) < (m : Int)) := by omega
  have hm3 : ¬ (m = 0) := by omega
  generalize hR : check L v = R
  have HR := Lib.hid hR
  clear hR
  go_enter Tryd.func22, Tryd.ntmps22
  go_wp2_with fail
  go_loopw [5] (fun i wx => ∃ j : Nat, j ≤ m ∧ i = .int .i64 j ∧ chk (encS v) 0 (L.take j) = true ∧ Below w.heap.size w wx) (fun i _ => m - (intOf i).toNat)
  case atStart => exact ⟨0, by omega, rfl, by simp [chk], Below.refl _ _⟩
  case round =>
    obtain ⟨j, hj, rfl, hp, hb⟩ := hrel
    have hsz := hb.size
    have HP := Lib.hid hp
    have HB := Lib.hid hb
    clear hp
    by_cases hlt : j < m
    · obtain ⟨s, hsj⟩ : ∃ s, L[j]? = some s := ⟨_, List.getElem?_eq_getElem (by rw [HM.out]; exact hlt)⟩
      obtain ⟨b, o, rfl, hbl, x0, x1, x2, x3⟩ := (HS.out.below hb) j s hsj
      have hvl := HF.out s (List.mem_of_getElem? hsj)
      have HN := Lib.hid (chk_next v L j s hsj HP.out)
      have n0 : (0 : Int) ≤ (j : Int) := by omega
      have n1 : (j : Int) < (m : Int) := by omega
      have hd : decide ((j : Int) < (m : Int)) = true := by rw [decide_eq_true_iff]; omega
      have hd2 : decide (j < m) = true := by rw [decide_eq_true_iff]; omega
      go_wp2_with fail
      refine (refValid_any s wr).mono ?_
      rintro e w1 ⟨rfl, hb1⟩
      have HB1 := Lib.hid (HB.out.trans (hb1.mono hsz))
      have y0 : w1.cell? ⟨b, o + j * 4, none⟩ = some (.int .i64 s.day) := (hb1.cell (p := ⟨b, _, none⟩) hbl).trans x0
      have y1 : w1.cell? ⟨b, o + j * 4 + 1, none⟩ = some (.int .i64 s.hash) := (hb1.cell (p := ⟨b, _, none⟩) hbl).trans x1
      have y2 : w1.cell? ⟨b, o + j * 4 + 2, none⟩ = some (.int .i64 s.wit) := (hb1.cell (p := ⟨b, _, none⟩) hbl).trans x2
      have y3 : w1.cell? ⟨b, o + j * 4 + 3, none⟩ = some (.string ⟨s.val.toArray⟩) := (hb1.cell (p := ⟨b, _, none⟩) hbl).trans x3
      have hbl1 : b < w1.heap.size := Nat.lt_of_lt_of_le hbl hb1.size
      clear x0 x1 x2 x3
      cases hval : valid s with
      | false =>
        have hno : R = false := by rw [← HR.out]; exact check_no v L (j+1) (fun h => by have := ((okS_iff s).1 (HN.out.1 h).1).1; rw [hval] at this; cases this)
        subst hno
        go_upto_region 7 with fail
        go_quiet (fail)
        go_wp2_with fail
        go_ret
        exact ⟨rfl, Below_drewN HB1.out _⟩
      | true =>
        obtain ⟨T, hT⟩ : ∃ T : Bool, T = !(decide (lastDay 0 (L.take j) ≤ s.day) && decide (s.val.length = 32)) := ⟨_, rfl⟩
        have HT := Lib.hid hT
        clear hT
        go_upto_region 7 with fail
        go_cut [59] (fun t wx => t = .bool T ∧ ∃ q, wx = w1.drewN q)
        case first =>
          have hday : 0 ≤ s.day := ((valid_iff s).1 hval).1
          have hl32 : ((⟨s.val.toArray⟩ : ByteArray).size : Int) = (s.val.length : Int) := by rw [str_size]
          have e32 : (((⟨s.val.toArray⟩ : ByteArray).size : Int) == 32) = decide (s.val.length = 32) := by rw [hl32]; by_cases h : s.val.length = 32 <;> simp [h] <;> omega
          rcases j with _ | i
          · have hTT : T = !decide (s.val.length = 32) := by rw [HT.out]; simp [lastDay, hday]
            rw [show ((0 : Nat) : Int) = 0 from rfl]
            subst hTT
            by_cases h32 : s.val.length = 32
            · have h32' : (s.val.length : Int) = 32 := by omega
              go_quiet (fail)
              go_wp2_with fail
              go_meet
              exact ⟨by simp [h32], _, rfl⟩
            · have h32' : ¬ ((s.val.length : Int) = 32) := by omega
              go_quiet (fail)
              go_wp2_with fail
              go_meet
              exact ⟨by simp [h32, h32'], _, rfl⟩
          · obtain ⟨p, hpi⟩ : ∃ p, L[i]? = some p := ⟨_, List.getElem?_eq_getElem (by rw [HM.out]; omega)⟩
            obtain ⟨b', o', hbo, -, z0, -⟩ := (HS.out.below HB1.out) i p hpi
            injection hbo with hbo
            injection hbo with e1 e2 _
            subst e1 e2
            have hTT : T = !(decide (p.day ≤ s.day) && decide (s.val.length = 32)) := by rw [HT.out, lastDay_take L i p hpi]
            have i0 : (0 : Int) ≤ (i : Int) := by omega
            have i1 : (i : Int) < (m : Int) := by omega
            have i2 : (0 : Int) ≤ (i : Int) + 1 := by omega
            have i3 : (i : Int) + 1 < (m : Int) := by omega
            have i4 : decide ((0 : Int) < (i : Int) + 1) = true := by rw [decide_eq_true_iff]; omega
            have i5 : decide (0 < i + 1) = true := by rw [decide_eq_true_iff]; omega
            rw [show ((i + 1 : Nat) : Int) = (i : Int) + 1 from by push_cast; rfl]
            subst hTT
            by_cases hday2 : s.day < p.day
            · have hd3 : decide (s.day < p.day) = true := by rw [decide_eq_true_iff]; exact hday2
              have hnp : decide (p.day ≤ s.day) = false := by rw [decide_eq_false_iff_not]; omega
              go_quiet (fail)
              go_wp2_with fail
              go_meet
              exact ⟨by simp [hnp], _, rfl⟩
            · have hd3 : decide (s.day < p.day) = false := by rw [decide_eq_false_iff_not]; exact hday2
              have hnp : decide (p.day ≤ s.day) = true := by rw [decide_eq_true_iff]; omega
              by_cases h32 : s.val.length = 32
              · have h32' : (s.val.length : Int) = 32 := by omega
                go_quiet (fail)
                go_wp2_with fail
                go_meet
                exact ⟨by simp [hnp, h32], _, rfl⟩
              · have h32' : ¬ ((s.val.length : Int) = 32) := by omega
                go_quiet (fail)
                go_wp2_with fail
                go_meet
                exact ⟨by simp [hnp, h32, h32'], _, rfl⟩
        case rest =>
        obtain ⟨rfl, q, rfl⟩ := hcut
        cases T with
        | true =>
          have hno : R = false := by
            rw [← HR.out]
            refine check_no v L (j+1) (fun h => ?_)
            obtain ⟨k1, k2, -⟩ := HN.out.1 h
            have k3 := HT.out
            simp [k2, ((okS_iff s).1 k1).2] at k3
          subst hno
          go_wp2_with fail
          go_ret
          exact ⟨rfl, Below_drewN HB1.out _⟩
        | false =>
          have hT2 := HT.out
          have k2 : lastDay 0 (L.take j) ≤ s.day ∧ s.val.length = 32 := by simpa using hT2
          have hfine := fine_of_valid hval hvl
          have hlen : (L.take j).length = j := by rw [List.length_take, HM.out]; omega
          have hcl := cov_len v (L.take j) hv (by omega) (fun x hx => HF.out x (List.mem_of_mem_take hx))
          have hnl := nums_len s
          have hok : okS s = true := (okS_iff s).2 ⟨hval, k2.2⟩
          have HCV : ∀ wx, Below w1.heap.size w1 wx → Calls Tryd.prog 27 #[.slice (some ⟨b, o, none⟩) j c, .string ⟨v.toArray⟩, stv s] wx fun e w' => e = .returned (.string ⟨(cov v (L.take j) ++ nums s).toArray⟩) ∧ Below w1.heap.size w1 w' := by
            intro wx hx
            have hcv := covered_any v (some ⟨b, o, none⟩) c (L.take j) s wx ((HS.out.below (HB1.out.trans (hx.mono HB1.out.size))).take j) (fun x hx => fine_of_ok (chk_ok HP.out x hx)) (by omega) hv hfine
            rw [hlen] at hcv
            exact hcv.mono fun e w' ⟨h1, h2⟩ => ⟨h1, hx.trans (h2.mono hx.size)⟩
          have HHA : ∀ wx, Below w1.heap.size w1 wx → Calls Tryd.prog 26 #[.int .i64 s.hash, .string ⟨(cov v (L.take j) ++ nums s).toArray⟩] wx fun e w' => e = .returned (.string ⟨(hashV s.hash (cov v (L.take j) ++ nums s)).toArray⟩) ∧ Below w1.heap.size w1 w' := by
            intro wx hx
            exact (refHash_any s.hash _ wx (by rw [List.length_append]; omega)).mono fun e w' ⟨h1, h2⟩ => ⟨h1, hx.trans (h2.mono hx.size)⟩
          have HCE : ∀ wx, Below w1.heap.size w1 wx → wx.cell? ⟨b, o + j * 4, none⟩ = some (.int .i64 s.day) ∧ wx.cell? ⟨b, o + j * 4 + 1, none⟩ = some (.int .i64 s.hash) ∧ wx.cell? ⟨b, o + j * 4 + 2, none⟩ = some (.int .i64 s.wit) ∧ wx.cell? ⟨b, o + j * 4 + 3, none⟩ = some (.string ⟨s.val.toArray⟩) :=
            fun wx hx => ⟨(hx.cell (p := ⟨b, _, none⟩) hbl1).trans y0, (hx.cell (p := ⟨b, _, none⟩) hbl1).trans y1, (hx.cell (p := ⟨b, _, none⟩) hbl1).trans y2, (hx.cell (p := ⟨b, _, none⟩) hbl1).trans y3⟩
          have GCV := Lib.hid HCV
          have GHA := Lib.hid HHA
          have GCE := Lib.hid HCE
          have hC0 : Below w1.heap.size w1 (w1.drewN q).drew := Below_drewN (Below_drewN (Below.refl _ w1) q) 1
          have GEND : ∀ wx, Below w1.heap.size w1 wx → Below w.heap.size w wx := fun wx hx => HB1.out.trans (hx.mono HB1.out.size)
          have GEN := Lib.hid GEND
          simp only [stv] at GCV
          have HVV := Lib.hid (valEq s.val (hashV s.hash (cov v (L.take j) ++ nums s)))
          have HCK := Lib.hid (fun (h : s.val = hashV s.hash (cov v (L.take j) ++ nums s)) => HN.out.2 ⟨hok, k2.1, h⟩)
          have HCN := Lib.hid (fun (h : ¬ s.val = hashV s.hash (cov v (L.take j) ++ nums s)) => check_no v L (j+1) (fun hh => h (HN.out.1 hh).2.2))
          clear HCV HHA HCE GEND hT2 hcl
          have q0 : (j : Int) ≤ (c : Int) := by omega
          have hsl : ∀ wx, (Instr.slice 22 (.slice (some ⟨b, o, none⟩) m c) none (some (.int .i64 (j : Int))) none).run Tryd.prog wx = .ok (.slice (some ⟨b, o, none⟩) j c) wx := by
            intro wx
            simp [go_sem, n0, q0, sliced]
          go_upto_region 9 with fail
          refine region_quietC (C := Below w1.heap.size w1) (by kernel_rfl) (by kernel_rfl) hC0 ?_
          have GC0 := Lib.hid hC0
          clear hC0
          repeat (
            refine wpQuiet_step (fun K hK => ?_)
            go_simp
            first
              | (refine hK _ ?_; clear hK K)
              | (apply Exists.intro
                 refine ⟨fun wx hx => ?_, hK _ ?_⟩
                 · first
                   | (go_at_call 27; exact GCV.out _ hx)
                   | (go_at_call 26; exact GHA.out _ hx)
                   | exact rfl
                   | (obtain ⟨c0, c1, c2, c3⟩ := GCE.out _ hx; go_simp; exact rfl)
                 clear hK K))
          refine wpQuiet_nil ?_
          intro w' hw'
          have hfin := GEN.out _ hw'
          by_cases heq : s.val = hashV s.hash (cov v (L.take j) ++ nums s)
          · have hbe : (s.val == hashV s.hash (cov v (L.take j) ++ nums s)) = true := beq_iff_eq.2 heq
            have hck := HCK.out heq
            rw [hbe, Bool.not_true]
            go_wp2_with fail
            exact ⟨⟨j + 1, by omega, by push_cast; rfl, hck, hfin⟩, by simp [intOf]; omega⟩
          · have hbe : (s.val == hashV s.hash (cov v (L.take j) ++ nums s)) = false := beq_eq_false_iff_ne.2 heq
            have hno : R = false := by rw [← HR.out]; exact HCN.out heq
            subst hno
            rw [hbe, Bool.not_false]
            go_wp2_with fail
            go_ret
            exact ⟨rfl, hfin⟩
    · obtain rfl : j = m := by omega
      have htl : L.take j = L := List.take_of_length_le (by rw [HM.out]; exact Nat.le_refl _)
      have hyes : R = true := by rw [← HR.out, check_iff]; exact ⟨H0.out, by rw [← htl]; exact HP.out⟩
      subst hyes
      have hd : decide ((j : Int) < (j : Int)) = false := by simp
      have hd2 : decide (j < j) = false := by simp
      go_wp2_with fail
      go_ret
      exact ⟨rfl, hb⟩
end Go.Proofs.YtkihcigojhcmgaaDoor

namespace Go.Proofs.YtkihcigojhcmgaaDoor
open Go.RowKit
set_option maxRecDepth 100000

set_option maxHeartbeats 400000 in
theorem wrong_any (s : Stp) (w : World) :
    Calls Tryd.prog 39 #[stv s] w fun e w' => e = .returned (.bool (!okS s)) ∧ Below w.heap.size w w' := by
  have HV := Lib.hid (fun W => isValid_any s W)
  have hk : okS s = (valid s && decide (s.val.length = 32)) := rfl
  rw [hk]
  obtain ⟨d, k, t, v⟩ := s
  simp only [stv] at *
  go_enter Tryd.func39, Tryd.ntmps39
  go_wp2_with fail
  refine (HV.out _).mono ?_
  rintro e w1 ⟨rfl, hb1⟩
  have hblk := (hb1.block w.heap.size (by rw [size_alloc]; omega)).trans (heap_last w _)
  have y3 : w1.cell? ⟨w.heap.size, 3, none⟩ = some (.string ⟨v.toArray⟩) := by rw [Lib.cell_of_heap hblk]; rfl
  have hfin : Below w.heap.size w w1 := ((Below.refl _ w).alloc (Nat.le_refl _) _).trans (hb1.mono (by rw [size_alloc]; omega))
  clear hb1 hblk
  cases hv : valid ⟨d, k, t, v⟩ with
  | false =>
    go_wp2_with fail
    go_ret
    exact ⟨by rw [hv]; rfl, hfin⟩
  | true =>
    by_cases h32 : v.length = 32
    · have h32' : (v.length : Int) = 32 := by omega
      go_wp2_with fail
      go_ret
      exact ⟨by rw [hv]; simp [h32], hfin⟩
    · have h32' : ¬ ((v.length : Int) = 32) := by omega
      go_wp2_with fail
      go_ret
      exact ⟨by rw [hv]; simp [h32, h32'], hfin⟩

set_option maxHeartbeats 400000 in
theorem ahead_any (s t : Stp) (w : World) :
    Calls Tryd.prog 38 #[stv s, stv t] w fun e w' => e = .returned (.int .i64 (wrap64 (s.day - t.day))) ∧ Below w.heap.size w w' := by
  obtain ⟨d, k, t', v⟩ := s
  obtain ⟨d2, k2, t2, v2⟩ := t
  simp only [stv] at *
  go_enter Tryd.func38, Tryd.ntmps38
  go_wp2_with fail
  go_ret
  exact ⟨rfl, ((Below.refl _ w).alloc (Nat.le_refl _) _).alloc (by rw [size_alloc]; omega) _⟩

theorem fine_wrong (L : List Stp) : L.any (fun s => !okS s) = false ↔ ∀ s ∈ L, okS s = true := by
  simp [List.any_eq_false]

set_option maxHeartbeats 400000 in
theorem indexWrong_any (a : Option Addr) (c : Nat) (L : List Stp) (w : World) (hS : StS w a L) (hL : L.length ≤ 64) :
    Calls Tryd.prog 30 #[.slice a L.length c, .func (.func 39) #[] #[]] w fun e w' => (∃ i : Int, e = .returned (.int .i64 i) ∧ (decide (0 ≤ i) = L.any fun s => !okS s)) ∧ Below w.heap.size w w' := by
  obtain ⟨m, hm⟩ : ∃ m, L.length = m := ⟨_, rfl⟩
  rw [hm] at hL ⊢
  have HM := Lib.hid hm
  have HS := Lib.hid hS
  clear hm hS
  go_enter Tryd.func30, Tryd.ntmps30
  go_wp2_with fail
  go_loopw [8] (fun i wx => ∃ j : Nat, j ≤ m ∧ i = .int .i64 j ∧ (L.take j).any (fun s => !okS s) = false ∧ Below w.heap.size w wx) (fun i _ => m - (intOf i).toNat)
  case atStart => exact ⟨0, by omega, rfl, by simp, Below.refl _ _⟩
  case round =>
    obtain ⟨j, hj, rfl, hp, hb⟩ := hrel
    have hsz := hb.size
    have HP := Lib.hid hp
    clear hp
    by_cases hlt : j < m
    · obtain ⟨s, hsj⟩ : ∃ s, L[j]? = some s := ⟨_, List.getElem?_eq_getElem (by rw [HM.out]; exact hlt)⟩
      obtain ⟨b, o, rfl, hbl, x0, x1, x2, x3⟩ := (HS.out.below hb) j s hsj
      have n0 : (0 : Int) ≤ (j : Int) := by omega
      have n1 : (j : Int) < (m : Int) := by omega
      have hd : decide ((j : Int) < (m : Int)) = true := by rw [decide_eq_true_iff]; omega
      have hd2 : decide (j < m) = true := by rw [decide_eq_true_iff]; omega
      go_wp2_with fail
      refine (wrong_any s wr).mono ?_
      rintro e w1 ⟨rfl, hb1⟩
      have hfin : Below w.heap.size w w1 := hb.trans (hb1.mono hsz)
      have ht : L.take (j + 1) = L.take j ++ [s] := by rw [List.take_add_one, hsj]; rfl
      cases hok : okS s with
      | true =>
        have hp2 : (L.take (j + 1)).any (fun s => !okS s) = false := by rw [ht, List.any_append, HP.out]; simp [hok]
        have HP2 := Lib.hid hp2
        clear hp2
        go_wp2_with fail
        exact ⟨⟨j + 1, by omega, by push_cast; rfl, HP2.out, hfin⟩, by simp [intOf]; omega⟩
      | false =>
        have hany : L.any (fun s => !okS s) = true := List.any_eq_true.2 ⟨s, List.mem_of_getElem? hsj, by simp [hok]⟩
        have HA := Lib.hid hany
        clear hany
        go_wp2_with fail
        go_ret
        exact ⟨⟨j, rfl, by rw [HA.out]; simp⟩, hfin⟩
    · obtain rfl : j = m := by omega
      have htl : L.take j = L := List.take_of_length_le (by rw [HM.out]; exact Nat.le_refl _)
      have HA : Hid (L.any (fun s => !okS s) = false) := by rw [← htl]; exact HP
      have hd : decide ((j : Int) < (j : Int)) = false := by simp
      have hd2 : decide (j < j) = false := by simp
      go_wp2_with fail
      go_ret
      exact ⟨⟨-1, rfl, by rw [HA.out]; rfl⟩, hb⟩

set_option maxHeartbeats 400000 in
theorem containsWrong_any (a : Option Addr) (c : Nat) (L : List Stp) (w : World) (hS : StS w a L) (hL : L.length ≤ 64) :
    Calls Tryd.prog 42 #[.slice a L.length c, .func (.func 39) #[] #[]] w fun e w' => e = .returned (.bool (L.any fun s => !okS s)) ∧ Below w.heap.size w w' := by
  have HI := Lib.hid (indexWrong_any a c L w hS hL)
  go_enter Tryd.func42, Tryd.ntmps42
  go_wp2_with fail
  refine HI.out.mono ?_
  rintro e w1 ⟨⟨i, rfl, hi⟩, hb⟩
  have HII := Lib.hid hi
  clear hi
  go_wp2_with fail
  go_ret
  exact ⟨by rw [← HII.out]; rfl, hb⟩

/-- The stamps' days do not fall. -/
def Srt (L : List Stp) : Prop := ∀ i p q, L[i]? = some p → L[i + 1]? = some q → p.day ≤ q.day

set_option maxHeartbeats 400000 in
theorem sorted_any (a : Option Addr) (c : Nat) (L : List Stp) (w : World) (hS : StS w a L) (hL : L.length ≤ 64) (hV : ∀ s ∈ L, okS s = true) :
    Calls Tryd.prog 43 #[.slice a L.length c, .func (.func 38) #[] #[]] w fun e w' => (∃ r : Bool, e = .returned (.bool r) ∧ (r = true ↔ Srt L)) ∧ Below w.heap.size w w' := by
  obtain ⟨m, hm⟩ : ∃ m, L.length = m := ⟨_, rfl⟩
  rw [hm] at hL ⊢
  have HM := Lib.hid hm
  have HS := Lib.hid hS
  have HV := Lib.hid hV
  clear hm hS hV
  go_enter Tryd.func43, Tryd.ntmps43
  go_wp2_with fail
  go_loopw [5] (fun i wx => ∃ j : Int, j < m ∧ -1 ≤ j ∧ i = .int .i64 j ∧ (∀ (i : Nat) p q, j ≤ (i : Int) → L[i]? = some p → L[i + 1]? = some q → p.day ≤ q.day) ∧ Below w.heap.size w wx) (fun i _ => (intOf i + 1).toNat)
  case atStart =>
    refine ⟨(m : Int) - 1, by omega, by omega, rfl, ?_, Below.refl _ _⟩
    intro i p q hi h1 h2
    have := (List.getElem?_eq_some_iff.1 h2).1
    rw [HM.out] at this
    omega
  case round =>
    obtain ⟨j, hj, hj1, rfl, hp, hb⟩ := hrel
    have hsz := hb.size
    have HP := Lib.hid hp
    clear hp
    by_cases h0 : 0 < j
    · obtain ⟨k, rfl⟩ : ∃ k : Nat, j = (k : Int) + 1 := ⟨(j - 1).toNat, by omega⟩
      have hk : k + 1 < m := by omega
      obtain ⟨q, hq⟩ : ∃ s, L[k + 1]? = some s := ⟨_, List.getElem?_eq_getElem (by rw [HM.out]; exact hk)⟩
      obtain ⟨p, hpk⟩ : ∃ s, L[k]? = some s := ⟨_, List.getElem?_eq_getElem (by rw [HM.out]; omega)⟩
      obtain ⟨b, o, rfl, hbl, x0, x1, x2, x3⟩ := (HS.out.below hb) (k + 1) q hq
      obtain ⟨b', o', hbo, -, z0, z1, z2, z3⟩ := (HS.out.below hb) k p hpk
      injection hbo with hbo
      injection hbo with e1 e2 _
      subst e1 e2
      have n0 : (0 : Int) ≤ (k : Int) := by omega
      have n1 : (k : Int) < (m : Int) := by omega
      have n2 : (0 : Int) ≤ (k : Int) + 1 := by omega
      have n3 : (k : Int) + 1 < (m : Int) := by omega
      have hd : decide ((0 : Int) < (k : Int) + 1) = true := by rw [decide_eq_true_iff]; omega
      obtain ⟨vq1, vq2, -⟩ := (valid_iff q).1 ((okS_iff q).1 (HV.out q (List.mem_of_getElem? hq))).1
      obtain ⟨vp1, vp2, -⟩ := (valid_iff p).1 ((okS_iff p).1 (HV.out p (List.mem_of_getElem? hpk))).1
      have HAH : ∀ wx, Below wr.heap.size wr wx → Calls Tryd.prog 38 #[stv q, stv p] wx fun e w' => e = .returned (.int .i64 (q.day - p.day)) ∧ Below wr.heap.size wr w' := by
        intro wx hx
        refine (ahead_any q p wx).mono ?_
        rintro e w' ⟨rfl, h⟩
        exact ⟨by rw [wrap_small _ (by omega) (by omega)], hx.trans (h.mono hx.size)⟩
      simp only [stv] at HAH
      have HCE : ∀ wx, Below wr.heap.size wr wx → (wx.cell? ⟨b, o + (k + 1) * 4, none⟩ = some (.int .i64 q.day) ∧ wx.cell? ⟨b, o + (k + 1) * 4 + 1, none⟩ = some (.int .i64 q.hash) ∧ wx.cell? ⟨b, o + (k + 1) * 4 + 2, none⟩ = some (.int .i64 q.wit) ∧ wx.cell? ⟨b, o + (k + 1) * 4 + 3, none⟩ = some (.string ⟨q.val.toArray⟩)) ∧ (wx.cell? ⟨b, o + k * 4, none⟩ = some (.int .i64 p.day) ∧ wx.cell? ⟨b, o + k * 4 + 1, none⟩ = some (.int .i64 p.hash) ∧ wx.cell? ⟨b, o + k * 4 + 2, none⟩ = some (.int .i64 p.wit) ∧ wx.cell? ⟨b, o + k * 4 + 3, none⟩ = some (.string ⟨p.val.toArray⟩)) :=
        fun wx hx => ⟨⟨(hx.cell (p := ⟨b, _, none⟩) hbl).trans x0, (hx.cell (p := ⟨b, _, none⟩) hbl).trans x1, (hx.cell (p := ⟨b, _, none⟩) hbl).trans x2, (hx.cell (p := ⟨b, _, none⟩) hbl).trans x3⟩, ⟨(hx.cell (p := ⟨b, _, none⟩) hbl).trans z0, (hx.cell (p := ⟨b, _, none⟩) hbl).trans z1, (hx.cell (p := ⟨b, _, none⟩) hbl).trans z2, (hx.cell (p := ⟨b, _, none⟩) hbl).trans z3⟩⟩
      have GAH := Lib.hid HAH
      have GCE := Lib.hid HCE
      clear HAH HCE x0 x1 x2 x3 z0 z1 z2 z3
      have hC0 : Below wr.heap.size wr wr.drew := (Below.refl _ wr).drew
      go_upto_region 4 with fail
      refine region_quietC (C := Below wr.heap.size wr) (by kernel_rfl) (by kernel_rfl) hC0 ?_
      clear hC0
      repeat (
        first
          | go_big_quiet_skip
          | (go_big_quiet_want
             go_big_quiet_op
             first
               | go_big_quiet_on
               | (apply Exists.intro
                  refine ⟨fun wx hx => ?_, ?_⟩
                  · first
                    | (go_at_call 38; exact GAH.out _ hx)
                    | exact rfl
                    | (obtain ⟨⟨c0, c1, c2, c3⟩, c4, c5, c6, c7⟩ := GCE.out _ hx; go_simp; exact rfl)
                  go_big_quiet_on)))
      refine wpQuiet_nil ?_
      intro w' hw'
      have hfin : Below w.heap.size w w' := hb.trans (hw'.mono hsz)
      by_cases hlt : q.day - p.day < 0
      · have hl2 : decide (q.day - p.day < 0) = true := decide_eq_true hlt
        have hnS : ¬ Srt L := fun h => by have := h k p q hpk hq; omega
        rw [hl2]
        go_wp2_with fail
        go_ret
        exact ⟨rfl, hfin⟩
      · have hl2 : decide (q.day - p.day < 0) = false := decide_eq_false hlt
        rw [hl2]
        go_wp2_with fail
        refine ⟨⟨k, by omega, by omega, by first | rfl | simp, ?_, hfin⟩, by simp [intOf]; omega⟩
        intro i p' q' hi h1 h2
        rcases Nat.lt_or_ge k i with hki | hki
        · exact HP.out i p' q' (by omega) h1 h2
        · obtain rfl : i = k := by omega
          rw [hpk] at h1
          rw [hq] at h2
          cases h1
          cases h2
          omega
    · have hd : decide ((0 : Int) < j) = false := by rw [decide_eq_false_iff_not]; exact h0
      have hS : Srt L := fun i p q h1 h2 => HP.out i p q (by omega) h1 h2
      have HSS := Lib.hid hS
      clear hS
      have h00 : j ≤ 0 := by omega
      go_wp2_with fail
      go_ret
      exact ⟨.inr ⟨rfl, HSS.out⟩, hb⟩
end Go.Proofs.YtkihcigojhcmgaaDoor

namespace Go.Proofs.YtkihcigojhcmgaaDoor
open Go.RowKit
set_option maxRecDepth 100000

theorem check_wrong {L : List Stp} {v : List UInt8} (h : L.any (fun s => !okS s) = true) : check L v = false := by
  cases hc : check L v with
  | false => rfl
  | true =>
    obtain ⟨s, hs, hn⟩ := List.any_eq_true.1 h
    have := chk_ok ((check_iff _ _).1 hc).2 s hs
    rw [this] at hn
    cases hn
theorem check_unsorted {L : List Stp} {v : List UInt8} (h : ¬ Srt L) : check L v = false := by
  cases hc : check L v with
  | false => rfl
  | true =>
    refine absurd ?_ h
    intro i p q hp hq
    have hs := chk_sorted ((check_iff _ _).1 hc).2
    rw [List.pairwise_iff_getElem] at hs
    obtain ⟨h1, e1⟩ := List.getElem?_eq_some_iff.1 hp
    obtain ⟨h2, e2⟩ := List.getElem?_eq_some_iff.1 hq
    have := hs i (i + 1) h1 h2 (Nat.lt_succ_self i)
    rw [e1, e2] at this
    exact this
theorem lastDay_srt {L : List Stp} (h : Srt L) (hV : ∀ s ∈ L, okS s = true) (j : Nat) (s : Stp) (hs : L[j]? = some s) : lastDay 0 (L.take j) ≤ s.day := by
  cases j with
  | zero =>
    simp only [List.take_zero, lastDay_nil]
    exact ((valid_iff s).1 ((okS_iff s).1 (hV s (List.mem_of_getElem? hs))).1).1
  | succ i =>
    obtain ⟨p, hp⟩ : ∃ p, L[i]? = some p := ⟨_, List.getElem?_eq_getElem (by have := (List.getElem?_eq_some_iff.1 hs).1; omega)⟩
    rw [lastDay_take L i p hp]
    exact h i p s hp hs

set_option maxHeartbeats 400000 in
theorem check_any (v : List UInt8) (a : Option Addr) (c : Nat) (L : List Stp) (w : World) (hS : StS w a L) (hL : L.length ≤ 64) (hv : v.length ≤ 1000) (hw : RoundAt w) (hg : 0 < w.heap.size) :
    Calls Tryd.prog 21 #[.slice a L.length c, .string ⟨v.toArray⟩] w fun e w' => e = .returned (.bool (check L v)) ∧ Below w.heap.size w w' := by
  have hv3 : ¬ ((65536 : Int) < ((⟨v.toArray⟩ : ByteArray).size : Int)) := by rw [str_size]; omega
  have hv2 : ¬ (65536 < (v.length : Int)) := by omega
  by_cases h0 : L = []
  · subst h0
    have hck : check [] v = false := by simp [check]
    rw [hck]
    simp only [List.length_nil]
    go_enter Tryd.func21, Tryd.ntmps21
    go_wp2_with fail
    refine (within_any 0 1 64 _).mono ?_
    rintro e w1 ⟨rfl, rfl⟩
    rw [show (decide ((1 : Int) ≤ 0) && decide ((0 : Int) ≤ 64)) = false from rfl]
    go_wp2_with fail
    go_ret
    exact ⟨rfl, Below.refl _ _⟩
  have hm0 : 0 < L.length := List.length_pos_iff.2 h0
  have HC := Lib.hid (containsWrong_any a c L)
  have hwn : (decide ((1 : Int) ≤ (L.length : Int)) && decide ((L.length : Int) ≤ 64)) = true := within_eq.2 ⟨by omega, by omega⟩
  cases hany : L.any (fun s => !okS s) with
  | true =>
    have HCW := Lib.hid (check_wrong (v := v) hany)
    have HCN := Lib.hid (HC.out w hS hL)
    rw [hany] at HCN
    rw [HCW.out]
    go_enter Tryd.func21, Tryd.ntmps21
    go_wp2_with fail
    refine (within_any L.length 1 64 _).mono ?_
    rintro e w1 ⟨rfl, rfl⟩
    rw [hwn]
    go_wp2_with fail
    refine HCN.out.mono ?_
    rintro e w1 ⟨rfl, hb1⟩
    go_wp2_with fail
    go_ret
    exact ⟨rfl, hb1⟩
  | false =>
    have hV := (fine_wrong L).1 hany
    have HCN := Lib.hid (HC.out w hS hL)
    rw [hany] at HCN
    have HSO := Lib.hid (fun W (h : StS W a L) => sorted_any a c L W h hL hV)
    by_cases hso : Srt L
    · obtain ⟨m, hm⟩ : ∃ m, L.length = m := ⟨_, rfl⟩
      rw [hm] at hL hm0 hwn ⊢
      rw [hm] at HCN HSO
      have HM := Lib.hid hm
      have HS := Lib.hid hS
      have HV := Lib.hid hV
      have HSRT := Lib.hid hso
      have H0 := Lib.hid h0
      have HRW := Lib.hid hw
      clear hm hS hV h0 hw HC
      generalize hR : check L v = R
      have HR := Lib.hid hR
      clear hR
      go_enter Tryd.func21, Tryd.ntmps21
      go_wp2_with fail
      refine (within_any m 1 64 _).mono ?_
      rintro e w1 ⟨rfl, rfl⟩
      rw [hwn]
      go_wp2_with fail
      refine HCN.out.mono ?_
      rintro e w2 ⟨rfl, hb2⟩
      go_wp2_with fail
      refine (HSO.out w2 (HS.out.below hb2)).mono ?_
      rintro e w3 ⟨⟨r, rfl, hr⟩, hb3⟩
      obtain rfl : r = true := hr.2 HSRT.out
      clear hr
      have HB3 := Lib.hid (hb2.trans (hb3.mono hb2.size))
      have hsz3 := HB3.out.size
      clear hb2 hb3
      have HNS := Lib.hid (newScroll_any v none 0 [] w3 (StS.nil _ _) (by intro s hs; cases hs) (by simp) hv)
      simp only [List.length_nil] at HNS
      go_wp2_with fail
      refine HNS.out.mono ?_
      rintro e w4 ⟨rfl, h4, hb4⟩
      have H4 := Lib.hid h4
      have HB4 := Lib.hid (HB3.out.trans (hb4.mono hsz3))
      have hsz4 := hb4.size
      clear h4 hb4 HNS
      go_wp2_with fail
      go_loopw [34] (fun i wx => ∃ j : Nat, j ≤ m ∧ i = .int .i64 j ∧ chk (encS v) 0 (L.take j) = true ∧ Scr w3.heap.size w3.heap.size (cov v (L.take j)) wx ∧ Below w1.heap.size w1 wx) (fun i _ => m - (intOf i).toNat)
      case atStart => exact ⟨0, by omega, rfl, by simp [chk], by simpa using H4.out, HB4.out⟩
      case round =>
        obtain ⟨j, hj, rfl, hp, hs, hb⟩ := hrel
        have hsz := hb.size
        have HP := Lib.hid hp
        have HSC := Lib.hid hs
        have HB := Lib.hid hb
        clear hp hs
        by_cases hlt : j < m
        · obtain ⟨s, hsj⟩ : ∃ s, L[j]? = some s := ⟨_, List.getElem?_eq_getElem (by rw [HM.out]; exact hlt)⟩
          obtain ⟨b, o, rfl, hbl, x0, x1, x2, x3⟩ := (HS.out.below hb) j s hsj
          have hok := HV.out s (List.mem_of_getElem? hsj)
          have hfine := fine_of_ok hok
          have HN := Lib.hid (chk_next v L j s hsj HP.out)
          have hld := lastDay_srt HSRT.out HV.out j s hsj
          have HT := Lib.hid (cov_take v L j s hsj)
          have hcl : (cov v (L.take j)).length ≤ 70000 := cov_len v (L.take j) hv (by rw [List.length_take]; omega) (fun x hx => (fine_of_ok (HV.out x (List.mem_of_mem_take hx))).2.2.2)
          have hcn : cov v (L.take j) ≠ [] := by
            intro h
            have h1 := congrArg List.length h
            have h2 := encS_pos v
            simp only [cov, List.length_append, List.length_nil] at h1
            omega
          have hnl := nums_len s
          have hBl := HSC.out.lt
          have hRr := HRW.out.below hg hb
          have HVA := Lib.hid (fun wx (h : Scr w3.heap.size w3.heap.size (cov v (L.take j)) wx ∧ Kpt w3.heap.size w3.heap.size (wr.alloc (.cells #[.int .i64 s.day, .int .i64 s.hash, .int .i64 s.wit, .string ⟨s.val.toArray⟩] 28)) wx) =>
            (value_any s w3.heap.size w3.heap.size (cov v (L.take j)) wx h.1 hcn (by omega) hfine (HRW.out.belowB (B := w1.heap.size) hg (hb.trans (((Below.refl w3.heap.size wr).alloc (by omega) _).trans h.2.1 |>.mono hsz3))) (by omega) (by have := h.1.lt; omega)).mono fun e w' ⟨e1, e2, e3⟩ => (⟨e1, e2, h.2.trans e3⟩ : _ ∧ (Scr w3.heap.size w3.heap.size (cov v (L.take j)) w' ∧ Kpt w3.heap.size w3.heap.size (wr.alloc (.cells #[.int .i64 s.day, .int .i64 s.hash, .int .i64 s.wit, .string ⟨s.val.toArray⟩] 28)) w')))
          have hne : some wr.heap.size ≠ some w3.heap.size := by intro h; injection h; omega
          have HCE := Lib.hid (fun wx (h : Scr w3.heap.size w3.heap.size (cov v (L.take j)) wx ∧ Kpt w3.heap.size w3.heap.size (wr.alloc (.cells #[.int .i64 s.day, .int .i64 s.hash, .int .i64 s.wit, .string ⟨s.val.toArray⟩] 28)) wx) =>
            (h.2.2 wr.heap.size _ (heap_last _ _) hne (by intro c fz h; cases h)))
          have HCC : Hid (∀ wx, (Scr w3.heap.size w3.heap.size (cov v (L.take j)) wx ∧ Kpt w3.heap.size w3.heap.size (wr.alloc (.cells #[.int .i64 s.day, .int .i64 s.hash, .int .i64 s.wit, .string ⟨s.val.toArray⟩] 28)) wx) →
            wx.cell? ⟨wr.heap.size, 0, none⟩ = some (.int .i64 s.day) ∧ wx.cell? ⟨wr.heap.size, 1, none⟩ = some (.int .i64 s.hash) ∧ wx.cell? ⟨wr.heap.size, 2, none⟩ = some (.int .i64 s.wit) ∧ wx.cell? ⟨wr.heap.size, 3, none⟩ = some (.string ⟨s.val.toArray⟩)) := Lib.hid (fun wx h => by
            have hb := HCE.out wx h
            refine ⟨?_, ?_, ?_, ?_⟩ <;> (rw [Lib.cell_of_heap hb]; rfl))
          have n0 : (0 : Int) ≤ (j : Int) := by omega
          have n1 : (j : Int) < (m : Int) := by omega
          have hd : decide ((j : Int) < (m : Int)) = true := by rw [decide_eq_true_iff]; omega
          have hd2 : decide (j < m) = true := by rw [decide_eq_true_iff]; omega
          go_upto_region 9 with fail
          refine region_quietC (C := fun wx => Scr w3.heap.size w3.heap.size (cov v (L.take j)) wx ∧ Kpt w3.heap.size w3.heap.size (wr.alloc (.cells #[.int .i64 s.day, .int .i64 s.hash, .int .i64 s.wit, .string ⟨s.val.toArray⟩] 28)) wx) (by kernel_rfl) (by kernel_rfl) ⟨HSC.out.alloc _, ⟨(Below.refl _ _).drew, (Lib.OthersKept.refl _ _ _).drew⟩⟩ ?_
          simp only [stv] at HVA
          generalize hCC : (fun wx => Scr w3.heap.size w3.heap.size (cov v (L.take j)) wx ∧ Kpt w3.heap.size w3.heap.size (wr.alloc (.cells #[.int .i64 s.day, .int .i64 s.hash, .int .i64 s.wit, .string ⟨s.val.toArray⟩] 28)) wx) = C
          have HVA' : Hid (∀ wx, C wx → Calls Tryd.prog 45 #[.agg #[.int .i64 s.day, .int .i64 s.hash, .int .i64 s.wit, .string ⟨s.val.toArray⟩], .pointer (some ⟨w3.heap.size, 0, none⟩)] wx fun e w' => e = .returned (.string ⟨(hashV s.hash (cov v (L.take j) ++ nums s)).toArray⟩) ∧ C w') := by subst hCC; exact HVA
          have HCC' : Hid (∀ wx, C wx → wx.cell? ⟨wr.heap.size, 0, none⟩ = some (.int .i64 s.day) ∧ wx.cell? ⟨wr.heap.size, 1, none⟩ = some (.int .i64 s.hash) ∧ wx.cell? ⟨wr.heap.size, 2, none⟩ = some (.int .i64 s.wit) ∧ wx.cell? ⟨wr.heap.size, 3, none⟩ = some (.string ⟨s.val.toArray⟩)) := by subst hCC; exact HCC
          have HOUT : Hid (∀ wx, C wx → Scr w3.heap.size w3.heap.size (cov v (L.take j)) wx ∧ Kpt w3.heap.size w3.heap.size (wr.alloc (.cells #[.int .i64 s.day, .int .i64 s.hash, .int .i64 s.wit, .string ⟨s.val.toArray⟩] 28)) wx) := by subst hCC; exact Lib.hid (fun wx h => h)
          clear hCC HVA
          repeat (
            first
              | go_big_quiet_skip
              | (go_big_quiet_want
                 go_big_quiet_op
                 first
                   | go_big_quiet_on
                   | (apply Exists.intro
                      refine ⟨fun wx hx => ?_, ?_⟩
                      · first
                        | (go_at_call 45; exact HVA'.out _ hx)
                        | exact rfl
                        | (obtain ⟨c0, c1, c2, c3⟩ := HCC'.out _ hx; go_simp; exact rfl)
                      go_big_quiet_on)))
          refine wpQuiet_nil ?_
          intro w' hw'
          obtain ⟨c0, c1, c2, c3⟩ := HCC.out _ hw'
          have hblk' := HCE.out _ hw'
          have HBLK := Lib.hid hblk'
          clear hblk'
          obtain ⟨q1, q2⟩ := hw'
          have Q1 := Lib.hid q1
          have hbW : Below w1.heap.size w1 w' := (hb.alloc (by omega) _).trans (q2.1.mono hsz3)
          have HBW := Lib.hid hbW
          have hsW := q2.1.size
          rw [size_alloc] at hsW
          have hlt' : wr.heap.size < w'.heap.size := by omega
          clear q1 q2 hbW
          by_cases heq : s.val = hashV s.hash (cov v (L.take j) ++ nums s)
          · have hbe : (s.val == hashV s.hash (cov v (L.take j) ++ nums s)) = true := beq_iff_eq.2 heq
            have hck := Lib.hid (HN.out.2 ⟨hok, hld, heq⟩)
            rw [hbe, Bool.not_true]
            have G := Lib.hid hfine
            have hfv := hfine.2.2.2
            clear hbe heq
            go_wp2_with fail
            refine (numbers_any w3.heap.size w3.heap.size _ s _ Q1.out G.out.1 G.out.2.1 G.out.2.2.1 (by omega) (by omega)).mono ?_
            rintro e w5 ⟨rfl, h5, hk5⟩
            have hb5 := hk5.2 wr.heap.size _ HBLK.out hne (by intro c fz h; cases h)
            have y3 : w5.cell? ⟨wr.heap.size, 3, none⟩ = some (.string ⟨s.val.toArray⟩) := by rw [Lib.cell_of_heap hb5]; rfl
            have H5 := Lib.hid h5
            have K5 := Lib.hid (HBW.out.trans (hk5.1.mono hsz3))
            have hsz5 := hk5.1.size
            clear h5 hk5 hb5
            go_wp2_with fail
            refine (text_any w3.heap.size w3.heap.size _ ⟨s.val.toArray⟩ _ H5.out (by rw [str_size]; omega) (by rw [List.length_append]; omega) (by omega)).mono ?_
            rintro e w6 ⟨rfl, h6, hk6⟩
            have H6 := Lib.hid h6
            have K6 := Lib.hid (K5.out.trans (hk6.1.mono hsz3))
            clear h6 hk6
            go_wp2_with fail
            exact ⟨⟨j + 1, by omega, by push_cast; rfl, hck.out, by rw [HT.out]; exact H6.out, K6.out⟩, by simp [intOf]; omega⟩
          · have hbe : (s.val == hashV s.hash (cov v (L.take j) ++ nums s)) = false := beq_eq_false_iff_ne.2 heq
            have hno : R = false := by rw [← HR.out]; exact check_no v L (j+1) (fun h => heq (HN.out.1 h).2.2)
            subst hno
            rw [hbe, Bool.not_false]
            go_wp2_with fail
            go_ret
            exact ⟨rfl, HBW.out⟩
        · obtain rfl : j = m := by omega
          have htl : L.take j = L := List.take_of_length_le (by rw [HM.out]; exact Nat.le_refl _)
          have hyes : R = true := by rw [← HR.out, check_iff]; exact ⟨H0.out, by rw [← htl]; exact HP.out⟩
          subst hyes
          have hd : decide ((j : Int) < (j : Int)) = false := by simp
          have hd2 : decide (j < j) = false := by simp
          go_wp2_with fail
          go_ret
          exact ⟨rfl, hb⟩
    · have HCW := Lib.hid (check_unsorted (v := v) hso)
      rw [HCW.out]
      have HSW := Lib.hid hS
      go_enter Tryd.func21, Tryd.ntmps21
      go_wp2_with fail
      refine (within_any L.length 1 64 _).mono ?_
      rintro e w1 ⟨rfl, rfl⟩
      rw [hwn]
      go_wp2_with fail
      refine HCN.out.mono ?_
      rintro e w2 ⟨rfl, hb2⟩
      go_wp2_with fail
      refine (HSO.out w2 (HSW.out.below hb2)).mono ?_
      rintro e w3 ⟨⟨r, rfl, hr⟩, hb3⟩
      obtain rfl : r = false := by
        cases r with
        | false => rfl
        | true => exact absurd (hr.1 rfl) hso
      clear hr
      go_wp2_with fail
      go_ret
      exact ⟨rfl, hb2.trans (hb3.mono hb2.size)⟩
end Go.Proofs.YtkihcigojhcmgaaDoor
