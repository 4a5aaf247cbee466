/- Good of the reference. -/
import Derived.Test.YtkihcigojhcmgaaDoorG11
import Derived.Test.YtkihcigojhcmgaaDoorG01
namespace Go.Proofs.YtkihcigojhcmgaaDoor
open Go.RowKit
set_option maxRecDepth 100000

/-- A break in memory. -/
def brAt (W : World) (b o : Nat) (x : Brk) : Prop :=
  W.cell? ⟨b, o, none⟩ = some (.int .i64 x.hash) ∧ W.cell? ⟨b, o + 1, none⟩ = some (.int .i64 x.wit) ∧ W.cell? ⟨b, o + 2, none⟩ = some (.int .i64 x.frm) ∧ W.cell? ⟨b, o + 3, none⟩ = some (.int .i64 x.known)
/-- Breaks that a slice holds. -/
def BrS (W : World) (a : Option Addr) (L : List Brk) : Prop := ∀ i x, L[i]? = some x → ∃ b o, a = some ⟨b, o, none⟩ ∧ b < W.heap.size ∧ brAt W b (o + i * 4) x
theorem brAt.below {W W1 : World} {b o : Nat} {x : Brk} (h : brAt W b o x) (hb : b < W.heap.size) (hw : Below W.heap.size W W1) : brAt W1 b o x :=
  ⟨((bcell hw).1 b _ hb).trans h.1, ((bcell hw).1 b _ hb).trans h.2.1, ((bcell hw).1 b _ hb).trans h.2.2.1, ((bcell hw).1 b _ hb).trans h.2.2.2⟩
theorem BrS.below {W W1 : World} {a : Option Addr} {L : List Brk} (h : BrS W a L) (hw : Below W.heap.size W W1) : BrS W1 a L := by
  intro i s hi
  obtain ⟨b, o, ha, hb, hs⟩ := h i s hi
  exact ⟨b, o, ha, Nat.lt_of_lt_of_le hb hw.size, hs.below hb hw⟩
theorem BrS.nil (W : World) (a : Option Addr) : BrS W a [] := by intro i s hi; simp at hi

theorem take_more {α : Type} {l : List α} {j : Nat} {x : α} (h : l[j]? = some x) : l.take (j + 1) = l.take j ++ [x] := by rw [List.take_add_one, h]; rfl
theorem cnt_nat (T : Nat) (h : T < 256) : cnt (T : Int) = (popc T : Int) := by rw [cnt, if_pos ⟨by omega, by omega⟩]; simp

theorem sub_bit (T p : Nat) (x : Int) (h : (p : Int) = x) (hp : p ≤ T) (hT : T < 256) : Value.int .i64 (wrap64 ((T : Int) - wrap64 x)) = .int .i64 ((T - p : Nat) : Int) := by
  subst h
  rw [wrap_small (p : Int) (by omega) (by omega), wrap_small _ (by omega) (by omega), Int.ofNat_sub hp]
set_option maxHeartbeats 1000000 in
theorem refGood_any (s : Stp) (a : Option Addr) (c : Nat) (bs : List Brk) (known day : Int) (w : World) (hS : BrS w a bs) (hL : bs.length ≤ 1000000) :
    Calls Tryd.prog 34 #[stv s, .slice a bs.length c, .int .i64 known, .int .i64 day] w fun e w' => e = .returned (.bool (good s bs known day)) ∧ Below w.heap.size w w' := by
  have HV := Lib.hid (fun W => refValid_any s W)
  obtain ⟨m, hm⟩ : ∃ m, bs.length = m := ⟨_, rfl⟩
  rw [hm] at hL ⊢
  have HM := Lib.hid hm
  have HS := Lib.hid hS
  clear hm hS
  generalize hR : good s bs known day = R
  have HR := Lib.hid hR
  clear hR
  simp only [stv] at *
  go_enter Tryd.func34, Tryd.ntmps34
  go_wp2_with fail
  refine (HV.out _).mono ?_
  rintro e w1 ⟨rfl, hb1⟩
  clear HV
  cases hval : valid s with
  | false =>
    have hno : R = false := by rw [← HR.out]; exact good_invalid hval
    subst hno
    go_wp2_with fail
    go_ret
    exact ⟨rfl, ((Below.refl _ w).alloc (Nat.le_refl _) _).trans (hb1.mono (by rw [size_alloc]; omega))⟩
  | true =>
  have HVAL := Lib.hid hval
  obtain ⟨-, -, -, -, hw0, hw1, -⟩ := (valid_iff s).1 hval
  have hblk : w1.heap[w.heap.size]? = some (.cells #[.int .i64 s.day, .int .i64 s.hash, .int .i64 s.wit, .string ⟨s.val.toArray⟩] 28 (0, 0)) := by
    rw [hb1.block w.heap.size (by rw [size_alloc]; omega)]; exact heap_last _ _
  have HB1 := Lib.hid (((Below.refl w.heap.size w).alloc (Nat.le_refl _) (.cells #[.int .i64 s.day, .int .i64 s.hash, .int .i64 s.wit, .string ⟨s.val.toArray⟩] 28)).trans (hb1.mono (by rw [size_alloc]; omega)))
  have y1 : w1.cell? ⟨w.heap.size, 1, none⟩ = some (.int .i64 s.hash) := by rw [Lib.cell_of_heap hblk]; rfl
  have y2 : w1.cell? ⟨w.heap.size, 2, none⟩ = some (.int .i64 s.wit) := by rw [Lib.cell_of_heap hblk]; rfl
  have HBK := Lib.hid hblk
  have hlt1 := World.block_lt_of_cell? _ _ y1
  clear hblk hb1 hval
  obtain ⟨t, ht⟩ : ∃ t : Nat, s.wit = t := ⟨s.wit.toNat, by omega⟩
  rw [ht] at y2 hw0 hw1
  have HT := Lib.hid ht
  clear ht
  go_wp2_with fail
  go_loopw [10, 11] (fun v i wx => ∃ (j T : Nat), j ≤ m ∧ i = .int .i64 j ∧ v = .int .i64 (T : Int) ∧ Left T t (bs.take j) known day ∧ hashGone s.hash (bs.take j) known day = false ∧ Below w1.heap.size w1 wx) (fun _ i _ => m - (intOf i).toNat)
  case atStart => exact ⟨0, t, by omega, rfl, rfl, by rw [List.take_zero]; exact Left.start (by omega) _ _, rfl, Below.refl _ _⟩
  case round =>
    obtain ⟨j, T, hj, rfl, rfl, hleft, hhash, hb⟩ := hrel
    have hsz := hb.size
    have HLEFT := Lib.hid hleft
    have HHASH := Lib.hid hhash
    have HB := Lib.hid hb
    have hT256 := hleft.1
    clear hleft hhash
    by_cases hlt : j < m
    · obtain ⟨x, hxj⟩ : ∃ x, bs[j]? = some x := ⟨_, List.getElem?_eq_getElem (by rw [HM.out]; exact hlt)⟩
      obtain ⟨b, o, rfl, hbl, x0, x1, x2, x3⟩ := (HS.out.below (HB1.out.trans (hb.mono HB1.out.size))) j x hxj
      have HTK := Lib.hid (take_more hxj)
      have z1 : wr.cell? ⟨w.heap.size, 1, none⟩ = some (.int .i64 s.hash) := (hb.cell (p := ⟨w.heap.size, 1, none⟩) hlt1).trans y1
      have n0 : (0 : Int) ≤ (j : Int) := by omega
      have n1 : (j : Int) < (m : Int) := by omega
      have hd : decide ((j : Int) < (m : Int)) = true := by rw [decide_eq_true_iff]; omega
      have hd2 : decide (j < m) = true := by rw [decide_eq_true_iff]; omega
      have zz : ∀ o', (wr.alloc o').cell? ⟨w.heap.size, 1, none⟩ = some (.int .i64 s.hash) := fun o' => (((Below.refl wr.heap.size wr).alloc (Nat.le_refl _) o').cell (p := ⟨w.heap.size, 1, none⟩) (World.block_lt_of_cell? _ _ z1)).trans z1
      clear hxj hb
      by_cases k1 : known < x.known
      · have KN := Lib.hid (live_not (k := known) (u := day) (b := x) (.inl k1))
        go_wp2_with fail
        go_roundw
        case rel => exact ⟨j + 1, T, by omega, by push_cast; rfl, rfl, by rw [HTK.out]; exact HLEFT.out.keep x (.inl KN.out), by rw [HTK.out, hashGone_snoc, HHASH.out, KN.out]; rfl, HB.out.alloc hsz _⟩
        case measure => simp [intOf]; omega
      by_cases k2 : day < x.frm
      · have KN := Lib.hid (live_not (k := known) (u := day) (b := x) (.inr (.inl k2)))
        go_wp2_with fail
        go_roundw
        case rel => exact ⟨j + 1, T, by omega, by push_cast; rfl, rfl, by rw [HTK.out]; exact HLEFT.out.keep x (.inl KN.out), by rw [HTK.out, hashGone_snoc, HHASH.out, KN.out]; rfl, HB.out.alloc hsz _⟩
        case measure => simp [intOf]; omega
      by_cases k3 : x.wit < 0
      · have KN := Lib.hid (live_not (k := known) (u := day) (b := x) (.inr (.inr (.inl k3))))
        go_wp2_with fail
        go_roundw
        case rel => exact ⟨j + 1, T, by omega, by push_cast; rfl, rfl, by rw [HTK.out]; exact HLEFT.out.keep x (.inl KN.out), by rw [HTK.out, hashGone_snoc, HHASH.out, KN.out]; rfl, HB.out.alloc hsz _⟩
        case measure => simp [intOf]; omega
      by_cases k4 : 8 < x.wit
      · have KN := Lib.hid (live_not (k := known) (u := day) (b := x) (.inr (.inr (.inr k4))))
        go_wp2_with fail
        go_roundw
        case rel => exact ⟨j + 1, T, by omega, by push_cast; rfl, rfl, by rw [HTK.out]; exact HLEFT.out.keep x (.inl KN.out), by rw [HTK.out, hashGone_snoc, HHASH.out, KN.out]; rfl, HB.out.alloc hsz _⟩
        case measure => simp [intOf]; omega
      have KL := Lib.hid ((live_iff known day x).2 ⟨by omega, by omega, by omega, by omega⟩)
      by_cases k5 : x.wit = 0
      · have KW := Lib.hid k5
        rw [k5] at x1
        clear k3 k4 k5
        by_cases k6 : x.hash = s.hash
        · have hno : R = false := by
            rw [← HR.out]
            refine good_hash (hashGone_take (j := j + 1) ?_)
            rw [HTK.out, hashGone_snoc, KL.out, HHASH.out]
            simp [KW.out, k6]
          subst hno
          rw [k6] at x0
          clear k6
          go_wp2_with fail
          go_ret
          exact ⟨rfl, HB1.out.trans ((HB.out.alloc hsz _).mono HB1.out.size)⟩
        · have KH := Lib.hid k6
          have k7 : (x.hash == s.hash) = false := beq_eq_false_iff_ne.2 k6
          clear k6
          go_wp2_with fail
          go_roundw
          case rel => exact ⟨j + 1, T, by omega, by push_cast; rfl, rfl, by rw [HTK.out]; exact HLEFT.out.keep x (.inr KW.out), by rw [HTK.out, hashGone_snoc, HHASH.out]; simp [KH.out], HB.out.alloc hsz _⟩
          case measure => simp [intOf]; omega
      · obtain ⟨q, hq⟩ : ∃ q : Nat, x.wit = (q : Int) + 1 := ⟨(x.wit - 1).toNat, by omega⟩
        have hq8 : q < 8 := by omega
        have HQ := Lib.hid hq
        have k5b : (((q : Int) + 1) == 0) = false := beq_eq_false_iff_ne.2 (by omega)
        rw [hq] at x1
        have HK5 := Lib.hid k5
        clear k3 k4 k5 hq
        have k8 : (0 : Int) < (q : Int) + 1 := by omega
        have k9 : (0 : Int) ≤ (q : Int) + 1 := by omega
        have k10 : (q : Int) + 1 ≤ 8 := by omega
        have k11 : (0 : Int) ≤ (q : Int) := by omega
        have hm : ((T : Int) / 2 ^ q).tmod 2 = ((T / 2 ^ q % 2 : Nat) : Int) := by
          rw [Int.tmod_eq_emod_of_nonneg (Int.ediv_nonneg (by omega) (Int.le_of_lt (Int.pow_pos (by omega))))]
          push_cast; rfl
        have hmm : ((T / 2 ^ q % 2 : Nat) : Int) = (T : Int) / 2 ^ q % 2 := by push_cast; rfl
        by_cases kb : T / 2 ^ q % 2 = 1
        · have kb2 : ((T : Int) / 2 ^ q % 2 == 1) = true := beq_iff_eq.2 (by rw [← hmm]; omega)
          have KB := Lib.hid kb
          clear kb hmm
          go_wp2_with fail
          refine ⟨⟨j + 1, T - 2 ^ q, by omega, by push_cast; rfl, ?_, by rw [HTK.out]; exact HLEFT.out.drop x KL.out q hq8 HQ.out KB.out, by rw [HTK.out, hashGone_snoc, HHASH.out]; simp [HK5.out], HB.out.alloc hsz _⟩, by simp [intOf]; omega⟩
          exact sub_bit T (2 ^ q) _ (by push_cast; rfl) (bit_le KB.out) hT256
        · have kb2 : ((T : Int) / 2 ^ q % 2 == 1) = false := beq_eq_false_iff_ne.2 (by rw [← hmm]; omega)
          have KB := Lib.hid kb
          clear kb hmm
          go_wp2_with fail
          exact ⟨⟨j + 1, T, by omega, by push_cast; rfl, rfl, by rw [HTK.out]; exact HLEFT.out.skip x q hq8 HQ.out KB.out, by rw [HTK.out, hashGone_snoc, HHASH.out]; simp [HK5.out], HB.out.alloc hsz _⟩, by simp [intOf]; omega⟩
    · obtain rfl : j = m := by omega
      have htl : bs.take j = bs := List.take_of_length_le (by rw [HM.out]; exact Nat.le_refl _)
      have hyes : R = decide (2 ≤ (popc T : Int)) := by
        rw [← HR.out]
        refine good_left HVAL.out ?_ ?_
        · rw [← htl]; exact HHASH.out
        · rw [HT.out, ← htl]; exact HLEFT.out
      subst hyes
      have hd : decide ((j : Int) < (j : Int)) = false := by simp
      have hd2 : decide (j < j) = false := by simp
      have HC := Lib.hid (cnt_nat T hT256)
      have HCC := Lib.hid (fun W => count_any T W)
      rw [HC.out] at HCC
      go_wp2_with fail
      refine (HCC.out wr).mono ?_
      rintro e w2 ⟨rfl, rfl⟩
      go_wp2_with fail
      go_ret
      exact ⟨rfl, HB1.out.trans (HB.out.mono HB1.out.size)⟩
end Go.Proofs.YtkihcigojhcmgaaDoor
