/- Decode: the reader of numbers, and Decode itself. -/
import Derived.Test.YthblehinmbgbdaaG29
import Derived.Test.YthblehinmbgbdaaG22
import Derived.Test.YthblehinmbgbdaaG27
import Derived.Lib.SmallJoins
namespace Go.Proofs.Ythblehinmbgbdaa
open Go.RowKit
set_option maxRecDepth 100000

/-- A reader in block q. -/
def Rd (q : Nat) (s : ByteArray) (k : Nat) (b : Bool) (w : World) : Prop := w.heap[q]? = some (.cells #[.string s, .int .i64 k, .bool b] 81 (0, 0))
theorem Rd.kept {q : Nat} {s : ByteArray} {k : Nat} {b : Bool} {w w' : World} {row : Option Nat} (h : Rd q s k b w) (hg : w.grownBy w' row) (hne : some q ≠ row) : Rd q s k b w' := (hg.block q (Array.getElem?_eq_some_iff.1 h).1 hne).trans h
set_option maxHeartbeats 1000000 in
theorem number_any (q : Nat) (s : ByteArray) (k : Nat) (b : Bool) (w : World) (h : Rd q s k b w) (hs : s.size ≤ 4611686018427387903) (hk : k ≤ s.size) :
    Calls Try.prog 46 #[.pointer (some ⟨q, 0, none⟩)] w fun e w' => e = .returned (.int .i64 (rd s.data.toList k b).1) ∧ Rd q s (rd s.data.toList k b).2.1 (rd s.data.toList k b).2.2 w' ∧ w.grownBy w' (some q) := by
  have HI := Lib.hid (fun W => int_any s k W hs)
  have c0 : w.cell? ⟨q, 0, none⟩ = some (.string s) := by rw [Lib.cell_of_heap h]; rfl
  have c1 : w.cell? ⟨q, 1, none⟩ = some (.int .i64 k) := by rw [Lib.cell_of_heap h]; rfl
  have HF : Hid (∀ (n i : Nat), (w.drewN n).frozen? ⟨q, i, none⟩ = false) := Lib.hid (fun n i => by
    have : (w.drewN n).heap[q]? = some (.cells #[.string s, .int .i64 k, .bool b] 81 (0, 0)) := h
    exact Lib.frozen_of_heap this i)
  have HC : Hid (∀ (n : Nat), (w.drewN n).cell? ⟨q, 1, none⟩ = some (.int .i64 k) ∧ (w.drewN n).cell? ⟨q, 2, none⟩ = some (.bool b)) := Lib.hid (fun n => by
    have : (w.drewN n).heap[q]? = some (.cells #[.string s, .int .i64 k, .bool b] 81 (0, 0)) := h
    exact ⟨by rw [Lib.cell_of_heap this]; rfl, by rw [Lib.cell_of_heap this]; rfl⟩)
  have HR := Lib.hid h
  have hk' : k ≤ s.data.toList.length := by rw [Array.length_toList]; exact hk
  cases hr : readInt s.data.toList k with
  | none =>
    have hrd : rd s.data.toList k b = (0, k, true) := by rw [rd, hr]
    rw [hrd]
    rw [intOut_none hk' hr] at HI
    simp only [intV] at HI
    clear h hr hs hk hk' hrd
    go_enter Try.func46, Try.ntmps46
    go_wp2_with fail
    go_quiet ((go_at_call 59; exact Calls.quiet_of_same ((HI.out _).mono fun e w' ⟨a, b⟩ => ⟨a, b.symm⟩)))
    have f2 := HF.out nq 2
    have c2 := (HC.out nq).2
    have HRQ := Lib.hid (show (w.drewN nq).heap[q]? = some (.cells #[.string s, .int .i64 k, .bool b] 81 (0, 0)) from HR.out)
    have HGD := Lib.hid (Below.grown0 (Below_drewN (Below.refl w.heap.size w) nq))
    obtain ⟨wd, hwd⟩ : ∃ wd, w.drewN nq = wd := ⟨_, rfl⟩
    rw [hwd] at f2 c2 HRQ HGD ⊢
    clear hwd HF HC
    go_wp2_with fail
    go_ret
    refine ⟨rfl, Go.Joins.block_setCell HRQ.out _, ?_⟩
    exact (HGD.out.but (some q)).trans (grown_set wd q 2 _)
  | some p =>
    obtain ⟨n, nx⟩ := p
    have hrd : rd s.data.toList k b = (n, nx, b) := by rw [rd, hr]
    rw [hrd]
    rw [intOut_some hk' hr] at HI
    simp only [intV] at HI
    clear h hr hs hk hk' hrd
    go_enter Try.func46, Try.ntmps46
    go_wp2_with fail
    go_quiet ((go_at_call 59; exact Calls.quiet_of_same ((HI.out _).mono fun e w' ⟨a, b⟩ => ⟨a, b.symm⟩)))
    have f2 := HF.out nq 1
    have c2 := (HC.out nq).1
    have HRQ := Lib.hid (show (w.drewN nq).heap[q]? = some (.cells #[.string s, .int .i64 k, .bool b] 81 (0, 0)) from HR.out)
    have HGD := Lib.hid (Below.grown0 (Below_drewN (Below.refl w.heap.size w) nq))
    obtain ⟨wd, hwd⟩ : ∃ wd, w.drewN nq = wd := ⟨_, rfl⟩
    rw [hwd] at f2 c2 HRQ HGD ⊢
    clear hwd HF HC
    go_wp2_with fail
    go_ret
    refine ⟨rfl, Go.Joins.block_setCell HRQ.out _, ?_⟩
    exact (HGD.out.but (some q)).trans (grown_set wd q 1 _)

theorem ERow.kept {W W' : World} {row : Option Nat} {base : Nat} {v : Value} {L : List Ev} (h : ERow W base v L) (hg : W.grownBy W' row) (hne : v.ownBlock ≠ row) : ERow W' base v L := World.ownsRow.kept h hg (.inr hne)
theorem Rd.not_row {q : Nat} {s : ByteArray} {k : Nat} {b : Bool} {w : World} (h : Rd q s k b w) {base : Nat} {v : Value} {L : List Ev} (hr : ERow w base v L) : v.ownBlock ≠ some q := by
  intro hv
  rcases hr.2 with ⟨rfl, _⟩ | ⟨g, cap, cur, rfl, _, hgb, _⟩
  · cases hv
  · injection hv with hv
    subst hv
    have := (show w.heap[g]? = _ from h).symm.trans hgb
    injection this with this
    injection this with _ ht _
    exact absurd ht (by decide)
theorem Below.of_grown {B q : Nat} {w w' : World} (h : w.grownBy w' (some q)) (hB : B ≤ w.heap.size) (hq : B ≤ q) : Below B w w' := (Below.refl _ _).grown h hB (fun k hk => by injection hk with hk; omega)
theorem step_eq {S : List UInt8} {k0 j : Nat} {P : PS} {n1 n2 n3 n4 : Int} {k1 k2 k3 k4 : Nat} {b1 b2 b3 b4 : Bool} (hP : runP S k0 j = P) (e1 : rd S P.pos P.bad = (n1, k1, b1)) (e2 : rd S k1 b1 = (n2, k2, b2)) (e3 : rd S k2 b2 = (n3, k3, b3)) (e4 : rd S k3 b3 = (n4, k4, b4)) :
    runP S k0 (j + 1) = ⟨k4, b4, lastP P.odd P.last n1, oddP P.odd n1, P.evs ++ [⟨lastP P.odd P.last n1, n2, n3, n4⟩]⟩ := by
  rw [runP, hP]; simp only [stepP, e1, e2, e3, e4]
theorem Rd.alloc {q : Nat} {s : ByteArray} {k : Nat} {b : Bool} {w : World} (h : Rd q s k b w) (o : Obj) : Rd q s k b (w.alloc o) := h.kept (World.grownBy_alloc w o none) (by simp)
theorem lastP_odd {o : Bool} {l n : Int} (h : oddP o n = true) : lastP o l n = l := by rw [lastP, if_pos h]
theorem lastP_even {o : Bool} {l n : Int} (h : oddP o n = false) : lastP o l n = l + n := by rw [lastP, h]; rfl
set_option maxHeartbeats 4000000 in
theorem decode_any (s : ByteArray) (w : World) (hs : s.size ≤ 4611686018427387903) :
    Calls Try.prog 27 #[.string s] w fun e w' => ∃ v, e = .returned (.tuple #[v, .int .i64 (decodeR s.data.toList).2]) ∧ ERow w' w.heap.size v (decodeR s.data.toList).1 ∧ Below w.heap.size w w' := by
  have HS := Lib.hid hs
  obtain ⟨S, hS⟩ : ∃ S, s.data.toList = S := ⟨_, rfl⟩
  have HSS := Lib.hid hS
  have HLN : Hid (S.length = s.size) := Lib.hid (by rw [← hS, Array.length_toList]; rfl)
  rw [hS]
  have HNUM : Hid (∀ (q k : Nat) (b : Bool) W, Rd q s k b W → k ≤ s.size → Calls Try.prog 46 #[.pointer (some ⟨q, 0, none⟩)] W fun e w' => e = .returned (.int .i64 (rd S k b).1) ∧ Rd q s (rd S k b).2.1 (rd S k b).2.2 w' ∧ W.grownBy w' (some q)) := Lib.hid (fun q k b W h hk => by
    have := number_any q s k b W h HS.out hk
    rwa [hS] at this)
  clear hS
  have HR0 : Hid (Rd w.heap.size s 0 false (w.alloc (.cells #[.string s, .int .i64 0, .bool false] 81))) := Lib.hid (heap_last _ _)
  obtain ⟨w1, hw1⟩ : ∃ w1, w.alloc (.cells #[.string s, .int .i64 0, .bool false] 81) = w1 := ⟨_, rfl⟩
  have HB1 : Hid (Below w.heap.size w w1) := Lib.hid (by rw [← hw1]; exact (Below.refl _ _).alloc (Nat.le_refl _) _)
  have HW := Lib.hid (fun (n a b : Int) W => within_any n a b W)
  cases hr : readInt S 0 with
  | none =>
    have hrd : rd S 0 false = (0, 0, true) := by rw [rd, hr]
    have hdec : decodeR S = ([], 10) := by rw [decodeR, hr]
    rw [hdec]
    rw [hw1] at HR0
    have HN := Lib.hid (HNUM.out w.heap.size 0 false w1 HR0.out (by omega))
    rw [hrd] at HN
    clear hr hrd hdec HNUM
    go_enter Try.func27, Try.ntmps27
    go_wp2_with fail
    refine HN.out.mono ?_
    rintro e w2 ⟨rfl, hr2, hg2⟩
    have c2 : w2.cell? ⟨w.heap.size, 2, none⟩ = some (.bool true) := by rw [Lib.cell_of_heap hr2]; rfl
    have HB2 := Lib.hid (HB1.out.trans (Below.of_grown hg2 HB1.out.size (Nat.le_refl _)))
    clear hr2 hg2 HN hw1
    go_wp2_with fail
    go_ret2
    exact ⟨_, rfl, ERow.nil _ _, HB2.out⟩
  | some p =>
    obtain ⟨n, k0⟩ := p
    have hrd : rd S 0 false = (n, k0, false) := by rw [rd, hr]
    rw [hw1] at HR0
    have HN := Lib.hid (HNUM.out w.heap.size 0 false w1 HR0.out (by omega))
    rw [hrd] at HN
    have HK0 := Lib.hid (show k0 ≤ S.length from (readInt_bounds hr (by omega)).2.1)
    have HRI := Lib.hid hr
    clear hr hrd
    by_cases hn : 0 ≤ n ∧ n ≤ 1000
    · have hd : decide (0 ≤ n ∧ n ≤ 1000) = true := decide_eq_true hn
      have HW1 := Lib.hid (HW.out n 0 1000)
      rw [hd] at HW1
      obtain ⟨m, rfl⟩ : ∃ m : Nat, n = m := ⟨n.toNat, by omega⟩
      have hm : m ≤ 1000 := by omega
      have HDEC := Lib.hid (fun (P : PS) (hP : runP S k0 m = P) => decodeR_P HRI.out hn (P := P) (by simpa using hP))
      have HFC := Lib.hid (fun j => runP_facts (s := S) HK0.out j)
      obtain ⟨D, hD⟩ : ∃ D, decodeR S = D := ⟨_, rfl⟩
      rw [hD] at HDEC ⊢
      clear hn hd hD HRI
      go_enter Try.func27, Try.ntmps27
      go_wp2_with fail
      refine HN.out.mono ?_
      rintro e w2 ⟨rfl, hr2, hg2⟩
      obtain ⟨q, hq⟩ : ∃ q, w.heap.size = q := ⟨_, rfl⟩
      have c2 : w2.cell? ⟨q, 2, none⟩ = some (.bool false) := by rw [← hq, Lib.cell_of_heap hr2]; rfl
      have HB2 := Lib.hid (HB1.out.trans (Below.of_grown hg2 HB1.out.size (Nat.le_refl _)))
      have HR2 := Lib.hid hr2
      rw [hq] at HR2 ⊢
      have HQ : Hid (w.heap.size = q) := Lib.hid hq
      clear hr2 hg2 HN hw1 hq HR0 HB1
      go_wp2_with fail
      refine (HW1.out _).mono ?_
      rintro e w3 ⟨rfl, rfl⟩
      go_wp2_with fail
      go_loopw [7, 8, 9, 29] (fun o l d i wx => ∃ (j : Nat) (P : PS), j ≤ m ∧ i = .int .i64 j ∧ runP S k0 j = P ∧ l = .int .i64 P.last ∧ d = .bool P.odd ∧ ERow wx w.heap.size o P.evs ∧ Rd q s P.pos P.bad wx ∧ Below w.heap.size w wx) (fun _ _ _ i _ => m - (intOf i).toNat)
      case atStart => exact ⟨0, _, by omega, rfl, rfl, rfl, rfl, ERow.nil _ _, HR2.out, HB2.out⟩
      case round =>
        clear HR2 HB2 c2
        obtain ⟨j, P, hj, rfl, hP, rfl, rfl, hrow, hrd, hb⟩ := hrel
        have HP := Lib.hid hP
        have HROW := Lib.hid hrow
        have HRD := Lib.hid hrd
        have HB := Lib.hid hb
        have hfc := HFC.out j
        rw [hP] at hfc
        have HF := Lib.hid hfc
        obtain ⟨pos, bad, last, odd, evs⟩ := P
        simp only at HRD HROW HF ⊢
        clear hP hrow hrd hb hfc
        by_cases hlt : j < m
        · obtain ⟨n1, k1, b1, e1⟩ : ∃ n k b, rd S pos bad = (n, k, b) := ⟨_, _, _, rfl⟩
          obtain ⟨n2, k2, b2, e2⟩ : ∃ n k b, rd S k1 b1 = (n, k, b) := ⟨_, _, _, rfl⟩
          obtain ⟨n3, k3, b3, e3⟩ : ∃ n k b, rd S k2 b2 = (n, k, b) := ⟨_, _, _, rfl⟩
          obtain ⟨n4, k4, b4, e4⟩ : ∃ n k b, rd S k3 b3 = (n, k, b) := ⟨_, _, _, rfl⟩
          have g1 := rd_le (s := S) (k := pos) (b := bad) HF.out.1
          rw [e1] at g1
          have g2 := rd_le (s := S) (k := k1) (b := b1) g1.1
          rw [e2] at g2
          have g3 := rd_le (s := S) (k := k2) (b := b2) g2.1
          rw [e3] at g3
          have N1 := Lib.hid (HNUM.out q pos bad wr HRD.out (by rw [← HLN.out]; exact HF.out.1))
          rw [e1] at N1
          have N2 := Lib.hid (fun W h => HNUM.out q k1 b1 W h (by rw [← HLN.out]; exact g1.1))
          rw [e2] at N2
          have N3 := Lib.hid (fun W h => HNUM.out q k2 b2 W h (by rw [← HLN.out]; exact g2.1))
          rw [e3] at N3
          have N4 := Lib.hid (fun W h => HNUM.out q k3 b3 W h (by rw [← HLN.out]; exact g3.1))
          rw [e4] at N4
          have HST := Lib.hid (step_eq HP.out e1 e2 e3 e4)
          simp only at N1 N2 N3 N4 HST
          have HW2 := Lib.hid (HW.out n1 0 20000)
          have hd : decide ((j : Int) < (m : Int)) = true := by rw [decide_eq_true_iff]; omega
          have hd2 : decide (j < m) = true := by rw [decide_eq_true_iff]; omega
          clear e1 e2 e3 e4 g1 g2 g3
          go_wp2_with fail
          refine N1.out.mono ?_
          rintro e w3 ⟨rfl, hr3, hg3⟩
          have HB3 := Lib.hid (HB.out.trans (Below.of_grown hg3 HB.out.size (by rw [HQ.out]; exact Nat.le_refl _)))
          have HRW3 := Lib.hid (HROW.out.kept hg3 (HRD.out.not_row HROW.out))
          have HR3 := Lib.hid hr3
          clear hr3 hg3
          go_wp2_with fail
          refine (N2.out _ HR3.out).mono ?_
          rintro e w4 ⟨rfl, hr4, hg4⟩
          have HB4 := Lib.hid (HB3.out.trans (Below.of_grown hg4 HB3.out.size (by rw [HQ.out]; exact Nat.le_refl _)))
          have HRW4 := Lib.hid (HRW3.out.kept hg4 (HR3.out.not_row HRW3.out))
          have HR4 := Lib.hid hr4
          clear hr4 hg4
          go_wp2_with fail
          refine (N3.out _ HR4.out).mono ?_
          rintro e w5 ⟨rfl, hr5, hg5⟩
          have HB5 := Lib.hid (HB4.out.trans (Below.of_grown hg5 HB4.out.size (by rw [HQ.out]; exact Nat.le_refl _)))
          have HRW5 := Lib.hid (HRW4.out.kept hg5 (HR4.out.not_row HRW4.out))
          have HR5 := Lib.hid hr5
          clear hr5 hg5
          go_wp2_with fail
          refine (N4.out _ HR5.out).mono ?_
          rintro e w6 ⟨rfl, hr6, hg6⟩
          have HB6 := Lib.hid (HB5.out.trans (Below.of_grown hg6 HB5.out.size (by rw [HQ.out]; exact Nat.le_refl _)))
          have HRW6 := Lib.hid (HRW5.out.kept hg6 (HR5.out.not_row HRW5.out))
          have HR6 := Lib.hid hr6
          clear hr6 hg6 HB3 HB4 HB5 HRW3 HRW4 HRW5 HR3 HR4 HR5 N1 N2 N3 N4
          have hll : evs.length ≤ 1000 := by rw [HF.out.2.1]; omega
          cases odd with
          | true =>
            have ho : oddP true n1 = true := rfl
            rw [ho, lastP_odd ho] at HST
            clear ho
            go_wp2_with (at_builtin; refine append_events rfl _ _ rfl (by rfl) (base := w.heap.size) (L := evs) (X := [⟨last, n2, n3, n4⟩]) (M := evs ++ [⟨last, n2, n3, n4⟩]) ((HRW6.out.alloc _).alloc _) (by simp only [size_alloc]; have := HB6.out.size; omega) hll (by rfl) (evs_block (heap_last' _ _ (size_alloc _ _))) (by rfl) (by omega) (by omega) rfl ?_; intro g' c' w7 hrow7 hb7 hg7 _)
            exact ⟨⟨j + 1, _, by omega, by push_cast; rfl, HST.out, rfl, rfl, (by rw [List.length_append] at hrow7; exact hrow7), ((HR6.out.alloc _).alloc _).kept hg7 (Ne.symm (HR6.out.not_row HRW6.out)), ((HB6.out.alloc HB6.out.size _).alloc (by simp only [size_alloc]; have := HB6.out.size; omega) _).trans hb7⟩, by simp [intOf]; omega⟩
          | false =>
            obtain ⟨y, hy⟩ : ∃ y, decide (0 ≤ n1 ∧ n1 ≤ 20000) = y := ⟨_, rfl⟩
            have ho : oddP false n1 = !y := by rw [oddP, hy]; rfl
            rw [hy] at HW2
            cases y with
            | false =>
              rw [ho, lastP_odd ho] at HST
              clear ho hy
              go_wp2_with fail
              refine (HW2.out _).mono ?_
              rintro e w8 ⟨rfl, rfl⟩
              go_wp2_with (at_builtin; refine append_events rfl _ _ rfl (by rfl) (base := w.heap.size) (L := evs) (X := [⟨last, n2, n3, n4⟩]) (M := evs ++ [⟨last, n2, n3, n4⟩]) ((HRW6.out.alloc _).alloc _) (by simp only [size_alloc]; have := HB6.out.size; omega) hll (by rfl) (evs_block (heap_last' _ _ (size_alloc _ _))) (by rfl) (by omega) (by omega) rfl ?_; intro g' c' w7 hrow7 hb7 hg7 _)
              exact ⟨⟨j + 1, _, by omega, by push_cast; rfl, HST.out, rfl, rfl, (by rw [List.length_append] at hrow7; exact hrow7), ((HR6.out.alloc _).alloc _).kept hg7 (Ne.symm (HR6.out.not_row HRW6.out)), ((HB6.out.alloc HB6.out.size _).alloc (by simp only [size_alloc]; have := HB6.out.size; omega) _).trans hb7⟩, by simp [intOf]; omega⟩
            | true =>
              rw [ho, lastP_even ho] at HST
              have hwr : IntKind.i64.wrap (last + n1) = last + n1 := by
                have h1 := HF.out.2.2
                have h2 := of_decide_eq_true hy
                rw [IntKind.wrap_i64]; omega
              obtain ⟨l', hl'⟩ : ∃ l', last + n1 = l' := ⟨_, rfl⟩
              rw [hl'] at HST
              have hwr2 : IntKind.i64.wrap (last + n1) = l' := hwr.trans hl'
              clear ho hy hwr hl'
              go_wp2_with fail
              refine (HW2.out _).mono ?_
              rintro e w8 ⟨rfl, rfl⟩
              go_wp2_with (at_builtin; refine append_events rfl _ _ rfl (by rfl) (base := w.heap.size) (L := evs) (X := [⟨l', n2, n3, n4⟩]) (M := evs ++ [⟨l', n2, n3, n4⟩]) ((HRW6.out.alloc _).alloc _) (by simp only [size_alloc]; have := HB6.out.size; omega) hll (by rfl) (evs_block (heap_last' _ _ (size_alloc _ _))) (by rfl) (by omega) (by omega) rfl ?_; intro g' c' w7 hrow7 hb7 hg7 _)
              exact ⟨⟨j + 1, _, by omega, by push_cast; rfl, HST.out, rfl, rfl, (by rw [List.length_append] at hrow7; exact hrow7), ((HR6.out.alloc _).alloc _).kept hg7 (Ne.symm (HR6.out.not_row HRW6.out)), ((HB6.out.alloc HB6.out.size _).alloc (by simp only [size_alloc]; have := HB6.out.size; omega) _).trans hb7⟩, by simp [intOf]; omega⟩
        · obtain rfl : j = m := by omega
          have hd : decide ((j : Int) < (j : Int)) = false := by simp
          have hd2 : decide (j < j) = false := by simp
          have c1 : wr.cell? ⟨q, 1, none⟩ = some (.int .i64 pos) := by rw [Lib.cell_of_heap HRD.out]; rfl
          have c2 : wr.cell? ⟨q, 2, none⟩ = some (.bool bad) := by rw [Lib.cell_of_heap HRD.out]; rfl
          have HD := Lib.hid (HDEC.out _ HP.out)
          simp only at HD
          have hll : evs.length ≤ 1000 := by rw [HF.out.2.1]; omega
          obtain ⟨a7, c7, rfl, -, hS7, -⟩ := HROW.out.isSlice
          have HV := Lib.hid (validP_any a7 c7 evs wr hS7 hll)
          obtain ⟨n7, hn7⟩ : ∃ n7, evs.length = n7 := ⟨_, rfl⟩
          rw [hn7] at HROW HV hll ⊢
          clear hS7 HF HP hn7
          cases bad with
          | true =>
            have HD := Lib.hid (show D = ([], 10) from HD.out)
            go_wp2_with fail
            go_ret2
            exact ⟨_, by rw [HD.out]; rfl, by rw [HD.out]; exact ERow.nil _ _, HB.out⟩
          | false =>
            by_cases hp : pos = S.length
            · have hps : (pos : Int) = (s.size : Int) := by rw [hp, HLN.out]
              have hq1 : ((pos : Int) != (s.size : Int)) = false := by rw [hps]; simp
              have hq2 : (pos != s.size) = false := by rw [hp, HLN.out]; simp
              have HD := Lib.hid (show D = if odd || !validP evs then ([], 130) else (evs, 0) by rw [HD.out, if_neg (by simp [hp])])
              clear hp hps
              cases odd with
              | true =>
                have HD := Lib.hid (show D = ([], 130) from HD.out)
                go_wp2_with fail
                go_ret2
                exact ⟨_, by rw [HD.out]; rfl, by rw [HD.out]; exact ERow.nil _ _, HB.out⟩
              | false =>
                obtain ⟨y, hy⟩ : ∃ y, validP evs = y := ⟨_, rfl⟩
                rw [hy] at HV HD
                clear hy
                cases y with
                | false =>
                  have HD := Lib.hid (show D = ([], 130) from HD.out)
                  go_wp2_with fail
                  refine HV.out.mono ?_
                  rintro e w9 ⟨rfl, hb9⟩
                  have HB9 := Lib.hid (HB.out.trans (hb9.mono HB.out.size))
                  clear hb9
                  go_wp2_with fail
                  go_ret2
                  exact ⟨_, by rw [HD.out]; rfl, by rw [HD.out]; exact ERow.nil _ _, HB9.out⟩
                | true =>
                  have HD := Lib.hid (show D = (evs, 0) from HD.out)
                  go_wp2_with fail
                  refine HV.out.mono ?_
                  rintro e w9 ⟨rfl, hb9⟩
                  have HB9 := Lib.hid (HB.out.trans (hb9.mono HB.out.size))
                  have HR9 := Lib.hid (ERow.below HROW.out hb9)
                  clear hb9
                  go_wp2_with fail
                  go_ret2
                  exact ⟨_, by rw [HD.out]; rfl, by rw [HD.out]; exact HR9.out, HB9.out⟩
            · have hps : ¬ (pos : Int) = (s.size : Int) := by rw [← HLN.out]; omega
              have hq1 : ((pos : Int) != (s.size : Int)) = true := by rw [bne_iff_ne]; exact hps
              have hq2 : (pos != s.size) = true := by rw [bne_iff_ne]; omega
              have HD := Lib.hid (show D = ([], 10) by rw [HD.out, if_pos (by simp [hp])])
              clear hp hps
              go_wp2_with fail
              go_ret2
              exact ⟨_, by rw [HD.out]; rfl, by rw [HD.out]; exact ERow.nil _ _, HB.out⟩
    · have hdec : decodeR S = ([], 130) := by rw [decodeR, HRI.out]; simp only; rw [if_neg hn]
      rw [hdec]
      have hd : decide (0 ≤ n ∧ n ≤ 1000) = false := decide_eq_false hn
      have HW1 := Lib.hid (HW.out n 0 1000)
      rw [hd] at HW1
      clear hdec hn hd HNUM HRI
      go_enter Try.func27, Try.ntmps27
      go_wp2_with fail
      refine HN.out.mono ?_
      rintro e w2 ⟨rfl, hr2, hg2⟩
      have c2 : w2.cell? ⟨w.heap.size, 2, none⟩ = some (.bool false) := by rw [Lib.cell_of_heap hr2]; rfl
      have HB2 := Lib.hid (HB1.out.trans (Below.of_grown hg2 HB1.out.size (Nat.le_refl _)))
      clear hr2 hg2 HN hw1
      go_wp2_with fail
      refine (HW1.out _).mono ?_
      rintro e w3 ⟨rfl, rfl⟩
      go_wp2_with fail
      go_ret2
      exact ⟨_, rfl, ERow.nil _ _, HB2.out⟩
end Go.Proofs.Ythblehinmbgbdaa
