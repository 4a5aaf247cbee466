/- WireSumBurst: a change of at most 32 consecutive bits of a string changes its checksum. For every input. -/
import Derived.Test.YteffhohemodckaaDoorWireAff
import Derived.Test.YteffhohemodckaaDoorBurstMath
namespace Go.Proofs.YteffhohemodckaaDoor
open Go.RowKit

/-- A row of bytes in a block that may bear a mark behind it. -/
def BRow (W : World) (b : Nat) (L : List UInt8) : Prop := ∀ j (h : j < L.length), W.cell? ⟨b, j, none⟩ = some (.int .u8 (L[j].toNat : Int)) ∧ W.frozen? ⟨b, j, none⟩ = false
theorem BRow.drew {W : World} {b : Nat} {L : List UInt8} (h : BRow W b L) : BRow W.drew b L := h
theorem BRow.set {W : World} {b : Nat} {L : List UInt8} (h : BRow W b L) (j : Nat) (x : UInt8) : BRow (W.setCell ⟨b, j, none⟩ (.int .u8 (x.toNat : Int))) b (L.set j x) := by
  intro i hi
  have hi' : i < L.length := by simpa using hi
  refine ⟨?_, ?_⟩
  · by_cases e : i = j
    · subst e
      rw [World.cell?_setCell_same _ _ _ (h i hi').1]
      simp
    · rw [World.cell?_setCell_other _ _ _ _ (by intro hc; cases hc; exact e rfl), (h i hi').1, List.getElem_set_ne (fun hc => e hc.symm)]
  · rw [World.frozen?_setCell]; exact (h i hi').2
theorem brow_new (w : World) (t : ByteArray) (e : TypeId) (cap : Nat) : BRow (w.drew.alloc (.cells (bytesRow t cap) e ((bytesRow t cap).size, (bytesRow t cap).size + 1))) w.heap.size t.data.toList := by
  intro j hj
  have hj' : j < t.data.size := by simpa using hj
  refine ⟨?_, ?_⟩
  · have := World.cell?_alloc_mark w.drew (bytesRow t cap) e ((bytesRow t cap).size, (bytesRow t cap).size + 1) j
    rw [bytesRow_at t cap j hj'] at this
    exact this
  · have := World.frozen?_alloc_mark w.drew (bytesRow t cap) e (bytesRow t cap).size ((bytesRow t cap).size + 1) j
    refine this.trans ?_
    rw [Bool.and_eq_false_iff, decide_eq_false_iff_not]
    left
    have h0 : t.size = t.data.size := rfl
    unfold bytesRow
    simp
    omega

theorem test_bit (v m : Nat) : (((v : Int) / 2 ^ m).tmod 2 == 1) = v.testBit m := by
  rw [Int.tmod_eq_emod_of_nonneg (Int.ediv_nonneg (by omega) (by exact_mod_cast Nat.zero_le _)), Nat.testBit_eq_decide_div_mod_eq]
  have h : ((v : Int) / 2 ^ m) % 2 = ((v / 2 ^ m % 2 : Nat) : Int) := by push_cast; rfl
  rw [h, Bool.eq_iff_iff, beq_iff_eq, decide_eq_true_iff]
  omega

set_option maxRecDepth 100000 in
set_option maxHeartbeats 2000000 in
theorem burst_any (s : ByteArray) (at_ : Int) (v : Nat) (w : World) (hs : s.size ≤ 9223372036854775807) (a0 : -9223372036854775808 ≤ at_) (a1 : at_ ≤ 9223372036854775807) (hv : v < 4294967296) (hT : TableAt w) (hl : 0 < w.heap.size) :
    Calls Tryd.prog 8 #[.string s, .int .i64 at_, .int .u32 (v : Int)] w fun e w' => e = .returned (.bool true) ∧ Below w.heap.size w w' := by
  have HT := Lib.hid hT
  clear hT
  go_enter Tryd.func8, Tryd.ntmps8
  go_wp2_with fail
  refine (sane_any _ HT.out hl).mono ?_
  rintro e w1 ⟨rfl, hb1⟩
  have hcv := fun (t : ByteArray) (W : World) => run_bytes_of_string (P := Tryd.prog) W 9 38 5 t Tryd.underlying9 Tryd.underlying38 Tryd.underlying5
  go_upto_region 2 with fail
  go_cut [8] (fun v wx => ∃ (b n cap : Nat) (L : List UInt8), n ≤ 300 ∧ n ≤ s.size ∧ L = (s.extract 0 n).data.toList ∧ v = .slice (some ⟨b, 0, none⟩) n cap ∧ w.heap.size ≤ b ∧ BRow wx b L ∧ Below w.heap.size w wx)
  case first =>
    by_cases h3 : s.size ≤ 300
    all_goals
      go_wp2_with fail
      go_meet
    · have he : s.extract 0 s.size = s := by simp
      exact ⟨w1.heap.size, s.size, _, _, h3, Nat.le_refl _, rfl, rfl, hb1.size, by rw [he]; exact brow_new _ _ _ _, (hb1.drew.alloc hb1.size _)⟩
    · exact ⟨w1.heap.size, 300, grownCap w1 (min 300 s.size) 0 5, _, Nat.le_refl _, by omega, rfl, by rw [Nat.min_eq_left (by omega)], hb1.size, brow_new _ _ _ _, (hb1.drew.alloc hb1.size _)⟩
  case rest =>
  obtain ⟨b, n, cap, L, hn, hns, hL, rfl, hb, hrow, hbw⟩ := hcut
  clear hcv hb1
  have HROW := Lib.hid hrow
  have HBW := Lib.hid hbw
  clear hrow hbw
  by_cases hn0 : n = 0
  · subst hn0
    go_wp2_with fail
    go_ret
    exact ⟨rfl, HBW.out⟩
  by_cases hv0 : v = 0
  · subst hv0
    go_wp2_with fail
    go_ret
    exact ⟨rfl, HBW.out⟩
  have q1 := pick_lo (c := at_) (n := 8 * (n : Int)) (by omega)
  have q2 := pick_hi (c := at_) (n := 8 * (n : Int)) (by omega)
  have hp := fun w => pick_any at_ (8 * (n : Int)) w a0 a1 (by omega) (by omega)
  have HP := Lib.hid hp
  clear hp
  have e1 : ((n : Int) == 0) = false := beq_eq_false_iff_ne.2 (by omega)
  have e2 : ((v : Int) == 0) = false := beq_eq_false_iff_ne.2 (by omega)
  go_wp2_with fail
  refine (HP.out _).mono ?_
  rintro e w' ⟨rfl, rfl⟩
  obtain ⟨f, hf⟩ := Int.eq_ofNat_of_zero_le q1
  rw [hf] at q2 ⊢
  have hLn : L.length = n := by rw [hL, Lib.extract_data]; simp; omega
  obtain ⟨S, hS⟩ : ∃ S, S = L := ⟨_, rfl⟩
  have HS := Lib.hid hS
  go_wp2_with fail
  go_loopw [10, 11] (fun ch i wr => ∃ (m : Nat) (M : List UInt8) (c : Bool), m ≤ 32 ∧ f + m ≤ 8 * n ∧ i = .int .i64 m ∧ ch = .bool c ∧ (c = true ↔ ∃ t, t < m ∧ v.testBit t = true) ∧ M.length = n ∧ Burst S M v f m ∧ BRow wr b M ∧ Below w.heap.size w wr) (fun _ i _ => 32 - (intOf i).toNat)
  case atStart =>
    exact ⟨0, L, false, by omega, by omega, rfl, rfl, by simp, hLn, by rw [hS]; exact Burst.refl _ _ _, HROW.out, HBW.out⟩
  case round =>
    obtain ⟨m, M, c, hm, hfm, rfl, rfl, hc, hMn, hB, hrow, hbr⟩ := hrel
    have HC := Lib.hid hc
    have HB := Lib.hid hB
    have HR := Lib.hid hrow
    clear hc hB hrow HROW HBW
    by_cases h32 : m < 32 ∧ f + m < 8 * n
    · obtain ⟨m1, m2⟩ := h32
      have t1 : ((m : Int) < 32) = True := eq_true (by omega)
      have t2 : ((f : Int) + m < 8 * n) = True := eq_true (by omega)
      have ht : (((v : Int) / 2 ^ m).tmod 2 == 1) = v.testBit m := test_bit v m
      by_cases hbit : v.testBit m = true
      · rw [hbit] at ht
        have q : (f + m) / 8 < M.length := by omega
        obtain ⟨hcell, hfr⟩ := HR.out _ q
        go_upto_region 12 with fail
        go_region
        have hx : bits BinOp.xor IntKind.u8 ((M[(f + m) / 8].toNat : Nat) : Int) (2 ^ ((f + m) % 8) % 256) = (((M.getD ((f + m) / 8) 0 ^^^ UInt8.ofNat (2 ^ ((f + m) % 8))).toNat : Nat) : Int) := by
          have hg : M.getD ((f + m) / 8) 0 = M[(f + m) / 8] := by rw [List.getD_eq_getElem?_getD, List.getElem?_eq_getElem q]; rfl
          rw [hg, UInt8.toNat_xor, ← u8_xor_nat _ _ (UInt8.toNat_lt _) (UInt8.toNat_lt _), UInt8.toNat_ofNat']
          push_cast
          rfl
        have hbx := hb
        rw [hx]
        generalize hX : M.getD ((f + m) / 8) 0 ^^^ UInt8.ofNat (2 ^ ((f + m) % 8)) = X
        go_wp2_with fail
        refine ⟨⟨m + 1, M.set ((f + m) / 8) X, true, by omega, by omega, by push_cast; rfl, rfl, ⟨fun _ => ⟨m, by omega, hbit⟩, fun _ => rfl⟩, by simp [hMn], by rw [← hX]; exact HB.out.flip hbit (by rw [← HB.out.1]; omega), (HR.out.set _ _).drew, (hbr.setCell (p := ⟨b, (f + m) / 8, none⟩) hb _).drew⟩, by simp [intOf]; omega⟩
      · rw [Bool.eq_false_iff.2 hbit] at ht
        go_wp2_with fail
        refine ⟨⟨m + 1, M, c, by omega, by omega, by push_cast; rfl, rfl, ?_, hMn, HB.out.skip (Bool.eq_false_iff.2 hbit), HR.out, hbr⟩, by simp [intOf]; omega⟩
        rw [HC.out]
        constructor
        · rintro ⟨t, h1, h2⟩; exact ⟨t, by omega, h2⟩
        · rintro ⟨t, h1, h2⟩
          by_cases e : t = m
          · subst e; exact absurd h2 hbit
          · exact ⟨t, by omega, h2⟩
    · have hcv : ∀ q, (convert 38 9 (.slice (some ⟨b, 0, none⟩) n cap)).run Tryd.prog (wr.drewN q) = .ok (.string ⟨M.toArray⟩) (wr.drewN q) := by
        intro q
        have := run_convert_bytes_back (P := Tryd.prog) (wr.drewN q) 38 9 5 ⟨b, 0, none⟩ cap M Tryd.underlying38 Tryd.underlying5 Tryd.underlying9 (fun j hj => by
          have := (HR.out j hj).1
          rw [show ((⟨b, 0, none⟩ : Addr).add j) = ⟨b, j, none⟩ by rw [Go.WideShapes.add_plain, Nat.zero_add], ← this]
          simp [go_sem])
        rw [hMn] at this
        exact this
      have hsum : ∀ (s : ByteArray) (_ : s.size ≤ 300) q, Calls Tryd.prog 21 #[.string s] (wr.drewN q) fun e w' => e = .returned (.int .i64 ((crc s.data.toList).toNat : Nat)) ∧ wr.drewN q = w' := fun s hs q => sum_any s _ (by omega) (HT.out.below (below_drewN hbr q) hl)
      obtain ⟨X, hX⟩ : ∃ X : ByteArray, (⟨M.toArray⟩ : ByteArray) = X := ⟨_, rfl⟩
      have hXL : X.data.toList = M := by rw [← hX]
      have zX : X.size ≤ 300 := by rw [← hX]; show M.length ≤ _; omega
      have zs : (s.extract 0 n).size ≤ 300 := by have := ext_size s n; omega
      have hex : (s.extract 0 n).data.toList = List.take n s.data.toList := by
        rw [Lib.extract_data, List.drop_zero, Nat.sub_zero]
      rw [hX] at hcv
      have hfin : (((crc X.data.toList).toNat : Int) == ((crc (List.take n s.data.toList)).toNat : Int)) = !c := by
        rw [hXL, ← hex, ← hL, ← HS.out]
        cases c with
        | false =>
          have h0 : ∀ t, t < m → v.testBit t = false := by
            intro t ht'
            rw [Bool.eq_false_iff]
            intro h
            exact absurd (HC.out.2 ⟨t, ht', h⟩) (by simp)
          rw [HB.out.same h0]
          simp
        | true =>
          obtain ⟨t, h1, h2⟩ := HC.out.1 rfl
          have := HB.out.crc_ne hm (by rw [HS.out, hLn]; omega) h1 h2
          rw [Bool.not_true, beq_eq_false_iff_ne]
          intro h
          apply this
          apply BitVec.eq_of_toNat_eq
          omega
      have hfin' : (c == (((crc X.data.toList).toNat : Int) != ((crc (List.take n s.data.toList)).toNat : Int))) = true := by
        rw [bne, hfin]
        simp
      have HQ := Lib.hid hsum
      have hbf := below_drewN hbr
      have HBF := Lib.hid hbf
      clear hsum hX hXL hbf hex hMn
      by_cases m32 : m < 32
      · have t1 : ((m : Int) < 32) = True := eq_true (by omega)
        have t2 : ((f : Int) + m < 8 * n) = False := eq_false (by omega)
        go_wp2_with fail
        go_quiet ((go_at_call 21; exact quiet_same (HQ.out _ (by assumption) _)))
        go_wp2_with fail
        go_ret
        exact ⟨rfl, HBF.out _⟩
      · have t1 : ((m : Int) < 32) = False := eq_false (by omega)
        go_wp2_with fail
        go_quiet ((go_at_call 21; exact quiet_same (HQ.out _ (by assumption) _)))
        go_wp2_with fail
        go_ret
        exact ⟨rfl, HBF.out _⟩
end Go.Proofs.YteffhohemodckaaDoor
