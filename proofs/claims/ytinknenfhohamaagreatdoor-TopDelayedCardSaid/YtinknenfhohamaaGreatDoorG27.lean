/- TopDelayed: pick and Typed. -/
import Derived.Test.YtinknenfhohamaaGreatDoorG26
import Derived.Test.YtinknenfhohamaaGreatDoorG08
namespace Go.Proofs.YtinknenfhohamaaGreatDoor
open Go.RowKit
set_option maxRecDepth 100000

theorem pickT_any (c n : Int) (w : World) (hc : I64 c) (hn : 1 ≤ n) (hn2 : n ≤ 100000) :
    Calls Tryz.prog 6 #[.int .i64 c, .int .i64 n] w fun e w' => e = .returned (.int .i64 (pick c n)) ∧ w = w' := by
  obtain ⟨h0, h1⟩ := hc
  by_cases hc : c < 0
  · go_enter Tryz.func6, Tryz.ntmps6
    go_wp2
    go_ret
    refine ⟨ret_int ?_, rfl⟩
    unfold pick
    rw [if_pos hc, ← Int.tmod_eq_emod_of_nonneg (by omega), Int.neg_tmod]
  · go_enter Tryz.func6, Tryz.ntmps6
    go_wp2
    go_ret
    refine ⟨ret_int ?_, rfl⟩
    unfold pick
    rw [if_neg (by omega)]
theorem pick12_any (c n : Int) (w : World) (hc : I64 c) (hn : 1 ≤ n) (hn2 : n ≤ 100000) :
    Calls Tryz.prog 13 #[.int .i64 c, .int .i64 n] w fun e w' => e = .returned (.int .i64 (pick c n)) ∧ w = w' := by
  obtain ⟨h0, h1⟩ := hc
  by_cases hc : c < 0
  · go_enter Tryz.func13, Tryz.ntmps13
    go_wp2
    go_ret
    refine ⟨ret_int ?_, rfl⟩
    unfold pick
    rw [if_pos hc, ← Int.tmod_eq_emod_of_nonneg (by omega), Int.neg_tmod]
  · go_enter Tryz.func13, Tryz.ntmps13
    go_wp2
    go_ret
    refine ⟨ret_int ?_, rfl⟩
    unfold pick
    rw [if_neg (by omega)]
theorem pick_some {c n : Int} (hn : 1 ≤ n) : ∃ p, pick c n = p ∧ 0 ≤ p ∧ p < n := ⟨_, rfl, pick_lo hn, pick_hi hn⟩
/-- Pairs of integers that a slice holds. -/
def PrS (W : World) (a : Option Addr) (X : List (Int × Int)) : Prop := ∀ i p, X[i]? = some p → ∃ b o, a = some ⟨b, o, none⟩ ∧ b < W.heap.size ∧ W.cell? ⟨b, o + i * 2, none⟩ = some (.int .i64 p.1) ∧ W.cell? ⟨b, o + i * 2 + 1, none⟩ = some (.int .i64 p.2)
theorem PrS.below {W W1 : World} {a : Option Addr} {X : List (Int × Int)} (h : PrS W a X) (hw : Below W.heap.size W W1) : PrS W1 a X := by
  intro i s hi
  obtain ⟨b, o, ha, hb, h0, h1⟩ := h i s hi
  exact ⟨b, o, ha, Nat.lt_of_lt_of_le hb hw.size, ((bcell hw).1 b _ hb).trans h0, ((bcell hw).1 b _ hb).trans h1⟩
def PrI (X : List (Int × Int)) : Prop := ∀ p ∈ X, I64 p.1 ∧ I64 p.2
set_option maxHeartbeats 4000000 in
theorem typed_any (a : Option Addr) (c : Nat) (X : List (Int × Int)) (w : World) (hX : PrS w a X) (hI : PrI X) (hl : X.length ≤ 9223372036854775807) :
    Calls Tryz.prog 5 #[.slice a X.length c] w fun e w' => ∃ v, e = .returned v ∧ ERow w' w.heap.size v (typedR X) ∧ (typedR X = [] → v = .slice none 0 0) ∧ Below w.heap.size w w' := by
  obtain ⟨n, hn⟩ : ∃ n, X.length = n := ⟨_, rfl⟩
  have HN := Lib.hid hn
  have HX := Lib.hid hX
  have HI := Lib.hid hI
  have HFIN : Hid (∀ j, j ≤ n → ¬ (j < n ∧ j < 20) → j ≤ 20 → typedFrom 0 (X.take j) = typedR X) := Lib.hid (fun j h1 h2 h3 => by
    unfold typedR
    congr 1
    by_cases h : j = 20
    · rw [h]
    · rw [List.take_of_length_le (by omega), List.take_of_length_le (by omega)])
  rw [hn] at hl ⊢
  clear hn hX hI
  go_enter Tryz.func5, Tryz.ntmps5
  go_wp2_with fail
  go_loopw [3, 4, 5] (fun o t i wx => ∃ j : Nat, j ≤ n ∧ j ≤ 20 ∧ i = .int .i64 j ∧ t = .int .i64 (lastK 0 (X.take j)) ∧ ERow wx w.heap.size o (typedFrom 0 (X.take j)) ∧ (j = 0 → o = .slice none 0 0) ∧ Below w.heap.size w wx) (fun _ _ i _ => n - (intOf i).toNat)
  case atStart => exact ⟨0, by omega, by omega, rfl, rfl, ERow.nil _ _, fun _ => rfl, Below.refl _ _⟩
  case round =>
    obtain ⟨j, hj, hj20, rfl, rfl, hrow, hnil, hb⟩ := hrel
    have HNIL := Lib.hid hnil
    have HROW := Lib.hid hrow
    have HB := Lib.hid hb
    clear hrow hnil hb
    by_cases hlt : j < n ∧ j < 20
    · obtain ⟨hlt, hlt20⟩ := hlt
      obtain ⟨q, hq⟩ : ∃ q, X[j]? = some q := ⟨_, List.getElem?_eq_getElem (by rw [HN.out]; exact hlt)⟩
      obtain ⟨bl, o, rfl, hbl, x0, x1⟩ := HX.out j q hq
      have x0 := ((bcell HB.out).1 _ _ hbl).trans x0
      have x1 := ((bcell HB.out).1 _ _ hbl).trans x1
      obtain ⟨i0, i1⟩ := HI.out q (List.mem_of_getElem? hq)
      have HNX := Lib.hid (show typedFrom 0 (X.take (j + 1)) = typedFrom 0 (X.take j) ++ [⟨lastK 0 (X.take j) + pick q.1 60, 5, 1 + pick q.2 255, 0⟩] by
        rw [show X.take (j + 1) = X.take j ++ [q] by rw [List.take_add_one, hq]; rfl, typedFrom_snoc])
      have HLX := Lib.hid (show lastK 0 (X.take (j + 1)) = lastK 0 (X.take j) + pick q.1 60 by
        rw [show X.take (j + 1) = X.take j ++ [q] by rw [List.take_add_one, hq]; rfl, lastK_snoc])
      have hlb : 0 ≤ lastK 0 (X.take j) ∧ lastK 0 (X.take j) ≤ 1180 := by
        have h := lastK_bound (X.take j) 0
        have h2 : (X.take j).length ≤ 20 := by rw [List.length_take]; omega
        omega
      have HLS : Hid ((typedFrom 0 (X.take j)).length = j) := Lib.hid (by rw [typedFrom_length, List.length_take, HN.out]; omega)
      obtain ⟨A, hA⟩ : ∃ A, typedFrom 0 (X.take j) = A := ⟨_, rfl⟩
      rw [hA] at HROW HNX HLS
      obtain ⟨t, ht⟩ : ∃ t, lastK 0 (X.take j) = t := ⟨_, rfl⟩
      rw [ht] at HNX HLX hlb ⊢
      have HP0 := Lib.hid (fun W => pick12_any q.1 60 W i0 (by omega) (by omega))
      have HP1 := Lib.hid (fun W => pick12_any q.2 255 W i1 (by omega) (by omega))
      obtain ⟨p0, e0, b0, b1⟩ := pick_some (c := q.1) (n := 60) (by omega)
      obtain ⟨p1, e1, b2, b3⟩ := pick_some (c := q.2) (n := 255) (by omega)
      rw [e0] at HP0 HNX HLX
      rw [e1] at HP1 HNX
      have htb := hlb
      obtain ⟨t', ht'⟩ : ∃ t', t + p0 = t' := ⟨_, rfl⟩
      obtain ⟨k', hk'⟩ : ∃ k', 1 + p1 = k' := ⟨_, rfl⟩
      have hw0 : IntKind.i64.wrap (t + p0) = t' := by rw [IntKind.wrap_i64]; omega
      have hw1 : IntKind.i64.wrap (1 + p1) = k' := by rw [IntKind.wrap_i64]; omega
      rw [ht'] at HNX HLX
      rw [hk'] at HNX
      have n0 : (0 : Int) ≤ (j : Int) := by omega
      have n1 : (j : Int) < (n : Int) := by omega
      have hd : decide ((j : Int) < (n : Int)) = true := by rw [decide_eq_true_iff]; omega
      have hd2 : decide (j < n) = true := by rw [decide_eq_true_iff]; omega
      have hd3 : decide ((j : Int) < 20) = true := by rw [decide_eq_true_iff]; omega
      have hd4 : decide (j < 20) = true := by rw [decide_eq_true_iff]; omega
      have HQ := Lib.hid (And.intro ht' hk')
      clear hq i0 i1 e0 e1 ht' hk' hA ht hlb HQ
      go_wp2_with fail
      refine (HP0.out _).mono ?_
      rintro e w1 ⟨rfl, rfl⟩
      go_wp2_with fail
      refine (HP1.out _).mono ?_
      rintro e w1 ⟨rfl, rfl⟩
      have HLA : Hid (A.length ≤ 1000) := Lib.hid (by rw [HLS.out]; omega)
      have hbz := HB.out.size
      clear x0 x1 hbl htb hw0 b2 b3
      obtain ⟨w3, hw3⟩ : ∃ w3, wr.alloc (.cells #[.int .i64 t', .int .i64 5, .int .i64 k', .int .i64 0] 28) = w3 := ⟨_, rfl⟩
      have HK := Lib.hid (show w3.heap[wr.heap.size]? = some (.cells #[.int .i64 t', .int .i64 5, .int .i64 k', .int .i64 0] 28 (0, 0)) by rw [← hw3]; exact heap_last _ _)
      have HR3 := Lib.hid (show ERow w3 w.heap.size u3 A by rw [← hw3]; exact HROW.out.alloc _)
      have HB3 := Lib.hid (show Below w.heap.size w w3 by rw [← hw3]; exact HB.out.alloc hbz _)
      go_wp2_with (at_builtin; refine append_events rfl _ _ rfl (by rfl) (base := w.heap.size) (L := A) (X := [⟨t', 5, k', 0⟩]) (M := A ++ [⟨t', 5, k', 0⟩]) HR3.out HB3.out.size HLA.out (by rfl) (evs_block HK.out) (by rfl) (by omega) (by omega) rfl ?_; intro g' c' w5 hrow5 hb5 hg5 _)
      exact ⟨⟨j + 1, by omega, by omega, by push_cast; rfl, by rw [HLX.out], by rw [HNX.out]; have h := hrow5; rw [List.length_append] at h; exact h, fun h => by omega, HB3.out.trans hb5⟩, by simp [intOf]; omega⟩
    · have HF := Lib.hid (HFIN.out j hj hlt hj20)
      have HFN := Lib.hid (fun (h : typedR X = []) => HNIL.out (by have h2 := congrArg List.length HF.out; rw [h, typedFrom_length, List.length_take] at h2; have h3 := HN.out; rw [List.length_nil] at h2; omega))
      rw [HF.out] at HROW
      clear HFIN
      by_cases h1 : j < n
      · have hd : decide ((j : Int) < (n : Int)) = true := by rw [decide_eq_true_iff]; omega
        have hd2 : decide (j < n) = true := by rw [decide_eq_true_iff]; omega
        have hd3 : decide ((j : Int) < 20) = false := by rw [decide_eq_false_iff_not]; omega
        have hd4 : decide (j < 20) = false := by rw [decide_eq_false_iff_not]; omega
        clear hlt
        go_wp2_with fail
        go_ret
        exact ⟨_, rfl, HROW.out, HFN.out, HB.out⟩
      · have hd : decide ((j : Int) < (n : Int)) = false := by rw [decide_eq_false_iff_not]; omega
        have hd2 : decide (j < n) = false := by rw [decide_eq_false_iff_not]; omega
        clear hlt
        go_wp2_with fail
        go_ret
        exact ⟨_, rfl, HROW.out, HFN.out, HB.out⟩
end Go.Proofs.YtinknenfhohamaaGreatDoor
