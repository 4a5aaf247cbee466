/- sane: the fixed examples. -/
import Derived.Test.YthblehinmbgbdaaG32
import Derived.Test.YthblehinmbgbdaaG34
import Derived.Test.YthblehinmbgbdaaG11
import Derived.Test.YthblehinmbgbdaaG09
namespace Go.Proofs.Ythblehinmbgbdaa
open Go.RowKit
set_option maxRecDepth 100000

def exA : List Ev := [⟨5, 1, 1, 65⟩, ⟨7, 1, 2, 66⟩, ⟨9, 4, 0, 0⟩]
def exB : List Ev := [⟨6, 1, 2, 66⟩, ⟨8, 1, 1, 65⟩, ⟨9, 4, 0, 0⟩]
theorem ex1 : compareR ⟨62, 3, true⟩ exA exB = (0, false) := by decide +kernel
theorem ex2 : compareR ⟨62, 3, false⟩ exA exB = (0, true) := by decide +kernel
theorem ex3 : compareR ⟨62, 2, false⟩ exA exB = (0, false) := by decide +kernel
theorem ex4 : compareR ⟨16, 0, true⟩ exA exB = (0, true) := by decide +kernel
theorem ex5 : compareR ⟨62, 0, false⟩ exA (exA.take 2) = (2, false) := by decide +kernel
theorem ex6 : compareR ⟨62, 0, false⟩ (exA.take 2) exA = (2, false) := by decide +kernel
theorem ex7 : encodeR (exA.take 1) = ([2, 10, 2, 2, 130, 1], 0) := by decide +kernel
theorem ex8 : decodeR [2, 10, 2, 2, 130, 1] = (exA.take 1, 0) := by decide +kernel
theorem ex9 : weaker ⟨62, 3, false⟩ ⟨2, 5, false⟩ = true ∧ weaker ⟨2, 0, false⟩ ⟨2, 0, true⟩ = false ∧ validR ⟨2, 0, false⟩ = true ∧ validR ⟨1, 0, false⟩ = false := by decide +kernel
theorem ex10 : (counted ⟨16, 0, false⟩ exA).length = 1 := by decide +kernel
theorem exI : EvI exA ∧ EvI exB ∧ EvI (exA.take 2) := by
  refine ⟨?_, ?_, ?_⟩
  · intro e he; simp [exA] at he; rcases he with rfl | rfl | rfl <;> simp [I64]
  · intro e he; simp [exB] at he; rcases he with rfl | rfl | rfl <;> simp [I64]
  · intro e he; simp [exA] at he; rcases he with rfl | rfl <;> simp [I64]
/-- Events in a new block. -/
theorem evs_blockL {W : World} {g : Nat} {L : List Ev} {cs : Array Value} (h : W.heap[g]? = some (.cells cs 52 (0, 0))) (hc : cs = (evl L).toArray) : EvS W (some ⟨g, 0, none⟩) L := by
  subst hc
  intro i t hi
  have key : ∀ j, j < 4 → W.cell? ⟨g, 0 + i * 4 + j, none⟩ = (evc t)[j]? := by
    intro j hj
    rw [Lib.cell_of_heap h, List.getElem?_toArray, Nat.zero_add, evl_at L i t hi j hj]
  exact ⟨g, 0, rfl, (Array.getElem?_eq_some_iff.1 h).1, key 0 (by omega), key 1 (by omega), key 2 (by omega), key 3 (by omega)⟩
set_option maxHeartbeats 4000000 in
theorem sane_any (w : World) : Calls Try.prog 11 #[] w fun e w' => e = .returned (.bool true) ∧ Below w.heap.size w w' := by
  obtain ⟨wa, hwa⟩ : ∃ wa, w.alloc (.cells #[.int .i64 5, .int .i64 1, .int .i64 1, .int .i64 65, .int .i64 7, .int .i64 1, .int .i64 2, .int .i64 66, .int .i64 9, .int .i64 4, .int .i64 0, .int .i64 0] 52) = wa := ⟨_, rfl⟩
  obtain ⟨wb, hwb⟩ : ∃ wb, wa.alloc (.cells #[.int .i64 6, .int .i64 1, .int .i64 2, .int .i64 66, .int .i64 8, .int .i64 1, .int .i64 1, .int .i64 65, .int .i64 9, .int .i64 4, .int .i64 0, .int .i64 0] 52) = wb := ⟨_, rfl⟩
  have hga : wa.heap[w.heap.size]? = some (.cells #[.int .i64 5, .int .i64 1, .int .i64 1, .int .i64 65, .int .i64 7, .int .i64 1, .int .i64 2, .int .i64 66, .int .i64 9, .int .i64 4, .int .i64 0, .int .i64 0] 52 (0, 0)) := by rw [← hwa]; exact heap_last _ _
  have hsa : wa.heap.size = w.heap.size + 1 := by rw [← hwa, size_alloc]
  have hgb : wb.heap[w.heap.size + 1]? = some (.cells #[.int .i64 6, .int .i64 1, .int .i64 2, .int .i64 66, .int .i64 8, .int .i64 1, .int .i64 1, .int .i64 65, .int .i64 9, .int .i64 4, .int .i64 0, .int .i64 0] 52 (0, 0)) := by rw [← hwb]; exact heap_last' _ _ hsa
  have hba : Below w.heap.size w wa := by rw [← hwa]; exact (Below.refl _ _).alloc (Nat.le_refl _) _
  have hbb : Below wa.heap.size wa wb := by rw [← hwb]; exact (Below.refl _ _).alloc (Nat.le_refl _) _
  have HB0 := Lib.hid (hba.trans (hbb.mono hba.size))
  obtain ⟨ga, hgA⟩ : ∃ ga, w.heap.size = ga := ⟨_, rfl⟩
  obtain ⟨gb, hgB⟩ : ∃ gb, wa.heap.size = gb := ⟨_, rfl⟩
  have hea : EvS wb (some ⟨ga, 0, none⟩) exA := by rw [← hgA]; exact (evs_blockL hga (by rfl)).below hbb
  have heb : EvS wb (some ⟨gb, 0, none⟩) exB := by rw [← hgB, hsa]; exact evs_blockL hgb (by rfl)
  have HEA := Lib.hid hea
  have HEB := Lib.hid heb
  have HE2 : Hid (EvS wb (some ⟨ga, 0, none⟩) (exA.take 2)) := Lib.hid (hea.take 2)
  have HE1 : Hid (EvS wb (some ⟨ga, 0, none⟩) (exA.take 1)) := Lib.hid (hea.take 1)
  have C1 : Hid (∀ W, Below wb.heap.size wb W → Calls Try.prog 23 #[.agg #[.int .i64 62, .int .i64 3, .bool true], .slice (some ⟨ga, 0, none⟩) 3 3, .slice (some ⟨gb, 0, none⟩) 3 3] W fun e w' => e = .returned (.tuple #[.int .i64 0, .bool false]) ∧ Below wb.heap.size wb w') := Lib.hid (fun W hW => by
    refine (compare_in ⟨62, 3, true⟩ _ 3 exA _ 3 exB W (HEA.out.below hW) (HEB.out.below hW) (by decide) (by decide) exI.1 exI.2.1).mono ?_
    rintro e w' ⟨rfl, hb⟩
    exact ⟨by rw [ex1]; rfl, hW.trans (hb.mono hW.size)⟩)
  have C2 : Hid (∀ W, Below wb.heap.size wb W → Calls Try.prog 23 #[.agg #[.int .i64 62, .int .i64 3, .bool false], .slice (some ⟨ga, 0, none⟩) 3 3, .slice (some ⟨gb, 0, none⟩) 3 3] W fun e w' => e = .returned (.tuple #[.int .i64 0, .bool true]) ∧ Below wb.heap.size wb w') := Lib.hid (fun W hW => by
    refine (compare_in ⟨62, 3, false⟩ _ 3 exA _ 3 exB W (HEA.out.below hW) (HEB.out.below hW) (by decide) (by decide) exI.1 exI.2.1).mono ?_
    rintro e w' ⟨rfl, hb⟩
    exact ⟨by rw [ex2]; rfl, hW.trans (hb.mono hW.size)⟩)
  have C3 : Hid (∀ W, Below wb.heap.size wb W → Calls Try.prog 23 #[.agg #[.int .i64 62, .int .i64 2, .bool false], .slice (some ⟨ga, 0, none⟩) 3 3, .slice (some ⟨gb, 0, none⟩) 3 3] W fun e w' => e = .returned (.tuple #[.int .i64 0, .bool false]) ∧ Below wb.heap.size wb w') := Lib.hid (fun W hW => by
    refine (compare_in ⟨62, 2, false⟩ _ 3 exA _ 3 exB W (HEA.out.below hW) (HEB.out.below hW) (by decide) (by decide) exI.1 exI.2.1).mono ?_
    rintro e w' ⟨rfl, hb⟩
    exact ⟨by rw [ex3]; rfl, hW.trans (hb.mono hW.size)⟩)
  have C4 : Hid (∀ W, Below wb.heap.size wb W → Calls Try.prog 23 #[.agg #[.int .i64 16, .int .i64 0, .bool true], .slice (some ⟨ga, 0, none⟩) 3 3, .slice (some ⟨gb, 0, none⟩) 3 3] W fun e w' => e = .returned (.tuple #[.int .i64 0, .bool true]) ∧ Below wb.heap.size wb w') := Lib.hid (fun W hW => by
    refine (compare_in ⟨16, 0, true⟩ _ 3 exA _ 3 exB W (HEA.out.below hW) (HEB.out.below hW) (by decide) (by decide) exI.1 exI.2.1).mono ?_
    rintro e w' ⟨rfl, hb⟩
    exact ⟨by rw [ex4]; rfl, hW.trans (hb.mono hW.size)⟩)
  have C5 : Hid (∀ W, Below wb.heap.size wb W → Calls Try.prog 23 #[.agg #[.int .i64 62, .int .i64 0, .bool false], .slice (some ⟨ga, 0, none⟩) 3 3, .slice (some ⟨ga, 0, none⟩) 2 3] W fun e w' => e = .returned (.tuple #[.int .i64 2, .bool false]) ∧ Below wb.heap.size wb w') := Lib.hid (fun W hW => by
    refine (compare_in ⟨62, 0, false⟩ _ 3 exA _ 3 (exA.take 2) W (HEA.out.below hW) (HE2.out.below hW) (by decide) (by decide) exI.1 exI.2.2).mono ?_
    rintro e w' ⟨rfl, hb⟩
    exact ⟨by rw [ex5]; rfl, hW.trans (hb.mono hW.size)⟩)
  have C6 : Hid (∀ W, Below wb.heap.size wb W → Calls Try.prog 23 #[.agg #[.int .i64 62, .int .i64 0, .bool false], .slice (some ⟨ga, 0, none⟩) 2 3, .slice (some ⟨ga, 0, none⟩) 3 3] W fun e w' => e = .returned (.tuple #[.int .i64 2, .bool false]) ∧ Below wb.heap.size wb w') := Lib.hid (fun W hW => by
    refine (compare_in ⟨62, 0, false⟩ _ 3 (exA.take 2) _ 3 exA W (HE2.out.below hW) (HEA.out.below hW) (by decide) (by decide) exI.2.2 exI.1).mono ?_
    rintro e w' ⟨rfl, hb⟩
    exact ⟨by rw [ex6]; rfl, hW.trans (hb.mono hW.size)⟩)
  have C7 : Hid (∀ W, Below wb.heap.size wb W → Calls Try.prog 25 #[.slice (some ⟨ga, 0, none⟩) 1 3] W fun e w' => e = .returned (.tuple #[.string { data := #[2, 10, 2, 2, 130, 1] }, .int .i64 0]) ∧ Below wb.heap.size wb w') := Lib.hid (fun W hW => by
    refine (encode_any _ 3 (exA.take 1) W (HE1.out.below hW) (by decide)).mono ?_
    rintro e w' ⟨rfl, hb⟩
    exact ⟨by rw [ex7]; rfl, hW.trans (hb.mono hW.size)⟩)
  have C8 : Hid (∀ W, Below wb.heap.size wb W → Calls Try.prog 27 #[.string { data := #[2, 10, 2, 2, 130, 1] }] W fun e w' => ∃ a c, e = .returned (.tuple #[.slice a 1 c, .int .i64 0]) ∧ EvS w' a (exA.take 1) ∧ Below wb.heap.size wb w') := Lib.hid (fun W hW => by
    refine (decode_any { data := #[2, 10, 2, 2, 130, 1] } W (by decide)).mono ?_
    rintro e w' ⟨v, rfl, hr, hb⟩
    have h8 : decodeR (({ data := #[2, 10, 2, 2, 130, 1] } : ByteArray).data.toList) = (exA.take 1, 0) := ex8
    rw [h8] at hr ⊢
    obtain ⟨a, c, rfl, -, hS, -⟩ := hr.isSlice
    exact ⟨a, c, rfl, hS, hW.trans (hb.mono hW.size)⟩)
  have W1 : Hid (∀ W, Below wb.heap.size wb W → Calls Try.prog 16 #[.agg #[.int .i64 62, .int .i64 3, .bool false], .agg #[.int .i64 2, .int .i64 5, .bool false]] W fun e w' => e = .returned (.bool true) ∧ Below wb.heap.size wb w' ∧ Below W.heap.size W w') := Lib.hid (fun W hW => by
    refine (weaker_any ⟨62, 3, false⟩ ⟨2, 5, false⟩ W).mono ?_
    rintro e w' ⟨rfl, hb⟩
    exact ⟨by rw [ex9.1], hW.trans (hb.mono hW.size), hb⟩)
  have W2 : Hid (∀ W, Below wb.heap.size wb W → Calls Try.prog 16 #[.agg #[.int .i64 2, .int .i64 0, .bool false], .agg #[.int .i64 2, .int .i64 0, .bool true]] W fun e w' => e = .returned (.bool false) ∧ Below wb.heap.size wb w' ∧ Below W.heap.size W w') := Lib.hid (fun W hW => by
    refine (weaker_any ⟨2, 0, false⟩ ⟨2, 0, true⟩ W).mono ?_
    rintro e w' ⟨rfl, hb⟩
    exact ⟨by rw [ex9.2.1], hW.trans (hb.mono hW.size), hb⟩)
  have S1 : Hid (∀ a c W, Below wb.heap.size wb W → EvS W a (exA.take 1) → Calls Try.prog 20 #[.slice a 1 c, .slice (some ⟨ga, 0, none⟩) 1 3] W fun e w' => e = .returned (.bool true) ∧ Below wb.heap.size wb w') := Lib.hid (fun a c W hW hS => by
    refine (same_any a c (exA.take 1) _ 3 (exA.take 1) W hS (HE1.out.below hW) (by decide) (by decide)).mono ?_
    rintro e w' ⟨rfl, hb⟩
    exact ⟨by rw [decide_eq_true (show exA.take 1 = exA.take 1 from rfl)], hW.trans (hb.mono hW.size)⟩)
  have V1 : Hid (∀ W, Below wb.heap.size wb W → Calls Try.prog 18 #[.agg #[.int .i64 2, .int .i64 0, .bool false]] W fun e w' => e = .returned (.bool true) ∧ Below wb.heap.size wb w') := Lib.hid (fun W hW => by
    refine (valid_any ⟨2, 0, false⟩ W).mono ?_
    rintro e w' ⟨rfl, hb⟩
    exact ⟨by rw [ex9.2.2.1], hW.trans (hb.mono hW.size)⟩)
  have V2 : Hid (∀ W, Below wb.heap.size wb W → Calls Try.prog 18 #[.agg #[.int .i64 1, .int .i64 0, .bool false]] W fun e w' => e = .returned (.bool false) ∧ Below wb.heap.size wb w') := Lib.hid (fun W hW => by
    refine (valid_any ⟨1, 0, false⟩ W).mono ?_
    rintro e w' ⟨rfl, hb⟩
    exact ⟨by rw [ex9.2.2.2], hW.trans (hb.mono hW.size)⟩)
  have D1 : Hid (∀ W, Below wb.heap.size wb W → Calls Try.prog 21 #[.agg #[.int .i64 16, .int .i64 0, .bool false], .slice (some ⟨ga, 0, none⟩) 3 3] W fun e w' => ∃ a c, e = .returned (.slice a 1 c) ∧ Below wb.heap.size wb w') := Lib.hid (fun W hW => by
    refine (counted_any ⟨16, 0, false⟩ _ 3 exA W (HEA.out.below hW) (by decide)).mono ?_
    rintro e w' ⟨v, rfl, hr, hb⟩
    obtain ⟨a, c, rfl, -, -, -⟩ := hr.isSlice
    exact ⟨a, c, by rw [ex10], hW.trans (hb.mono hW.size)⟩)
  clear hga hgb hba hbb hea heb hsa HEA HEB HE2 HE1
  go_enter Try.func11, Try.ntmps11
  go_wp2_with fail
  refine (C1.out _ (Below.refl _ _)).mono ?_
  rintro e w' ⟨rfl, hb⟩
  have HC1 := Lib.hid hb
  clear hb C1
  go_wp2_with fail
  refine (C2.out _ HC1.out).mono ?_
  rintro e w' ⟨rfl, hb⟩
  have HC2 := Lib.hid hb
  clear hb C2
  go_wp2_with fail
  refine (C3.out _ HC2.out).mono ?_
  rintro e w' ⟨rfl, hb⟩
  have HC3 := Lib.hid hb
  clear hb C3
  go_wp2_with fail
  refine (C4.out _ HC3.out).mono ?_
  rintro e w' ⟨rfl, hb⟩
  have HC4 := Lib.hid hb
  clear hb C4
  go_wp2_with fail
  refine (C5.out _ HC4.out).mono ?_
  rintro e w' ⟨rfl, hb⟩
  have HC5 := Lib.hid hb
  clear hb C5
  go_wp2_with fail
  refine (C6.out _ HC5.out).mono ?_
  rintro e w' ⟨rfl, hb⟩
  have HC6 := Lib.hid hb
  clear hb C6
  go_wp2_with fail
  refine (C7.out _ HC6.out).mono ?_
  rintro e w' ⟨rfl, hb⟩
  have HC7 := Lib.hid hb
  clear hb C7
  go_wp2_with fail
  refine (C8.out _ HC7.out).mono ?_
  rintro e w' ⟨a8, c8, rfl, hS, hb⟩
  have HS8 := Lib.hid hS
  have HC8 := Lib.hid hb
  clear hb hS C8
  go_wp2_with fail
  refine (W1.out _ HC8.out).mono ?_
  rintro e w' ⟨rfl, hb, hb2⟩
  have HW1 := Lib.hid hb
  have HS8 := Lib.hid (HS8.out.below hb2)
  clear hb hb2 W1
  go_wp2_with fail
  refine (W2.out _ HW1.out).mono ?_
  rintro e w' ⟨rfl, hb, hb2⟩
  have HW2 := Lib.hid hb
  have HS8 := Lib.hid (HS8.out.below hb2)
  clear hb hb2 W2
  go_wp2_with fail
  refine (S1.out _ _ _ HW2.out HS8.out).mono ?_
  rintro e w' ⟨rfl, hb⟩
  have HS1 := Lib.hid hb
  clear hb S1 HS8
  go_wp2_with fail
  refine (V1.out _ HS1.out).mono ?_
  rintro e w' ⟨rfl, hb⟩
  have HV1 := Lib.hid hb
  clear hb V1
  go_wp2_with fail
  refine (V2.out _ HV1.out).mono ?_
  rintro e w' ⟨rfl, hb⟩
  have HV2 := Lib.hid hb
  clear hb V2
  go_wp2_with fail
  refine (D1.out _ HV2.out).mono ?_
  rintro e w' ⟨a9, c9, rfl, hb⟩
  have HD1 := Lib.hid (HB0.out.trans (hb.mono HB0.out.size))
  clear hb D1
  go_wp2_with fail
  go_ret
  exact ⟨rfl, HD1.out⟩
end Go.Proofs.Ythblehinmbgbdaa
