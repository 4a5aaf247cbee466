/- Weaker, of the code and of the reference. -/
import Derived.Test.YthblehinmbgbdaaG10
namespace Go.Proofs.Ythblehinmbgbdaa
open Go.RowKit
set_option maxRecDepth 100000

theorem andnot_bits : ∀ k l : Fin 63, (bits .andNot .i64 (l.val : Int) (k.val : Int) == 0) = decide (∀ i : Fin 6, (l.val : Int) / 2 ^ i.val % 2 = 1 → (k.val : Int) / 2 ^ i.val % 2 = 1) := by decide +kernel
theorem and_bits : ∀ k l : Fin 63, (bits .and .i64 (l.val : Int) (k.val : Int) == (l.val : Int)) = decide (∀ i : Fin 6, (l.val : Int) / 2 ^ i.val % 2 = 1 → (k.val : Int) / 2 ^ i.val % 2 = 1) := by decide +kernel
theorem weaker_split (a b : Rel) (x y : Bool) (hx : validR a = x) (hy : validR b = y) : weaker a b = (x && y && (decide (b.kinds = 0) || decide (∀ k : Fin 6, b.kinds / 2 ^ k.val % 2 = 1 → a.kinds / 2 ^ k.val % 2 = 1) && decide (a.slack ≤ b.slack) && (a.ord || !b.ord))) := by rw [weaker, hx, hy]
set_option maxHeartbeats 1000000 in
theorem weaker_any (a b : Rel) (w : World) : Calls Try.prog 16 #[relV a, relV b] w fun e w' => e = .returned (.bool (weaker a b)) ∧ Below w.heap.size w w' := by
  have HVA := Lib.hid (fun W => valid_any a W)
  have HVB := Lib.hid (fun W => valid_any b W)
  simp only [relV] at HVA HVB ⊢
  cases hva : validR a with
  | false =>
    rw [hva] at HVA
    have HV := Lib.hid (show weaker a b = false by rw [weaker, hva]; rfl)
    clear hva
    go_enter Try.func16, Try.ntmps16
    go_wp2_with fail
    refine (HVA.out _).mono ?_
    rintro e w1 ⟨rfl, hb⟩
    have HB := Lib.hid (show Below w.heap.size w w1 from (((Below.refl _ _).alloc (Nat.le_refl _) _).alloc (by simp only [size_alloc]; omega) _).trans (hb.mono (by simp only [size_alloc]; omega)))
    clear hb
    go_wp2_with fail
    go_ret
    exact ⟨by rw [HV.out]; rfl, HB.out⟩
  | true =>
  have hka : 0 ≤ a.kinds ∧ a.kinds ≤ 62 := by rw [validR_iff] at hva; exact ⟨hva.1, hva.2.1⟩
  rw [hva] at HVA
  cases hvb : validR b with
  | false =>
    rw [hvb] at HVB
    have HV := Lib.hid (show weaker a b = false by rw [weaker, hva, hvb]; rfl)
    clear hva hvb hka
    go_enter Try.func16, Try.ntmps16
    go_wp2_with fail
    refine (HVA.out _).mono ?_
    rintro e w1 ⟨rfl, hb⟩
    have HB := Lib.hid (show Below w.heap.size w w1 from (((Below.refl _ _).alloc (Nat.le_refl _) _).alloc (by simp only [size_alloc]; omega) _).trans (hb.mono (by simp only [size_alloc]; omega)))
    have hcs : ∀ q, w1.cell? ⟨w.heap.size + 1, q, none⟩ = #[Value.int .i64 b.kinds, .int .i64 b.slack, .bool b.ord][q]? := by
      intro q
      rw [(bcell hb).1 (w.heap.size + 1) q (by simp only [size_alloc]; omega), Lib.cell_of_heap (heap_last' _ _ (size_alloc _ _))]
    have c0 := hcs 0
    have c1 := hcs 1
    have c2 := hcs 2
    simp at c0 c1 c2
    clear hb hcs
    go_wp2_with fail
    refine (HVB.out _).mono ?_
    rintro e w2 ⟨rfl, hb⟩
    have HB2 := Lib.hid (HB.out.trans (hb.mono HB.out.size))
    clear hb
    go_wp2_with fail
    go_ret
    exact ⟨by rw [HV.out]; rfl, HB2.out⟩
  | true =>
  rw [hvb] at HVB
  have hkb : 0 ≤ b.kinds ∧ b.kinds ≤ 62 := by rw [validR_iff] at hvb; exact ⟨hvb.1, hvb.2.1⟩
  have hbits := andnot_bits ⟨a.kinds.toNat, by omega⟩ ⟨b.kinds.toNat, by omega⟩
  simp only [Int.toNat_of_nonneg hka.1, Int.toNat_of_nonneg hkb.1] at hbits
  have HV := weaker_split a b _ _ hva hvb
  generalize decide (∀ k : Fin 6, b.kinds / 2 ^ k.val % 2 = 1 → a.kinds / 2 ^ k.val % 2 = 1) = x1 at hbits HV
  obtain ⟨x2, hx2⟩ : ∃ x2, decide (a.slack ≤ b.slack) = x2 := ⟨_, rfl⟩
  obtain ⟨x3, hx3⟩ : ∃ x3, a.ord = x3 := ⟨_, rfl⟩
  obtain ⟨x0, hx0⟩ : ∃ x0, decide (b.kinds = 0) = x0 := ⟨_, rfl⟩
  have hz : (b.kinds == 0) = x0 := hx0
  rw [hx2, hx3, hx0] at HV
  rw [hx3] at HVA ⊢
  have HV := Lib.hid HV
  clear hva hvb hka hkb hx3 hx0
  go_enter Try.func16, Try.ntmps16
  go_wp2_with fail
  refine (HVA.out _).mono ?_
  rintro e w1 ⟨rfl, hb⟩
  have HB := Lib.hid (show Below w.heap.size w w1 from (((Below.refl _ _).alloc (Nat.le_refl _) _).alloc (by simp only [size_alloc]; omega) _).trans (hb.mono (by simp only [size_alloc]; omega)))
  have hcs : ∀ q, w1.cell? ⟨w.heap.size + 1, q, none⟩ = #[Value.int .i64 b.kinds, .int .i64 b.slack, .bool b.ord][q]? := by
    intro q
    rw [(bcell hb).1 (w.heap.size + 1) q (by simp only [size_alloc]; omega), Lib.cell_of_heap (heap_last' _ _ (size_alloc _ _))]
  have hcs2 : ∀ q, w1.cell? ⟨w.heap.size, q, none⟩ = #[Value.int .i64 a.kinds, .int .i64 a.slack, .bool x3][q]? := by
    intro q
    rw [(bcell hb).1 w.heap.size q (by simp only [size_alloc]; omega), Lib.cell_of_heap (heap_back _ _ _ (heap_last _ _))]
  have hs1 := hb.size
  simp only [size_alloc] at hs1
  have c0 := hcs 0
  have c1 := hcs 1
  have c2 := hcs 2
  simp at c0 c1 c2
  clear hb
  go_wp2_with fail
  refine (HVB.out _).mono ?_
  rintro e w2 ⟨rfl, hb⟩
  have HB2 := Lib.hid (HB.out.trans (hb.mono HB.out.size))
  have c0 : w2.cell? ⟨w.heap.size + 1, 0, none⟩ = some (.int .i64 b.kinds) := ((bcell hb).1 _ _ (by omega)).trans c0
  have c1 : w2.cell? ⟨w.heap.size + 1, 1, none⟩ = some (.int .i64 b.slack) := ((bcell hb).1 _ _ (by omega)).trans c1
  have c2 : w2.cell? ⟨w.heap.size + 1, 2, none⟩ = some (.bool b.ord) := ((bcell hb).1 _ _ (by omega)).trans c2
  have d0 : w2.cell? ⟨w.heap.size, 0, none⟩ = some (.int .i64 a.kinds) := ((bcell hb).1 _ _ (by omega)).trans (hcs2 0)
  have d1 : w2.cell? ⟨w.heap.size, 1, none⟩ = some (.int .i64 a.slack) := ((bcell hb).1 _ _ (by omega)).trans (hcs2 1)
  have d2 : w2.cell? ⟨w.heap.size, 2, none⟩ = some (.bool x3) := ((bcell hb).1 _ _ (by omega)).trans (hcs2 2)
  clear hb hcs hcs2 hs1 HVA HVB
  cases x0
  · cases x1 <;> cases x2 <;> cases x3 <;> (go_wp2_with fail; go_ret; exact ⟨by rw [HV.out]; rfl, HB2.out⟩)
  · go_wp2_with fail
    go_ret
    exact ⟨by rw [HV.out]; rfl, HB2.out⟩
set_option maxHeartbeats 1000000 in
theorem refWeaker_any (a b : Rel) (w : World) : Calls Try.prog 17 #[relV a, relV b] w fun e w' => e = .returned (.bool (weaker a b)) ∧ Below w.heap.size w w' := by
  have HVA := Lib.hid (fun W => refValid_any a W)
  have HVB := Lib.hid (fun W => refValid_any b W)
  simp only [relV] at HVA HVB ⊢
  obtain ⟨va, hva⟩ : ∃ va, validR a = va := ⟨_, rfl⟩
  obtain ⟨vb, hvb⟩ : ∃ vb, validR b = vb := ⟨_, rfl⟩
  have hbits : va = true → vb = true → (bits .and .i64 b.kinds a.kinds == b.kinds) = decide (∀ k : Fin 6, b.kinds / 2 ^ k.val % 2 = 1 → a.kinds / 2 ^ k.val % 2 = 1) := by
    intro h1 h2
    rw [h1] at hva
    rw [h2] at hvb
    rw [validR_iff] at hva hvb
    have := and_bits ⟨a.kinds.toNat, by omega⟩ ⟨b.kinds.toNat, by omega⟩
    simpa only [Int.toNat_of_nonneg hva.1, Int.toNat_of_nonneg hvb.1] using this
  have HV := weaker_split a b _ _ hva hvb
  rw [hva] at HVA
  rw [hvb] at HVB
  generalize decide (∀ k : Fin 6, b.kinds / 2 ^ k.val % 2 = 1 → a.kinds / 2 ^ k.val % 2 = 1) = x1 at hbits HV
  obtain ⟨x2, hx2⟩ : ∃ x2, decide (a.slack ≤ b.slack) = x2 := ⟨_, rfl⟩
  obtain ⟨x3, hx3⟩ : ∃ x3, a.ord = x3 := ⟨_, rfl⟩
  obtain ⟨x0, hx0⟩ : ∃ x0, decide (b.kinds = 0) = x0 := ⟨_, rfl⟩
  have hz : (b.kinds == 0) = x0 := hx0
  rw [hx2, hx3, hx0] at HV
  rw [hx3] at HVA ⊢
  have HV := Lib.hid HV
  have HBT := Lib.hid hbits
  clear hva hvb hx3 hx0 hbits
  go_enter Try.func17, Try.ntmps17
  go_wp2_with fail
  refine (HVA.out _).mono ?_
  rintro e w1 ⟨rfl, hb⟩
  have HB := Lib.hid (show Below w.heap.size w w1 from (((Below.refl _ _).alloc (Nat.le_refl _) _).alloc (by simp only [size_alloc]; omega) _).trans (hb.mono (by simp only [size_alloc]; omega)))
  have hcs : ∀ q, w1.cell? ⟨w.heap.size + 1, q, none⟩ = #[Value.int .i64 b.kinds, .int .i64 b.slack, .bool b.ord][q]? := by
    intro q
    rw [(bcell hb).1 (w.heap.size + 1) q (by simp only [size_alloc]; omega), Lib.cell_of_heap (heap_last' _ _ (size_alloc _ _))]
  have hcs2 : ∀ q, w1.cell? ⟨w.heap.size, q, none⟩ = #[Value.int .i64 a.kinds, .int .i64 a.slack, .bool x3][q]? := by
    intro q
    rw [(bcell hb).1 w.heap.size q (by simp only [size_alloc]; omega), Lib.cell_of_heap (heap_back _ _ _ (heap_last _ _))]
  have hs1 := hb.size
  simp only [size_alloc] at hs1
  have c0 := hcs 0
  have c1 := hcs 1
  have c2 := hcs 2
  simp at c0 c1 c2
  clear hb
  go_wp2_with fail
  refine (HVB.out _).mono ?_
  rintro e w2 ⟨rfl, hb⟩
  have HB2 := Lib.hid (HB.out.trans (hb.mono HB.out.size))
  have c0 : w2.cell? ⟨w.heap.size + 1, 0, none⟩ = some (.int .i64 b.kinds) := ((bcell hb).1 _ _ (by omega)).trans c0
  have c1 : w2.cell? ⟨w.heap.size + 1, 1, none⟩ = some (.int .i64 b.slack) := ((bcell hb).1 _ _ (by omega)).trans c1
  have c2 : w2.cell? ⟨w.heap.size + 1, 2, none⟩ = some (.bool b.ord) := ((bcell hb).1 _ _ (by omega)).trans c2
  have d0 : w2.cell? ⟨w.heap.size, 0, none⟩ = some (.int .i64 a.kinds) := ((bcell hb).1 _ _ (by omega)).trans (hcs2 0)
  have d1 : w2.cell? ⟨w.heap.size, 1, none⟩ = some (.int .i64 a.slack) := ((bcell hb).1 _ _ (by omega)).trans (hcs2 1)
  have d2 : w2.cell? ⟨w.heap.size, 2, none⟩ = some (.bool x3) := ((bcell hb).1 _ _ (by omega)).trans (hcs2 2)
  clear hb hcs hcs2 hs1 HVA HVB
  cases va
  · cases vb <;> (go_wp2_with fail; go_ret; exact ⟨by rw [HV.out]; rfl, HB2.out⟩)
  cases vb
  · go_wp2_with fail
    go_ret
    exact ⟨by rw [HV.out]; rfl, HB2.out⟩
  have hbits := HBT.out rfl rfl
  cases x0
  · cases x1 <;> cases x2 <;> cases x3 <;> (go_wp2_with fail; go_ret; exact ⟨by rw [HV.out]; rfl, HB2.out⟩)
  · go_wp2_with fail
    go_ret
    exact ⟨by rw [HV.out]; rfl, HB2.out⟩
end Go.Proofs.Ythblehinmbgbdaa
